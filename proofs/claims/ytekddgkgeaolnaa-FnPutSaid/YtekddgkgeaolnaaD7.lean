/- A drawn term put into another one, plainly: the words agree. No program in sight. -/
import Derived.Test.YtekddgkgeaolnaaD5
import Derived.Test.YtekddgkgeaolnaaEf
namespace Go.Proofs.Ytekddgkgeaolnaa.Dr
open Go Go.Vc Go.RowKit
set_option linter.unusedVariables false

theorem ap_congr {x : Lab} {l : List Lab} {v : List Int} {e e' : ByteArray → Int} (h : x.op = 22 → e x.name = e' x.name) : ap x l v e = ap x l v e' := by
  unfold ap
  by_cases h22 : x.op = 22
  · rw [if_pos h22, if_pos h22, h h22]
  · rw [if_neg h22, if_neg h22]
theorem evF_congr (e e' : ByteArray → Int) : ∀ k : TF, (∀ p ∈ varsF k, e p.1 = e' p.1) → evF e k = evF e' k
  | .nil, _ => rfl
  | .cons x k r, h => by
    have hk := evF_congr e e' k fun p hp => h p (by rw [varsF]; exact List.mem_append_left _ (List.mem_append_right _ hp))
    have hr := evF_congr e e' r fun p hp => h p (by rw [varsF]; exact List.mem_append_right _ hp)
    rw [evF, evF, hk, hr, ap_congr fun h22 => h (x.name, x.w) (by rw [varsF, if_pos h22]; simp)]
theorem evT_congr {e e' : ByteArray → Int} {t : Tm} (h : ∀ p ∈ varsT t, e p.1 = e' p.1) : evT e t = evT e' t := by
  have h1 := evF_congr e e' (.cons t.1 t.2 .nil) h
  exact (List.cons.inj h1).1
/-- Another word for one name. -/
def setN (name : ByteArray) (n : Int) (M : List VLab) : List VLab := M.map fun v => if v.name = name then ⟨v.name, v.w, n⟩ else v
theorem fnd_setN {name : ByteArray} {n : Int} {s : ByteArray} (h : s ≠ name) : ∀ M : List VLab, fnd (setN name n M) s = fnd M s := by
  intro M
  induction M with
  | nil => rfl
  | cons v M ih =>
    show fnd ((if v.name = name then ⟨v.name, v.w, n⟩ else v) :: setN name n M) s = fnd (v :: M) s
    rw [fnd_cons, fnd_cons, ih]
    by_cases hn : v.name = name
    · rw [if_pos hn]
      show (if v.name = s then _ else _) = _
      rw [if_neg (fun e => h (e.symm.trans hn)), if_neg (fun e => h (e.symm.trans hn))]
    · rw [if_neg hn]
theorem setN_n {name : ByteArray} {n : Int} {M : List VLab} {v : VLab} (h : v ∈ setN name n M) (hn : v.name = name) : v.n = n := by
  obtain ⟨u, hu, rfl⟩ := List.mem_map.1 h
  by_cases hb : u.name = name
  · rw [if_pos hb]
  · rw [if_neg hb] at hn; exact absurd hn hb
theorem setN_drawn {vs : Vs} {M : List VLab} (h : DrawnV (vls vs) M) {name : ByteArray} {n : Int} (hw : ∀ v ∈ M, v.name = name → wOk v.w n = true) : DrawnV (vls vs) (setN name n M) := by
  refine ⟨?_, fun v hv => ?_⟩
  · rw [← h.1]
    unfold setN
    rw [List.map_map]
    apply List.map_congr_left
    intro v _
    show ((if v.name = name then (⟨v.name, v.w, n⟩ : VLab) else v).name, (if v.name = name then (⟨v.name, v.w, n⟩ : VLab) else v).w) = (v.name, v.w)
    split <;> rfl
  · obtain ⟨u, hu, rfl⟩ := List.mem_map.1 hv
    by_cases hb : u.name = name
    · rw [if_pos hb]; exact hw u hu hb
    · rw [if_neg hb]; exact h.2 u hu
/-- Both terms under one node. -/
def bothL (w v : Int) : Lab := ⟨18, w + v, 0, ByteArray.empty⟩
structure PutP (t u r : Tm) (name : ByteArray) (M : List VLab) (n a : Int) : Prop where
  okv : ∀ v ∈ M, okV v
  eu : evalP u.1 u.2 M = (n, true)
  er : evalP r.1 r.2 M = (a, true)
  okn : ∀ v ∈ setN name n M, okV v
  et : evalP t.1 t.2 (setN name n M) = (a, true)
theorem both_vars (w v : Int) (t u : Tm) : varsT (bothL w v, mkTF [t, u]) = varsT t ++ varsT u := by
  rw [varsT_eq, if_neg (show ¬ ((bothL w v, mkTF [t, u]).1.op = 22) by show ¬ ((18 : Int) = 22); decide), List.nil_append]
  show varsF (mkTF [t, u]) = _
  rw [varsF_mk]; simp
section
variable {wt w : Int} {t u : Tm} (ht : DrP wt 3 t) (hu : DrP w 2 u) (h1 : wt ≤ 4) (hw : 1 ≤ w ∧ w ≤ 3) {x : Int} (hb : TOk (bothL x w) (mkTF [t, u]))
include ht hu h1 hw hb
theorem both_bd : ∀ p ∈ vsT (bothL x w, mkTF [t, u]), (1 ≤ p.2 ∧ p.2 ≤ 10) ∧ ∃ s ∈ lets, p.1 = s ++ itoaB p.2 := fun p hp => by
  have hp := vs_sub (t := (bothL x w, mkTF [t, u])) hb.2.2 hp
  rw [both_vars] at hp
  have t4 : top wt = 4 := by unfold top; split <;> omega
  have t5 : top w = 4 := by unfold top; split <;> omega
  rcases List.mem_append.1 hp with hp | hp
  · have := ht.bd p hp; exact ⟨by omega, ht.nm p hp⟩
  · have := hu.bd p hp; exact ⟨by omega, hu.nm p hp⟩
theorem both_few : (vsT (bothL x w, mkTF [t, u])).length ≤ 30 :=
  few_names (vsT_asc _) (fun p hp => (both_bd ht hu h1 hw hb p hp).2) (.inr fun p hp => (both_bd ht hu h1 hw hb p hp).1)
theorem put_facts {s : ByteArray} (hs : s ∈ lets) (hc : putC t u (s ++ itoaB w)) {M : List VLab} (hM : DrawnV (vls (varsP (bothL x w) (mkTF [t, u]))) M) : ∃ n a, PutP t u (putT (onePut (s ++ itoaB w) u) t) (s ++ itoaB w) M n a := by
  obtain ⟨name, hname⟩ : ∃ name, s ++ itoaB w = name := ⟨_, rfl⟩
  rw [hname] at hc ⊢
  rw [varsP_yes hb] at hM
  have hcons : Cons (varsT (bothL x w, mkTF [t, u])) := hb.2.2
  have hbd := both_bd ht hu h1 hw hb
  have hnm : ∀ p ∈ vsT (bothL x w, mkTF [t, u]), isNm p.1 = true := nmd_ok (fun p hp => (hbd p hp).2) (fun p hp => by have := (hbd p hp).1; omega)
  have hasc := vsT_asc (bothL x w, mkTF [t, u])
  have hfew := both_few ht hu h1 hw hb
  have hv := drawn_vOk hasc hnm hfew hM
  have covOf : ∀ M' : List VLab, DrawnV (vls (vsT (bothL x w, mkTF [t, u]))) M' → cov M' (varsT t ++ varsT u) = true := fun M' h => by
    rw [← both_vars x w t u, ← cov_vsT hcons]
    exact drawn_cov (drawn_vOk hasc hnm hfew h) h
  have hcv := covOf M hM
  have hct : cov M (varsT t) = true := cov_iff.2 fun p hp => cov_iff.1 hcv p (List.mem_append_left _ hp)
  have hcu : cov M (varsT u) = true := cov_iff.2 fun p hp => cov_iff.1 hcv p (List.mem_append_right _ hp)
  have heu := env_ok (vOk_word hv) hcu
  have hwu : wOk w (evT (envL M) u) = true := by have := word_of hu.ok heu; rwa [hu.wd] at this
  have hM' := setN_drawn hM (name := name) (n := evT (envL M) u) fun v hvm hvn => by
    have hp := drawn_mem hM hvm
    obtain ⟨s', hs', e⟩ := (hbd _ hp).2
    have hr := (hbd _ hp).1
    have e : v.name = s' ++ itoaB v.w := e
    have hw16 : 1 ≤ v.w ∧ v.w ≤ 16 := by have hr : 1 ≤ v.w ∧ v.w ≤ 10 := hr; omega
    have hvw : v.w = w := name_inj hs' hs hw16 (by omega) (e.symm.trans (hvn.trans hname.symm))
    rw [hvw]; exact hwu
  have hv' := drawn_vOk hasc hnm hfew hM'
  have hct' : cov (setN name (evT (envL M) u) M) (varsT t) = true := cov_iff.2 fun p hp => cov_iff.1 (covOf _ hM') p (List.mem_append_left _ hp)
  have hfit : FitP (onePut name u) (varsT t) := fun p hp v hvv => by
    unfold onePut at hvv
    by_cases hn : p.1 = name
    · rw [if_pos hn] at hvv
      rw [← Option.some.inj hvv]
      exact (hc.2.1 p hp hn).symm
    · rw [if_neg hn] at hvv; cases hvv
  have hcr : cov M (varsT (putT (onePut name u) t)) = true := cov_iff.2 fun q hq => by
    rcases putT_vars (onePut name u) t q hq with ⟨h, _⟩ | ⟨p, _, v, hvv, hqv⟩
    · exact cov_iff.1 hct q h
    · unfold onePut at hvv
      by_cases hn : p.1 = name
      · rw [if_pos hn] at hvv
        rw [← Option.some.inj hvv] at hqv
        exact cov_iff.1 hcu q hqv
      · rw [if_neg hn] at hvv; cases hvv
  have hev : evT (envL (setN name (evT (envL M) u) M)) t = evT (envL M) (putT (onePut name u) t) := by
    rw [(put_evT (onePut name u) (envL M) t hfit).1]
    refine evT_congr fun p hp => ?_
    by_cases hn : p.1 = name
    · obtain ⟨v, g1, _⟩ := cov_iff.1 hct' p hp
      rw [envL_of g1, setN_n (fnd_name g1).2 ((fnd_name g1).1.trans hn)]
      unfold envP onePut
      rw [if_pos hn]; rfl
    · unfold envL
      rw [fnd_setN hn]
      unfold envP onePut
      rw [if_neg hn]; rfl
  refine ⟨evT (envL M) u, evT (envL M) (putT (onePut name u) t), drawn_okV hv, ?_, ?_, drawn_okV hv', ?_⟩
  · rw [evalP_yes (hu.tok (by decide)) hv]; exact evO_yes hcu
  · rw [evalP_yes hc.2.2 hv]; exact evO_yes hcr
  · rw [evalP_yes (ht.tok (by decide)) hv']
    show evO _ t = _
    rw [evO_yes hct', hev]
end
end Go.Proofs.Ytekddgkgeaolnaa.Dr
