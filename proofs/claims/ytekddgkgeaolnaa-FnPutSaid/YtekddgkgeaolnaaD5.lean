/- Drawn terms with drawn values, plainly: the values fit, the simpler form has the same word. No program in sight. -/
import Derived.Test.YtekddgkgeaolnaaD1
import Derived.Test.YtekddgkgeaolnaaEn
import Derived.Test.YtekddgkgeaolnaaDw
namespace Go.Proofs.Ytekddgkgeaolnaa.Dr
open Go Go.Vc Go.RowKit
set_option linter.unusedVariables false

section
variable {vs : Vs} {M : List VLab}
theorem drawn_map (h : DrawnV (vls vs) M) : M.map (fun v => (v.name, v.w)) = vs := by
  rw [h.1]
  unfold vls
  rw [List.map_map]
  exact List.map_id'' (fun p => rfl) vs
theorem drawn_len (h : DrawnV (vls vs) M) : M.length = vs.length := by rw [← drawn_map h, List.length_map]
theorem drawn_at (h : DrawnV (vls vs) M) {i : Nat} (hi : i < M.length) : ((M[i]'hi).name, (M[i]'hi).w) = vs[i]'(by rw [← drawn_len h]; exact hi) := by
  have e := drawn_map h
  have h1 : (M.map (fun v => (v.name, v.w)))[i]? = some ((M[i]'hi).name, (M[i]'hi).w) := by rw [List.getElem?_map, List.getElem?_eq_getElem hi]; rfl
  rw [e, List.getElem?_eq_getElem (by rw [← drawn_len h]; exact hi)] at h1
  exact (Option.some.inj h1).symm
theorem drawn_mem (h : DrawnV (vls vs) M) {v : VLab} (hv : v ∈ M) : (v.name, v.w) ∈ vs := by
  rw [← drawn_map h]
  exact List.mem_map.2 ⟨v, hv, rfl⟩
theorem drawn_vOk (ha : Asc vs) (hn : ∀ p ∈ vs, isNm p.1 = true) (hl : vs.length ≤ 30) (h : DrawnV (vls vs) M) : vOk M = true := by
  have hlen := drawn_len h
  unfold vOk
  rw [Bool.and_eq_true, List.all_eq_true]
  refine ⟨decide_eq_true (by omega), fun i hi => ?_⟩
  have hi : i < M.length := List.mem_range.1 hi
  unfold vAt
  rw [List.getElem?_eq_getElem hi]
  have h1 := drawn_at h hi
  have h2 : isNm (M[i]'hi).name = true := by
    have := hn _ (drawn_mem h (List.getElem_mem hi))
    exact this
  have h3 := h.2 _ (List.getElem_mem hi)
  simp only [h2, h3, Bool.true_and]
  by_cases h0 : i = 0
  · rw [decide_eq_true h0, Bool.true_or]
  · rw [decide_eq_false h0, Bool.false_or, List.getElem?_eq_getElem (show i - 1 < M.length by omega)]
    have h4 := drawn_at h (show i - 1 < M.length by omega)
    have h5 := pv_lt ha (i - 1) i (by omega) (by omega)
    rw [← h1, ← h4] at h5
    exact h5
theorem drawn_cov (hv : vOk M = true) (h : DrawnV (vls vs) M) : cov M vs = true := by
  rw [cov_iff]
  intro p hp
  obtain ⟨i, hi, rfl⟩ := List.mem_iff_getElem.1 hp
  have hi' : i < M.length := by rw [drawn_len h]; exact hi
  have h1 := drawn_at h hi'
  refine ⟨M[i]'hi', ?_, by rw [← h1]⟩
  have h2 := fnd_at hv hi'
  rw [← h1]
  exact h2
theorem drawn_fit (ha : Asc vs) (h : DrawnV (vls vs) M) : fitV vs M := by
  intro v hv u hu
  have h1 := drawn_mem h hv
  obtain ⟨h2, h3⟩ := fnd_name hu
  unfold vls at h3
  obtain ⟨p, hp, rfl⟩ := List.mem_map.1 h3
  have h2 : p.1 = v.name := h2
  have e1 := (lk_mem_iff (s := p.1) (w := p.2) (asc_nod ha)).2 hp
  have e2 := (lk_mem_iff (s := v.name) (w := v.w) (asc_nod ha)).2 h1
  rw [h2, e2] at e1
  exact (Option.some.inj e1).symm
theorem drawn_okV (hv : vOk M = true) : ∀ v ∈ M, okV v := fun v hm => by
  obtain ⟨i, hi, rfl⟩ := List.mem_iff_getElem.1 hm
  obtain ⟨h1, h2, _⟩ := (vOk_at hv).2 i hi
  have h3 := (of_decide_eq_true h1).2.1
  have h4 := wOk_iff.1 h2
  have h5 := pow16 (w := (M[i]'hi).w) (by omega) (by omega)
  refine ⟨by unfold maxLen; omega, by unfold inI; omega, by unfold inI; omega⟩
end
theorem vs_sub {t : Tm} (h : Cons (varsT t)) {p : ByteArray × Int} (hp : p ∈ vsT t) : p ∈ varsT t := (mem_vsT h p).1 hp
/-- The variables of a drawn term are few. -/
theorem drp_few {w : Int} {t : Tm} (hd : DrP w 4 t) (hw : w ≤ 4) (hc : Cons (varsT t)) : (vsT t).length ≤ 30 := by
  have ht : top w = 4 := by unfold top; split <;> omega
  refine few_names (vsT_asc t) (fun p hp => hd.nm p (vs_sub hc hp)) ?_
  rcases hd.bd1 with h | h
  · left
    have h1 := vput_len (varsT t) []
    have h2 : (vsT t).length = (vput [] (varsT t)).length := rfl
    simp only [List.length_nil] at h1
    omega
  · right
    intro p hp
    have h1 := h p (vs_sub hc hp)
    have h2 := hd.bd p (vs_sub hc hp)
    omega
theorem nmd_ok {vs : Vs} (hn : Nmd vs) (hb : ∀ p ∈ vs, 1 ≤ p.2 ∧ p.2 ≤ 16) : ∀ p ∈ vs, isNm p.1 = true := fun p hp => by
  obtain ⟨s, hs, e⟩ := hn p hp
  rw [e]
  exact name_ok hs (hb p hp)
/-- What is known of a drawn term, its simpler form and its values. -/
structure SmpP (t : Tm) (M : List VLab) (a : Int) : Prop where
  okv : ∀ v ∈ M, okV v
  et : evalP t.1 t.2 M = (a, true)
  es : evalP (sim t).1 (sim t).2 M = (a, true)
  pv : pvO t.1 t.2 M = some (conT t.1.w a)
  con : constT t.1.w a = constL t.1.w a
theorem sim_tok {t : Tm} (h : TOk t.1 t.2) : TOk (sim t).1 (sim t).2 := by
  have hk := sim_keeps (t := t) (tok_okT h)
  have h1 : t.sz = t.2.size + 1 := rfl
  have h2 : (sim t).sz = (sim t).2.size + 1 := rfl
  have h3 := hk.sz
  have h4 := h.1
  exact ⟨by omega, OkF_one.2 hk.ok, cons_sub h.2.2 hk.vars⟩
theorem sim_simple {t : Tm} (h : TOk t.1 t.2) : isSimp ((sim t).1, (sim t).2) = true := by
  rw [isSimp_yes (sim_tok h)]
  refine decide_eq_true ?_
  show cmpT (sim (sim t)) (sim t) = 0
  rw [sim_same (sim_nf (tok_okT h))]
  exact cmpT_zero.2 rfl
theorem smp_facts {w : Int} {t : Tm} (hd : DrP w 4 t) (hw : w ≤ 4) (ht : TOk t.1 t.2) {M : List VLab} (hM : DrawnV (vls (varsP t.1 t.2)) M) : ∃ a, SmpP t M a := by
  have hok : OkT t := tok_okT ht
  have hc : Cons (varsT t) := ht.2.2
  rw [varsP_yes ht] at hM
  have hM : DrawnV (vls (vsT t)) M := hM
  have hwid := okT_wid hok
  have hv := drawn_vOk (vsT_asc t) (nmd_ok (fun p hp => hd.nm p (vs_sub hc hp)) (fun p hp => hwid p (vs_sub hc hp))) (drp_few hd hw hc) hM
  have hcov : cov M (varsT t) = true := by rw [← cov_vsT hc]; exact drawn_cov hv hM
  have hk := sim_keeps (t := t) hok
  have hcovs : cov M (varsT (sim t)) = true := cov_iff.2 fun p hp => cov_iff.1 hcov p (hk.vars p hp)
  have henv := env_ok (vOk_word hv) hcov
  have e1 : evalP t.1 t.2 M = (evT (envL M) t, true) := by rw [evalP_yes ht hv]; exact evO_yes hcov
  have e2 : evalP (sim t).1 (sim t).2 M = (evT (envL M) t, true) := by
    rw [evalP_yes (sim_tok ht) hv]
    show evO M (sim t) = _
    rw [evO_yes hcovs, hk.ev _ henv]
  have e3 : pvO t.1 t.2 M = some (conT t.1.w (evT (envL M) t)) := by
    rw [pvO_yes ⟨⟨ht, hv⟩, drawn_fit (vsT_asc t) hM⟩]
    obtain ⟨g1, g2, g3, g4⟩ := sim_valC hok (vOk_word hv) hcov
    have g5 : TOk (putT (valC M) t).1 (putT (valC M) t).2 := by
      refine ⟨?_, OkF_one.2 g1, ?_⟩
      · have h1 : t.sz = t.2.size + 1 := rfl
        have h2 : (putT (valC M) t).sz = (putT (valC M) t).2.size + 1 := rfl
        have h4 := ht.1
        omega
      · intro p hp
        have : varsF (.cons (putT (valC M) t).1 (putT (valC M) t).2 .nil) = [] := g3
        rw [this] at hp; cases hp
    have g6 := simp_yes g5
    have g6 : simp (putT (valC M) t) = sim (putT (valC M) t) := g6
    show some (simp (putT (valC M) t)) = _
    rw [g6, g4]
  refine ⟨_, drawn_okV hv, e1, e2, e3, ?_⟩
  unfold constT
  rw [if_pos (word_of hok henv)]
end Go.Proofs.Ytekddgkgeaolnaa.Dr
