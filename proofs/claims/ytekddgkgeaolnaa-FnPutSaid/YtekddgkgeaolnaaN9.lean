/- Reference: l02Find, l02Eval, EvalTerm. -/
import Derived.Test.YtekddgkgeaolnaaN3
import Derived.Test.YtekddgkgeaolnaaN4
namespace Go.Proofs.Ytekddgkgeaolnaa
open Go Go.Vc Go.RowKit
set_option linter.unusedVariables false

theorem at_vr {ok : Nat → Prop} {w : World} : ∀ {l : List VLab} {b o : Nat}, LsAt vlc 3 w l b o → RAt eV ok w l b o
  | [], _, _, _ => trivial
  | _ :: _, _, _, ⟨h, hl⟩ => ⟨⟨_, h, rfl⟩, at_vr hl⟩
theorem vr_at {ok : Nat → Prop} {w : World} : ∀ {l : List VLab} {b o : Nat}, RAt eV ok w l b o → LsAt vlc 3 w l b o
  | [], _, _, _ => trivial
  | _ :: _, _, _, ⟨⟨cs, h, e⟩, hl⟩ => ⟨by have e : cs = _ := e; rw [e] at h; exact h, vr_at hl⟩
theorem VSl.slr {ok : Nat → Prop} {w : World} {s : Value} {l : List VLab} (h : VSl ok w s l) : SlR eV ok w s l := by
  obtain ⟨a, c, h1, h2, h3, h4⟩ := h
  exact ⟨a, c, h1, h2, h3, h4.imp id fun ⟨b, o, e1, e2, e3⟩ => ⟨b, o, e1, e2, at_vr e3⟩⟩
theorem SlR.vsl {ok : Nat → Prop} {w : World} {s : Value} {l : List VLab} (h : SlR eV ok w s l) : VSl ok w s l := by
  obtain ⟨a, c, h1, h2, h3, h4⟩ := h
  exact ⟨a, c, h1, h2, h3, h4.imp id fun ⟨b, o, e1, e2, e3⟩ => ⟨b, o, e1, e2, vr_at e3⟩⟩
/-- A variable that takes a value: alloc, then the store. -/
theorem keep3 (W : World) (x : VLab) : FreeAll (W.alloc (.cells #[.string ByteArray.empty, .int .i64 0, .int .i64 0] 47)) W.heap.size 0 (vlc x) ∧
    CellsAt (setCells (W.alloc (.cells #[.string ByteArray.empty, .int .i64 0, .int .i64 0] 47)) W.heap.size 0 (vlc x)) W.heap.size 0 (vlc x) ∧
    Ext W (setCells (W.alloc (.cells #[.string ByteArray.empty, .int .i64 0, .int .i64 0] 47)) W.heap.size 0 (vlc x)) := by
  have r1 := Rmy.new W [.string ByteArray.empty, .int .i64 0, .int .i64 0] 47
  exact ⟨r1.all (vlc x) 0 (Nat.le_refl 3) rfl, setCells_at (vlc x) _ 0 3 r1 (Nat.le_refl 3), Ext.setCells _ (Ext.new _ _) (Nat.le_refl _)⟩
def FndR (l : List VLab) (s : ByteArray) (W : World) (v : Value) (w : World) : Prop :=
  Ext W w ∧ ((v = .int .i64 (-1) ∧ fnd l s = none) ∨ ∃ j, ∃ hj : j < l.length, v = .int .i64 (j : Int) ∧ fnd l s = some (l[j]'hj))
theorem fnd_first {l : List VLab} {s : ByteArray} {j : Nat} (hj : j < l.length) (h : ∀ i, (hi : i < j) → (l[i]'(by omega)).name ≠ s) (e : (l[j]'hj).name = s) : fnd l s = some (l[j]'hj) := by
  unfold fnd
  rw [List.find?_eq_some_iff_getElem]
  exact ⟨decide_eq_true e, j, hj, rfl, fun i hi => by simpa using h i hi⟩
theorem fnd_nowhere {l : List VLab} {s : ByteArray} (h : ∀ i, (hi : i < l.length) → (l[i]'hi).name ≠ s) : fnd l s = none := by
  unfold fnd
  rw [List.find?_eq_none]
  intro x hx
  obtain ⟨i, hi, rfl⟩ := List.mem_iff_getElem.1 hx
  simpa using h i hi
theorem vs5 {a b c d e a' b' c' d' e' : Value} (h1 : a = a') (h2 : b = b') (h3 : c = c') (h4 : d = d') (h5 : e = e') : [a, b, c, d, e] = [a', b', c', d', e'] := by rw [h1, h2, h3, h4, h5]
theorem l02Find_ret (l : List VLab) (s : Value) (name : ByteArray) (W : World) (hs : SlR eV allB W s l) : Ret Try.prog 44 #[s, .string name] W (FndR l name W) := by
  obtain ⟨a, c, rfl, hl, hc, hat⟩ := id hs
  have hlm : (maxLen : Int) ≤ 9223372036854775807 := by decide
  refine ret_of_vc ties mixed Try.func44 rfl (by kernel_rfl) rfl rfl ?_
  refine loop_rule (σ := Nat × Value × Value) [9, 5, 6] 10 20 (fun q => [.int .i64 q.1, q.2.1, q.2.2])
    (fun q w' => Ext W w' ∧ q.1 ≤ l.length ∧ ∀ i, (hi : i < q.1) → (h : i < l.length) → (l[i]'h).name ≠ name) (fun q => l.length - q.1) (0, undef, undef) rfl ⟨Ext.refl _, Nat.zero_le _, fun i hi => absurd hi (Nat.not_lt_zero i)⟩ ?_
  rintro ⟨k, y1, y2⟩ w junk ⟨hx, hk, hall⟩ K hK
  simp only at hk hall
  show vc _ _ _ _ (over [9, 5, 6] [.int .i64 k, y1, y2] _) _
  refine br_dec (fun h3 => ?_) (fun h3 => ?_)
  · have hkl : k < l.length := by omega
    obtain ⟨b, o, c', e, _, hcx⟩ := eV_at hs hkl
    cases e
    obtain ⟨f1, c1, x1⟩ := keep3 w (l[k]'hkl)
    refine ⟨⟨by omega, by omega⟩, vlc (l[k]'hkl), rfl, hcx.ext hx, f1, ?_⟩
    refine ⟨_, c1.1, ?_⟩
    refine br_dec (fun he => ?_) (fun he => ?_)
    · exact ⟨hx.trans x1, .inr ⟨k, hkl, rfl, fnd_first hkl (fun i hi => hall i hi (by omega)) he⟩⟩
    · refine ⟨_, IntWalk.i64_in _ (by omega), ?_⟩
      refine hK (k + 1, _, _) _ _ (vs3 (vint (by show (k : Int) + 1 = ((k + 1 : Nat) : Int); omega)) rfl rfl) ⟨hx.trans x1, by show k + 1 ≤ l.length; omega, fun i hi h => ?_⟩ (by show l.length - (k + 1) < l.length - k; omega) ?_
      · by_cases e : i = k
        · subst e; exact he
        · exact hall i (by have : i < k + 1 := hi; omega) h
      · ((repeat (first | (with_reducible exact Only.refl) | (with_reducible refine Only.skip ?_) | ((with_reducible refine Only.upd ?_ ?_); rfl) | ((with_reducible refine Only.over ?_ ?_ _); rfl) | ((with_reducible refine Only.hav ?_ ?_ ?_); rfl; rfl))))
  · exact ⟨hx, .inl ⟨rfl, fnd_nowhere fun i hi => hall i (by omega) hi⟩⟩
def EvR (l : List VLab) (t : Tm) (W : World) (v : Value) (w : World) : Prop := v = .tuple #[.int .i64 (evO l t).1, .bool (evO l t).2] ∧ Ext W w
def EvlS (l : List VLab) (n : Nat) : Prop := ∀ (t : Tm) (s sl : Value) (W : World), t.sz ≤ n → OkT t → TSl anyB W s t.2 → SlR eV allB W sl l → Ret Try.prog 48 #[tv t.1 s, sl] W (EvR l t W)
theorem evO_node {l : List VLab} {x : Lab} {k : TF} (h22 : x.op ≠ 22) : (cov l (varsF k) = true → evO l (x, k) = (ap x (hdF k) (evF (envL l) k) (envL l), true)) ∧ (¬ cov l (varsF k) = true → evO l (x, k) = (0, false)) := by
  have hv : varsT (x, k) = varsF k := by rw [varsT_eq, if_neg h22]; rfl
  constructor
  · intro h
    rw [evO_yes (by rw [hv]; exact h)]; rfl
  · intro h
    rw [evO_no (by rw [hv]; exact h)]
theorem cov_kid {l : List VLab} {k : TF} {i : Nat} {t : Tm} (h : (tms k)[i]? = some t) (hc : cov l (varsF k) = true) : cov l (varsT t) = true := by
  rw [← mk_tms k, varsF_mk] at hc
  refine List.all_eq_true.2 fun p hp => List.all_eq_true.1 hc p (List.mem_flatMap.2 ⟨t, List.mem_of_getElem? h, hp⟩)
theorem cov_kids {l : List VLab} {k : TF} (h : ∀ t ∈ tms k, cov l (varsT t) = true) : cov l (varsF k) = true := by
  rw [← mk_tms k, varsF_mk]
  refine List.all_eq_true.2 fun p hp => ?_
  obtain ⟨t, ht, hpt⟩ := List.mem_flatMap.1 hp
  exact List.all_eq_true.1 (h t ht) p hpt
set_option maxRecDepth 100000 in
set_option maxHeartbeats 8000000 in
theorem l02Eval_all (l : List VLab) : ∀ n, EvlS l n := by
  intro n
  induction n with
  | zero => intro t s sl W h; have := sz_pos t; omega
  | succ n ih =>
    rintro ⟨x, k⟩ s sl W hsz h hs hsl
    change TSl anyB W s k at hs
    have hN : NodeOk x (hdF k) := h.1
    have x1 := bx_ext W x s
    have hb := bx_at W x s
    by_cases h0 : x.op = 0
    · have hkn : k = .nil := ok_nil h (.inl h0)
      subst hkn
      have e : evO l (x, .nil) = (x.n, true) := by rw [(evO_node (by omega)).1 rfl, ap, if_pos h0]
      unfold EvR
      rw [e]
      refine ret_of_vc ties mixed Try.func48 rfl (by kernel_rfl) rfl rfl ?_
      refine ⟨_, hb.1, ?_⟩
      refine br_dec_true h0 ?_
      exact ⟨_, hb.2.2.1, rfl, x1⟩
    by_cases h22 : x.op = 22
    · have hkn : k = .nil := ok_nil h (.inr h22)
      subst hkn
      have hv : varsT (x, .nil) = [(x.name, x.w)] := by rw [varsT_eq, if_pos h22]; rfl
      have hf := fun w (xw : Ext W w) => l02Find_ret l sl x.name w (hsl.ext xw)
      refine ret_of_vc ties mixed Try.func48 rfl (by kernel_rfl) rfl rfl ?_
      refine ⟨_, hb.1, ?_⟩
      refine br_dec_false h0 ?_
      refine ⟨_, hb.1, ?_⟩
      refine br_dec_true h22 ?_
      refine ⟨_, hb.2.2.2.1, ?_⟩
      refine Or.inl ((hf _ x1).mono ?_)
      rintro v2 w2 ⟨x2, hv2⟩
      rcases hv2 with ⟨rfl, hnone⟩ | ⟨j, hj, rfl, hsome⟩
      · have e : evO l (x, .nil) = (0, false) := evO_no (by rw [hv, cov_iff]; exact fun hh => by obtain ⟨v, h1, _⟩ := hh _ (List.mem_singleton.2 rfl); rw [hnone] at h1; cases h1)
        refine .inl ⟨by kernel_rfl, ?_⟩
        intro w3 x3
        exact ⟨by rw [e]; rfl, (x1.trans x2).trans x3⟩
      · obtain ⟨b, o, c, rfl, _, hcv⟩ := eV_at hsl hj
        have hcv2 := hcv.ext (x1.trans x2)
        by_cases hw : (l[j]'hj).w = x.w
        · have hc : cov l (varsT (x, .nil)) = true := by rw [hv, cov_iff]; intro p hp; rw [List.mem_singleton.1 hp]; exact ⟨_, hsome, hw⟩
          have e : evO l (x, .nil) = ((l[j]'hj).n, true) := by rw [evO_yes hc, ev_var _ h22, envL_of hsome]
          refine .inl ⟨by kernel_rfl, ⟨by omega, by omega⟩, _, hcv2.2.1, _, x2.cell hb.2.1, ?_⟩
          intro w3 x3
          refine br_dec_false (fun hh => hh hw) ?_
          refine ⟨⟨by omega, by omega⟩, _, x3.cell hcv2.2.2.1, ?_⟩
          exact ⟨by rw [e]; rfl, (x1.trans x2).trans x3⟩
        · have hc : ¬ cov l (varsT (x, .nil)) = true := by rw [hv, cov_iff]; exact fun hh => by obtain ⟨v, h1, h2⟩ := hh _ (List.mem_singleton.2 rfl); rw [hsome] at h1; rw [← Option.some.inj h1] at h2; exact hw h2
          have e : evO l (x, .nil) = (0, false) := evO_no hc
          refine .inl ⟨by kernel_rfl, ⟨by omega, by omega⟩, _, hcv2.2.1, _, x2.cell hb.2.1, ?_⟩
          intro w3 x3
          refine br_dec_true hw ?_
          exact ⟨by rw [e]; rfl, (x1.trans x2).trans x3⟩
    have hk : k.len ≠ 0 := fun e => ok_cons h (by omega) (nil_len e)
    obtain ⟨a, c, rfl, hl, hat⟩ := id hs
    have hl' : k.len ≤ 9223372036854775807 := hl
    have hl3 : k.len ≤ 3 := by
      have h1 := hN.count
      have h2 := kc_le x.op
      rw [hdF_len] at h1
      omega
    have x12 : Ext (bxW W x (.slice a k.len c)) ((bxW W x (.slice a k.len c)).alloc (.cells #[] 3)) := Ext.new _ _
    have hb2 := hb.ext x12
    have hev := evO_node (l := l) (k := k) h22
    have kidAt : ∀ (i : Nat), i < k.len → ∃ t p o s', a = some ⟨p, o, none⟩ ∧ (tms k)[i]? = some t ∧ t.sz ≤ n ∧ OkT t ∧ (∀ w, Ext W w → CellsAt w p (o + (i : Int).toNat * 5) (tc t.1 s') ∧ TSl anyB w s' t.2) := fun i hi => by
      obtain ⟨t, ht, _⟩ := tms_get hi
      obtain ⟨p, o, c', s', e, _, _, _, hc, hs'⟩ := TSl.kid hs ht
      cases e
      have hm : t ∈ tms k := List.mem_of_getElem? ht
      have h1 := lt_kid (x := x) (a := t) (l := tms k) hm
      rw [mk_tms] at h1
      exact ⟨t, p, o, s', rfl, ht, by omega, OkF_mem h.2 t hm, fun w xw => ⟨hc.ext xw, hs'.ext xw⟩⟩
    have hnl : (evF (envL l) k).length = k.len := by rw [evF_tms, List.length_map, tms_len]
    have hApp := fun w v (xw : Ext W w) hv => l02Apply_val (envL l) x k (evF (envL l) k) _ v w h hk hnl (hs.ext xw) hv
    refine ret_of_vc ties mixed Try.func48 rfl (by kernel_rfl) rfl rfl ?_
    refine ⟨_, hb.1, ?_⟩
    refine br_dec_false h0 ?_
    refine ⟨_, hb.1, ?_⟩
    refine br_dec_false h22 ?_
    refine ⟨_, hb2.2.2.2.2.1, ?_⟩
    refine loop_rule (σ := Nat × Value × Value × Value × Value) [45, 7, 9, 10, 11] 46 62 (fun q => [.int .i64 q.1, q.2.1, q.2.2.1, q.2.2.2.1, q.2.2.2.2])
      (fun q w' => (Ext (bxW W x (.slice a k.len c)) w' ∧ OwnR eI noB w' q.2.1 ((evF (envL l) k).take q.1) ∧ ∀ b, blk q.2.1 b → (bxW W x (.slice a k.len c)).heap.size ≤ b) ∧ q.1 ≤ k.len ∧ ∀ j, j < q.1 → ∀ t, (tms k)[j]? = some t → cov l (varsT t) = true)
      (fun q => k.len - q.1) (0, _, undef, undef, undef) rfl ⟨⟨x12, OwnR.nil _ _ _ _, fun b hb => by have hb : (bxW W x (.slice a k.len c)).heap.size = b := hb; omega⟩, Nat.zero_le _, fun j hj => absurd hj (Nat.not_lt_zero j)⟩ ?_
    rintro ⟨i, xv, j9, j10, j11⟩ w3 junk ⟨⟨x3, hxv, hbv⟩, hi, hall⟩ K hK
    simp only at hi hxv hbv hall
    show vc _ _ _ _ (over [45, 7, 9, 10, 11] [.int .i64 i, xv, j9, j10, j11] _) _
    have x03 := x1.trans x3
    refine br_dec (fun hlt' => ?_) (fun hge => ?_)
    · obtain ⟨t, p, o, s', rfl, ht, hts, hto, hkid⟩ := kidAt i (by omega)
      obtain ⟨f4, c4, x4⟩ := keep5 (W := w3) (x := t.1) (s := s') (tc_one (hkid w3 x03).2)
      have hrec := ih t s' sl _ hts hto ((hkid _ (x03.trans x4)).2) (hsl.ext (x03.trans x4))
      unfold EvR at hrec
      refine ⟨⟨by omega, by omega⟩, tc t.1 s', rfl, (hkid w3 x03).1, f4, ?_⟩
      refine ⟨tc t.1 s', rfl, c4, ?_⟩
      by_cases hc : cov l (varsT t) = true
      · rw [evO_yes hc] at hrec
        refine Or.inl ((hrec).mono ?_)
        rintro _ w5 ⟨rfl, x5⟩
        have htk : (evF (envL l) k).take (i + 1) = (evF (envL l) k).take i ++ [evT (envL l) t] := by
          rw [List.take_add_one, evF_tms, List.getElem?_map, ht]; rfl
        have hlen : ((evF (envL l) k).take i).length = i := by rw [List.length_take, hnl]; omega
        have hown := (hxv.ext x4).ext x5
        refine raw_push (E := eI) (x := evT (envL l) t) (cs := [.int .i64 (evT (envL l) t)]) ties rfl rfl rfl rfl rfl rfl rfl rfl rfl rfl rfl hown rfl noB_blk (by rw [hlen]; show (i + 1) * 8 ≤ _; omega) (by omega) ?_
        intro v w6 hv hch hsz6 hvb
        rw [← htk] at hv
        refine ⟨_, IntWalk.i64_in _ (by omega), ?_⟩
        refine hK (i + 1, v, _, _, _) _ _ (by exact vs5 (vint (by show (i : Int) + 1 = ((i + 1 : Nat) : Int); omega)) rfl rfl rfl rfl) ⟨⟨((x3.trans x4).trans x5).chg hch hbv, hv, fun b hb => (hvb b hb).elim (hbv b) fun e => Nat.le_of_lt (Nat.lt_of_le_of_lt ((x3.trans x4).trans x5).size e.1)⟩, by show i + 1 ≤ k.len; omega, fun j hj u hu => ?_⟩ (by show k.len - (i + 1) < k.len - i; omega) ?_
        · by_cases e : j = i
          · subst e; rw [ht] at hu; rw [← Option.some.inj hu]; exact hc
          · exact hall j (by have : j < i + 1 := hj; omega) u hu
        · ((repeat (first | (with_reducible exact Only.refl) | (with_reducible refine Only.skip ?_) | ((with_reducible refine Only.upd ?_ ?_); rfl) | ((with_reducible refine Only.over ?_ ?_ _); rfl) | ((with_reducible refine Only.hav ?_ ?_ ?_); rfl; rfl))))
      · rw [evO_no hc] at hrec
        refine Or.inl ((hrec).mono ?_)
        rintro _ w5 ⟨rfl, x5⟩
        refine ⟨?_, (x03.trans x4).trans x5⟩
        rw [hev.2 (fun e => hc (cov_kid ht e))]; rfl
    · have hik : (evF (envL l) k).take i = evF (envL l) k := List.take_of_length_le (by rw [hnl]; omega)
      rw [hik] at hxv
      have hcv : cov l (varsF k) = true := cov_kids fun t ht => by
        obtain ⟨j, hj⟩ := List.mem_iff_getElem?.1 ht
        have hjl := (List.getElem?_eq_some_iff.1 hj).1
        rw [tms_len] at hjl
        exact hall j (by omega) t hj
      refine ⟨tc x _, rfl, hb.ext x3, ?_⟩
      refine Or.inl ((hApp w3 xv x03 (hxv.sl (fun _ _ => trivial) (fun _ _ => trivial))).mono ?_)
      rintro _ w5 ⟨rfl, x5⟩
      exact ⟨by rw [hev.1 hcv]; rfl, x03.trans x5⟩
noncomputable def evalP (x : Lab) (k : TF) (l : List VLab) : Int × Bool := @ite _ (TOk x k ∧ vOk l = true) (Classical.propDecidable _) (evO l (x, k)) (0, false)
theorem evalP_yes {x : Lab} {k : TF} {l : List VLab} (h : TOk x k) (hv : vOk l = true) : evalP x k l = evO l (x, k) := by unfold evalP; exact if_pos ⟨h, hv⟩
theorem evalP_no {x : Lab} {k : TF} {l : List VLab} (h : ¬ (TOk x k ∧ vOk l = true)) : evalP x k l = (0, false) := by unfold evalP; exact if_neg h
theorem spec_EvalTerm (x : Lab) (k : TF) (l : List VLab) (s sl : Value) (W : World) (hs : TSl anyB W s k) (hx : okL x) (hp : k.All okL) (hl : VSl anyB W sl l) (hv : ∀ v ∈ l, okV v) :
    Ret Try.prog 23 #[tv x s, sl] W (fun v w' => v = .tuple #[.int .i64 (evalP x k l).1, .bool (evalP x k l).2] ∧ Ext W w') := by
  have x1 := bx_ext W x s
  have hb := bx_at W x s
  have hok := fun w (xw : Ext W w) => spec_TermOk x k s w (hs.ext xw) hx hp
  have hvs := fun w (xw : Ext W w) => spec_ValuesOk l sl w (hl.ext xw) hv
  have h1 := hs.oneB
  by_cases ht : TOk x k
  · have e : decide (TOk x k) = true := decide_eq_true ht
    simp only [e] at hok
    by_cases hvo : vOk l = true
    · simp only [hvo] at hvs
      rw [evalP_yes ht hvo]
      have hev := fun w (xw : Ext W w) => l02Eval_all l _ (x, k) s sl w (Nat.le_refl _) (tok_okT ht) (hs.ext xw) (VSl.slr (hl.ext xw))
      obtain ⟨a, c, rfl, _, _⟩ := id hs
      refine ret_of_vc ties mixed Try.func23 rfl (by kernel_rfl) rfl rfl ?_
      refine ⟨tc x _, rfl, hb, ?_⟩
      refine Or.inl ((hok _ x1).mono ?_)
      rintro _ w2 ⟨rfl, x2⟩
      refine Or.inl ((hvs w2 (x1.trans x2)).mono ?_)
      rintro _ w3 ⟨rfl, x3⟩
      refine ⟨tc x _, rfl, hb.ext (x2.trans x3), ?_⟩
      refine Or.inl ((hev w3 (x1.trans (x2.trans x3))).mono ?_)
      rintro _ w4 ⟨rfl, x4⟩
      exact ⟨rfl, x1.trans (x2.trans (x3.trans x4))⟩
    · have hvf : vOk l = false := by simpa using hvo
      simp only [hvf] at hvs
      rw [evalP_no (fun h => hvo h.2)]
      obtain ⟨a, c, rfl, _, _⟩ := id hs
      refine ret_of_vc ties mixed Try.func23 rfl (by kernel_rfl) rfl rfl ?_
      refine ⟨tc x _, rfl, hb, ?_⟩
      refine Or.inl ((hok _ x1).mono ?_)
      rintro _ w2 ⟨rfl, x2⟩
      refine Or.inl ((hvs w2 (x1.trans x2)).mono ?_)
      rintro _ w3 ⟨rfl, x3⟩
      exact ⟨rfl, x1.trans (x2.trans x3)⟩
  · have e : decide (TOk x k) = false := decide_eq_false ht
    simp only [e] at hok
    rw [evalP_no (fun h => ht h.1)]
    obtain ⟨a, c, rfl, _, _⟩ := id hs
    refine ret_of_vc ties mixed Try.func23 rfl (by kernel_rfl) rfl rfl ?_
    refine ⟨tc x _, rfl, hb, ?_⟩
    refine Or.inl ((hok _ x1).mono ?_)
    rintro _ w2 ⟨rfl, x2⟩
    exact ⟨rfl, x1.trans x2⟩
end Go.Proofs.Ytekddgkgeaolnaa
