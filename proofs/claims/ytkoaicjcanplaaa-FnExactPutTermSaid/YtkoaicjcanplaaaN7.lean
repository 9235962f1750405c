/- MakeTerm: both contracts; makeTerm. -/
import Derived.Test.YtkoaicjcanplaaaU9
namespace Go.Proofs.Ytkoaicjcanplaaa
open Go Go.Vc Go.RowKit
set_option linter.unusedVariables false

noncomputable def mkO (t : Tm) : Option Tm := @ite _ (TOk t.1 t.2) (Classical.propDecidable _) (some (red t)) none
theorem mkO_yes {x : Lab} {k : TF} (h : TOk x k) : mkO (x, k) = some (red (x, k)) := by unfold mkO; exact if_pos h
theorem mkO_no {x : Lab} {k : TF} (h : ¬ TOk x k) : mkO (x, k) = none := by unfold mkO; exact if_neg h
theorem okL_node {x : Lab} {l : List Lab} (h : NodeOk x l) : okL x := by
  have h1 := h.op
  have h2 := h.width
  refine ⟨⟨by omega, by omega⟩, ⟨by omega, by omega⟩, nin h, ?_⟩
  by_cases h22 : x.op = 22
  · have h3 := (of_decide_eq_true (h.name h22)).2.1
    have : (8 : Nat) ≤ maxLen := by decide
    omega
  · rw [h.noname h22]; exact Nat.zero_le _
theorem okL_F : ∀ {k : TF}, OkF k → k.All okL
  | .nil, _ => trivial
  | .cons _ _ _, ⟨⟨h1, h2⟩, h3⟩ => ⟨okL_node h1, okL_F h2, okL_F h3⟩
theorem okL_T {t : Tm} (h : OkT t) : okL t.1 ∧ t.2.All okL := ⟨okL_node h.1, okL_F h.2⟩
theorem okL_mk : ∀ {l : List Tm}, (∀ t ∈ l, okL t.1 ∧ t.2.All okL) → (mkTF l).All okL
  | [], _ => trivial
  | t :: l, h => ⟨(h t (by simp)).1, (h t (by simp)).2, okL_mk fun u hu => h u (by simp [hu])⟩
theorem red_sz {x : Lab} {k : TF} (h : TOk x k) : (red (x, k)).2.size ≤ 240 := by
  have h1 := (red_keeps (tok_okT h)).sz
  have h2 : Tm.sz (red (x, k)) = (red (x, k)).2.size + 1 := rfl
  have h3 : Tm.sz (x, k) = k.size + 1 := rfl
  have := h.1
  omega
theorem mkO_sz {t u : Tm} (h : mkO t = some u) : u.2.size ≤ 240 ∧ OkT u := by
  by_cases ht : TOk t.1 t.2
  · rw [show mkO t = _ from mkO_yes (x := t.1) (k := t.2) ht] at h
    rw [← Option.some.inj h]
    exact ⟨red_sz ht, (red_keeps (tok_okT ht)).ok⟩
  · rw [show mkO t = _ from mkO_no (x := t.1) (k := t.2) ht] at h
    cases h
theorem mkOd_sz (t : Tm) : ((mkO t).getD zeroT).2.size ≤ 240 := by
  cases h : mkO t with
  | none => exact Nat.zero_le _
  | some u => exact (mkO_sz h).1
/-- A pair of a term that lies apart and a bool. -/
def CFir (bb : Bool) (t : Tm) (W : World) (v : Value) (w : World) : Prop := ∃ v1, v = .tuple #[v1, .bool bb] ∧ CRes t W v1 w
theorem fin6t {t : Tm} {W w : World} {B : Nat} {s : Value} (bb : Bool) (hr : Rmy w B 5) (hB : W.heap.size ≤ B) (hx : Ext W w) {lo : Nat} (hlo : B < lo) (hs : TSep w s t.2 lo w.heap.size) :
    FreeAll w B 0 (tc t.1 s) ∧ ∃ vs, vs.length = 5 ∧ CellsAt (setCells w B 0 (tc t.1 s)) B 0 vs ∧ CFir bb t W (.tuple #[.agg vs.toArray, .bool bb]) (setCells w B 0 (tc t.1 s)) := by
  obtain ⟨h1, vs, h2, h3, h4⟩ := fin6 hr hB hx hlo hs
  exact ⟨h1, vs, h2, h3, _, rfl, h4⟩
def noF : Nat → Prop := fun _ => False
theorem fin8t {t : Tm} {W w : World} {B : Nat} {s : Value} (bb : Bool) (hr : Rmy w B 5) (hB : W.heap.size ≤ B) (hx : Ext W w) (hs : TSl (fun b => B < b) w s t.2) :
    FreeAll w B 0 (tc t.1 s) ∧ ∃ vs, vs.length = 5 ∧ CellsAt (setCells w B 0 (tc t.1 s)) B 0 vs ∧ FirR noF bb t W (.tuple #[.agg vs.toArray, .bool bb]) (setCells w B 0 (tc t.1 s)) := by
  have hch : Chg (fun b => b = B) w (setCells w B 0 (tc t.1 s)) := Chg.setCells (S := fun b => b = B) rfl _ _ _
  refine ⟨hr.all _ 0 (Nat.le_refl 5) (tc_one hs), tc t.1 s, rfl, setCells_at _ _ 0 5 hr (Nat.le_refl 5), _, rfl, hx.chg hch (fun b hb => by rw [hb]; exact hB), s, rfl, ?_⟩
  exact (Fo.Sl.chg (fun b hb => by omega) hch hs).mono fun b hb => .inr (by omega)
theorem FirR.mono {ok ok' : Nat → Prop} {bb : Bool} {t : Tm} {W w : World} {v : Value} (h : FirR ok bb t W v w) (hk : ∀ b, ok b → ok' b) : FirR ok' bb t W v w := by
  obtain ⟨v1, rfl, x, s, rfl, hs⟩ := h
  exact ⟨_, rfl, x, s, rfl, hs.mono fun b hb => hb.imp (hk b) id⟩
theorem okL_mkn {op w n : Int} (ho : inI op ∧ inI w ∧ inI n) : okL (mkn op w n) := ⟨ho.1, ho.2.1, ho.2.2, Nat.zero_le _⟩
section
variable (op w n : Int) (k : TF) (s : Value) (W : World) (ho : inI op ∧ inI w ∧ inI n) (hp : k.All okL)
include ho hp
set_option maxHeartbeats 4000000 in
theorem makeTerm_ret (ok : Nat → Prop) (hs : TSl ok W s k) : Ret Try.prog 94 #[.int .i64 op, .int .i64 w, .int .i64 n, s] W (FirR ok (mkO (mkn op w n, k)).isSome ((mkO (mkn op w n, k)).getD zeroT) W) := by
  have hx := okL_mkn ho
  have x0 : Ext W (bzW W) := bz_ext W
  have r0 := bz_rmy W
  obtain ⟨f1, c1, x1⟩ := keep5 (W := bzW W) (x := mkn op w n) (tc_one hs)
  have x01 := x0.trans x1
  have r1 := r0.ext x1
  have hlt : W.heap.size < (bzW W).heap.size := by rw [bz_size]; omega
  have hin := fun w' (xw : Ext (bzW W) w') => arg_in (B := W.heap.size) hs (x0.trans xw) (Nat.le_refl _)
  have hok := fun w' (xw : Ext W w') => impl_TermOk (mkn op w n) k s w' ((hs.ext xw).mono fun _ _ => trivial) hx hp
  have hlt1 := Nat.lt_of_lt_of_le hlt x1.size
  obtain ⟨a, c, rfl, _, _⟩ := id hs
  by_cases ht : TOk (mkn op w n) k
  · rw [mkO_yes ht]
    have e : decide (TOk (mkn op w n) k) = true := decide_eq_true ht
    simp only [e] at hok
    have hred := fun w' (xw : Ext (bzW W) w') => reduce_ret (mkn op w n, k) _ (okB W.heap.size W ok) w' (tok_okT ht) (hin w' xw)
    refine ret_of_vc ties mixed Try.func94 rfl (by kernel_rfl) rfl rfl ?_
    refine ⟨f1, ?_⟩
    refine ⟨_, rfl, c1, ?_⟩
    refine Or.inl ((hok _ x01).mono ?_)
    rintro _ w2 ⟨rfl, x2⟩
    refine ⟨_, rfl, c1.ext x2, ?_⟩
    refine Or.inl ((fin_t true (r1.ext x2) (Nat.le_refl _) (Nat.lt_of_lt_of_le hlt1 x2.size) (x01.trans x2) (hred w2 (x1.trans x2))).mono ?_)
    rintro _ w3 ⟨s3, rfl, hf⟩
    exact hf
  · rw [mkO_no ht]
    have e : decide (TOk (mkn op w n) k) = false := decide_eq_false ht
    simp only [e] at hok
    refine ret_of_vc ties mixed Try.func94 rfl (by kernel_rfl) rfl rfl ?_
    refine ⟨f1, ?_⟩
    refine ⟨_, rfl, c1, ?_⟩
    refine Or.inl ((hok _ x01).mono ?_)
    rintro _ w2 ⟨rfl, x2⟩
    exact fin5t (y := zeroL) (k := .nil) false (r1.ext x2) (Nat.le_refl _) (x01.trans x2) (nil_in _ _ _ _)
set_option maxHeartbeats 4000000 in
theorem impl_MakeTerm (hs : TSl anyB W s k) : Ret Try.prog 47 #[.int .i64 op, .int .i64 w, .int .i64 n, s] W (CFir (mkO (mkn op w n, k)).isSome ((mkO (mkn op w n, k)).getD zeroT) W) := by
  have x0 : Ext W (bzW W) := bz_ext W
  have r0 := bz_rmy W
  have hlt : W.heap.size < (bzW W).heap.size := by rw [bz_size]; omega
  have hmk := makeTerm_ret op w n k s (bzW W) ho hp anyB (hs.ext x0)
  have hz := mkOd_sz (mkn op w n, k)
  obtain ⟨o, h0⟩ : ∃ o, mkO (mkn op w n, k) = o := ⟨_, rfl⟩
  rw [h0] at hmk hz ⊢
  have hcp := fun s' w' (h : TSl anyB w' s' (o.getD zeroT).2) => copyTerm_sep (o.getD zeroT).2 (o.getD zeroT).1 s' w' h (by omega)
  clear h0
  cases o with
  | none =>
    refine ret_of_vc ties mixed Try.func47 rfl (by kernel_rfl) rfl rfl ?_
    refine Or.inl ((hmk).mono ?_)
    rintro _ w2 ⟨v2, rfl, x2, s2, rfl, hs2⟩
    obtain ⟨f3, c3, x3⟩ := keep5 (W := w2) (x := zeroT.1) (s := s2) (tc_one hs2)
    refine ⟨f3, ?_⟩
    have x23 := x2.trans x3
    exact fin6t (t := zeroT) false (r0.ext x23) (Nat.le_refl _) (x0.trans x23) (Nat.lt_succ_self _) (zero_sep _ _ _)
  | some u =>
    refine ret_of_vc ties mixed Try.func47 rfl (by kernel_rfl) rfl rfl ?_
    refine Or.inl ((hmk).mono ?_)
    rintro _ w2 ⟨v2, rfl, x2, s2, rfl, hs2⟩
    obtain ⟨f3, c3, x3⟩ := keep5 (W := w2) (x := u.1) (s := s2) (tc_one hs2)
    refine ⟨f3, ?_⟩
    have x23 := x2.trans x3
    refine ⟨_, rfl, c3, ?_⟩
    refine Or.inl ((hcp s2 _ ((hs2.mono fun _ _ => trivial).ext x3)).mono ?_)
    rintro _ w4 ⟨x4, s4, rfl, hs4⟩
    have x24 := x23.trans x4
    exact fin6t (t := u) true (r0.ext x24) (Nat.le_refl _) (x0.trans x24) (Nat.lt_of_lt_of_le hlt x23.size) hs4
set_option maxHeartbeats 4000000 in
theorem spec_MakeTerm (hs : TSl anyB W s k) : Ret Try.prog 45 #[.int .i64 op, .int .i64 w, .int .i64 n, s] W (FirR noF (mkO (mkn op w n, k)).isSome ((mkO (mkn op w n, k)).getD zeroT) W) := by
  have hx := okL_mkn ho
  have x0 : Ext W (bzW W) := bz_ext W
  have r0 := bz_rmy W
  obtain ⟨f1, c1, x1⟩ := keep5 (W := bzW W) (x := mkn op w n) (tc_one hs)
  have x01 := x0.trans x1
  have r1 := r0.ext x1
  have hlt : W.heap.size < (bzW W).heap.size := by rw [bz_size]; omega
  have hok := fun w' (xw : Ext W w') => spec_TermOk (mkn op w n) k s w' (hs.ext xw) hx hp
  have hlt1 := Nat.lt_of_lt_of_le hlt x1.size
  obtain ⟨a, c, rfl, _, _⟩ := id hs
  by_cases ht : TOk (mkn op w n) k
  · rw [mkO_yes ht]
    have e : decide (TOk (mkn op w n) k) = true := decide_eq_true ht
    simp only [e] at hok
    have hred := fun w' (xw : Ext W w') => makeS (mkn op w n, k) _ anyB w' (tok_okT ht) (hs.ext xw)
    have hz := red_sz ht
    have hcp := fun w' s' (h : TSl anyB w' s' (red (mkn op w n, k)).2) => l02Copy_all _ (red (mkn op w n, k)) s' w' (Nat.le_refl _) (by omega) h
    refine ret_of_vc ties mixed Try.func45 rfl (by kernel_rfl) rfl rfl ?_
    refine ⟨f1, ?_⟩
    refine ⟨_, rfl, c1, ?_⟩
    refine Or.inl ((hok _ x01).mono ?_)
    rintro _ w2 ⟨rfl, x2⟩
    refine ⟨_, rfl, c1.ext x2, ?_⟩
    refine Or.inl ((hred w2 (x01.trans x2)).mono ?_)
    rintro _ w3 ⟨x3, s3, rfl, hs3⟩
    refine Or.inl ((hcp w3 s3 (hs3.mono fun _ _ => trivial)).mono ?_)
    rintro _ w4 ⟨x4, s4, rfl, hs4⟩
    have x24 := (x2.trans x3).trans x4
    have hlt3 := Nat.lt_of_lt_of_le hlt1 (x2.trans x3).size
    exact fin8t (t := red (mkn op w n, k)) true (r1.ext x24) (Nat.le_refl _) (x01.trans x24) (hs4.mono fun b hb => Nat.lt_of_lt_of_le hlt3 hb)
  · rw [mkO_no ht]
    have e : decide (TOk (mkn op w n) k) = false := decide_eq_false ht
    simp only [e] at hok
    refine ret_of_vc ties mixed Try.func45 rfl (by kernel_rfl) rfl rfl ?_
    refine ⟨f1, ?_⟩
    refine ⟨_, rfl, c1, ?_⟩
    refine Or.inl ((hok _ x01).mono ?_)
    rintro _ w2 ⟨rfl, x2⟩
    exact fin8t (t := zeroT) false (r1.ext x2) (Nat.le_refl _) (x01.trans x2) (nil_sl _ _)
end
end Go.Proofs.Ytkoaicjcanplaaa
