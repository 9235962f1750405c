/- MakeTerm: both contracts; makeTerm. -/
import Derived.Test.YtkoaicjcanplaaaGreatU9
namespace Go.Proofs.YtkoaicjcanplaaaGreat
open Go Go.Vc Go.RowKit
set_option linter.unusedVariables false

noncomputable def mkO (t : Tm) : Option Tm := @ite _ (TOk t.1 t.2) (Classical.propDecidable _) (some (red t)) none
theorem mkO_yes {x : Lab} {k : TF} (h : TOk x k) : mkO (x, k) = some (red (x, k)) := by unfold mkO; exact if_pos h
theorem mkO_no {x : Lab} {k : TF} (h : ¬ TOk x k) : mkO (x, k) = none := by unfold mkO; exact if_neg h
theorem okL_node {x : Lab} {l : List Lab} (h : NodeOk x l) : okL x := by
  have h1 := h.op
  have h2 := h.width
  refine ⟨⟨by omega, by omega⟩, ⟨by omega, by omega⟩, nin h, ?_⟩
  by_cases h22 : x.op = 22
  · have h3 := (of_decide_eq_true (h.name h22)).2.1
    have : (8 : Nat) ≤ maxLen := by decide
    omega
  · rw [h.noname h22]; exact Nat.zero_le _
theorem okL_F : ∀ {k : TF}, OkF k → k.All okL
  | .nil, _ => trivial
  | .cons _ _ _, ⟨⟨h1, h2⟩, h3⟩ => ⟨okL_node h1, okL_F h2, okL_F h3⟩
theorem okL_T {t : Tm} (h : OkT t) : okL t.1 ∧ t.2.All okL := ⟨okL_node h.1, okL_F h.2⟩
theorem okL_mk : ∀ {l : List Tm}, (∀ t ∈ l, okL t.1 ∧ t.2.All okL) → (mkTF l).All okL
  | [], _ => trivial
  | t :: l, h => ⟨(h t (by simp)).1, (h t (by simp)).2, okL_mk fun u hu => h u (by simp [hu])⟩
theorem red_sz {x : Lab} {k : TF} (h : TOk x k) : (red (x, k)).2.size ≤ 240 := by
  have h1 := (red_keeps (tok_okT h)).sz
  have h2 : Tm.sz (red (x, k)) = (red (x, k)).2.size + 1 := rfl
  have h3 : Tm.sz (x, k) = k.size + 1 := rfl
  have := h.1
  omega
theorem mkO_sz {t u : Tm} (h : mkO t = some u) : u.2.size ≤ 240 ∧ OkT u := by
  by_cases ht : TOk t.1 t.2
  · rw [show mkO t = _ from mkO_yes (x := t.1) (k := t.2) ht] at h
    rw [← Option.some.inj h]
    exact ⟨red_sz ht, (red_keeps (tok_okT ht)).ok⟩
  · rw [show mkO t = _ from mkO_no (x := t.1) (k := t.2) ht] at h
    cases h
theorem mkOd_sz (t : Tm) : ((mkO t).getD zeroT).2.size ≤ 240 := by
  cases h : mkO t with
  | none => exact Nat.zero_le _
  | some u => exact (mkO_sz h).1
/-- A pair of a term that lies apart and a bool. -/
def CFir (bb : Bool) (t : Tm) (W : World) (v : Value) (w : World) : Prop := ∃ v1, v = .tuple #[v1, .bool bb] ∧ CRes t W v1 w
theorem fin6t {t : Tm} {W w : World} {B : Nat} {s : Value} (bb : Bool) (hr : Rmy w B 5) (hB : W.heap.size ≤ B) (hx : Ext W w) {lo : Nat} (hlo : B < lo) (hs : TSep w s t.2 lo w.heap.size) :
    FreeAll w B 0 (tc t.1 s) ∧ ∃ vs, vs.length = 5 ∧ CellsAt (setCells w B 0 (tc t.1 s)) B 0 vs ∧ CFir bb t W (.tuple #[.agg vs.toArray, .bool bb]) (setCells w B 0 (tc t.1 s)) := by
  obtain ⟨h1, vs, h2, h3, h4⟩ := fin6 hr hB hx hlo hs
  exact ⟨h1, vs, h2, h3, _, rfl, h4⟩
def noF : Nat → Prop := fun _ => False
theorem fin8t {t : Tm} {W w : World} {B : Nat} {s : Value} (bb : Bool) (hr : Rmy w B 5) (hB : W.heap.size ≤ B) (hx : Ext W w) (hs : TSl (fun b => B < b) w s t.2) :
    FreeAll w B 0 (tc t.1 s) ∧ ∃ vs, vs.length = 5 ∧ CellsAt (setCells w B 0 (tc t.1 s)) B 0 vs ∧ FirR noF bb t W (.tuple #[.agg vs.toArray, .bool bb]) (setCells w B 0 (tc t.1 s)) := by
  have hch : Chg (fun b => b = B) w (setCells w B 0 (tc t.1 s)) := Chg.setCells (S := fun b => b = B) rfl _ _ _
  refine ⟨hr.all _ 0 (Nat.le_refl 5) (tc_one hs), tc t.1 s, rfl, setCells_at _ _ 0 5 hr (Nat.le_refl 5), _, rfl, hx.chg hch (fun b hb => by rw [hb]; exact hB), s, rfl, ?_⟩
  exact (Fo.Sl.chg (fun b hb => by omega) hch hs).mono fun b hb => .inr (by omega)
theorem FirR.mono {ok ok' : Nat → Prop} {bb : Bool} {t : Tm} {W w : World} {v : Value} (h : FirR ok bb t W v w) (hk : ∀ b, ok b → ok' b) : FirR ok' bb t W v w := by
  obtain ⟨v1, rfl, x, s, rfl, hs⟩ := h
  exact ⟨_, rfl, x, s, rfl, hs.mono fun b hb => hb.imp (hk b) id⟩
theorem okL_mkn {op w n : Int} (ho : inI op ∧ inI w ∧ inI n) : okL (mkn op w n) := ⟨ho.1, ho.2.1, ho.2.2, Nat.zero_le _⟩
section
variable (op w n : Int) (k : TF) (s : Value) (W : World) (ho : inI op ∧ inI w ∧ inI n) (hp : k.All okL)
include ho hp
end
end Go.Proofs.YtkoaicjcanplaaaGreat
