/- AllOf: both contracts. -/
import Derived.Test.YtkoaicjcanplaaaGreatN7
namespace Go.Proofs.YtkoaicjcanplaaaGreat
open Go Go.Vc Go.RowKit
set_option linter.unusedVariables false

noncomputable def accO : Tm → List Tm → Option Tm
  | acc, [] => some acc
  | acc, t :: l => match mkO (mkn 8 1 0, mkTF [acc, t]) with
    | none => none
    | some u => accO u l
def allP (l : List Tm) : Prop := ∀ t ∈ l, TOk t.1 t.2 ∧ t.1.w = 1
noncomputable def allO (l : List Tm) : Option Tm := @ite _ (allP l) (Classical.propDecidable _) (accO (conT 1 1) l) none
theorem allO_yes {l : List Tm} (h : allP l) : allO l = accO (conT 1 1) l := by unfold allO; exact if_pos h
theorem allO_no {l : List Tm} (h : ¬ allP l) : allO l = none := by unfold allO; exact if_neg h
theorem accO_sz : ∀ (l : List Tm) (acc u : Tm), acc.2.size ≤ 240 → accO acc l = some u → u.2.size ≤ 240
  | [], acc, u, h, e => by rw [accO] at e; rw [← Option.some.inj e]; exact h
  | t :: l, acc, u, h, e => by
    rw [accO] at e
    cases hm : mkO (mkn 8 1 0, mkTF [acc, t]) with
    | none => rw [hm] at e; cases e
    | some v => rw [hm] at e; exact accO_sz l v u (mkO_sz hm).1 e
theorem allO_sz (l : List Tm) : ((allO l).getD zeroT).2.size ≤ 240 := by
  by_cases h : allP l
  · rw [allO_yes h]
    cases he : accO (conT 1 1) l with
    | none => exact Nat.zero_le _
    | some u => exact accO_sz l _ u (Nat.zero_le _) he
  · rw [allO_no h]; exact Nat.zero_le _
theorem accO_at {l : List Tm} {i : Nat} {t acc : Tm} (h : l[i]? = some t) : accO acc (l.drop i) = match mkO (mkn 8 1 0, mkTF [acc, t]) with | none => none | some u => accO u (l.drop (i + 1)) := by
  obtain ⟨hi, e⟩ := List.getElem?_eq_some_iff.1 h
  rw [List.drop_eq_getElem_cons hi, accO, e]
theorem mkT2 {ok : Nat → Prop} {w : World} {a b : Tm} {sa sb : Value} (h : TSl ok w sa a.2) (h' : TSl ok w sb b.2) : Ext w (w.alloc (.cells (tc a.1 sa ++ tc b.1 sb).toArray 30)) ∧
    TSl (fun q => ok q ∨ q = w.heap.size) (w.alloc (.cells (tc a.1 sa ++ tc b.1 sb).toArray 30)) (.slice (some ⟨w.heap.size, 0, none⟩) 2 2) (mkTF [a, b]) := by
  have x : Ext w (w.alloc (.cells (tc a.1 sa ++ tc b.1 sb).toArray 30)) := Ext.new _ _
  have hc := (boxedAll w (tc a.1 sa ++ tc b.1 sb) 30).split
  have h1 : TSl (fun q => ok q ∨ q = w.heap.size) (w.alloc (.cells (tc a.1 sa ++ tc b.1 sb).toArray 30)) sa a.2 := (h.ext x).mono fun q hq => .inl hq
  have h2 : TSl (fun q => ok q ∨ q = w.heap.size) (w.alloc (.cells (tc a.1 sa ++ tc b.1 sb).toArray 30)) sb b.2 := (h'.ext x).mono fun q hq => .inl hq
  exact ⟨x, some ⟨w.heap.size, 0, none⟩, 2, rfl, by show 2 ≤ maxLen; decide, .inr ⟨w.heap.size, 0, rfl, .inr rfl, at1 hc.1 h1 (at1 hc.2 h2 trivial)⟩⟩
/-- A new variable, made at any time, that takes a term. -/
theorem term_made {B : Nat} {w9 w10 : World} {t : Tm} {s : Value} {ok : Nat → Prop} (hm : Made (.cells z5.toArray 30) B w10) (hs : TSl ok w9 s t.2) (hx : Ext w9 w10) (hok : ∀ b, ok b → b ≠ B) :
    FreeAll w10 B 0 (tc t.1 s) ∧ Chg (fun b => b = B) w10 (setCells w10 B 0 (tc t.1 s)) ∧ ∀ w11, Ext (setCells w10 B 0 (tc t.1 s)) w11 → CellsAt w11 B 0 (tc t.1 s) ∧ TSl ok w11 s t.2 := by
  have hr := hm.rmy (l := z5)
  have hch : Chg (fun b => b = B) w10 (setCells w10 B 0 (tc t.1 s)) := Chg.setCells (S := fun b => b = B) rfl _ _ _
  refine ⟨hr.all _ 0 (Nat.le_refl 5) (tc_one hs), hch, fun w11 x11 => ⟨(setCells_at (tc t.1 s) _ 0 5 hr (Nat.le_refl 5)).ext x11, ?_⟩⟩
  exact Fo.Sl.ext x11 (Fo.Sl.chg (fun b hb e => hok b hb e) hch (Fo.Sl.ext hx hs))
/-- What the loop holds: the accumulator in its variable, the row apart. -/
structure AccJ (W : World) (l : List Tm) (A B i : Nat) (w : World) : Prop where
  ext : Ext W w
  ra : Rmy w A 5
  rb : Rmy w B 5
  lt : A < w.heap.size ∧ B < w.heap.size ∧ A ≠ B
  le : i ≤ l.length
  acc : ∃ (acc : Tm) (sa : Value), CellsAt w A 0 (tc acc.1 sa) ∧ TSl (fun b => b ≠ A ∧ b ≠ B) w sa acc.2 ∧ OkT acc ∧ accO (conT 1 1) l = accO acc (l.drop i)
theorem AccJ.fin {W w : World} {l : List Tm} {A B : Nat} (h : AccJ W l A B l.length w) (hall : allP l) (hB : W.heap.size ≤ B) : ∃ (acc : Tm) (sa : Value), CellsAt w A 0 (tc acc.1 sa) ∧ (tc acc.1 sa).all oneB = true ∧ FreeAll w B 0 (tc acc.1 sa) ∧ ∃ vs, vs.length = 5 ∧ CellsAt (setCells w B 0 (tc acc.1 sa)) B 0 vs ∧ FirR anyB (allO l).isSome ((allO l).getD zeroT) W (.tuple #[.agg vs.toArray, .bool true]) (setCells w B 0 (tc acc.1 sa)) := by
  obtain ⟨acc, sa, h1, h2, h3, h4⟩ := h.acc
  have e : allO l = some acc := by rw [allO_yes hall, h4, List.drop_length]; rfl
  rw [e]
  have h5 := fin5t (ok := anyB) (y := acc.1) (k := acc.2) true h.rb hB h.ext (h2.mono fun b hb => ⟨hb.2, .inl trivial⟩)
  exact ⟨acc, sa, h1, tc_one h2, h5⟩
section
variable (k : TF) (s : Value) (W : World) (hs : TSl anyB W s k) (hp : k.All okL)
include hs hp
end
end Go.Proofs.YtkoaicjcanplaaaGreat
