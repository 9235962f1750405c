/- Terms: the types that are met; contracts of szTerm, toTerm, eqTerm. -/
import Derived.Test.YtekddgkgeaolnaaTt
import Derived.Test.YtekddgkgeaolnaaFa
import Derived.Test.YtekddgkgeaolnaaIa
namespace Go.Proofs.Ytekddgkgeaolnaa
open Go Go.Vc Go.RowKit

/-- A node of a term without its kids. -/
structure Lab where
  op : Int
  w : Int
  n : Int
  name : ByteArray
  deriving DecidableEq
abbrev TF := Fo Lab
def tlc (v : Lab) : List Value := [.int .i64 v.op, .int .i64 v.w, .int .i64 v.n, .string v.name]
abbrev TSl (ok : Nat → Prop) (w : World) (s : Value) (f : TF) : Prop := Fo.Sl tlc 5 ok w s f
abbrev TAt (ok : Nat → Prop) (w : World) (f : TF) (b o : Nat) : Prop := Fo.At tlc 5 ok w f b o
def anyB : Nat → Prop := fun _ => True

def okL (x : Lab) : Prop := inI x.op ∧ inI x.w ∧ inI x.n ∧ x.name.size ≤ maxLen

/-! the size of an argument -/
def wt : TF → Nat
  | .nil => 0
  | .cons x k r => wt k + wt r + 1 + x.name.size
theorem size_wt : ∀ f : TF, f.size ≤ wt f := by
  intro f
  induction f with
  | nil => exact Nat.le_refl _
  | cons x k r ihk ihr => simp only [wt, Fo.size]; omega
def SzR (n : Nat) (left : Int) (W : World) (v : Value) (w' : World) : Prop := Ext W w' ∧ (v = .int .i64 (-1) ∨ ((n : Int) ≤ left ∧ v = .int .i64 (left - n)))
/-! a copy -/
def freshB (W : World) : Nat → Prop := fun b => W.heap.size ≤ b
theorem freshB_le {W w : World} (h : Ext W w) : ∀ b, freshB w b → freshB W b := fun _ hb => Nat.le_trans h.size hb

theorem tlc_len (x : Lab) : (tlc x).length + 1 = 5 := rfl
theorem copyLab {W3 w5 : World} {B : Nat} {v : Lab} {s' : Value} (r3 : Rmy W3 B 5) (hx5 : Ext (setCells W3 B 0 (tlc v)) w5) : CellsAt (setCells w5 B 4 [s']) B 0 (tlc v ++ [s']) :=
  CellsAt.append (((setCells_at (tlc v) W3 0 5 r3 (by simp [tlc])).ext hx5).keep fun i _ h2 => setCells_other _ _ _ _ fun _ => .inl (by simpa [tlc] using h2)) (setCells_at [s'] w5 4 5 ((Rmy.setCells _ r3).ext hx5) (Nat.le_refl 5))

/-! equality -/
end Go.Proofs.Ytekddgkgeaolnaa
