/- A copy of a term: its rows lie apart. Terms that a law keeps: a new variable that holds one; the slices of a term stay. -/
import Derived.Test.YtekddgkgeaolnaaMt
import Derived.Test.YtekddgkgeaolnaaTr
import Derived.Test.YtekddgkgeaolnaaCt
namespace Go.Proofs.Ytekddgkgeaolnaa
open Go Go.Vc Go.RowKit
set_option linter.unusedVariables false

abbrev zt : List Value := [.int .i64 0, .int .i64 0, .int .i64 0, .string ByteArray.empty, .slice none 0 0]
end Go.Proofs.Ytekddgkgeaolnaa
namespace Go.Proofs.Ytekddgkgeaolnaa
open Go Go.Vc Go.RowKit
set_option linter.unusedVariables false

/-- The cells of a term. -/
abbrev tc (x : Lab) (s : Value) : List Value := [.int .i64 x.op, .int .i64 x.w, .int .i64 x.n, .string x.name, s]
theorem tc_one {W : World} {x : Lab} {s : Value} {k : TF} {ok : Nat → Prop} (h : TSl ok W s k) : (tc x s).all oneB = true := by
  obtain ⟨a, c, rfl, _⟩ := h
  rfl
/-- A variable that takes a term: alloc, then the store. -/
theorem keep5 {W : World} {x : Lab} {s : Value} (h1 : (tc x s).all oneB = true) : FreeAll (W.alloc (.cells #[.int .i64 0, .int .i64 0, .int .i64 0, .string ByteArray.empty, .slice none 0 0] 25)) W.heap.size 0 (tc x s) ∧
    CellsAt (setCells (W.alloc (.cells #[.int .i64 0, .int .i64 0, .int .i64 0, .string ByteArray.empty, .slice none 0 0] 25)) W.heap.size 0 (tc x s)) W.heap.size 0 (tc x s) ∧
    Ext W (setCells (W.alloc (.cells #[.int .i64 0, .int .i64 0, .int .i64 0, .string ByteArray.empty, .slice none 0 0] 25)) W.heap.size 0 (tc x s)) := res5 rfl h1
theorem TSep.any {W : World} {s : Value} {k : TF} {lo hi : Nat} (h : TSep W s k lo hi) : TSl anyB W s k := h.sl fun _ _ _ => trivial
theorem TSep.ext {W w : World} {s : Value} {k : TF} {lo hi : Nat} (h : TSep W s k lo hi) (hh : hi ≤ W.heap.size) (x : Ext W w) : TSep w s k lo hi := h.keep tlc_len fun b _ hb => x.block b (Nat.lt_of_lt_of_le hb hh)
end Go.Proofs.Ytekddgkgeaolnaa
