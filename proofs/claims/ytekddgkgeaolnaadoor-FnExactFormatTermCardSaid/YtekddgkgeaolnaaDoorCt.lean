/- Contracts of ConstTerm, VarTerm. (OPTIONAL) -/
import Derived.Test.YtekddgkgeaolnaaDoorMt
import Derived.Test.YtekddgkgeaolnaaDoorWd
namespace Go.Proofs.YtekddgkgeaolnaaDoor
open Go Go.Vc Go.RowKit

def zeroL : Lab := ⟨0, 0, 0, ByteArray.empty⟩
def constL (w n : Int) : Lab := ⟨0, w, n, ByteArray.empty⟩
def varL (w : Int) (s : ByteArray) : Lab := ⟨22, w, 0, s⟩
def constT (w n : Int) : Lab := if wOk w n then constL w n else zeroL
def varT (w : Int) (s : ByteArray) : Lab := if inR w 1 16 && isNm s then varL w s else zeroL

theorem nilS {W : World} : TSl anyB W (.slice none 0 0) .nil := ⟨none, 0, rfl, Nat.zero_le _, .inl rfl⟩

theorem nilSep (W : World) (lo hi : Nat) : TSep W (.slice none 0 0) .nil lo hi := ⟨none, 0, rfl, Nat.zero_le _, .inl rfl⟩

/-- A result that is an aggregate lies in a cell block of its own. -/

theorem res5 {W : World} {v : List Value} (hv : v.length = 5) (h1 : v.all oneB = true) : FreeAll (W.alloc (.cells #[.int .i64 0, .int .i64 0, .int .i64 0, .string ByteArray.empty, .slice none 0 0] 50)) W.heap.size 0 v ∧
    CellsAt (setCells (W.alloc (.cells #[.int .i64 0, .int .i64 0, .int .i64 0, .string ByteArray.empty, .slice none 0 0] 50)) W.heap.size 0 v) W.heap.size 0 v ∧
    Ext W (setCells (W.alloc (.cells #[.int .i64 0, .int .i64 0, .int .i64 0, .string ByteArray.empty, .slice none 0 0] 50)) W.heap.size 0 v) := by
  have r := Rmy.new W [.int .i64 0, .int .i64 0, .int .i64 0, .string ByteArray.empty, .slice none 0 0] 50
  exact ⟨r.all v 0 (by rw [hv]; exact Nat.le_refl _) h1, setCells_at v _ 0 5 r (by rw [hv]; exact Nat.le_refl _), Ext.setCells _ (Ext.new _ _) (Nat.le_refl _)⟩

end Go.Proofs.YtekddgkgeaolnaaDoor
