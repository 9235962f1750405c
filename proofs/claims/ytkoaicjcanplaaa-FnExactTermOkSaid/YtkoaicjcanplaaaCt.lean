/- Contracts of ConstTerm, VarTerm. (OPTIONAL) -/
import Derived.Test.YtkoaicjcanplaaaMt
import Derived.Test.YtkoaicjcanplaaaWd
namespace Go.Proofs.Ytkoaicjcanplaaa
open Go Go.Vc Go.RowKit

def zeroL : Lab := ⟨0, 0, 0, ByteArray.empty⟩
def constL (w n : Int) : Lab := ⟨0, w, n, ByteArray.empty⟩
def varL (w : Int) (s : ByteArray) : Lab := ⟨22, w, 0, s⟩
def constT (w n : Int) : Lab := if wOk w n then constL w n else zeroL
def varT (w : Int) (s : ByteArray) : Lab := if inR w 1 16 && isNm s then varL w s else zeroL

theorem nilS {W : World} : TSl anyB W (.slice none 0 0) .nil := ⟨none, 0, rfl, Nat.zero_le _, .inl rfl⟩

theorem nilSep (W : World) (lo hi : Nat) : TSep W (.slice none 0 0) .nil lo hi := ⟨none, 0, rfl, Nat.zero_le _, .inl rfl⟩

/-- A result that is an aggregate lies in a cell block of its own. -/

theorem res5 {W : World} {v : List Value} (hv : v.length = 5) (h1 : v.all oneB = true) : FreeAll (W.alloc (.cells #[.int .i64 0, .int .i64 0, .int .i64 0, .string ByteArray.empty, .slice none 0 0] 25)) W.heap.size 0 v ∧
    CellsAt (setCells (W.alloc (.cells #[.int .i64 0, .int .i64 0, .int .i64 0, .string ByteArray.empty, .slice none 0 0] 25)) W.heap.size 0 v) W.heap.size 0 v ∧
    Ext W (setCells (W.alloc (.cells #[.int .i64 0, .int .i64 0, .int .i64 0, .string ByteArray.empty, .slice none 0 0] 25)) W.heap.size 0 v) := by
  have r := Rmy.new W [.int .i64 0, .int .i64 0, .int .i64 0, .string ByteArray.empty, .slice none 0 0] 25
  exact ⟨r.all v 0 (by rw [hv]; exact Nat.le_refl _) h1, setCells_at v _ 0 5 r (by rw [hv]; exact Nat.le_refl _), Ext.setCells _ (Ext.new _ _) (Nat.le_refl _)⟩

theorem l02Const_ret (w n : Int) (W : World) : Ret Try.prog 103 #[.int .i64 w, .int .i64 n] W (fun v w' => v = tv (constL w n) (.slice none 0 0) ∧ Ext W w') := by
  refine ret_of_vc ties mixed Try.func103 rfl (by kernel_rfl) rfl rfl ?_
  obtain ⟨h1, h2, h3⟩ := res5 (W := W) (v := [.int .i64 0, .int .i64 w, .int .i64 n, .string ByteArray.empty, .slice none 0 0]) rfl rfl
  exact ⟨h1, _, rfl, h2, rfl, h3⟩

theorem impl_ConstTerm (w n : Int) (W : World) : Ret Try.prog 27 #[.int .i64 w, .int .i64 n] W (fun v w' => v = tv (constT w n) (.slice none 0 0) ∧ Ext W w') := by
  refine ret_of_vc ties mixed Try.func27 rfl (by kernel_rfl) rfl rfl ?_
  refine Or.inl ((impl_WordOk _ _ _).mono ?_)
  rintro _ w2 ⟨rfl, e⟩
  subst e
  refine br_not (fun h => ?_) (fun h => ?_)
  · obtain ⟨h1, h2, h3⟩ := res5 (W := W) (v := [.int .i64 0, .int .i64 0, .int .i64 0, .string ByteArray.empty, .slice none 0 0]) rfl rfl
    exact ⟨h1, _, rfl, h2, by rw [show constT w n = zeroL from by simp [constT, h]]; rfl, h3⟩
  · obtain ⟨h1, h2, h3⟩ := res5 (W := W) (v := [.int .i64 0, .int .i64 w, .int .i64 n, .string ByteArray.empty, .slice none 0 0]) rfl rfl
    exact ⟨h1, _, rfl, h2, by rw [show constT w n = constL w n from by simp [constT, h]]; rfl, h3⟩

end Go.Proofs.Ytkoaicjcanplaaa
