/- Contracts of ConstTerm, VarTerm. (OPTIONAL) -/
import Derived.Test.YtpaccpajkndlhaaMt
import Derived.Test.YtpaccpajkndlhaaWd
namespace Go.Proofs.Ytpaccpajkndlhaa
open Go Go.Vc Go.RowKit

def zeroL : Lab := ⟨0, 0, 0, ByteArray.empty⟩
def constL (w n : Int) : Lab := ⟨0, w, n, ByteArray.empty⟩
def varL (w : Int) (s : ByteArray) : Lab := ⟨22, w, 0, s⟩
def constT (w n : Int) : Lab := if wOk w n then constL w n else zeroL
def varT (w : Int) (s : ByteArray) : Lab := if inR w 1 16 && isNm s then varL w s else zeroL

theorem nilS {W : World} : TSl anyB W (.slice none 0 0) .nil := ⟨none, 0, rfl, Nat.zero_le _, .inl rfl⟩

theorem nilSep (W : World) (lo hi : Nat) : TSep W (.slice none 0 0) .nil lo hi := ⟨none, 0, rfl, Nat.zero_le _, .inl rfl⟩

/-- A result that is an aggregate lies in a cell block of its own. -/

theorem res5 {W : World} {v : List Value} (hv : v.length = 5) (h1 : v.all oneB = true) : FreeAll (W.alloc (.cells #[.int .i64 0, .int .i64 0, .int .i64 0, .string ByteArray.empty, .slice none 0 0] 29)) W.heap.size 0 v ∧
    CellsAt (setCells (W.alloc (.cells #[.int .i64 0, .int .i64 0, .int .i64 0, .string ByteArray.empty, .slice none 0 0] 29)) W.heap.size 0 v) W.heap.size 0 v ∧
    Ext W (setCells (W.alloc (.cells #[.int .i64 0, .int .i64 0, .int .i64 0, .string ByteArray.empty, .slice none 0 0] 29)) W.heap.size 0 v) := by
  have r := Rmy.new W [.int .i64 0, .int .i64 0, .int .i64 0, .string ByteArray.empty, .slice none 0 0] 29
  exact ⟨r.all v 0 (by rw [hv]; exact Nat.le_refl _) h1, setCells_at v _ 0 5 r (by rw [hv]; exact Nat.le_refl _), Ext.setCells _ (Ext.new _ _) (Nat.le_refl _)⟩

theorem l02Const_ret (w n : Int) (W : World) : Ret Try.prog 49 #[.int .i64 w, .int .i64 n] W (fun v w' => v = tv (constL w n) (.slice none 0 0) ∧ Ext W w') := by
  refine ret_of_vc ties mixed Try.func49 rfl (by kernel_rfl) rfl rfl ?_
  obtain ⟨h1, h2, h3⟩ := res5 (W := W) (v := [.int .i64 0, .int .i64 w, .int .i64 n, .string ByteArray.empty, .slice none 0 0]) rfl rfl
  exact ⟨h1, _, rfl, h2, rfl, h3⟩

theorem impl_ConstTerm (w n : Int) (W : World) : Ret Try.prog 20 #[.int .i64 w, .int .i64 n] W (fun v w' => v = tv (constT w n) (.slice none 0 0) ∧ Ext W w') := by
  refine ret_of_vc ties mixed Try.func20 rfl (by kernel_rfl) rfl rfl ?_
  refine Or.inl ((impl_WordOk _ _ _).mono ?_)
  rintro _ w2 ⟨rfl, e⟩
  subst e
  refine br_not (fun h => ?_) (fun h => ?_)
  · obtain ⟨h1, h2, h3⟩ := res5 (W := W) (v := [.int .i64 0, .int .i64 0, .int .i64 0, .string ByteArray.empty, .slice none 0 0]) rfl rfl
    exact ⟨h1, _, rfl, h2, by rw [show constT w n = zeroL from by simp [constT, h]]; rfl, h3⟩
  · obtain ⟨h1, h2, h3⟩ := res5 (W := W) (v := [.int .i64 0, .int .i64 w, .int .i64 n, .string ByteArray.empty, .slice none 0 0]) rfl rfl
    exact ⟨h1, _, rfl, h2, by rw [show constT w n = constL w n from by simp [constT, h]]; rfl, h3⟩

theorem spec_ConstTerm (w n : Int) (W : World) : Ret Try.prog 19 #[.int .i64 w, .int .i64 n] W (fun v w' => v = tv (constT w n) (.slice none 0 0) ∧ Ext W w') := by
  refine ret_of_vc ties mixed Try.func19 rfl (by kernel_rfl) rfl rfl ?_
  refine Or.inl ((spec_WordOk _ _ _).mono ?_)
  rintro _ w2 ⟨rfl, e⟩
  subst e
  refine br_not (fun h => ?_) (fun h => ?_)
  · obtain ⟨h1, h2, h3⟩ := res5 (W := W) (v := [.int .i64 0, .int .i64 0, .int .i64 0, .string ByteArray.empty, .slice none 0 0]) rfl rfl
    exact ⟨h1, _, rfl, h2, by rw [show constT w n = zeroL from by simp [constT, h]]; rfl, h3⟩
  · refine Or.inl ((l02Const_ret _ _ _).mono ?_)
    rintro _ w3 ⟨rfl, hx3⟩
    have r := (Rmy.new W [.int .i64 0, .int .i64 0, .int .i64 0, .string ByteArray.empty, .slice none 0 0] 29).ext hx3
    exact ⟨r.all [.int .i64 0, .int .i64 w, .int .i64 n, .string ByteArray.empty, .slice none 0 0] 0 (Nat.le_refl 5) rfl, _, rfl, setCells_at [.int .i64 0, .int .i64 w, .int .i64 n, .string ByteArray.empty, .slice none 0 0] _ 0 5 r (Nat.le_refl 5), by rw [show constT w n = constL w n from by simp [constT, h]]; rfl, Ext.setCells _ ((Ext.new _ _).trans hx3) (Nat.le_refl _)⟩

theorem impl_VarTerm (w : Int) (s : ByteArray) (hs : s.size ≤ 9223372036854775807) (W : World) : Ret Try.prog 29 #[.int .i64 w, .string s] W (fun v w' => v = tv (varT w s) (.slice none 0 0) ∧ Ext W w') := by
  have zero : inR w 1 16 = false ∨ isNm s = false → varT w s = zeroL := fun h => by unfold varT; rcases h with h | h <;> simp [h]
  refine ret_of_vc ties mixed Try.func29 rfl (by kernel_rfl) rfl rfl ?_
  refine Or.inl ((isWidth_ret _ _).mono ?_)
  rintro _ w2 ⟨rfl, e⟩
  subst e
  refine br_not (fun h => ?_) (fun h => ?_)
  · obtain ⟨h1, h2, h3⟩ := res5 (W := W) (v := [.int .i64 0, .int .i64 0, .int .i64 0, .string ByteArray.empty, .slice none 0 0]) rfl rfl
    exact ⟨h1, _, rfl, h2, by rw [zero (.inl h)]; rfl, h3⟩
  refine Or.inl ((impl_IsName _ hs _).mono ?_)
  rintro _ w2 ⟨rfl, e⟩
  subst e
  refine br_not (fun h' => ?_) (fun h' => ?_)
  · obtain ⟨h1, h2, h3⟩ := res5 (W := W) (v := [.int .i64 0, .int .i64 0, .int .i64 0, .string ByteArray.empty, .slice none 0 0]) rfl rfl
    exact ⟨h1, _, rfl, h2, by rw [zero (.inr h')]; rfl, h3⟩
  · obtain ⟨h1, h2, h3⟩ := res5 (W := W) (v := [.int .i64 22, .int .i64 w, .int .i64 0, .string s, .slice none 0 0]) rfl rfl
    exact ⟨h1, _, rfl, h2, by rw [show varT w s = varL w s from by simp [varT, h, h']]; rfl, h3⟩

theorem spec_VarTerm (w : Int) (s : ByteArray) (hs : s.size ≤ 9223372036854775807) (W : World) : Ret Try.prog 28 #[.int .i64 w, .string s] W (fun v w' => v = tv (varT w s) (.slice none 0 0) ∧ Ext W w') := by
  have zero : inR w 1 16 = false ∨ isNm s = false → varT w s = zeroL := fun h => by unfold varT; rcases h with h | h <;> simp [h]
  refine ret_of_vc ties mixed Try.func28 rfl (by kernel_rfl) rfl rfl ?_
  refine Or.inl ((l01In_ret _ _ _ _).mono ?_)
  rintro _ w2 ⟨rfl, e⟩
  subst e
  refine br_not (fun h => ?_) (fun h => ?_)
  · obtain ⟨h1, h2, h3⟩ := res5 (W := W) (v := [.int .i64 0, .int .i64 0, .int .i64 0, .string ByteArray.empty, .slice none 0 0]) rfl rfl
    exact ⟨h1, _, rfl, h2, by rw [zero (.inl h)]; rfl, h3⟩
  refine Or.inl ((spec_IsName _ hs _).mono ?_)
  rintro _ w2 ⟨rfl, e⟩
  subst e
  refine br_not (fun h' => ?_) (fun h' => ?_)
  · obtain ⟨h1, h2, h3⟩ := res5 (W := W) (v := [.int .i64 0, .int .i64 0, .int .i64 0, .string ByteArray.empty, .slice none 0 0]) rfl rfl
    exact ⟨h1, _, rfl, h2, by rw [zero (.inr h')]; rfl, h3⟩
  · obtain ⟨h1, h2, h3⟩ := res5 (W := W) (v := [.int .i64 22, .int .i64 w, .int .i64 0, .string s, .slice none 0 0]) rfl rfl
    exact ⟨h1, _, rfl, h2, by rw [show varT w s = varL w s from by simp [varT, h, h']]; rfl, h3⟩

end Go.Proofs.Ytpaccpajkndlhaa
