/- Contracts of OpName and OpOf; for all arguments. (OPTIONAL) -/
import Derived.Test.YtekddgkgeaolnaaWb
namespace Go.Proofs.Ytekddgkgeaolnaa
open Go Go.Vc Go.RowKit

theorem new_cell (w : World) (l : List Value) (t i : Nat) (v : Value) (h : l[i]? = some v) : (w.alloc (.cells l.toArray t)).cell? ⟨w.heap.size, 0 + i * 1, none⟩ = some v := by
  rw [show 0 + i * 1 = i from by omega, World.cell?_alloc_new]
  simpa using h

theorem names_at {n : Nat} (h : n < 17) : (names.map Value.string)[n]? = some (.string (names.getD n ByteArray.empty)) := by
  have : n < names.length := h
  simp [this]

theorem names_at' {n : Nat} (h : n < 16) : ((names.tail).map Value.string)[n]? = some (.string (names.getD (n + 1) ByteArray.empty)) := by
  have : n + 1 < names.length := by show n + 1 < 17; omega
  simp [this]

theorem spec_Names (W : World) : Ret Try.prog 115 #[] W (fun v w' => v = .slice (some ⟨W.heap.size, 0, none⟩) 17 17 ∧ w' = W.alloc (.cells (names.map Value.string).toArray 9)) := by
  refine ret_of_vc ties mixed Try.func115 (args := []) rfl (by kernel_rfl) rfl rfl ?_
  exact ⟨rfl, rfl⟩

theorem spec_OpName (op : Int) (W : World) : Ret Try.prog 95 #[.int .i64 op] W (fun v w' => v = .string (opNm op) ∧ Ext W w') := by
  refine ret_of_vc ties mixed Try.func95 rfl (by kernel_rfl) rfl rfl ?_
  refine Or.inl ((l01In_ret _ _ _ _).mono ?_)
  rintro _ _ ⟨rfl, rfl⟩
  refine br_not (fun h => ?_) (fun h => ?_)
  · exact ⟨vstr (by rw [opNm, h]; rfl), Ext.refl _⟩
  · have h' := inR_iff.1 h
    refine Or.inl ((spec_Names _).mono ?_)
    rintro _ _ ⟨rfl, rfl⟩
    refine ⟨⟨by omega, by omega⟩, _, new_cell _ (names.map Value.string) 9 _ _ (names_at (by omega)), ?_⟩
    exact ⟨vstr (by rw [opNm, if_pos h]), (Ext.refl _).alloc _⟩

/-! the number of a name: the first of the names from k on -/
def opFrom (s : ByteArray) : Nat → Nat → Int
  | 0, _ => 0
  | n + 1, k => if names.getD k ByteArray.empty = s then k else opFrom s n (k + 1)
def opOf (s : ByteArray) : Int := opFrom s 16 1

theorem opNm_at {k : Nat} (hk : k < 16) : opNm ((k + 1 : Nat) : Int) = names.getD (k + 1) ByteArray.empty := by
  rw [opNm, if_pos (inR_iff.2 (by omega))]
  congr 1

theorem opFrom_step {s : ByteArray} {k : Nat} (hk : k < 16) : opFrom s (16 - k) (k + 1) = if names.getD (k + 1) ByteArray.empty = s then ((k + 1 : Nat) : Int) else opFrom s (16 - (k + 1)) (k + 1 + 1) := by
  rw [show 16 - k = (16 - (k + 1)) + 1 from by omega]
  rfl

theorem opFrom_names {s : ByteArray} {k : Nat} (hk : k < 17) : opFrom s (17 - k) k = if names.getD k ByteArray.empty = s then (k : Int) else opFrom s (17 - (k + 1)) (k + 1) := by
  rw [show 17 - k = (17 - (k + 1)) + 1 from by omega]
  rfl

theorem opOf_all (s : ByteArray) : opOf s = opFrom s 17 0 := by
  show opFrom s 16 1 = if names.getD 0 ByteArray.empty = s then ((0 : Nat) : Int) else opFrom s 16 1
  split
  · rename_i h
    subst h
    decide
  · rfl

end Go.Proofs.Ytekddgkgeaolnaa
