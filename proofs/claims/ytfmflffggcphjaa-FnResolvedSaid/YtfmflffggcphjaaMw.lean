/- Rows that the library has written: the shelf's worlds in the words of this calculus; contract of the order of literals. -/
import Derived.Test.YtfmflffggcphjaaMs
import Derived.Sort.Row
import Derived.Sort.Grow
namespace Go.Proofs.Ytfmflffggcphjaa
open Go Go.Vc Go.RowKit Go.Sat
set_option linter.unusedVariables false

abbrev encI (x : Int) : Value := .int .i64 x
theorem holds_own {w : World} {B n cp : Nat} {l : List Int} (h : OwnR eI noB w (.slice (some ⟨B, 0, none⟩) n cp) l) (hl : l.length ≠ 0) : Go.Sort.Holds encI w B 0 l.toArray := by
  intro j hj
  have hj : j < l.length := by simpa using hj
  obtain ⟨b, c', he, h1, h2, h3, h4, h5⟩ := own_at h hj
  cases he
  refine ⟨?_, (h3 (0 + j) (by omega)).2⟩
  rw [bang_getD, List.getD_eq_getElem?_getD, List.getElem?_eq_getElem hj]
  rw [Nat.mul_one] at h5
  exact h5
theorem put_size (w : World) (k B : Nat) (d : Array Int) : (Go.Sort.putRow encI (Go.Sort.ahead w k) B 0 d).heap.size = w.heap.size := by
  simp [Go.Sort.putRow, Go.Sort.mapBlock, Go.Sort.ahead]
theorem put_chg (w : World) (k B : Nat) (d : Array Int) (os : Array Obj) : Chg (fun b => b = B) w (Go.Sort.grow (Go.Sort.putRow encI (Go.Sort.ahead w k) B 0 d) os) := by
  refine ⟨rfl, rfl, rfl, ?_, fun b hb hn => ?_⟩
  · have := put_size w k B d
    simp only [Go.Sort.grow, Array.size_append]
    omega
  · rw [Go.Sort.heap_grow_old _ _ (by rw [put_size]; exact hb)]
    simp only [Go.Sort.putRow, Go.Sort.mapBlock, Go.Sort.ahead]
    rw [Array.getElem?_modify, if_neg (fun e => hn e.symm)]
theorem put_own {w : World} {k B n cp : Nat} {l d : List Int} {os : Array Obj} (h : OwnR eI noB w (.slice (some ⟨B, 0, none⟩) n cp) l) (hl : l.length ≠ 0) (hd : d.length = l.length) :
    OwnR eI noB (Go.Sort.grow (Go.Sort.putRow encI (Go.Sort.ahead w k) B 0 d.toArray) os) (.slice (some ⟨B, 0, none⟩) n cp) d := by
  have hH := holds_own h hl
  have hB : B < w.heap.size := World.block_lt_of_cell? _ _ (hH 0 (by simpa using Nat.pos_of_ne_zero hl)).1
  obtain ⟨a', c', he, h1, h2, h3⟩ := h
  cases he
  obtain ⟨B', hB', hr, _⟩ := h3.resolve_left (by omega)
  cases hB'
  have hBp : B < (Go.Sort.putRow encI (Go.Sort.ahead w k) B 0 d.toArray).heap.size := by rw [put_size]; exact hB
  have hfz : ∀ o, (Go.Sort.grow (Go.Sort.putRow encI (Go.Sort.ahead w k) B 0 d.toArray) os).frozen? ⟨B, o, none⟩ = w.frozen? ⟨B, o, none⟩ := fun o => by
    rw [Go.Sort.frozen?_grow _ _ _ hBp]
    exact Go.Sort.frozen?_mapBlock _ _ _ _
  have hin : ∀ j, j < d.length → (Go.Sort.grow (Go.Sort.putRow encI (Go.Sort.ahead w k) B 0 d.toArray) os).cell? ⟨B, 0 + j, none⟩ = some (encI (d.getD j 0)) := fun j hj => by
    rw [Go.Sort.cell?_grow _ _ _ hBp, Go.Sort.cell?_putRow encI (Go.Sort.ahead w k) B 0 l.toArray d.toArray (Go.Sort.holds_ahead _ _ _ _ _ _ hH) (by simpa using hd) j (by simpa using hj), bang_getD]
  have hout : ∀ o, d.length ≤ o → (Go.Sort.grow (Go.Sort.putRow encI (Go.Sort.ahead w k) B 0 d.toArray) os).cell? ⟨B, o, none⟩ = w.cell? ⟨B, o, none⟩ := fun o ho => by
    rw [Go.Sort.cell?_grow _ _ _ hBp, Go.Sort.cell?_putRow_other _ _ _ _ _ _ (.inr (.inr (by simpa using ho)))]
    rfl
  refine ⟨_, cp, by rw [hd], by omega, h2, .inr ⟨B, rfl, fun i hi => ?_, RAt.of fun i x hx => ?_⟩⟩
  · have hf := hr i hi
    refine ⟨?_, by rw [hfz]; exact hf.2⟩
    by_cases hid : i < d.length
    · exact ⟨_, by rw [← Nat.zero_add i]; exact hin i hid⟩
    · obtain ⟨u, hu⟩ := hf.1
      exact ⟨u, by rw [hout i (by omega)]; exact hu⟩
  · have hil : i < d.length := (List.getElem?_eq_some_iff.1 hx).1
    refine ⟨[encI x], ⟨?_, trivial⟩, rfl⟩
    have := hin i hil
    rw [List.getD_eq_getElem?_getD, hx] at this
    show _ = some (encI x)
    rw [show 0 + i * eI.m = 0 + i from by show 0 + i * 1 = _; omega]
    exact this

/-! the order of literals, for all numbers -/
def avW (x : Int) : Int := if x < 0 then IntKind.i64.wrap (0 - x) else x
def cmpI (x y : Int) : Int := if x < y then -1 else if x > y then 1 else 0
def cfL (x y : Int) : Int := if cmpI (avW x) (avW y) ≠ 0 then cmpI (avW x) (avW y) else cmpI x y
theorem varOfW_ret (x : Int) (W : World) : Ret Try.prog 107 #[.int .i64 x] W (fun v w' => v = .int .i64 (avW x) ∧ W = w') := by
  refine ret_of_vc ties mixed Try.func107 rfl (by kernel_rfl) rfl rfl ?_
  refine br_dec (fun h => ?_) (fun h => ?_)
  · exact ⟨_, rfl, vint (by unfold avW; rw [if_pos h]), rfl⟩
  · exact ⟨vint (by unfold avW; rw [if_neg h]), rfl⟩
theorem isNaN_ret (x : Int) (W : World) : Ret Try.prog 127 #[.int .i64 x] W (fun v w' => v = .bool false ∧ W = w') := by
  refine ret_of_vc ties mixed Try.func127 rfl (by kernel_rfl) rfl rfl ?_
  exact ⟨vbool (by simp), rfl⟩
theorem compare_ret (x y : Int) (W : World) : Ret Try.prog 106 #[.int .i64 x, .int .i64 y] W (fun v w' => v = .int .i64 (cmpI x y) ∧ W = w') := by
  refine ret_of_vc ties mixed Try.func106 rfl (by kernel_rfl) rfl rfl ?_
  refine Or.inl ((isNaN_ret x W).mono ?_)
  rintro _ _ ⟨rfl, rfl⟩
  refine Or.inl ((isNaN_ret y _).mono ?_)
  rintro _ _ ⟨rfl, rfl⟩
  refine br_dec (fun h => ?_) (fun h => ?_)
  · exact ⟨vint (by unfold cmpI; rw [if_pos h]), rfl⟩
  refine br_dec (fun h' => ?_) (fun h' => ?_)
  · exact ⟨vint (by unfold cmpI; rw [if_neg h, if_pos h']), rfl⟩
  · exact ⟨vint (by unfold cmpI; rw [if_neg h, if_neg h']), rfl⟩
theorem order_ret (x y : Int) (W : World) : Ret Try.prog 105 #[.int .i64 x, .int .i64 y] W (fun v w' => v = .int .i64 (cfL x y) ∧ W = w') := by
  refine ret_of_vc ties mixed Try.func105 rfl (by kernel_rfl) rfl rfl ?_
  refine Or.inl ((varOfW_ret x W).mono ?_)
  rintro _ _ ⟨rfl, rfl⟩
  refine Or.inl ((varOfW_ret y _).mono ?_)
  rintro _ _ ⟨rfl, rfl⟩
  refine Or.inl ((compare_ret (avW x) (avW y) _).mono ?_)
  rintro _ _ ⟨rfl, rfl⟩
  refine br_dec (fun h => ?_) (fun h => ?_)
  · exact ⟨vint (by unfold cfL; rw [if_pos h]), rfl⟩
  · refine Or.inl ((compare_ret x y _).mono ?_)
    rintro _ _ ⟨rfl, rfl⟩
    exact ⟨vint (by unfold cfL; rw [if_neg h]), rfl⟩
theorem cfL_lt (x y : Int) : cfL x y < 0 ↔ avW x < avW y ∨ (avW x = avW y ∧ x < y) := by
  unfold cfL cmpI
  split <;> split <;> (try split) <;> omega
theorem avW_ok {x : Int} (h : litOk 400 x = true) : avW x = av x := by
  have := litOk_iff.1 h
  unfold avW av
  split
  · rw [IntWalk.i64_in _ (by omega)]; omega
  · omega

end Go.Proofs.Ytfmflffggcphjaa
