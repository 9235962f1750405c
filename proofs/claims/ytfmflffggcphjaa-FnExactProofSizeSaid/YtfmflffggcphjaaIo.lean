/- Arguments that are rows of numbers or of truths, or formulas, opened. -/
import Derived.Test.YtfmflffggcphjaaIb
import Derived.WideShapes
namespace Go.Proofs.Ytfmflffggcphjaa
open Go Go.Vc Go.RowKit

theorem inI_wf {n : Int} (h : (Lit.int .i64 n).wf = true) : inI n := by
  simp only [Lit.wf, Bool.and_eq_true, decide_eq_true_eq] at h
  exact h

section
variable {H : Type} {enc : TypeId × Value → H} {W : World}
theorem node_int (n : Nat) (cs : List Value) (y : DataW H × List MemPlace) (h : DataW.trod enc Try.prog W 0 (fun _ => true) true n 3 cs = some y) : ∃ x, eI.R (fun _ => True) W x cs ∧ inI x := by
  obtain ⟨v, hv, _, hw⟩ := DataW.trod_int Try.underlying3 h
  exact ⟨v, hv, inI_wf hw⟩
theorem node_bool (n : Nat) (cs : List Value) (y : DataW H × List MemPlace) (h : DataW.trod enc Try.prog W 0 (fun _ => true) true n 4 cs = some y) : ∃ x, eB.R (fun _ => True) W x cs ∧ True := by
  obtain ⟨v, hv, _⟩ := DataW.trod_bool Try.underlying4 h
  exact ⟨v, hv, trivial⟩
theorem node_ints (n : Nat) (cs : List Value) (y : DataW H × List MemPlace) (h : DataW.trod enc Try.prog W 0 (fun _ => true) true n 27 cs = some y) : ∃ l, eL.R (fun _ => True) W l cs ∧ ∀ x ∈ l, inI x := by
  obtain ⟨s, l, h1, h2, h3⟩ := slR_of eI Try.underlying27 (by kernel_rfl) (fun n cs y h => node_int n cs y h) h
  exact ⟨l, ⟨s, h1, h2⟩, h3⟩

set_option maxRecDepth 100000 in
theorem open_Ints {r : Reach} {b0 : Nat} {v : Value} {d : DataW H} {ps : List MemPlace} (hval : Value.okWide Try.prog W r b0 27 v)
    (hd : DataW.Trod enc Try.prog W 0 (fun _ => true) true 27 v d ps) : ∃ l, SlR eI allB W v l ∧ ∀ x ∈ l, inI x := by
  obtain ⟨a, len, cap, rfl⟩ := Go.WideShapes.okWide_slice Try.underlying27 hval
  obtain ⟨fuel, h⟩ := hd
  obtain ⟨s, l, h1, h2, h3⟩ := slR_of eI Try.underlying27 (by kernel_rfl) (fun n cs y h => node_int n cs y h) h
  have h1 : [Value.slice a len cap] = [s] := h1
  cases h1
  exact ⟨l, h2, h3⟩
set_option maxRecDepth 100000 in
theorem open_Bools {r : Reach} {b0 : Nat} {v : Value} {d : DataW H} {ps : List MemPlace} (hval : Value.okWide Try.prog W r b0 54 v)
    (hd : DataW.Trod enc Try.prog W 0 (fun _ => true) true 54 v d ps) : ∃ l, SlR eB allB W v l := by
  obtain ⟨a, len, cap, rfl⟩ := Go.WideShapes.okWide_slice Try.underlying54 hval
  obtain ⟨fuel, h⟩ := hd
  obtain ⟨s, l, h1, h2, h3⟩ := slR_of eB Try.underlying54 (by kernel_rfl) (fun n cs y h => node_bool n cs y h) h
  have h1 : [Value.slice a len cap] = [s] := h1
  cases h1
  exact ⟨l, h2⟩

set_option maxRecDepth 100000 in
theorem open_Formula {r : Reach} {b0 : Nat} {v : Value} {d : DataW H} {ps : List MemPlace} (hval : Value.okWide Try.prog W r b0 48 v)
    (hd : DataW.Trod enc Try.prog W 0 (fun _ => true) true 48 v d ps) : ∃ n s F, v = fv n s ∧ SlR eL allB W s F ∧ inI n := by
  obtain ⟨cs, rfl⟩ := okWide_struct Try.underlying48 hval
  obtain ⟨fuel, h⟩ := hd
  obtain ⟨u, s, y0, y1, k, rfl, hcs, g0, g1⟩ := struct2 Try.underlying48 rfl rfl (by kernel_rfl) (by kernel_rfl) (by kernel_rfl) h
  obtain ⟨n, hv, _, hw⟩ := DataW.trod_int Try.underlying3 g0
  simp only [List.cons.injEq, and_true] at hv
  subst hv
  obtain ⟨s', F, h1, h2, h3⟩ := slR_of eL Try.underlying23 (by kernel_rfl) (fun n cs y h => node_ints n cs y h) g1
  simp only [List.cons.injEq, and_true] at h1
  subst h1
  refine ⟨n, s, F, ?_, h2, inI_wf hw⟩
  have : cs.toList = [.int .i64 n, s] := hcs
  rw [← Array.toArray_toList (xs := cs), this]
end

end Go.Proofs.Ytfmflffggcphjaa
