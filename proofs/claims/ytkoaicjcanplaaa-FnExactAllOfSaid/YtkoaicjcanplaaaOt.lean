/- An argument that is a row of terms, opened. -/
import Derived.Test.YtkoaicjcanplaaaTo
namespace Go.Proofs.Ytkoaicjcanplaaa
open Go Go.Vc Go.RowKit
section
variable {H : Type} {enc : TypeId × Value → H} {W : World}
set_option maxRecDepth 100000 in
theorem open_Terms {r : Reach} {b0 : Nat} {v : Value} {d : DataW H} {ps : List MemPlace} (hval : Value.okWide Try.prog W r b0 41 v)
    (hd : DataW.Trod enc Try.prog W 0 (fun _ => true) true 41 v d ps) : ∃ f, TSl anyB W v f ∧ f.All okL := by
  obtain ⟨a, len, cap, rfl⟩ := Go.WideShapes.okWide_slice Try.underlying41 hval
  obtain ⟨fuel, h⟩ := hd
  obtain ⟨s, f, hcs, hf, hp⟩ := forest_of (by decide) Try.underlying41 (by kernel_rfl) (fun n cs y ih h => open_node n cs y ih h) fuel _ (Nat.lt_succ_self _) _ _ h
  have hcs : [Value.slice a len cap] = [s] := hcs
  cases hcs
  exact ⟨f, hf, hp⟩
end
end Go.Proofs.Ytkoaicjcanplaaa
