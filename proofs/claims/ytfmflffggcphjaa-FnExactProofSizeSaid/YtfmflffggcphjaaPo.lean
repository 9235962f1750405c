/- An argument that is a proof, opened. -/
import Derived.Test.YtfmflffggcphjaaFb
import Derived.Test.YtfmflffggcphjaaPa
import Derived.Test.YtfmflffggcphjaaIo
import Derived.WideShapes
namespace Go.Proofs.Ytfmflffggcphjaa
open Go Go.Vc Go.RowKit

section
variable {H : Type} {enc : TypeId × Value → H} {W : World}

theorem open_node (n : Nat) (cs : List Value) (y : DataW H × List MemPlace)
    (ih : ∀ n', n' < n → ∀ cs y, DataW.trod enc Try.prog W 0 (fun _ => true) true n' 32 cs = some y → IsForest plc 2 inI W cs)
    (h : DataW.trod enc Try.prog W 0 (fun _ => true) true n 34 cs = some y) : ∃ x s, cs = plc x ++ [s] ∧ IsForest plc 2 inI W [s] ∧ inI x := by
  obtain ⟨u, s, y0, y1, k, rfl, rfl, g0, g1⟩ := struct2 Try.underlying34 rfl rfl (by kernel_rfl) (by kernel_rfl) (by kernel_rfl) h
  obtain ⟨v, hv, _, hw⟩ := DataW.trod_int Try.underlying3 g0
  simp only [List.cons.injEq, and_true] at hv
  subst hv
  exact ⟨v, s, rfl, ih k (by omega) _ _ g1, inI_wf hw⟩

set_option maxRecDepth 100000 in
theorem open_Proof {r : Reach} {b0 : Nat} {v : Value} {d : DataW H} {ps : List MemPlace} (hval : Value.okWide Try.prog W r b0 34 v)
    (hd : DataW.Trod enc Try.prog W 0 (fun _ => true) true 34 v d ps) : ∃ x s f, v = .agg #[.int .i64 x, s] ∧ PSl anyB W s f ∧ f.All inI ∧ inI x := by
  obtain ⟨cs, rfl⟩ := okWide_struct Try.underlying34 hval
  obtain ⟨fuel, h⟩ := hd
  obtain ⟨x, s, hcs, ⟨s', f, hs', hf, hp⟩, hx⟩ := open_node fuel _ _ (fun n' _ cs y h => forest_of (by decide) Try.underlying32 (by kernel_rfl) (fun n cs y ih h => open_node n cs y ih h) n' _ (Nat.lt_succ_self _) cs y h) h
  simp only [List.cons.injEq, and_true] at hs'
  subst hs'
  refine ⟨x, s, f, ?_, hf, hp, hx⟩
  have : cs.toList = [.int .i64 x, s] := hcs
  rw [← Array.toArray_toList (xs := cs), this]
end

end Go.Proofs.Ytfmflffggcphjaa
