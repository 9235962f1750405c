/- Arguments that are rows of bytes, opened; facts that the laws of clauses share. -/
import Derived.Test.YtfmflffggcphjaaDu
import Derived.Test.YtfmflffggcphjaaIo
import Derived.Test.YtfmflffggcphjaaEv
namespace Go.Proofs.Ytfmflffggcphjaa.Dr
open Go Go.Vc Go.RowKit Go.Sat
set_option linter.unusedVariables false
section
variable {H : Type} {enc : TypeId × Value → H} {W : World}
theorem node_byte (n : Nat) (cs : List Value) (y : DataW H × List MemPlace) (h : DataW.trod enc Try.prog W 0 (fun _ => true) true n 5 cs = some y) : ∃ x, eU.R (fun _ => True) W x cs ∧ True := by
  obtain ⟨v, hv, _, hw⟩ := DataW.trod_int Try.underlying5 h
  exact ⟨v, hv, trivial⟩
set_option maxRecDepth 100000 in
theorem open_Bytes {r : Reach} {b0 : Nat} {v : Value} {d : DataW H} {ps : List MemPlace} (hval : Value.okWide Try.prog W r b0 22 v)
    (hd : DataW.Trod enc Try.prog W 0 (fun _ => true) true 22 v d ps) : ∃ l, SlR eU allB W v l := by
  obtain ⟨a, len, cap, rfl⟩ := Go.WideShapes.okWide_slice Try.underlying22 hval
  obtain ⟨fuel, h⟩ := hd
  obtain ⟨s, l, h1, h2, h3⟩ := slR_of eU Try.underlying22 (by kernel_rfl) (fun n cs y h => node_byte n cs y h) h
  have h1 : [Value.slice a len cap] = [s] := h1
  cases h1
  exact ⟨l, h2⟩
end
end Go.Proofs.Ytfmflffggcphjaa.Dr
