/- What the head of the translation says, told once for all the laws of this seat. -/
import Derived.Test.YtfmflffggcphjaaRows
import Derived.JoinedOf
import Derived.KernelRfl
namespace Go.Proofs.Ytfmflffggcphjaa
open Go

theorem words_app : ∀ (w r : List Char), w.all (fun c => !(c == ' ')) = true → wordsSigns (w ++ ' ' :: r) = w :: wordsSigns r := by
  intro w
  induction w with
  | nil => intro r _; rfl
  | cons c w ih =>
    intro r h
    simp only [List.all_cons, Bool.and_eq_true, Bool.not_eq_true', beq_eq_false_iff_ne] at h
    have := ih r h.2
    rw [List.cons_append, wordsSigns]
    · rw [this]
    · exact fun e => h.1 e

def head0 : List Char := ['h', 'a', 'r', 'n', 'e', 's', 's']
def head1 : List Char := ['7', 'f', 'f', 'b', '8', '0', '6', '2', '8', 'c', 'd', 'f', 'e', '2', 'e', '0', '1', '8', '2', '4', '5', '2', 'a', '6', 'd', '0', '6', '4', '8', 'd', '2', '6', '2', '4', 'b', '5', 'd', 'f', 'd', '2', '1', '7', '1', '9', '0', '0', 'c', '0', '2', '7', '4', 'a', 'b', '2', '7', 'e', '7', '6', 'd', 'e', '9', 'f', '3', 'b']
def head2 : List Char := ['c', 'u', 't']
def head3 : List Char := ['a', 't', ' ', 'l', 'o', 'o', 'p', '.', 'e', 'x', 'a', 'm', 'p', 'l', 'e', '/', 'g', '0', '3', '2', '1', '9', '/', 'l', 'a', 'w', 's', '.', 'F', 'n', 'C', 'o', 'r', 'e', 's', ' ', 'l', 'o', 'o', 'p', '.', 'e', 'x', 'a', 'm', 'p', 'l', 'e', '/', 'g', '0', '3', '2', '1', '9', '/', 'l', 'a', 'w', 's', '.', 'F', 'n', 'E', 'x', 'a', 'c', 't', 'P', 'r', 'o', 'o', 'f', 'S', 'i', 'z', 'e', ' ', 'l', 'o', 'o', 'p', '.', 'e', 'x', 'a', 'm', 'p', 'l', 'e', '/', 'g', '0', '3', '2', '1', '9', '/', 'l', 'a', 'w', 's', '.', 'F', 'n', 'P', 'r', 'o', 'o', 'f', 's', ' ', 'l', 'o', 'o', 'p', '.', 'e', 'x', 'a', 'm', 'p', 'l', 'e', '/', 'g', '0', '3', '2', '1', '9', '/', 'l', 'a', 'w', 's', '.', 'F', 'n', 'E', 'x', 'a', 'c', 't', 'F', 'o', 'r', 'm', 'u', 'l', 'a', 'O', 'k', ' ', 'l', 'o', 'o', 'p', '.', 'e', 'x', 'a', 'm', 'p', 'l', 'e', '/', 'g', '0', '3', '2', '1', '9', '/', 'l', 'a', 'w', 's', '.', 'F', 'n', 'E', 'x', 'a', 'c', 't', 'E', 'v', 'a', 'l', 'F', 'o', 'r', 'm', 'u', 'l', 'a', ' ', 'l', 'o', 'o', 'p', '.', 'e', 'x', 'a', 'm', 'p', 'l', 'e', '/', 'g', '0', '3', '2', '1', '9', '/', 'l', 'a', 'w', 's', '.', 'F', 'n', 'E', 'x', 'a', 'c', 't', 'C', 'o', 'u', 'n', 't', 'M', 'o', 'd', 'e', 'l', 's', ' ', 'l', 'o', 'o', 'p', '.', 'e', 'x', 'a', 'm', 'p', 'l', 'e', '/', 'g', '0', '3', '2', '1', '9', '/', 'l', 'a', 'w', 's', '.', 'F', 'n', 'P', 'r', 'o', 'p', 'a', 'g', 'a', 't', 'e', ' ', 'l', 'o', 'o', 'p', '.', 'e', 'x', 'a', 'm', 'p', 'l', 'e', '/', 'g', '0', '3', '2', '1', '9', '/', 'l', 'a', 'w', 's', '.', 'F', 'n', 'E', 'x', 'a', 'c', 't', 'P', 'r', 'o', 'p', 'a', 'g', 'a', 't', 'e', ' ', 'l', 'o', 'o', 'p', '.', 'e', 'x', 'a', 'm', 'p', 'l', 'e', '/', 'g', '0', '3', '2', '1', '9', '/', 'l', 'a', 'w', 's', '.', 'F', 'n', 'S', 'e', 'a', 'r', 'c', 'h', ' ', 'l', 'o', 'o', 'p', '.', 'e', 'x', 'a', 'm', 'p', 'l', 'e', '/', 'g', '0', '3', '2', '1', '9', '/', 'l', 'a', 'w', 's', '.', 'F', 'n', 'E', 'x', 'a', 'c', 't', 'C', 'h', 'e', 'c', 'k', 'P', 'r', 'o', 'o', 'f', ' ', 'l', 'o', 'o', 'p', '.', 'e', 'x', 'a', 'm', 'p', 'l', 'e', '/', 'g', '0', '3', '2', '1', '9', '/', 'l', 'a', 'w', 's', '.', 'F', 'n', 'E', 'x', 'a', 'c', 't', 'I', 'm', 'p', 'l', 'i', 'e', 'd', ' ', 'l', 'o', 'o', 'p', '.', 'e', 'x', 'a', 'm', 'p', 'l', 'e', '/', 'g', '0', '3', '2', '1', '9', '/', 'l', 'a', 'w', 's', '.', 'F', 'n', 'E', 'x', 'a', 'c', 't', 'S', 'e', 'a', 'r', 'c', 'h', ' ', 'l', 'o', 'o', 'p', '.', 'e', 'x', 'a', 'm', 'p', 'l', 'e', '/', 'g', '0', '3', '2', '1', '9', '/', 'l', 'a', 'w', 's', '.', 'F', 'n', 'E', 'x', 'a', 'c', 't', 'P', 'r', 'o', 'o', 'f', 'O', 'f', ' ', 'l', 'o', 'o', 'p', '.', 'e', 'x', 'a', 'm', 'p', 'l', 'e', '/', 'g', '0', '3', '2', '1', '9', '/', 'l', 'a', 'w', 's', '.', 'F', 'n', 'E', 'x', 'a', 'c', 't', 'C', 'o', 'r', 'e', 'O', 'f', ' ', 'l', 'o', 'o', 'p', '.', 'e', 'x', 'a', 'm', 'p', 'l', 'e', '/', 'g', '0', '3', '2', '1', '9', '/', 'l', 'a', 'w', 's', '.', 'F', 'n', 'E', 'x', 'a', 'c', 't', 'T', 'r', 'i', 'm', 'P', 'r', 'o', 'o', 'f', ' ', 'l', 'o', 'o', 'p', '.', 'e', 'x', 'a', 'm', 'p', 'l', 'e', '/', 'g', '0', '3', '2', '1', '9', '/', 'l', 'a', 'w', 's', '.', 'F', 'n', 'E', 'x', 'a', 'c', 't', 'M', 'a', 'k', 'e', 'C', 'l', 'a', 'u', 's', 'e', ' ', 'l', 'o', 'o', 'p', '.', 'e', 'x', 'a', 'm', 'p', 'l', 'e', '/', 'g', '0', '3', '2', '1', '9', '/', 'l', 'a', 'w', 's', '.', 'F', 'n', 'E', 'x', 'a', 'c', 't', 'R', 'e', 's', 'o', 'l', 'v', 'e', ' ', 'l', 'o', 'o', 'p', '.', 'e', 'x', 'a', 'm', 'p', 'l', 'e', '/', 'g', '0', '3', '2', '1', '9', '/', 'l', 'a', 'w', 's', '.', 'F', 'n', 'R', 'e', 's', 'o', 'l', 'v', 'e', 'd']
theorem head_lit : Try.pinned.checked.prog.initOrder = "harness 7ffb80628cdfe2e0182452a6d0648d2624b5dfd2171900c0274ab27e76de9f3b cut at loop.example/g03219/laws.FnCores loop.example/g03219/laws.FnExactProofSize loop.example/g03219/laws.FnProofs loop.example/g03219/laws.FnExactFormulaOk loop.example/g03219/laws.FnExactEvalFormula loop.example/g03219/laws.FnExactCountModels loop.example/g03219/laws.FnPropagate loop.example/g03219/laws.FnExactPropagate loop.example/g03219/laws.FnSearch loop.example/g03219/laws.FnExactCheckProof loop.example/g03219/laws.FnExactImplied loop.example/g03219/laws.FnExactSearch loop.example/g03219/laws.FnExactProofOf loop.example/g03219/laws.FnExactCoreOf loop.example/g03219/laws.FnExactTrimProof loop.example/g03219/laws.FnExactMakeClause loop.example/g03219/laws.FnExactResolve loop.example/g03219/laws.FnResolved" := by kernel_rfl
theorem head_list : "harness 7ffb80628cdfe2e0182452a6d0648d2624b5dfd2171900c0274ab27e76de9f3b cut at loop.example/g03219/laws.FnCores loop.example/g03219/laws.FnExactProofSize loop.example/g03219/laws.FnProofs loop.example/g03219/laws.FnExactFormulaOk loop.example/g03219/laws.FnExactEvalFormula loop.example/g03219/laws.FnExactCountModels loop.example/g03219/laws.FnPropagate loop.example/g03219/laws.FnExactPropagate loop.example/g03219/laws.FnSearch loop.example/g03219/laws.FnExactCheckProof loop.example/g03219/laws.FnExactImplied loop.example/g03219/laws.FnExactSearch loop.example/g03219/laws.FnExactProofOf loop.example/g03219/laws.FnExactCoreOf loop.example/g03219/laws.FnExactTrimProof loop.example/g03219/laws.FnExactMakeClause loop.example/g03219/laws.FnExactResolve loop.example/g03219/laws.FnResolved" = String.ofList (head0 ++ ' ' :: (head1 ++ ' ' :: (head2 ++ ' ' :: head3))) := by kernel_rfl
theorem head_is : Try.pinned.checked.prog.initOrder = String.ofList (head0 ++ ' ' :: (head1 ++ ' ' :: (head2 ++ ' ' :: head3))) := head_lit.trans head_list
theorem head_two : ((head0 == "harness".toList || head0 == "ownmain".toList) && isSumSigns head1) = true := by kernel_rfl
theorem head_words : ∃ r, behindMainWord (wordsSigns Try.pinned.checked.prog.initOrder.toList) = "cut".toList :: r := by
  refine ⟨wordsSigns head3, ?_⟩
  rw [head_is, String.toList_ofList, words_app _ _ (by kernel_rfl), words_app _ _ (by kernel_rfl), words_app _ _ (by kernel_rfl)]
  show (if ((head0 == "harness".toList || head0 == "ownmain".toList) && isSumSigns head1) = true then head2 :: wordsSigns head3 else head0 :: head1 :: head2 :: wordsSigns head3) = _
  rw [if_pos head_two]
  rfl
section
variable {P : Program} {r : List (List Char)} (h : behindMainWord (wordsSigns P.initOrder.toList) = "cut".toList :: r)
include h
theorem make_of : P.make = some .cut := by
  unfold Program.make
  rw [h]
  rfl
theorem lifts_of : P.headLifts = [] := by
  unfold Program.headLifts
  rw [h]
  rfl
theorem final_of : P.liftsFinal = false := by
  unfold Program.liftsFinal
  rw [h, lifts_of h]
  rfl
theorem enter_of (h1 : P.laysLater = false) (h2 : P.bearsReflect = false) (h3 : P.doorFits [] = true) : P.mayEnter = true := by
  unfold Program.mayEnter
  rw [h]
  have e : stripLifts liftWords ("cut".toList :: r) = ([], "cut".toList :: r) := rfl
  simp only [e, h1, h2, h3]
  rfl
end
theorem head_make : Try.pinned.checked.prog.make = some .cut := by
  obtain ⟨r, h⟩ := head_words
  exact make_of h
theorem head_final : Try.pinned.checked.prog.liftsFinal = false := by
  obtain ⟨r, h⟩ := head_words
  exact final_of h
theorem head_lays : Try.pinned.checked.prog.laysLater = false := by kernel_rfl
theorem head_reflect : Try.pinned.checked.prog.bearsReflect = false := by kernel_rfl
theorem head_door : Try.pinned.checked.prog.doorFits [] = true := by kernel_rfl
theorem head_enter : Try.pinned.checked.prog.mayEnter = true := by
  obtain ⟨r, h⟩ := head_words
  exact enter_of h head_lays head_reflect head_door

end Go.Proofs.Ytfmflffggcphjaa
