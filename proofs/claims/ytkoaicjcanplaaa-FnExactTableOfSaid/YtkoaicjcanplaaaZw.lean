/- What the head of the translation says, told once for all the laws of this seat. -/
import Derived.Test.YtkoaicjcanplaaaRows
import Derived.JoinedOf
import Derived.KernelRfl
namespace Go.Proofs.Ytkoaicjcanplaaa
open Go

theorem words_app : ∀ (w r : List Char), w.all (fun c => !(c == ' ')) = true → wordsSigns (w ++ ' ' :: r) = w :: wordsSigns r := by
  intro w
  induction w with
  | nil => intro r _; rfl
  | cons c w ih =>
    intro r h
    simp only [List.all_cons, Bool.and_eq_true, Bool.not_eq_true', beq_eq_false_iff_ne] at h
    have := ih r h.2
    rw [List.cons_append, wordsSigns]
    · rw [this]
    · exact fun e => h.1 e

def head0 : List Char := ['h', 'a', 'r', 'n', 'e', 's', 's']
def head1 : List Char := ['1', 'd', '9', '1', '7', '1', '5', '4', '9', 'd', '3', '6', '9', '6', 'b', '5', '9', '7', 'f', 'b', 'c', '6', '7', '1', '0', '8', '2', 'a', '7', 'b', '5', 'f', 'd', '8', 'a', 'e', '7', '9', '4', 'b', '6', '3', 'f', 'c', 'f', '7', '2', 'b', '2', '0', '3', 'a', 'b', '0', '8', '0', '2', 'a', 'd', '9', 'b', '2', 'e', '6']
def head2 : List Char := ['c', 'u', 't']
def head3 : List Char := ['a', 't', ' ', 'l', 'o', 'o', 'p', '.', 'e', 'x', 'a', 'm', 'p', 'l', 'e', '/', 'g', '0', '3', '2', '1', '9', '/', 'l', 'a', 'w', 's', '.', 'F', 'n', 'S', 'i', 'm', 'p', 'l', 'e', ' ', 'l', 'o', 'o', 'p', '.', 'e', 'x', 'a', 'm', 'p', 'l', 'e', '/', 'g', '0', '3', '2', '1', '9', '/', 'l', 'a', 'w', 's', '.', 'F', 'n', 'E', 'x', 'a', 'c', 't', 'C', 'o', 'm', 'p', 'a', 'r', 'e', 'T', 'e', 'r', 'm', 's', ' ', 'l', 'o', 'o', 'p', '.', 'e', 'x', 'a', 'm', 'p', 'l', 'e', '/', 'g', '0', '3', '2', '1', '9', '/', 'l', 'a', 'w', 's', '.', 'F', 'n', 'E', 'x', 'a', 'c', 't', 'T', 'e', 'r', 'm', 'O', 'k', ' ', 'l', 'o', 'o', 'p', '.', 'e', 'x', 'a', 'm', 'p', 'l', 'e', '/', 'g', '0', '3', '2', '1', '9', '/', 'l', 'a', 'w', 's', '.', 'F', 'n', 'C', 'o', 'm', 'p', 'a', 'r', 'e', ' ', 'l', 'o', 'o', 'p', '.', 'e', 'x', 'a', 'm', 'p', 'l', 'e', '/', 'g', '0', '3', '2', '1', '9', '/', 'l', 'a', 'w', 's', '.', 'F', 'n', 'E', 'x', 'a', 'c', 't', 'V', 'a', 'r', 's', 'O', 'f', ' ', 'l', 'o', 'o', 'p', '.', 'e', 'x', 'a', 'm', 'p', 'l', 'e', '/', 'g', '0', '3', '2', '1', '9', '/', 'l', 'a', 'w', 's', '.', 'F', 'n', 'E', 'x', 'a', 'c', 't', 'P', 'u', 't', 'T', 'e', 'r', 'm', ' ', 'l', 'o', 'o', 'p', '.', 'e', 'x', 'a', 'm', 'p', 'l', 'e', '/', 'g', '0', '3', '2', '1', '9', '/', 'l', 'a', 'w', 's', '.', 'F', 'n', 'E', 'x', 'a', 'c', 't', 'I', 's', 'S', 'i', 'm', 'p', 'l', 'e', ' ', 'l', 'o', 'o', 'p', '.', 'e', 'x', 'a', 'm', 'p', 'l', 'e', '/', 'g', '0', '3', '2', '1', '9', '/', 'l', 'a', 'w', 's', '.', 'F', 'n', 'E', 'x', 'a', 'c', 't', 'M', 'a', 'k', 'e', 'T', 'e', 'r', 'm', ' ', 'l', 'o', 'o', 'p', '.', 'e', 'x', 'a', 'm', 'p', 'l', 'e', '/', 'g', '0', '3', '2', '1', '9', '/', 'l', 'a', 'w', 's', '.', 'F', 'n', 'E', 'x', 'a', 'c', 't', 'E', 'v', 'a', 'l', 'T', 'e', 'r', 'm', ' ', 'l', 'o', 'o', 'p', '.', 'e', 'x', 'a', 'm', 'p', 'l', 'e', '/', 'g', '0', '3', '2', '1', '9', '/', 'l', 'a', 'w', 's', '.', 'F', 'n', 'E', 'x', 'a', 'c', 't', 'S', 'i', 'm', 'p', 'l', 'i', 'f', 'y', ' ', 'l', 'o', 'o', 'p', '.', 'e', 'x', 'a', 'm', 'p', 'l', 'e', '/', 'g', '0', '3', '2', '1', '9', '/', 'l', 'a', 'w', 's', '.', 'F', 'n', 'E', 'x', 'a', 'c', 't', 'T', 'a', 'b', 'l', 'e', 'O', 'f', ' ', 'l', 'o', 'o', 'p', '.', 'e', 'x', 'a', 'm', 'p', 'l', 'e', '/', 'g', '0', '3', '2', '1', '9', '/', 'l', 'a', 'w', 's', '.', 'F', 'n', 'E', 'x', 'a', 'c', 't', 'A', 'l', 'l', 'O', 'f', ' ', 'l', 'o', 'o', 'p', '.', 'e', 'x', 'a', 'm', 'p', 'l', 'e', '/', 'g', '0', '3', '2', '1', '9', '/', 'l', 'a', 'w', 's', '.', 'F', 'n', 'P', 'u', 't']
theorem head_lit : Try.pinned.checked.prog.initOrder = "harness 1d9171549d3696b597fbc671082a7b5fd8ae794b63fcf72b203ab0802ad9b2e6 cut at loop.example/g03219/laws.FnSimple loop.example/g03219/laws.FnExactCompareTerms loop.example/g03219/laws.FnExactTermOk loop.example/g03219/laws.FnCompare loop.example/g03219/laws.FnExactVarsOf loop.example/g03219/laws.FnExactPutTerm loop.example/g03219/laws.FnExactIsSimple loop.example/g03219/laws.FnExactMakeTerm loop.example/g03219/laws.FnExactEvalTerm loop.example/g03219/laws.FnExactSimplify loop.example/g03219/laws.FnExactTableOf loop.example/g03219/laws.FnExactAllOf loop.example/g03219/laws.FnPut" := by kernel_rfl
theorem head_list : "harness 1d9171549d3696b597fbc671082a7b5fd8ae794b63fcf72b203ab0802ad9b2e6 cut at loop.example/g03219/laws.FnSimple loop.example/g03219/laws.FnExactCompareTerms loop.example/g03219/laws.FnExactTermOk loop.example/g03219/laws.FnCompare loop.example/g03219/laws.FnExactVarsOf loop.example/g03219/laws.FnExactPutTerm loop.example/g03219/laws.FnExactIsSimple loop.example/g03219/laws.FnExactMakeTerm loop.example/g03219/laws.FnExactEvalTerm loop.example/g03219/laws.FnExactSimplify loop.example/g03219/laws.FnExactTableOf loop.example/g03219/laws.FnExactAllOf loop.example/g03219/laws.FnPut" = String.ofList (head0 ++ ' ' :: (head1 ++ ' ' :: (head2 ++ ' ' :: head3))) := by kernel_rfl
theorem head_is : Try.pinned.checked.prog.initOrder = String.ofList (head0 ++ ' ' :: (head1 ++ ' ' :: (head2 ++ ' ' :: head3))) := head_lit.trans head_list
theorem head_two : ((head0 == "harness".toList || head0 == "ownmain".toList) && isSumSigns head1) = true := by kernel_rfl
theorem head_words : ∃ r, behindMainWord (wordsSigns Try.pinned.checked.prog.initOrder.toList) = "cut".toList :: r := by
  refine ⟨wordsSigns head3, ?_⟩
  rw [head_is, String.toList_ofList, words_app _ _ (by kernel_rfl), words_app _ _ (by kernel_rfl), words_app _ _ (by kernel_rfl)]
  show (if ((head0 == "harness".toList || head0 == "ownmain".toList) && isSumSigns head1) = true then head2 :: wordsSigns head3 else head0 :: head1 :: head2 :: wordsSigns head3) = _
  rw [if_pos head_two]
  rfl
section
variable {P : Program} {r : List (List Char)} (h : behindMainWord (wordsSigns P.initOrder.toList) = "cut".toList :: r)
include h
theorem make_of : P.make = some .cut := by
  unfold Program.make
  rw [h]
  rfl
theorem lifts_of : P.headLifts = [] := by
  unfold Program.headLifts
  rw [h]
  rfl
theorem final_of : P.liftsFinal = false := by
  unfold Program.liftsFinal
  rw [h, lifts_of h]
  rfl
theorem enter_of (h1 : P.laysLater = false) (h2 : P.bearsReflect = false) (h3 : P.doorFits [] = true) : P.mayEnter = true := by
  unfold Program.mayEnter
  rw [h]
  have e : stripLifts liftWords ("cut".toList :: r) = ([], "cut".toList :: r) := rfl
  simp only [e, h1, h2, h3]
  rfl
end
theorem head_make : Try.pinned.checked.prog.make = some .cut := by
  obtain ⟨r, h⟩ := head_words
  exact make_of h
theorem head_final : Try.pinned.checked.prog.liftsFinal = false := by
  obtain ⟨r, h⟩ := head_words
  exact final_of h
theorem head_lays : Try.pinned.checked.prog.laysLater = false := by kernel_rfl
theorem head_reflect : Try.pinned.checked.prog.bearsReflect = false := by kernel_rfl
theorem head_door : Try.pinned.checked.prog.doorFits [] = true := by kernel_rfl
theorem head_enter : Try.pinned.checked.prog.mayEnter = true := by
  obtain ⟨r, h⟩ := head_words
  exact enter_of h head_lays head_reflect head_door

end Go.Proofs.Ytkoaicjcanplaaa
