/- What the head of the translation says, told once for all the laws of this seat. -/
import Derived.Test.YtgeknlnclkdpmaaRows
import Derived.JoinedOf
import Derived.KernelRfl
namespace Go.Proofs.Ytgeknlnclkdpmaa
open Go

theorem words_app : ∀ (w r : List Char), w.all (fun c => !(c == ' ')) = true → wordsSigns (w ++ ' ' :: r) = w :: wordsSigns r := by
  intro w
  induction w with
  | nil => intro r _; rfl
  | cons c w ih =>
    intro r h
    simp only [List.all_cons, Bool.and_eq_true, Bool.not_eq_true', beq_eq_false_iff_ne] at h
    have := ih r h.2
    rw [List.cons_append, wordsSigns]
    · rw [this]
    · exact fun e => h.1 e

def head0 : List Char := ['h', 'a', 'r', 'n', 'e', 's', 's']
def head1 : List Char := ['2', '6', '5', '8', 'e', '9', 'a', '9', '7', '1', '3', '0', 'a', '0', 'a', '2', 'd', '9', '4', 'f', '6', 'f', '0', 'c', '3', 'd', '3', 'b', '6', 'f', 'd', 'f', '0', '0', 'f', '9', 'b', 'b', '9', '7', 'c', '3', 'b', '0', 'c', 'e', '0', '5', 'b', 'a', '3', 'a', 'a', '8', '1', '9', '2', '6', 'a', 'e', '8', '7', '2', 'd']
def head2 : List Char := ['c', 'u', 't']
def head3 : List Char := ['a', 't', ' ', 'l', 'o', 'o', 'p', '.', 'e', 'x', 'a', 'm', 'p', 'l', 'e', '/', 'g', '0', '3', '2', '1', '9', '/', 'l', 'a', 'w', 's', '.', 'F', 'n', 'E', 'x', 'a', 'c', 't', 'C', 'o', 'n', 's', 't', 'a', 'n', 't', 's', ' ', 'l', 'o', 'o', 'p', '.', 'e', 'x', 'a', 'm', 'p', 'l', 'e', '/', 'g', '0', '3', '2', '1', '9', '/', 'l', 'a', 'w', 's', '.', 'F', 'n', 'E', 'x', 'a', 'c', 't', 'W', 'o', 'r', 'd', 'O', 'k', ' ', 'l', 'o', 'o', 'p', '.', 'e', 'x', 'a', 'm', 'p', 'l', 'e', '/', 'g', '0', '3', '2', '1', '9', '/', 'l', 'a', 'w', 's', '.', 'F', 'n', 'E', 'x', 'a', 'c', 't', 'W', 'o', 'r', 'd', 'O', 'f', ' ', 'l', 'o', 'o', 'p', '.', 'e', 'x', 'a', 'm', 'p', 'l', 'e', '/', 'g', '0', '3', '2', '1', '9', '/', 'l', 'a', 'w', 's', '.', 'F', 'n', 'E', 'x', 'a', 'c', 't', 'O', 'p', 'N', 'a', 'm', 'e', ' ', 'l', 'o', 'o', 'p', '.', 'e', 'x', 'a', 'm', 'p', 'l', 'e', '/', 'g', '0', '3', '2', '1', '9', '/', 'l', 'a', 'w', 's', '.', 'F', 'n', 'E', 'x', 'a', 'c', 't', 'J', 'o', 'i', 'n', 'W', 'o', 'r', 'd', 's', ' ', 'l', 'o', 'o', 'p', '.', 'e', 'x', 'a', 'm', 'p', 'l', 'e', '/', 'g', '0', '3', '2', '1', '9', '/', 'l', 'a', 'w', 's', '.', 'F', 'n', 'E', 'x', 'a', 'c', 't', 'R', 'e', 's', 'u', 'l', 't', 'W', 'i', 'd', 't', 'h', ' ', 'l', 'o', 'o', 'p', '.', 'e', 'x', 'a', 'm', 'p', 'l', 'e', '/', 'g', '0', '3', '2', '1', '9', '/', 'l', 'a', 'w', 's', '.', 'F', 'n', 'E', 'x', 'a', 'c', 't', 'I', 's', 'N', 'a', 'm', 'e', ' ', 'l', 'o', 'o', 'p', '.', 'e', 'x', 'a', 'm', 'p', 'l', 'e', '/', 'g', '0', '3', '2', '1', '9', '/', 'l', 'a', 'w', 's', '.', 'F', 'n', 'E', 'x', 'a', 'c', 't', 'S', 'i', 'g', 'n', 'e', 'd', 'O', 'f', ' ', 'l', 'o', 'o', 'p', '.', 'e', 'x', 'a', 'm', 'p', 'l', 'e', '/', 'g', '0', '3', '2', '1', '9', '/', 'l', 'a', 'w', 's', '.', 'F', 'n', 'E', 'x', 'a', 'c', 't', 'C', 'u', 't', 'W', 'o', 'r', 'd', ' ', 'l', 'o', 'o', 'p', '.', 'e', 'x', 'a', 'm', 'p', 'l', 'e', '/', 'g', '0', '3', '2', '1', '9', '/', 'l', 'a', 'w', 's', '.', 'F', 'n', 'E', 'x', 'a', 'c', 't', 'O', 'p', 'O', 'f', ' ', 'l', 'o', 'o', 'p', '.', 'e', 'x', 'a', 'm', 'p', 'l', 'e', '/', 'g', '0', '3', '2', '1', '9', '/', 'l', 'a', 'w', 's', '.', 'F', 'n', 'E', 'x', 'a', 'c', 't', 'A', 'p', 'p', 'l', 'y', 'U', 'n', 'a', 'r', 'y', ' ', 'l', 'o', 'o', 'p', '.', 'e', 'x', 'a', 'm', 'p', 'l', 'e', '/', 'g', '0', '3', '2', '1', '9', '/', 'l', 'a', 'w', 's', '.', 'F', 'n', 'E', 'x', 'a', 'c', 't', 'W', 'i', 'd', 'e', 'n', 'W', 'o', 'r', 'd', ' ', 'l', 'o', 'o', 'p', '.', 'e', 'x', 'a', 'm', 'p', 'l', 'e', '/', 'g', '0', '3', '2', '1', '9', '/', 'l', 'a', 'w', 's', '.', 'F', 'n', 'E', 'x', 'a', 'c', 't', 'J', 'o', 'i', 'n', ' ', 'l', 'o', 'o', 'p', '.', 'e', 'x', 'a', 'm', 'p', 'l', 'e', '/', 'g', '0', '3', '2', '1', '9', '/', 'l', 'a', 'w', 's', '.', 'F', 'n', 'W', 'o', 'r', 'd', 's', ' ', 'l', 'o', 'o', 'p', '.', 'e', 'x', 'a', 'm', 'p', 'l', 'e', '/', 'g', '0', '3', '2', '1', '9', '/', 'l', 'a', 'w', 's', '.', 'F', 'n', 'E', 'x', 'a', 'c', 't', 'A', 'p', 'p', 'l', 'y', 'B', 'i', 'n', 'a', 'r', 'y']
theorem head_lit : Try.pinned.checked.prog.initOrder = "harness 2658e9a97130a0a2d94f6f0c3d3b6fdf00f9bb97c3b0ce05ba3aa81926ae872d cut at loop.example/g03219/laws.FnExactConstants loop.example/g03219/laws.FnExactWordOk loop.example/g03219/laws.FnExactWordOf loop.example/g03219/laws.FnExactOpName loop.example/g03219/laws.FnExactJoinWords loop.example/g03219/laws.FnExactResultWidth loop.example/g03219/laws.FnExactIsName loop.example/g03219/laws.FnExactSignedOf loop.example/g03219/laws.FnExactCutWord loop.example/g03219/laws.FnExactOpOf loop.example/g03219/laws.FnExactApplyUnary loop.example/g03219/laws.FnExactWidenWord loop.example/g03219/laws.FnExactJoin loop.example/g03219/laws.FnWords loop.example/g03219/laws.FnExactApplyBinary" := by kernel_rfl
theorem head_list : "harness 2658e9a97130a0a2d94f6f0c3d3b6fdf00f9bb97c3b0ce05ba3aa81926ae872d cut at loop.example/g03219/laws.FnExactConstants loop.example/g03219/laws.FnExactWordOk loop.example/g03219/laws.FnExactWordOf loop.example/g03219/laws.FnExactOpName loop.example/g03219/laws.FnExactJoinWords loop.example/g03219/laws.FnExactResultWidth loop.example/g03219/laws.FnExactIsName loop.example/g03219/laws.FnExactSignedOf loop.example/g03219/laws.FnExactCutWord loop.example/g03219/laws.FnExactOpOf loop.example/g03219/laws.FnExactApplyUnary loop.example/g03219/laws.FnExactWidenWord loop.example/g03219/laws.FnExactJoin loop.example/g03219/laws.FnWords loop.example/g03219/laws.FnExactApplyBinary" = String.ofList (head0 ++ ' ' :: (head1 ++ ' ' :: (head2 ++ ' ' :: head3))) := by kernel_rfl
theorem head_is : Try.pinned.checked.prog.initOrder = String.ofList (head0 ++ ' ' :: (head1 ++ ' ' :: (head2 ++ ' ' :: head3))) := head_lit.trans head_list
theorem head_two : ((head0 == "harness".toList || head0 == "ownmain".toList) && isSumSigns head1) = true := by kernel_rfl
theorem head_words : ∃ r, behindMainWord (wordsSigns Try.pinned.checked.prog.initOrder.toList) = "cut".toList :: r := by
  refine ⟨wordsSigns head3, ?_⟩
  rw [head_is, String.toList_ofList, words_app _ _ (by kernel_rfl), words_app _ _ (by kernel_rfl), words_app _ _ (by kernel_rfl)]
  show (if ((head0 == "harness".toList || head0 == "ownmain".toList) && isSumSigns head1) = true then head2 :: wordsSigns head3 else head0 :: head1 :: head2 :: wordsSigns head3) = _
  rw [if_pos head_two]
  rfl
section
variable {P : Program} {r : List (List Char)} (h : behindMainWord (wordsSigns P.initOrder.toList) = "cut".toList :: r)
include h
theorem make_of : P.make = some .cut := by
  unfold Program.make
  rw [h]
  rfl
theorem lifts_of : P.headLifts = [] := by
  unfold Program.headLifts
  rw [h]
  rfl
theorem final_of : P.liftsFinal = false := by
  unfold Program.liftsFinal
  rw [h, lifts_of h]
  rfl
theorem enter_of (h1 : P.laysLater = false) (h2 : P.bearsReflect = false) (h3 : P.doorFits [] = true) : P.mayEnter = true := by
  unfold Program.mayEnter
  rw [h]
  have e : stripLifts liftWords ("cut".toList :: r) = ([], "cut".toList :: r) := rfl
  simp only [e, h1, h2, h3]
  rfl
end
theorem head_make : Try.pinned.checked.prog.make = some .cut := by
  obtain ⟨r, h⟩ := head_words
  exact make_of h
theorem head_final : Try.pinned.checked.prog.liftsFinal = false := by
  obtain ⟨r, h⟩ := head_words
  exact final_of h
theorem head_lays : Try.pinned.checked.prog.laysLater = false := by kernel_rfl
theorem head_reflect : Try.pinned.checked.prog.bearsReflect = false := by kernel_rfl
theorem head_door : Try.pinned.checked.prog.doorFits [] = true := by kernel_rfl
theorem head_enter : Try.pinned.checked.prog.mayEnter = true := by
  obtain ⟨r, h⟩ := head_words
  exact enter_of h head_lays head_reflect head_door

end Go.Proofs.Ytgeknlnclkdpmaa
