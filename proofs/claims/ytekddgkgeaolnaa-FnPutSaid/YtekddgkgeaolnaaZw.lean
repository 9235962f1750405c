/- What the head of the translation says, told once for all the laws of this seat. -/
import Derived.Test.YtekddgkgeaolnaaRows
import Derived.JoinedOf
import Derived.KernelRfl
namespace Go.Proofs.Ytekddgkgeaolnaa
open Go

theorem words_app : ∀ (w r : List Char), w.all (fun c => !(c == ' ')) = true → wordsSigns (w ++ ' ' :: r) = w :: wordsSigns r := by
  intro w
  induction w with
  | nil => intro r _; rfl
  | cons c w ih =>
    intro r h
    simp only [List.all_cons, Bool.and_eq_true, Bool.not_eq_true', beq_eq_false_iff_ne] at h
    have := ih r h.2
    rw [List.cons_append, wordsSigns]
    · rw [this]
    · exact fun e => h.1 e

def head0 : List Char := ['h', 'a', 'r', 'n', 'e', 's', 's']
def head1 : List Char := ['2', '0', '9', '5', '3', 'e', '5', 'e', 'e', '6', '1', '8', '6', '4', '3', '1', '1', '8', '3', '3', '9', '9', '8', '1', '6', 'd', '7', 'e', '6', 'a', 'd', '6', 'b', 'c', '8', '3', 'e', '2', '9', 'a', 'd', 'd', 'f', 'e', 'a', '2', '9', 'e', '9', '6', 'e', 'e', '1', 'e', '1', 'c', '6', '7', '7', 'd', '8', '7', '3', '3']
def head2 : List Char := ['c', 'u', 't']
def head3 : List Char := ['a', 't', ' ', 'l', 'o', 'o', 'p', '.', 'e', 'x', 'a', 'm', 'p', 'l', 'e', '/', 'g', '0', '3', '2', '1', '9', '/', 'l', 'a', 'w', 's', '.', 'F', 'n', 'S', 'i', 'm', 'p', 'l', 'e', ' ', 'l', 'o', 'o', 'p', '.', 'e', 'x', 'a', 'm', 'p', 'l', 'e', '/', 'g', '0', '3', '2', '1', '9', '/', 'l', 'a', 'w', 's', '.', 'F', 'n', 'C', 'o', 'm', 'p', 'a', 'r', 'e', ' ', 'l', 'o', 'o', 'p', '.', 'e', 'x', 'a', 'm', 'p', 'l', 'e', '/', 'g', '0', '3', '2', '1', '9', '/', 'l', 'a', 'w', 's', '.', 'F', 'n', 'P', 'u', 't']
theorem head_lit : Try.pinned.checked.prog.initOrder = "harness 20953e5ee6186431183399816d7e6ad6bc83e29addfea29e96ee1e1c677d8733 cut at loop.example/g03219/laws.FnSimple loop.example/g03219/laws.FnCompare loop.example/g03219/laws.FnPut" := by kernel_rfl
theorem head_list : "harness 20953e5ee6186431183399816d7e6ad6bc83e29addfea29e96ee1e1c677d8733 cut at loop.example/g03219/laws.FnSimple loop.example/g03219/laws.FnCompare loop.example/g03219/laws.FnPut" = String.ofList (head0 ++ ' ' :: (head1 ++ ' ' :: (head2 ++ ' ' :: head3))) := by kernel_rfl
theorem head_is : Try.pinned.checked.prog.initOrder = String.ofList (head0 ++ ' ' :: (head1 ++ ' ' :: (head2 ++ ' ' :: head3))) := head_lit.trans head_list
theorem head_two : ((head0 == "harness".toList || head0 == "ownmain".toList) && isSumSigns head1) = true := by kernel_rfl
theorem head_words : ∃ r, behindMainWord (wordsSigns Try.pinned.checked.prog.initOrder.toList) = "cut".toList :: r := by
  refine ⟨wordsSigns head3, ?_⟩
  rw [head_is, String.toList_ofList, words_app _ _ (by kernel_rfl), words_app _ _ (by kernel_rfl), words_app _ _ (by kernel_rfl)]
  show (if ((head0 == "harness".toList || head0 == "ownmain".toList) && isSumSigns head1) = true then head2 :: wordsSigns head3 else head0 :: head1 :: head2 :: wordsSigns head3) = _
  rw [if_pos head_two]
  rfl
section
variable {P : Program} {r : List (List Char)} (h : behindMainWord (wordsSigns P.initOrder.toList) = "cut".toList :: r)
include h
theorem make_of : P.make = some .cut := by
  unfold Program.make
  rw [h]
  rfl
theorem lifts_of : P.headLifts = [] := by
  unfold Program.headLifts
  rw [h]
  rfl
theorem final_of : P.liftsFinal = false := by
  unfold Program.liftsFinal
  rw [h, lifts_of h]
  rfl
theorem enter_of (h1 : P.laysLater = false) (h2 : P.bearsReflect = false) (h3 : P.doorFits [] = true) : P.mayEnter = true := by
  unfold Program.mayEnter
  rw [h]
  have e : stripLifts liftWords ("cut".toList :: r) = ([], "cut".toList :: r) := rfl
  simp only [e, h1, h2, h3]
  rfl
end
theorem head_make : Try.pinned.checked.prog.make = some .cut := by
  obtain ⟨r, h⟩ := head_words
  exact make_of h
theorem head_final : Try.pinned.checked.prog.liftsFinal = false := by
  obtain ⟨r, h⟩ := head_words
  exact final_of h
theorem head_lays : Try.pinned.checked.prog.laysLater = false := by kernel_rfl
theorem head_reflect : Try.pinned.checked.prog.bearsReflect = false := by kernel_rfl
theorem head_door : Try.pinned.checked.prog.doorFits [] = true := by kernel_rfl
theorem head_enter : Try.pinned.checked.prog.mayEnter = true := by
  obtain ⟨r, h⟩ := head_words
  exact enter_of h head_lays head_reflect head_door

end Go.Proofs.Ytekddgkgeaolnaa
