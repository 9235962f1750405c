/- What the head of the translation says, told once for all the laws of this seat. -/
import Derived.Test.YtkoaicjcanplaaaGreatRows
import Derived.JoinedOf
import Derived.KernelRfl
namespace Go.Proofs.YtkoaicjcanplaaaGreat
open Go

/-- The sign between two words, and signs by their numbers. -/
def blankSign : Char := Char.ofNat 32
def hc (l : List Nat) : List Char := l.map Char.ofNat

theorem words_app : ∀ (w r : List Char), w.all (fun c => !(c == blankSign)) = true → wordsSigns (w ++ blankSign :: r) = w :: wordsSigns r := by
  intro w
  induction w with
  | nil => intro r _; rfl
  | cons c w ih =>
    intro r h
    simp only [List.all_cons, Bool.and_eq_true, Bool.not_eq_true', beq_eq_false_iff_ne] at h
    have := ih r h.2
    rw [List.cons_append, wordsSigns]
    · rw [this]
    · exact fun e => h.1 e

def head0 : List Char := hc [104, 97, 114, 110, 101, 115, 115]
def head1 : List Char := hc [52, 49, 97, 98, 55, 54, 52, 102, 49, 56, 98, 55, 49, 98, 53, 50, 56, 97, 102, 57, 51, 101, 54, 49, 57, 101, 50, 99, 101, 56, 102, 49, 48, 48, 101, 100, 97, 99, 54, 98, 98, 57, 49, 51, 51, 100, 49, 48, 56, 50, 101, 57, 52, 101, 57, 53, 56, 57, 100, 50, 53, 55, 51, 54]
def head2 : List Char := hc [99, 117, 116]
def head3 : List Char := hc [97, 116, 32, 108, 111, 111, 112, 46, 101, 120, 97, 109, 112, 108, 101, 47, 103, 48, 51, 50, 49, 57, 47, 108, 97, 119, 115, 46, 70, 110, 69, 120, 97, 99, 116, 80, 117, 116, 86, 97, 108, 117, 101, 115]
theorem head_is : Tryz.pinned.checked.prog.initOrder = String.ofList (head0 ++ blankSign :: (head1 ++ blankSign :: (head2 ++ blankSign :: head3))) := by
  conv => lhs; whnf
  kernel_rfl
theorem head_two : ((head0 == "harness".toList || head0 == "ownmain".toList) && isSumSigns head1) = true := by kernel_rfl
theorem head_cut : head2 = "cut".toList := by kernel_rfl
theorem head_words : ∃ r, behindMainWord (wordsSigns Tryz.pinned.checked.prog.initOrder.toList) = "cut".toList :: r := by
  refine ⟨wordsSigns head3, ?_⟩
  rw [head_is, String.toList_ofList, words_app _ _ (by kernel_rfl), words_app _ _ (by kernel_rfl), words_app _ _ (by kernel_rfl)]
  show (if ((head0 == "harness".toList || head0 == "ownmain".toList) && isSumSigns head1) = true then head2 :: wordsSigns head3 else head0 :: head1 :: head2 :: wordsSigns head3) = _
  rw [if_pos head_two, head_cut]
section
variable {P : Program} {r : List (List Char)} (h : behindMainWord (wordsSigns P.initOrder.toList) = "cut".toList :: r)
include h
theorem make_of : P.make = some .cut := by
  unfold Program.make
  rw [h]
  rfl
theorem lifts_of : P.headLifts = [] := by
  unfold Program.headLifts
  rw [h]
  rfl
theorem final_of : P.liftsFinal = false := by
  unfold Program.liftsFinal
  rw [h, lifts_of h]
  rfl
theorem enter_of (h1 : P.laysLater = false) (h2 : P.bearsReflect = false) (h3 : P.doorFits [] = true) : P.mayEnter = true := by
  unfold Program.mayEnter
  rw [h]
  have e : stripLifts liftWords ("cut".toList :: r) = ([], "cut".toList :: r) := rfl
  simp only [e, h1, h2, h3]
  rfl
end
theorem head_make : Tryz.pinned.checked.prog.make = some .cut := by
  obtain ⟨r, h⟩ := head_words
  exact make_of h
theorem head_final : Tryz.pinned.checked.prog.liftsFinal = false := by
  obtain ⟨r, h⟩ := head_words
  exact final_of h
theorem head_lays : Tryz.pinned.checked.prog.laysLater = false := by kernel_rfl
theorem head_reflect : Tryz.pinned.checked.prog.bearsReflect = false := by kernel_rfl
theorem head_door : Tryz.pinned.checked.prog.doorFits [] = true := by kernel_rfl
theorem head_enter : Tryz.pinned.checked.prog.mayEnter = true := by
  obtain ⟨r, h⟩ := head_words
  exact enter_of h head_lays head_reflect head_door

end Go.Proofs.YtkoaicjcanplaaaGreat
