/- A builder of strings that a function has made itself: contracts of WriteString and String. -/
import Derived.Test.YtekddgkgeaolnaaDoorGj
import Derived.Test.YtekddgkgeaolnaaDoorTt
import Derived.Test.YtekddgkgeaolnaaDoorRw
import Derived.Shelf.Strings.BuilderK
namespace Go.Proofs.YtekddgkgeaolnaaDoor.Bu
open Go Go.Vc Go.RowKit
set_option linter.unusedVariables false

def T : Tab := (66, ⟨true, [(0, 63), (1, 64)], .invalid, 2, 32, .agg #[.pointer none, .slice none 0 0]⟩) :: Go.Proofs.YtekddgkgeaolnaaDoor.T
theorem ties : Ties Tryd.prog T := by
  unfold T
  refine ties_cons ?_ ?_ Go.Proofs.YtekddgkgeaolnaaDoor.ties
  all_goals kernel_rfl
/-- A builder in block b that holds some bytes; all of its memory lies from B on. -/
def Bl (B b : Nat) (l : List UInt8) (w : World) : Prop := Lib.IsBuilderF (Tryd.joinL_ren.t 72) (Tryd.joinL_ren.t 5) B b (Lib.byteCells l) w
theorem Bl.ext {B b : Nat} {l : List UInt8} {w w' : World} (h : Bl B b l w) (x : Ext w w') : Bl B b l w' := by
  have key : ∀ p, Lib.BuilderAtF (Tryd.joinL_ren.t 72) (Tryd.joinL_ren.t 5) B b p (Lib.byteCells l) w → Lib.BuilderAtF (Tryd.joinL_ren.t 72) (Tryd.joinL_ren.t 5) B b p (Lib.byteCells l) w' := fun p h => by
    have hlt := h.lt
    obtain ⟨hB, v, hv, hown, hne⟩ := h
    exact ⟨hB, v, (x.block b hlt).trans hv, hown.kept (row := none) ⟨x.os, x.tape, x.output, x.size, fun k hk _ => x.block k hk⟩ (Classical.em _), hne⟩
  exact h.imp (key _) (key _)
theorem Bl.new (w : World) : Bl w.heap.size w.heap.size [] (w.alloc (.cells #[.pointer none, .slice none 0 0] 66)) := by
  refine .inl ⟨Nat.le_refl _, .slice none 0 0, ?_, World.ownsRowF_nil _ _ _ _, by simp [Value.ownBlock]⟩
  exact heap_alloc_new w _
theorem write_ret (B b : Nat) (l : List UInt8) (s : ByteArray) (w : World) (h : Bl B b l w) (hlen : l.length + s.size ≤ 140737488355328) (hB : B ≤ w.heap.size) :
    Ret Tryd.prog 47 #[.pointer (some ⟨b, 0, none⟩), .string s] w (fun v w' => v = .tuple #[.int .i64 s.size, .nilIface] ∧ Bl B b (l ++ s.data.toList) w' ∧ Below B w w' ∧ Lib.OthersKept 5 (some b) w w') := by
  refine ⟨⟨_, Tryd.func47, by kernel_rfl, by kernel_rfl⟩, ?_⟩
  refine (Any.Builder_WriteString_k (P := Tryd.prog) (ρ := Tryd.joinL_ren) { Tryd.joinL with } Tryd.joinX B b (Lib.byteCells l) s w h (by rw [Lib.byteCells_length]; exact hlen) hB).mono fun e w' hh => ⟨_, hh.1, rfl, .inr ?_, hh.2.2.1, hh.2.2.2⟩
  have := hh.2.1
  rw [Lib.strCells_eq, ← Lib.byteCells_append] at this
  exact this
theorem string_ret (B b : Nat) (l : List UInt8) (w : World) (h : Bl B b l w) (hB : B ≤ w.heap.size) :
    Ret Tryd.prog 48 #[.pointer (some ⟨b, 0, none⟩)] w (fun v w' => v = .string ⟨l.toArray⟩ ∧ Below B w w') := by
  refine ⟨⟨_, Tryd.func48, by kernel_rfl, by kernel_rfl⟩, ?_⟩
  exact (Any.Builder_String_any_k (P := Tryd.prog) (ρ := Tryd.joinL_ren) { Tryd.joinL with } Tryd.joinX B b l w h hB).mono fun e w' hh => ⟨_, hh.1, rfl, hh.2.2.1⟩
end Go.Proofs.YtekddgkgeaolnaaDoor.Bu
