/- Trees whose rows lie apart: they may be written node by node; rows of rows that may be written. No program in sight. -/
import Derived.Test.YtpaccpajkndlhaaFa
namespace Go.Vc
open Go Go.RowKit

variable {α : Type}
/-- The cells of a forest stand from offset o of block B on; the rows of kids lie in blocks of their own from lo up to hi, and may be written. -/
def Fo.SepAt (lc : α → List Value) (m : Nat) (w : World) : Fo α → (B o lo hi : Nat) → Prop
  | .nil, _, _, _, _ => True
  | .cons x k r, B, o, lo, hi => (∃ s l h, CellsAt w B o (lc x ++ [s]) ∧ lo ≤ l ∧ l ≤ h ∧ h ≤ hi ∧ (B < l ∨ h ≤ B) ∧
      (∃ a c, s = .slice a k.len c ∧ k.len ≤ maxLen ∧ (k.len = 0 ∨ ∃ B', a = some ⟨B', 0, none⟩ ∧ l ≤ B' ∧ B' < h ∧ Rmy w B' (m * k.len) ∧ Fo.SepAt lc m w k B' 0 l h)) ∧
      Fo.SepAt lc m w r B (o + m) h hi)
/-- A slice that stands for a forest whose rows lie apart, in blocks from lo up to hi. -/
def Fo.Sep (lc : α → List Value) (m : Nat) (w : World) (s : Value) (k : Fo α) (l h : Nat) : Prop :=
  ∃ a c, s = .slice a k.len c ∧ k.len ≤ maxLen ∧ (k.len = 0 ∨ ∃ B', a = some ⟨B', 0, none⟩ ∧ l ≤ B' ∧ B' < h ∧ Rmy w B' (m * k.len) ∧ Fo.SepAt lc m w k B' 0 l h)

section
variable {lc : α → List Value} {m : Nat} {w w' : World}
theorem rmy_block {w w' : World} {B n : Nat} (h : w'.heap[B]? = w.heap[B]?) (hr : Rmy w B n) : Rmy w' B n := fun i hi => by
  obtain ⟨⟨u, hu⟩, hz⟩ := hr i hi
  exact ⟨⟨u, (World.cell?_of_block (w := w) (a := ⟨B, i, none⟩) h).trans hu⟩, (World.frozen?_of_block (w := w) (a := ⟨B, i, none⟩) h).trans hz⟩

theorem Fo.SepAt.keep (hm : ∀ x, (lc x).length + 1 = m) : ∀ {f : Fo α} {B o lo hi : Nat}, (∀ i, o ≤ i → i < o + m * f.len → w'.cell? ⟨B, i, none⟩ = w.cell? ⟨B, i, none⟩) → (∀ b, lo ≤ b → b < hi → b ≠ B → w'.heap[b]? = w.heap[b]?) →
    f.SepAt lc m w B o lo hi → f.SepAt lc m w' B o lo hi := by
  intro f
  induction f with
  | nil => intro _ _ _ _ _ _ _; trivial
  | cons x k r ihk ihr =>
    rintro B o lo hi hc hb ⟨s, l, h, h1, h2, h3, h4, h5, ⟨a, c, h6, h6', h7⟩, h8⟩
    simp only [Fo.len, Nat.mul_succ] at hc
    have hlen := hm x
    refine ⟨s, l, h, h1.keep fun i g1 g2 => hc i g1 (by simp only [List.length_append, List.length_singleton] at g2; omega), h2, h3, h4, h5, ⟨a, c, h6, h6', h7.imp id fun ⟨B', g1, g2, g3, g4, g5⟩ => ?_⟩, ihr (fun i g1 g2 => hc i (by omega) (by omega)) (fun b g1 g2 g3 => hb b (by omega) g2 g3) h8⟩
    have hB' : w'.heap[B']? = w.heap[B']? := hb B' (by omega) (by omega) (by omega)
    exact ⟨B', g1, g2, g3, rmy_block hB' g4, ihk (fun i _ _ => World.cell?_of_block (w := w) (a := ⟨B', i, none⟩) hB') (fun b g6 g7 _ => hb b (by omega) (by omega) (by omega)) g5⟩
theorem Fo.Sep.keep (hm : ∀ x, (lc x).length + 1 = m) {f : Fo α} {s : Value} {lo hi : Nat} (hb : ∀ b, lo ≤ b → b < hi → w'.heap[b]? = w.heap[b]?) (h : f.Sep lc m w s lo hi) : f.Sep lc m w' s lo hi := by
  obtain ⟨a, c, h6, h6', h7⟩ := h
  refine ⟨a, c, h6, h6', h7.imp id fun ⟨B', g1, g2, g3, g4, g5⟩ => ⟨B', g1, g2, g3, rmy_block (hb B' g2 g3) g4, Fo.SepAt.keep hm (fun i _ _ => World.cell?_of_block (w := w) (a := ⟨B', i, none⟩) (hb B' g2 g3)) (fun b g6 g7 _ => hb b g6 g7) g5⟩⟩
theorem Fo.SepAt.wide {f : Fo α} : ∀ {B o lo hi lo' hi' : Nat}, lo' ≤ lo → hi ≤ hi' → f.SepAt lc m w B o lo hi → f.SepAt lc m w B o lo' hi' := by
  induction f with
  | nil => intro _ _ _ _ _ _ _ _ _; trivial
  | cons x k r ihk ihr =>
    rintro B o lo hi lo' hi' hl hh ⟨s, l, h, h1, h2, h3, h4, h5, h6, h8⟩
    exact ⟨s, l, h, h1, by omega, h3, by omega, h5, h6, ihr (Nat.le_refl _) hh h8⟩
theorem Fo.Sep.wide {f : Fo α} {s : Value} {lo hi lo' hi' : Nat} (hl : lo' ≤ lo) (hh : hi ≤ hi') (h : f.Sep lc m w s lo hi) : f.Sep lc m w s lo' hi' := by
  obtain ⟨a, c, h6, h6', h7⟩ := h
  exact ⟨a, c, h6, h6', h7.imp id fun ⟨B', g1, g2, g3, g4, g5⟩ => ⟨B', g1, by omega, by omega, g4, g5.wide hl hh⟩⟩
theorem Fo.SepAt.at {ok : Nat → Prop} : ∀ {f : Fo α} {B o lo hi : Nat}, (∀ b, lo ≤ b → b < hi → ok b) → f.SepAt lc m w B o lo hi → f.At lc m ok w B o := by
  intro f
  induction f with
  | nil => intro _ _ _ _ _ _; trivial
  | cons x k r ihk ihr =>
    rintro B o lo hi hok ⟨s, l, h, h1, h2, h3, h4, h5, ⟨a, c, h6, h6', h7⟩, h8⟩
    refine ⟨⟨s, h1, a, c, h6, h6', h7.imp id fun ⟨B', g1, g2, g3, g4, g5⟩ => ⟨B', 0, g1, hok _ (by omega) (by omega), ihk (fun b g6 g7 => hok b (by omega) (by omega)) g5⟩⟩, ihr (fun b g6 g7 => hok b (by omega) g7) h8⟩
theorem Fo.Sep.sl {ok : Nat → Prop} {f : Fo α} {s : Value} {lo hi : Nat} (hok : ∀ b, lo ≤ b → b < hi → ok b) (h : f.Sep lc m w s lo hi) : f.Sl lc m ok w s := by
  obtain ⟨a, c, h6, h6', h7⟩ := h
  exact ⟨a, c, h6, h6', h7.imp id fun ⟨B', g1, g2, g3, g4, g5⟩ => ⟨B', 0, g1, hok _ g2 g3, g5.at hok⟩⟩
/-- One more tree at the end of a row. -/
theorem Fo.SepAt.app : ∀ {f g : Fo α} {B o lo mid hi : Nat}, mid ≤ hi → lo ≤ mid → f.SepAt lc m w B o lo mid → g.SepAt lc m w B (o + m * f.len) mid hi → (f.app g).SepAt lc m w B o lo hi := by
  intro f
  induction f with
  | nil => intro g B o lo mid hi _ hl _ hg; exact Fo.SepAt.wide (f := g) hl (Nat.le_refl _) (by simpa [Fo.len] using hg)
  | cons x k r ihk ihr =>
    rintro g B o lo mid hi hh hl ⟨s, l, h, h1, h2, h3, h4, h5, h6, h8⟩ hg
    simp only [Fo.len, Nat.mul_succ] at hg
    exact ⟨s, l, h, h1, h2, h3, by omega, h5, h6, ihr hh h4 h8 (by rwa [show o + m + m * r.len = o + (m * r.len + m) from by omega])⟩
theorem Fo.SepAt.one {x : α} {k : Fo α} {B o lo hi : Nat} {s : Value} (hB : B < lo ∨ hi ≤ B) (hl : lo ≤ hi) (hc : CellsAt w B o (lc x ++ [s])) (hs : k.Sep lc m w s lo hi) : (Fo.cons x k .nil).SepAt lc m w B o lo hi :=
  ⟨s, lo, hi, hc, Nat.le_refl _, hl, Nat.le_refl _, hB, hs, trivial⟩
end
end Go.Vc
