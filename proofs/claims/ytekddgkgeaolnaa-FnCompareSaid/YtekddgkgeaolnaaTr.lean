/- Trees as elements of rows. -/
import Derived.Test.YtekddgkgeaolnaaFa
namespace Go.Vc
open Go Go.RowKit
variable {α : Type} {lc : α → List Value} {m : Nat} {ok ok' S : Nat → Prop} {w w' : World}
theorem Fo.At.chg (hok : ∀ b, ok b → ¬ S b) (h : Chg S w w') : ∀ {f : Fo α} {b o : Nat}, ¬ S b → f.At lc m ok w b o → f.At lc m ok w' b o := by
  intro f
  induction f with
  | nil => intro _ _ _ _; trivial
  | cons x k r ihk ihr =>
    rintro b o hb ⟨⟨s, hc, a, c, hs, hl, hk⟩, hr⟩
    refine ⟨⟨s, h.cells hb hc, a, c, hs, hl, ?_⟩, ihr hb hr⟩
    rcases hk with hk | ⟨b', o', ha, ho, hk⟩
    · exact .inl hk
    · exact .inr ⟨b', o', ha, ho, ihk (hok b' ho) hk⟩
theorem Fo.Sl.chg (hok : ∀ b, ok b → ¬ S b) (h : Chg S w w') {f : Fo α} {s : Value} (hs : f.Sl lc m ok w s) : f.Sl lc m ok w' s := by
  obtain ⟨a, c, h1, h2, h3⟩ := hs
  refine ⟨a, c, h1, h2, ?_⟩
  rcases h3 with h3 | ⟨b, o, ha, ho, h3⟩
  · exact .inl h3
  · exact .inr ⟨b, o, ha, ho, Fo.At.chg hok h (hok b ho) h3⟩
theorem Fo.At.block_lt {f : Fo α} {b o : Nat} (h : f.At lc m ok w b o) (hf : f.len ≠ 0) : b < w.heap.size := by
  cases f with
  | nil => exact absurd rfl hf
  | cons x k r =>
    obtain ⟨⟨s, hc, _⟩, _⟩ := h
    cases hx : lc x with
    | nil => rw [hx] at hc; exact World.block_lt_of_cell? _ _ hc.1
    | cons y l => rw [hx] at hc; exact World.block_lt_of_cell? _ _ hc.1
theorem Fo.At.lt : ∀ {f : Fo α} {b o : Nat}, f.At lc m ok w b o → f.At lc m (fun b => ok b ∧ b < w.heap.size) w b o := by
  intro f
  induction f with
  | nil => intro _ _ _; trivial
  | cons x k r ihk ihr =>
    rintro b o ⟨⟨s, hc, a, c, hs, hl, hk⟩, hr⟩
    refine ⟨⟨s, hc, a, c, hs, hl, ?_⟩, ihr hr⟩
    by_cases h0 : k.len = 0
    · exact .inl h0
    · obtain ⟨b', o', ha, ho, hk⟩ := hk.resolve_left h0
      exact .inr ⟨b', o', ha, ⟨ho, Fo.At.block_lt hk h0⟩, ihk hk⟩
theorem Fo.Sl.lt {f : Fo α} {s : Value} (hs : f.Sl lc m ok w s) : f.Sl lc m (fun b => ok b ∧ b < w.heap.size) w s := by
  obtain ⟨a, c, h1, h2, h3⟩ := hs
  refine ⟨a, c, h1, h2, ?_⟩
  by_cases h0 : f.len = 0
  · exact .inl h0
  · obtain ⟨b', o', ha, ho, hk⟩ := h3.resolve_left h0
    exact .inr ⟨b', o', ha, ⟨ho, Fo.At.block_lt hk h0⟩, hk.lt⟩
theorem Fo.Sl.oneB {f : Fo α} {s : Value} (hs : f.Sl lc m ok w s) : oneB s = true := by obtain ⟨a, c, rfl, _⟩ := hs; rfl
/-- A node as an element. -/
def Rep.tree (lc : α → List Value) (m : Nat) (hm : ∀ x, (lc x).length + 1 = m) (h1 : ∀ x, (lc x).all Go.Vc.oneB = true) (h0 : 0 < m) : Rep (α × Fo α) where
  m := m
  R := fun ok w x cs => ∃ s, cs = lc x.1 ++ [s] ∧ Fo.Sl lc m ok w s x.2
  pos := h0
  len := by rintro ok w x cs ⟨s, rfl, _⟩; simpa using hm x.1
  one := by rintro ok w x cs ⟨s, rfl, hs⟩; rw [List.all_append, h1]; simp [hs.oneB]
  chg := by rintro ok S w w' x cs hok h ⟨s, rfl, hs⟩; exact ⟨s, rfl, hs.chg hok h⟩
  mono := by rintro ok ok' w x cs h ⟨s, rfl, hs⟩; exact ⟨s, rfl, hs.mono h⟩
  lt := by rintro ok w x cs ⟨s, rfl, hs⟩; exact ⟨s, rfl, hs.lt⟩
def foOf : List (α × Fo α) → Fo α
  | [] => .nil
  | x :: l => .cons x.1 x.2 (foOf l)
theorem foOf_len : ∀ l : List (α × Fo α), (foOf l).len = l.length
  | [] => rfl
  | x :: l => by simp only [foOf, Fo.len, foOf_len l, List.length_cons]
section
variable {hm : ∀ x, (lc x).length + 1 = m} {h1 : ∀ x, (lc x).all Go.Vc.oneB = true} {h0 : 0 < m}
theorem RAt.fo : ∀ {l : List (α × Fo α)} {b o : Nat}, RAt (Rep.tree lc m hm h1 h0) ok w l b o → (foOf l).At lc m ok w b o
  | [], _, _, _ => trivial
  | _ :: _, _, _, ⟨⟨_, hc, s, hcs, hs⟩, hl⟩ => ⟨⟨s, hcs ▸ hc, hs⟩, RAt.fo hl⟩
theorem SlR.fo {l : List (α × Fo α)} {s : Value} (h : SlR (Rep.tree lc m hm h1 h0) ok w s l) : (foOf l).Sl lc m ok w s := by
  obtain ⟨a, c, h1, h2, h2', h3⟩ := h
  refine ⟨a, c, by rw [foOf_len]; exact h1, by rw [foOf_len]; omega, ?_⟩
  rw [foOf_len]
  exact h3.imp id fun ⟨b, o, ha, ho, h3⟩ => ⟨b, o, ha, ho, RAt.fo h3⟩
end
end Go.Vc
