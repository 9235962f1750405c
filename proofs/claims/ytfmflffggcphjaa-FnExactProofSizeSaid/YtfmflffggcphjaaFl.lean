/- Rows in memory: a slice of elements without parts of their own (numbers, truths, strings, flat structs), and how it is read out of an argument. No program in sight. -/
import Derived.Test.YtfmflffggcphjaaFb
namespace Go.Vc
open Go Go.RowKit

section
variable {α : Type}
/-- The cells of the elements stand from offset o of block b on. -/
def LsAt (lc : α → List Value) (m : Nat) (w : World) : List α → Nat → Nat → Prop
  | [], _, _ => True
  | x :: l, b, o => CellsAt w b o (lc x) ∧ LsAt lc m w l b (o + m)
/-- A slice value that stands for a list. -/
def LsSl (lc : α → List Value) (m : Nat) (ok : Nat → Prop) (w : World) (s : Value) (l : List α) : Prop :=
  ∃ a c, s = .slice a l.length c ∧ l.length ≤ c ∧ c ≤ maxLen ∧ (l.length = 0 ∨ ∃ b o, a = some ⟨b, o, none⟩ ∧ ok b ∧ LsAt lc m w l b o)

variable {lc : α → List Value} {m : Nat} {ok ok' : Nat → Prop} {w w' : World}
theorem LsAt.ext (h : Ext w w') : ∀ {l : List α} {b o : Nat}, LsAt lc m w l b o → LsAt lc m w' l b o := by
  intro l
  induction l with
  | nil => intro _ _ _; trivial
  | cons x l ih => rintro b o ⟨hc, hl⟩; exact ⟨hc.ext h, ih hl⟩
theorem LsSl.ext (h : Ext w w') {l : List α} {s : Value} (hs : LsSl lc m ok w s l) : LsSl lc m ok w' s l := by
  obtain ⟨a, c, h1, h2, h2', h3⟩ := hs
  refine ⟨a, c, h1, h2, h2', ?_⟩
  rcases h3 with h3 | ⟨b, o, ha, ho, h3⟩
  · exact .inl h3
  · exact .inr ⟨b, o, ha, ho, h3.ext h⟩
theorem LsSl.mono (h : ∀ b, ok b → ok' b) {l : List α} {s : Value} (hs : LsSl lc m ok w s l) : LsSl lc m ok' w s l := by
  obtain ⟨a, c, h1, h2, h2', h3⟩ := hs
  refine ⟨a, c, h1, h2, h2', ?_⟩
  rcases h3 with h3 | ⟨b, o, ha, ho, h3⟩
  · exact .inl h3
  · exact .inr ⟨b, o, ha, h _ ho, h3⟩
theorem LsAt.keep (hm : ∀ x, (lc x).length = m) {B lo : Nat} (hk : ∀ b i, b ≠ B ∨ i < lo → w'.cell? ⟨b, i, none⟩ = w.cell? ⟨b, i, none⟩) :
    ∀ {l : List α} {b o : Nat}, (b ≠ B ∨ o + m * l.length ≤ lo) → LsAt lc m w l b o → LsAt lc m w' l b o := by
  intro l
  induction l with
  | nil => intro _ _ _ _; trivial
  | cons x l ih =>
    rintro b o hb ⟨hc, hl⟩
    simp only [List.length_cons, Nat.mul_succ] at hb
    refine ⟨hc.keep fun i h1 h2 => hk b i ?_, ih ?_ hl⟩
    · rcases hb with hb | hb
      · exact .inl hb
      · right
        have := hm x
        omega
    · rcases hb with hb | hb
      · exact .inl hb
      · right; omega
theorem LsAt.app : ∀ {l k : List α} {b o : Nat}, LsAt lc m w l b o → LsAt lc m w k b (o + m * l.length) → LsAt lc m w (l ++ k) b o := by
  intro l
  induction l with
  | nil => intro k b o _ h; simpa using h
  | cons x l ih =>
    rintro k b o ⟨hx, hl⟩ hk
    refine ⟨hx, ih hl ?_⟩
    rw [List.length_cons, Nat.mul_succ] at hk
    rwa [show o + m + m * l.length = o + (m * l.length + m) from by omega]
/-- The element at an index. -/
theorem LsAt.get : ∀ {l : List α} {b o i : Nat} {x : α}, LsAt lc m w l b o → l[i]? = some x → CellsAt w b (o + i * m) (lc x) := by
  intro l
  induction l with
  | nil => intro _ _ _ _ _ h; simp at h
  | cons y l ih =>
    intro b o i x h hi
    cases i with
    | zero => simp at hi; subst hi; simpa using h.1
    | succ i =>
      have := ih h.2 (i := i) (by simpa using hi)
      rwa [show o + (i + 1) * m = o + m + i * m from by rw [Nat.succ_mul]; omega]
end

section
variable {H : Type} {enc : TypeId × Value → H} {P : Program} {w : World} {held : Bool} {α : Type} {lc : α → List Value} {m : Nat} {p : α → Prop}

theorem ls_rows {b o : Nat} : ∀ (n i : Nat), (∀ j, i ≤ j → j < i + n → ∃ x, CellsAt w b (o + j * m) (lc x) ∧ p x) → ∃ l : List α, l.length = n ∧ LsAt lc m w l b (o + i * m) ∧ ∀ x ∈ l, p x := by
  intro n
  induction n with
  | zero => intro i _; exact ⟨[], rfl, trivial, fun x hx => by cases hx⟩
  | succ n ih =>
    intro i h
    obtain ⟨l, hl, hf, hp⟩ := ih (i + 1) (fun j h1 h2 => h j (by omega) (by omega))
    obtain ⟨x, hc, hx⟩ := h i (by omega) (by omega)
    refine ⟨x :: l, by simp [hl], ⟨hc, ?_⟩, ?_⟩
    · rwa [Nat.succ_mul, ← Nat.add_assoc] at hf
    · intro y hy
      rcases List.mem_cons.1 hy with rfl | hy
      · exact hx
      · exact hp y hy

theorem ls_of (hm : ∀ x, (lc x).length = m) (hm0 : 0 < m) {te tS : TypeId} (ht : P.underlying tS = some (.slice te)) (hcells : P.cellsOf te = m)
    (node : ∀ n cs y, DataW.trod enc P w 0 (fun _ => true) held n te cs = some y → ∃ x, cs = lc x ∧ p x) {fuel : Nat} {cs : List Value} {y : DataW H × List MemPlace} (h : DataW.trod enc P w 0 (fun _ => true) held fuel tS cs = some y) :
    ∃ s l, cs = [s] ∧ LsSl lc m (fun _ => True) w s l ∧ ∀ x ∈ l, p x := by
  rcases DataW.trod_slice ht h with ⟨rfl, _⟩ | ⟨a, len, cap, elems, rest, n, rfl, rfl, _, hb, hl, hm', hlen, hel, _, _⟩
  · exact ⟨_, [], rfl, ⟨none, 0, rfl, Nat.le_refl _, Nat.zero_le _, .inl rfl⟩, fun x hx => by cases hx⟩
  · have each : ∀ i, i < len → ∃ cs', w.cells? 0 (a.add (i * m)) m = some cs' ∧ ∃ x, cs' = lc x ∧ p x := by
      intro i hi
      have h1 := hel i hi
      rw [hcells, List.getElem?_eq_getElem (by omega)] at h1
      obtain ⟨cs', h2, h3⟩ := Option.bind_eq_some_iff.1 h1
      exact ⟨cs', h2, node n cs' _ h3⟩
    by_cases h0 : len = 0
    · subst h0
      exact ⟨_, [], rfl, ⟨some a, cap, rfl, Nat.zero_le _, hm', .inl rfl⟩, fun x hx => by cases hx⟩
    · have hplain : a = ⟨a.block, a.off, none⟩ := by
        obtain ⟨cs', h1, x, rfl, _⟩ := each 0 (by omega)
        obtain ⟨_, hl', hc⟩ := World.cells?_some h1
        have := hc 0 hm0
        have hlt : 0 < (lc x).length := by rw [hm]; exact hm0
        rw [List.getElem?_eq_getElem hlt, Nat.zero_mul] at this
        have e : (a.add 0).add 0 = a := by simp [Addr.add]
        rw [e] at this
        exact plain_of_cell this
      obtain ⟨b, o, sp⟩ := a
      simp only [Addr.mk.injEq, true_and] at hplain
      subst hplain
      obtain ⟨l, hfl, hfat, hfp⟩ := ls_rows (w := w) (lc := lc) (m := m) (p := p) (b := b) (o := o) len 0 (fun j _ hj => by
        obtain ⟨cs', h1, x, rfl, hx⟩ := each j (by omega)
        have e : (⟨b, o, none⟩ : Addr).add (j * m) = ⟨b, o + j * m, none⟩ := by unfold Addr.add; split <;> simp_all
        rw [e] at h1
        exact ⟨x, (cells_of_cells? h1).1, hx⟩)
      exact ⟨_, l, rfl, ⟨some ⟨b, o, none⟩, cap, by rw [hfl], by omega, hm', .inr ⟨b, o, rfl, trivial, by simpa using hfat⟩⟩, hfp⟩
end
end Go.Vc
