/- Forests in memory: nodes that carry a label and a slice of kids; rows of cells that are being filled. No program in sight. -/
import Derived.Test.YtkoaicjcanplaaaVc
import Derived.Below
namespace Go.Vc
open Go Go.RowKit

/-! rows that are being filled -/
theorem Free.ext {w w' : World} (h : Ext w w') {a : Addr} (hf : Free w a) : Free w' a := by
  obtain ⟨⟨u, hu⟩, hz⟩ := hf
  have hb := World.block_lt_of_cell? w a hu
  exact ⟨⟨u, h.cell hu⟩, (Below.frozen h hb).trans hz⟩

theorem Ext.set {a w : World} (h : Ext a w) {p : Addr} (hp : a.heap.size ≤ p.block) (u : Value) : Ext a (w.setCell p u) := Below.setCell h hp u
/-- The first n cells of a block may be written. -/
def Rmy (w : World) (B n : Nat) : Prop := ∀ i, i < n → Free w ⟨B, i, none⟩
theorem Rmy.ext {w w' : World} {B n : Nat} (h : Ext w w') (hr : Rmy w B n) : Rmy w' B n := fun i hi => (hr i hi).ext h
theorem Rmy.setCell {w : World} {B n : Nat} {p : Addr} {u : Value} (hr : Rmy w B n) : Rmy (w.setCell p u) B n := fun i hi => (hr i hi).setCell
theorem Rmy.setCells {b : Nat} : ∀ (vs : List Value) {w : World} {B n o : Nat}, Rmy w B n → Rmy (Vc.setCells w b o vs) B n := by
  intro vs
  induction vs with
  | nil => intro _ _ _ _ h; exact h
  | cons v vs ih => intro w B n o h; exact ih h.setCell
theorem Rmy.new (w : World) (l : List Value) (t : Nat) : Rmy (w.alloc (.cells l.toArray t)) w.heap.size l.length := fun i hi => by
  refine ⟨⟨l[i]'hi, ?_⟩, by simp⟩
  rw [World.cell?_alloc_new]
  simp [hi]
theorem boxed (w : World) (l : Array Value) (t i : Nat) (v : Value) (h : l[i]? = some v) : (w.alloc (.cells l t)).cell? ⟨w.heap.size, i, none⟩ = some v := by
  rw [World.cell?_alloc_new, h]
theorem boxedAll (w : World) (l : List Value) (t : Nat) : CellsAt (w.alloc (.cells l.toArray t)) w.heap.size 0 l := by
  have key : ∀ (k : List Value) (i : Nat), (∀ j, k[j]? = l[i + j]?) → i + k.length = l.length → CellsAt (w.alloc (.cells l.toArray t)) w.heap.size i k := by
    intro k
    induction k with
    | nil => intro _ _ _; trivial
    | cons x k ih =>
      intro i h hl
      refine ⟨?_, ih (i + 1) (fun j => ?_) (by simp only [List.length_cons] at hl; omega)⟩
      · rw [World.cell?_alloc_new]
        have := h 0
        simp only [Nat.add_zero] at this
        simp [← this]
      · have := h (j + 1)
        rw [show i + 1 + j = i + (j + 1) from by omega, ← this]
        simp
  exact key l 0 (fun j => by simp) (by simp)
theorem Rmy.all {w : World} {B n : Nat} (hr : Rmy w B n) : ∀ (vs : List Value) (o : Nat), o + vs.length ≤ n → vs.all oneB = true → FreeAll w B o vs := by
  intro vs
  induction vs with
  | nil => intro _ _ _; trivial
  | cons v vs ih =>
    intro o ho hv
    simp only [List.all_cons, Bool.and_eq_true] at hv
    simp only [List.length_cons] at ho
    exact ⟨⟨hr o (by omega), hv.1⟩, ih (o + 1) (by omega) hv.2⟩

theorem setCells_other {B : Nat} : ∀ (vs : List Value) (w : World) (o : Nat) (a : Addr), (a.block = B → a.off < o ∨ o + vs.length ≤ a.off) → (setCells w B o vs).cell? a = w.cell? a := by
  intro vs
  induction vs with
  | nil => intro _ _ _ _; rfl
  | cons v vs ih =>
    intro w o a h
    simp only [List.length_cons] at h
    rw [setCells, ih _ _ _ (fun e => by have := h e; omega)]
    apply World.cell?_setCell_other
    intro e
    subst e
    have := h rfl
    simp only at this
    omega

theorem setCells_at {B : Nat} : ∀ (vs : List Value) (w : World) (o n : Nat), Rmy w B n → o + vs.length ≤ n → CellsAt (setCells w B o vs) B o vs := by
  intro vs
  induction vs with
  | nil => intro _ _ _ _ _; trivial
  | cons v vs ih =>
    intro w o n hr ho
    simp only [List.length_cons] at ho
    refine ⟨?_, ih _ _ n hr.setCell (by omega)⟩
    rw [setCells, setCells_other _ _ _ _ (fun _ => by simp only; omega)]
    obtain ⟨⟨u, hu⟩, _⟩ := hr o (by omega)
    exact World.cell?_setCell_same _ _ _ hu

theorem Ext.setCells {B : Nat} {a : World} : ∀ (vs : List Value) {w : World} {o : Nat}, Ext a w → a.heap.size ≤ B → Ext a (Vc.setCells w B o vs) := by
  intro vs
  induction vs with
  | nil => intro _ _ h _; exact h
  | cons v vs ih => intro w o h hB; exact ih (Below.setCell h hB v) hB

theorem setCells_size {B : Nat} : ∀ (vs : List Value) {w : World} {o : Nat}, (setCells w B o vs).heap.size = w.heap.size := by
  intro vs
  induction vs with
  | nil => intro _ _; rfl
  | cons v vs ih => intro w o; rw [setCells, ih]; simp [World.setCell]

theorem CellsAt.get {w : World} {b : Nat} : ∀ {vs : List Value} {o i : Nat} {v : Value}, CellsAt w b o vs → vs[i]? = some v → w.cell? ⟨b, o + i, none⟩ = some v := by
  intro vs
  induction vs with
  | nil => intro _ _ _ _ h; simp at h
  | cons x vs ih =>
    intro o i v h hi
    cases i with
    | zero => simp at hi; subst hi; exact h.1
    | succ i =>
      have := ih (i := i) h.2 (by simpa using hi)
      rwa [show o + (i + 1) = o + 1 + i from by omega]
theorem CellsAt.keep {w w' : World} {b : Nat} : ∀ {vs : List Value} {o : Nat}, (∀ i, o ≤ i → i < o + vs.length → w'.cell? ⟨b, i, none⟩ = w.cell? ⟨b, i, none⟩) → CellsAt w b o vs → CellsAt w' b o vs := by
  intro vs
  induction vs with
  | nil => intro _ _ _; trivial
  | cons x vs ih =>
    intro o hk h
    simp only [List.length_cons] at hk
    exact ⟨(hk o (by omega) (by omega)).trans h.1, ih (fun i h1 h2 => hk i (by omega) (by omega)) h.2⟩
theorem CellsAt.append {w : World} {b : Nat} : ∀ {vs us : List Value} {o : Nat}, CellsAt w b o vs → CellsAt w b (o + vs.length) us → CellsAt w b o (vs ++ us) := by
  intro vs
  induction vs with
  | nil => intro us o _ h; simpa using h
  | cons x vs ih =>
    intro us o h h'
    simp only [List.length_cons] at h'
    exact ⟨h.1, ih h.2 (by rwa [show o + 1 + vs.length = o + (vs.length + 1) from by omega])⟩

/-! forests -/
inductive Fo (α : Type)
  | nil
  | cons (x : α) (kids rest : Fo α)
  deriving DecidableEq

variable {α : Type}
def Fo.len : Fo α → Nat
  | .nil => 0
  | .cons _ _ r => r.len + 1
def Fo.size : Fo α → Nat
  | .nil => 0
  | .cons _ k r => k.size + r.size + 1
def Fo.app : Fo α → Fo α → Fo α
  | .nil, g => g
  | .cons x k r, g => .cons x k (r.app g)
theorem Fo.app_nil : ∀ f : Fo α, f.app .nil = f := by
  intro f
  induction f with
  | nil => rfl
  | cons x k r _ ih => simp [Fo.app, ih]
theorem Fo.app_assoc : ∀ f g h : Fo α, (f.app g).app h = f.app (g.app h) := by
  intro f
  induction f with
  | nil => intro _ _; rfl
  | cons x k r _ ih => intro g h; simp [Fo.app, ih]
theorem Fo.len_app : ∀ f g : Fo α, (f.app g).len = f.len + g.len := by
  intro f
  induction f with
  | nil => intro g; simp [Fo.app, Fo.len]
  | cons x k r _ ih => intro g; simp only [Fo.app, Fo.len, ih]; omega
theorem Fo.size_app : ∀ f g : Fo α, (f.app g).size = f.size + g.size := by
  intro f
  induction f with
  | nil => intro g; simp [Fo.app, Fo.size]
  | cons x k r _ ih => intro g; simp only [Fo.app, Fo.size, ih]; omega
theorem Fo.len_le : ∀ f : Fo α, f.len ≤ f.size := by
  intro f
  induction f with
  | nil => exact Nat.le_refl _
  | cons x k r _ ih => simp only [Fo.len, Fo.size]; omega
theorem Fo.len_zero {f : Fo α} (h : f.len = 0) : f = .nil := by
  cases f with
  | nil => rfl
  | cons x k r => simp [Fo.len] at h

/-- The cells of a forest stand from offset o of block b on; every slice of kids lies in a block that is ok. -/
def Fo.At (lc : α → List Value) (m : Nat) (ok : Nat → Prop) (w : World) : Fo α → Nat → Nat → Prop
  | .nil, _, _ => True
  | .cons x k r, b, o => (∃ s, CellsAt w b o (lc x ++ [s]) ∧ ∃ a c, s = .slice a k.len c ∧ k.len ≤ maxLen ∧ (k.len = 0 ∨ ∃ b' o', a = some ⟨b', o', none⟩ ∧ ok b' ∧ Fo.At lc m ok w k b' o')) ∧ Fo.At lc m ok w r b (o + m)

/-- A slice value that stands for a forest. -/
def Fo.Sl (lc : α → List Value) (m : Nat) (ok : Nat → Prop) (w : World) (s : Value) (k : Fo α) : Prop :=
  ∃ a c, s = .slice a k.len c ∧ k.len ≤ maxLen ∧ (k.len = 0 ∨ ∃ b' o', a = some ⟨b', o', none⟩ ∧ ok b' ∧ Fo.At lc m ok w k b' o')

section
variable {lc : α → List Value} {m : Nat} {ok ok' : Nat → Prop} {w w' : World}
theorem Fo.At.ext (h : Ext w w') : ∀ {f : Fo α} {b o : Nat}, f.At lc m ok w b o → f.At lc m ok w' b o := by
  intro f
  induction f with
  | nil => intro _ _ _; trivial
  | cons x k r ihk ihr =>
    rintro b o ⟨⟨s, hc, a, c, hs, hl, hk⟩, hr⟩
    refine ⟨⟨s, hc.ext h, a, c, hs, hl, ?_⟩, ihr hr⟩
    rcases hk with hk | ⟨b', o', ha, ho, hk⟩
    · exact .inl hk
    · exact .inr ⟨b', o', ha, ho, ihk hk⟩
theorem Fo.Sl.ext (h : Ext w w') {f : Fo α} {s : Value} (hs : f.Sl lc m ok w s) : f.Sl lc m ok w' s := by
  obtain ⟨a, c, h1, h2, h3⟩ := hs
  refine ⟨a, c, h1, h2, ?_⟩
  rcases h3 with h3 | ⟨b, o, ha, ho, h3⟩
  · exact .inl h3
  · exact .inr ⟨b, o, ha, ho, h3.ext h⟩
theorem Fo.At.mono (h : ∀ b, ok b → ok' b) : ∀ {f : Fo α} {b o : Nat}, f.At lc m ok w b o → f.At lc m ok' w b o := by
  intro f
  induction f with
  | nil => intro _ _ _; trivial
  | cons x k r ihk ihr =>
    rintro b o ⟨⟨s, hc, a, c, hs, hl, hk⟩, hr⟩
    refine ⟨⟨s, hc, a, c, hs, hl, ?_⟩, ihr hr⟩
    rcases hk with hk | ⟨b', o', ha, ho, hk⟩
    · exact .inl hk
    · exact .inr ⟨b', o', ha, h _ ho, ihk hk⟩
theorem Fo.Sl.mono (h : ∀ b, ok b → ok' b) {f : Fo α} {s : Value} (hs : f.Sl lc m ok w s) : f.Sl lc m ok' w s := by
  obtain ⟨a, c, h1, h2, h3⟩ := hs
  refine ⟨a, c, h1, h2, ?_⟩
  rcases h3 with h3 | ⟨b, o, ha, ho, h3⟩
  · exact .inl h3
  · exact .inr ⟨b, o, ha, h _ ho, h3.mono h⟩
/-- What is written elsewhere leaves a forest as it was: B the block that is written from offset lo on. -/
theorem Fo.At.keep (hm : ∀ x, (lc x).length + 1 = m) {B lo : Nat} (hk : ∀ b i, b ≠ B ∨ i < lo → w'.cell? ⟨b, i, none⟩ = w.cell? ⟨b, i, none⟩) (hok : ∀ b, ok b → b ≠ B) :
    ∀ {f : Fo α} {b o : Nat}, (b ≠ B ∨ o + m * f.len ≤ lo) → f.At lc m ok w b o → f.At lc m ok w' b o := by
  intro f
  induction f with
  | nil => intro _ _ _ _; trivial
  | cons x k r ihk ihr =>
    rintro b o hb ⟨⟨s, hc, a, c, hs, hl, hkk⟩, hr⟩
    simp only [Fo.len, Nat.mul_succ] at hb
    refine ⟨⟨s, hc.keep fun i h1 h2 => hk b i ?_, a, c, hs, hl, ?_⟩, ihr ?_ hr⟩
    · rcases hb with hb | hb
      · exact .inl hb
      · right
        have := hm x
        simp only [List.length_append, List.length_singleton] at h2
        omega
    · rcases hkk with hkk | ⟨b', o', ha, ho, hkk⟩
      · exact .inl hkk
      · exact .inr ⟨b', o', ha, ho, ihk (.inl (hok _ ho)) hkk⟩
    · rcases hb with hb | hb
      · exact .inl hb
      · right; omega
theorem Fo.Sl.keep (hm : ∀ x, (lc x).length + 1 = m) {B lo : Nat} (hk : ∀ b i, b ≠ B ∨ i < lo → w'.cell? ⟨b, i, none⟩ = w.cell? ⟨b, i, none⟩) (hok : ∀ b, ok b → b ≠ B)
    {f : Fo α} {s : Value} (hs : f.Sl lc m ok w s) : f.Sl lc m ok w' s := by
  obtain ⟨a, c, h1, h2, h3⟩ := hs
  refine ⟨a, c, h1, h2, ?_⟩
  rcases h3 with h3 | ⟨b, o, ha, ho, h3⟩
  · exact .inl h3
  · exact .inr ⟨b, o, ha, ho, Fo.At.keep hm hk hok (.inl (hok _ ho)) h3⟩
theorem Fo.At.app : ∀ {f g : Fo α} {b o : Nat}, f.At lc m ok w b o → g.At lc m ok w b (o + m * f.len) → (f.app g).At lc m ok w b o := by
  intro f
  induction f with
  | nil => intro g b o _ h; show g.At lc m ok w b o; simpa [Fo.len] using h
  | cons x k r ihk ihr =>
    rintro g b o ⟨hx, hr⟩ hg
    refine ⟨hx, ihr hr ?_⟩
    rw [Fo.len, Nat.mul_succ] at hg
    rwa [show o + m + m * r.len = o + (m * r.len + m) from by omega]
theorem Fo.At.one {x : α} {k : Fo α} {b o : Nat} {s : Value} (hc : CellsAt w b o (lc x ++ [s])) (hs : k.Sl lc m ok w s) : (Fo.cons x k .nil).At lc m ok w b o :=
  ⟨⟨s, hc, hs⟩, trivial⟩
theorem Fo.At.sl {x : α} {k r : Fo α} {b o : Nat} (h : (Fo.cons x k r).At lc m ok w b o) : (∃ s, CellsAt w b o (lc x ++ [s]) ∧ k.Sl lc m ok w s) ∧ r.At lc m ok w b (o + m) := h
/-- The like, where the written block is older than all that is fresh. -/
theorem Fo.Sl.keepOld (hm : ∀ x, (lc x).length + 1 = m) {B o : Nat} {vs : List Value} {w0 : World} (hB : B < w0.heap.size)
    {f : Fo α} {s : Value} (hs : f.Sl lc m (fun b => w0.heap.size ≤ b) w s) : f.Sl lc m (fun b => w0.heap.size ≤ b) (setCells w B o vs) s :=
  hs.keep hm (B := B) (lo := 0) (fun b i hbi => setCells_other vs w o _ fun e => by simp only at e; omega) (fun b hb => by omega)
end

end Go.Vc
