/- Forests in memory: nodes that carry a label and a slice of kids; rows of cells that are being filled. No program in sight. A forest is read out of an argument. No program in sight. Rows in memory: a slice of elements without parts of their own (numbers, truths, strings, flat structs), and how it is read out of an argument. No program in sight. Rows of elements in memory, whatever the elements are; what a call may change; slices that a function owns and appends to. No program in sight. -/
import Derived.Test.YtpaccpajkndlhaaVc
import Derived.Below
import Derived.ChangeArms
import Derived.Deep.Slices
import Derived.Deep.AppendSrc
namespace Go.Vc
open Go Go.RowKit

/-! rows that are being filled -/
theorem Free.ext {w w' : World} (h : Ext w w') {a : Addr} (hf : Free w a) : Free w' a := by
  obtain ⟨⟨u, hu⟩, hz⟩ := hf
  have hb := World.block_lt_of_cell? w a hu
  exact ⟨⟨u, h.cell hu⟩, (Below.frozen h hb).trans hz⟩

theorem Ext.set {a w : World} (h : Ext a w) {p : Addr} (hp : a.heap.size ≤ p.block) (u : Value) : Ext a (w.setCell p u) := Below.setCell h hp u
/-- The first n cells of a block may be written. -/
def Rmy (w : World) (B n : Nat) : Prop := ∀ i, i < n → Free w ⟨B, i, none⟩
theorem Rmy.ext {w w' : World} {B n : Nat} (h : Ext w w') (hr : Rmy w B n) : Rmy w' B n := fun i hi => (hr i hi).ext h
theorem Rmy.setCell {w : World} {B n : Nat} {p : Addr} {u : Value} (hr : Rmy w B n) : Rmy (w.setCell p u) B n := fun i hi => (hr i hi).setCell
theorem Rmy.setCells {b : Nat} : ∀ (vs : List Value) {w : World} {B n o : Nat}, Rmy w B n → Rmy (Vc.setCells w b o vs) B n := by
  intro vs
  induction vs with
  | nil => intro _ _ _ _ h; exact h
  | cons v vs ih => intro w B n o h; exact ih h.setCell
theorem Rmy.new (w : World) (l : List Value) (t : Nat) : Rmy (w.alloc (.cells l.toArray t)) w.heap.size l.length := fun i hi => by
  refine ⟨⟨l[i]'hi, ?_⟩, by simp⟩
  rw [World.cell?_alloc_new]
  simp [hi]
theorem boxed (w : World) (l : Array Value) (t i : Nat) (v : Value) (h : l[i]? = some v) : (w.alloc (.cells l t)).cell? ⟨w.heap.size, i, none⟩ = some v := by
  rw [World.cell?_alloc_new, h]
theorem boxedAll (w : World) (l : List Value) (t : Nat) : CellsAt (w.alloc (.cells l.toArray t)) w.heap.size 0 l := by
  have key : ∀ (k : List Value) (i : Nat), (∀ j, k[j]? = l[i + j]?) → i + k.length = l.length → CellsAt (w.alloc (.cells l.toArray t)) w.heap.size i k := by
    intro k
    induction k with
    | nil => intro _ _ _; trivial
    | cons x k ih =>
      intro i h hl
      refine ⟨?_, ih (i + 1) (fun j => ?_) (by simp only [List.length_cons] at hl; omega)⟩
      · rw [World.cell?_alloc_new]
        have := h 0
        simp only [Nat.add_zero] at this
        simp [← this]
      · have := h (j + 1)
        rw [show i + 1 + j = i + (j + 1) from by omega, ← this]
        simp
  exact key l 0 (fun j => by simp) (by simp)
theorem Rmy.all {w : World} {B n : Nat} (hr : Rmy w B n) : ∀ (vs : List Value) (o : Nat), o + vs.length ≤ n → vs.all oneB = true → FreeAll w B o vs := by
  intro vs
  induction vs with
  | nil => intro _ _ _; trivial
  | cons v vs ih =>
    intro o ho hv
    simp only [List.all_cons, Bool.and_eq_true] at hv
    simp only [List.length_cons] at ho
    exact ⟨⟨hr o (by omega), hv.1⟩, ih (o + 1) (by omega) hv.2⟩

theorem setCells_other {B : Nat} : ∀ (vs : List Value) (w : World) (o : Nat) (a : Addr), (a.block = B → a.off < o ∨ o + vs.length ≤ a.off) → (setCells w B o vs).cell? a = w.cell? a := by
  intro vs
  induction vs with
  | nil => intro _ _ _ _; rfl
  | cons v vs ih =>
    intro w o a h
    simp only [List.length_cons] at h
    rw [setCells, ih _ _ _ (fun e => by have := h e; omega)]
    apply World.cell?_setCell_other
    intro e
    subst e
    have := h rfl
    simp only at this
    omega

theorem setCells_at {B : Nat} : ∀ (vs : List Value) (w : World) (o n : Nat), Rmy w B n → o + vs.length ≤ n → CellsAt (setCells w B o vs) B o vs := by
  intro vs
  induction vs with
  | nil => intro _ _ _ _ _; trivial
  | cons v vs ih =>
    intro w o n hr ho
    simp only [List.length_cons] at ho
    refine ⟨?_, ih _ _ n hr.setCell (by omega)⟩
    rw [setCells, setCells_other _ _ _ _ (fun _ => by simp only; omega)]
    obtain ⟨⟨u, hu⟩, _⟩ := hr o (by omega)
    exact World.cell?_setCell_same _ _ _ hu

theorem Ext.setCells {B : Nat} {a : World} : ∀ (vs : List Value) {w : World} {o : Nat}, Ext a w → a.heap.size ≤ B → Ext a (Vc.setCells w B o vs) := by
  intro vs
  induction vs with
  | nil => intro _ _ h _; exact h
  | cons v vs ih => intro w o h hB; exact ih (Below.setCell h hB v) hB

theorem setCells_size {B : Nat} : ∀ (vs : List Value) {w : World} {o : Nat}, (setCells w B o vs).heap.size = w.heap.size := by
  intro vs
  induction vs with
  | nil => intro _ _; rfl
  | cons v vs ih => intro w o; rw [setCells, ih]; simp [World.setCell]

theorem CellsAt.get {w : World} {b : Nat} : ∀ {vs : List Value} {o i : Nat} {v : Value}, CellsAt w b o vs → vs[i]? = some v → w.cell? ⟨b, o + i, none⟩ = some v := by
  intro vs
  induction vs with
  | nil => intro _ _ _ _ h; simp at h
  | cons x vs ih =>
    intro o i v h hi
    cases i with
    | zero => simp at hi; subst hi; exact h.1
    | succ i =>
      have := ih (i := i) h.2 (by simpa using hi)
      rwa [show o + (i + 1) = o + 1 + i from by omega]
theorem CellsAt.keep {w w' : World} {b : Nat} : ∀ {vs : List Value} {o : Nat}, (∀ i, o ≤ i → i < o + vs.length → w'.cell? ⟨b, i, none⟩ = w.cell? ⟨b, i, none⟩) → CellsAt w b o vs → CellsAt w' b o vs := by
  intro vs
  induction vs with
  | nil => intro _ _ _; trivial
  | cons x vs ih =>
    intro o hk h
    simp only [List.length_cons] at hk
    exact ⟨(hk o (by omega) (by omega)).trans h.1, ih (fun i h1 h2 => hk i (by omega) (by omega)) h.2⟩
theorem CellsAt.append {w : World} {b : Nat} : ∀ {vs us : List Value} {o : Nat}, CellsAt w b o vs → CellsAt w b (o + vs.length) us → CellsAt w b o (vs ++ us) := by
  intro vs
  induction vs with
  | nil => intro us o _ h; simpa using h
  | cons x vs ih =>
    intro us o h h'
    simp only [List.length_cons] at h'
    exact ⟨h.1, ih h.2 (by rwa [show o + 1 + vs.length = o + (vs.length + 1) from by omega])⟩

/-! forests -/
inductive Fo (α : Type)
  | nil
  | cons (x : α) (kids rest : Fo α)
  deriving DecidableEq

variable {α : Type}
def Fo.len : Fo α → Nat
  | .nil => 0
  | .cons _ _ r => r.len + 1
def Fo.size : Fo α → Nat
  | .nil => 0
  | .cons _ k r => k.size + r.size + 1
def Fo.app : Fo α → Fo α → Fo α
  | .nil, g => g
  | .cons x k r, g => .cons x k (r.app g)
theorem Fo.app_nil : ∀ f : Fo α, f.app .nil = f := by
  intro f
  induction f with
  | nil => rfl
  | cons x k r _ ih => simp [Fo.app, ih]
theorem Fo.app_assoc : ∀ f g h : Fo α, (f.app g).app h = f.app (g.app h) := by
  intro f
  induction f with
  | nil => intro _ _; rfl
  | cons x k r _ ih => intro g h; simp [Fo.app, ih]
theorem Fo.len_app : ∀ f g : Fo α, (f.app g).len = f.len + g.len := by
  intro f
  induction f with
  | nil => intro g; simp [Fo.app, Fo.len]
  | cons x k r _ ih => intro g; simp only [Fo.app, Fo.len, ih]; omega
theorem Fo.size_app : ∀ f g : Fo α, (f.app g).size = f.size + g.size := by
  intro f
  induction f with
  | nil => intro g; simp [Fo.app, Fo.size]
  | cons x k r _ ih => intro g; simp only [Fo.app, Fo.size, ih]; omega
theorem Fo.len_le : ∀ f : Fo α, f.len ≤ f.size := by
  intro f
  induction f with
  | nil => exact Nat.le_refl _
  | cons x k r _ ih => simp only [Fo.len, Fo.size]; omega
theorem Fo.len_zero {f : Fo α} (h : f.len = 0) : f = .nil := by
  cases f with
  | nil => rfl
  | cons x k r => simp [Fo.len] at h

/-- The cells of a forest stand from offset o of block b on; every slice of kids lies in a block that is ok. -/
def Fo.At (lc : α → List Value) (m : Nat) (ok : Nat → Prop) (w : World) : Fo α → Nat → Nat → Prop
  | .nil, _, _ => True
  | .cons x k r, b, o => (∃ s, CellsAt w b o (lc x ++ [s]) ∧ ∃ a c, s = .slice a k.len c ∧ k.len ≤ maxLen ∧ (k.len = 0 ∨ ∃ b' o', a = some ⟨b', o', none⟩ ∧ ok b' ∧ Fo.At lc m ok w k b' o')) ∧ Fo.At lc m ok w r b (o + m)

/-- A slice value that stands for a forest. -/
def Fo.Sl (lc : α → List Value) (m : Nat) (ok : Nat → Prop) (w : World) (s : Value) (k : Fo α) : Prop :=
  ∃ a c, s = .slice a k.len c ∧ k.len ≤ maxLen ∧ (k.len = 0 ∨ ∃ b' o', a = some ⟨b', o', none⟩ ∧ ok b' ∧ Fo.At lc m ok w k b' o')

section
variable {lc : α → List Value} {m : Nat} {ok ok' : Nat → Prop} {w w' : World}
theorem Fo.At.ext (h : Ext w w') : ∀ {f : Fo α} {b o : Nat}, f.At lc m ok w b o → f.At lc m ok w' b o := by
  intro f
  induction f with
  | nil => intro _ _ _; trivial
  | cons x k r ihk ihr =>
    rintro b o ⟨⟨s, hc, a, c, hs, hl, hk⟩, hr⟩
    refine ⟨⟨s, hc.ext h, a, c, hs, hl, ?_⟩, ihr hr⟩
    rcases hk with hk | ⟨b', o', ha, ho, hk⟩
    · exact .inl hk
    · exact .inr ⟨b', o', ha, ho, ihk hk⟩
theorem Fo.Sl.ext (h : Ext w w') {f : Fo α} {s : Value} (hs : f.Sl lc m ok w s) : f.Sl lc m ok w' s := by
  obtain ⟨a, c, h1, h2, h3⟩ := hs
  refine ⟨a, c, h1, h2, ?_⟩
  rcases h3 with h3 | ⟨b, o, ha, ho, h3⟩
  · exact .inl h3
  · exact .inr ⟨b, o, ha, ho, h3.ext h⟩
theorem Fo.At.mono (h : ∀ b, ok b → ok' b) : ∀ {f : Fo α} {b o : Nat}, f.At lc m ok w b o → f.At lc m ok' w b o := by
  intro f
  induction f with
  | nil => intro _ _ _; trivial
  | cons x k r ihk ihr =>
    rintro b o ⟨⟨s, hc, a, c, hs, hl, hk⟩, hr⟩
    refine ⟨⟨s, hc, a, c, hs, hl, ?_⟩, ihr hr⟩
    rcases hk with hk | ⟨b', o', ha, ho, hk⟩
    · exact .inl hk
    · exact .inr ⟨b', o', ha, h _ ho, ihk hk⟩
theorem Fo.Sl.mono (h : ∀ b, ok b → ok' b) {f : Fo α} {s : Value} (hs : f.Sl lc m ok w s) : f.Sl lc m ok' w s := by
  obtain ⟨a, c, h1, h2, h3⟩ := hs
  refine ⟨a, c, h1, h2, ?_⟩
  rcases h3 with h3 | ⟨b, o, ha, ho, h3⟩
  · exact .inl h3
  · exact .inr ⟨b, o, ha, h _ ho, h3.mono h⟩
/-- What is written elsewhere leaves a forest as it was: B the block that is written from offset lo on. -/
theorem Fo.At.keep (hm : ∀ x, (lc x).length + 1 = m) {B lo : Nat} (hk : ∀ b i, b ≠ B ∨ i < lo → w'.cell? ⟨b, i, none⟩ = w.cell? ⟨b, i, none⟩) (hok : ∀ b, ok b → b ≠ B) :
    ∀ {f : Fo α} {b o : Nat}, (b ≠ B ∨ o + m * f.len ≤ lo) → f.At lc m ok w b o → f.At lc m ok w' b o := by
  intro f
  induction f with
  | nil => intro _ _ _ _; trivial
  | cons x k r ihk ihr =>
    rintro b o hb ⟨⟨s, hc, a, c, hs, hl, hkk⟩, hr⟩
    simp only [Fo.len, Nat.mul_succ] at hb
    refine ⟨⟨s, hc.keep fun i h1 h2 => hk b i ?_, a, c, hs, hl, ?_⟩, ihr ?_ hr⟩
    · rcases hb with hb | hb
      · exact .inl hb
      · right
        have := hm x
        simp only [List.length_append, List.length_singleton] at h2
        omega
    · rcases hkk with hkk | ⟨b', o', ha, ho, hkk⟩
      · exact .inl hkk
      · exact .inr ⟨b', o', ha, ho, ihk (.inl (hok _ ho)) hkk⟩
    · rcases hb with hb | hb
      · exact .inl hb
      · right; omega
theorem Fo.Sl.keep (hm : ∀ x, (lc x).length + 1 = m) {B lo : Nat} (hk : ∀ b i, b ≠ B ∨ i < lo → w'.cell? ⟨b, i, none⟩ = w.cell? ⟨b, i, none⟩) (hok : ∀ b, ok b → b ≠ B)
    {f : Fo α} {s : Value} (hs : f.Sl lc m ok w s) : f.Sl lc m ok w' s := by
  obtain ⟨a, c, h1, h2, h3⟩ := hs
  refine ⟨a, c, h1, h2, ?_⟩
  rcases h3 with h3 | ⟨b, o, ha, ho, h3⟩
  · exact .inl h3
  · exact .inr ⟨b, o, ha, ho, Fo.At.keep hm hk hok (.inl (hok _ ho)) h3⟩
theorem Fo.At.app : ∀ {f g : Fo α} {b o : Nat}, f.At lc m ok w b o → g.At lc m ok w b (o + m * f.len) → (f.app g).At lc m ok w b o := by
  intro f
  induction f with
  | nil => intro g b o _ h; show g.At lc m ok w b o; simpa [Fo.len] using h
  | cons x k r ihk ihr =>
    rintro g b o ⟨hx, hr⟩ hg
    refine ⟨hx, ihr hr ?_⟩
    rw [Fo.len, Nat.mul_succ] at hg
    rwa [show o + m + m * r.len = o + (m * r.len + m) from by omega]
theorem Fo.At.one {x : α} {k : Fo α} {b o : Nat} {s : Value} (hc : CellsAt w b o (lc x ++ [s])) (hs : k.Sl lc m ok w s) : (Fo.cons x k .nil).At lc m ok w b o :=
  ⟨⟨s, hc, hs⟩, trivial⟩
theorem Fo.At.sl {x : α} {k r : Fo α} {b o : Nat} (h : (Fo.cons x k r).At lc m ok w b o) : (∃ s, CellsAt w b o (lc x ++ [s]) ∧ k.Sl lc m ok w s) ∧ r.At lc m ok w b (o + m) := h
/-- The like, where the written block is older than all that is fresh. -/
theorem Fo.Sl.keepOld (hm : ∀ x, (lc x).length + 1 = m) {B o : Nat} {vs : List Value} {w0 : World} (hB : B < w0.heap.size)
    {f : Fo α} {s : Value} (hs : f.Sl lc m (fun b => w0.heap.size ≤ b) w s) : f.Sl lc m (fun b => w0.heap.size ≤ b) (setCells w B o vs) s :=
  hs.keep hm (B := B) (lo := 0) (fun b i hbi => setCells_other vs w o _ fun e => by simp only at e; omega) (fun b hb => by omega)
end

end Go.Vc
namespace Go.Vc
open Go Go.RowKit

def Fo.All {α : Type} (p : α → Prop) : Fo α → Prop
  | .nil => True
  | .cons x k r => p x ∧ k.All p ∧ r.All p

theorem plain_of_cell {w : World} {a : Addr} {v : Value} (h : w.cell? a = some v) : a = ⟨a.block, a.off, none⟩ := by
  unfold World.cell? at h
  obtain ⟨b, o, sp⟩ := a
  cases sp with
  | none => rfl
  | some x =>
    simp only at h
    split at h
    · simp at h
    · cases h

theorem cells_of_cells? {w : World} {b o n base : Nat} {cs : List Value} (h : w.cells? base ⟨b, o, none⟩ n = some cs) : CellsAt w b o cs ∧ cs.length = n := by
  obtain ⟨_, hl, hc⟩ := World.cells?_some h
  refine ⟨?_, hl⟩
  have key : ∀ (k : List Value) (i : Nat), (∀ j, k[j]? = cs[i + j]?) → i + k.length = cs.length → CellsAt w b (o + i) k := by
    intro k
    induction k with
    | nil => intro _ _ _; trivial
    | cons x k ih =>
      intro i hk hlen
      simp only [List.length_cons] at hlen
      refine ⟨?_, ?_⟩
      · have h1 := hc i (by omega)
        have e : (⟨b, o, none⟩ : Addr).add i = ⟨b, o + i, none⟩ := by unfold Addr.add; split <;> simp_all
        rw [e] at h1
        have := hk 0
        simp only [Nat.add_zero, List.getElem?_cons_zero] at this
        rw [h1, ← this]
      · have := ih (i + 1) (fun j => by have := hk (j + 1); rw [show i + 1 + j = i + (j + 1) from by omega, ← this]; simp) (by omega)
        rwa [show o + i + 1 = o + (i + 1) from by omega]
  exact key cs 0 (fun j => by simp) (by simp)

section
variable {H : Type} {enc : TypeId × Value → H} {P : Program} {w : World} {held : Bool} {α : Type} {lc : α → List Value} {m : Nat} {p : α → Prop}

theorem okWide_struct {r : Reach} {b0 : Nat} {t : TypeId} {v : Value} {fs : Array Field} (ht : P.underlying t = some (.struct fs)) (h : Value.okWide P w r b0 t v) : ∃ cs, v = .agg cs := by
  unfold Value.okWide at h
  rw [ht] at h
  obtain ⟨cs, rfl, _⟩ := h
  exact ⟨cs, rfl⟩

/-- A struct of two fields, of one cell each. -/
theorem struct2 {t : TypeId} {f0 f1 : Field} {fuel : Nat} {cs : List Value} {y : DataW H × List MemPlace} (ht : P.underlying t = some (.struct #[f0, f1])) (o0 : f0.offset = 0) (o1 : f1.offset = 1) (c : P.cellsOf t = 2) (c0 : P.cellsOf f0.type = 1) (c1 : P.cellsOf f1.type = 1)
    (h : DataW.trod enc P w 0 (fun _ => true) held fuel t cs = some y) :
    ∃ u v y0 y1 k, fuel = k + 1 ∧ cs = [u, v] ∧ DataW.trod enc P w 0 (fun _ => true) held k f0.type [u] = some y0 ∧ DataW.trod enc P w 0 (fun _ => true) held k f1.type [v] = some y1 := by
  obtain ⟨xs, k, rfl, _, hl, hxl, hf⟩ := DataW.trod_struct ht h
  rw [c] at hl
  have hxl : xs.length = 2 := hxl
  match cs, hl, xs, hxl with
  | [u, v], _, [x0, x1], _ =>
    have g0 := hf 0 f0 rfl
    have g1 := hf 1 f1 rfl
    simp [o0, o1, c0, c1] at g0 g1
    exact ⟨u, v, x0, x1, k, rfl, rfl, g0, g1⟩

theorem forest_rows {b o : Nat} : ∀ (n i : Nat), (∀ j, i ≤ j → j < i + n → ∃ x s k, CellsAt w b (o + j * m) (lc x ++ [s]) ∧ Fo.Sl lc m (fun _ => True) w s k ∧ p x ∧ k.All p) →
    ∃ f : Fo α, f.len = n ∧ f.At lc m (fun _ => True) w b (o + i * m) ∧ f.All p := by
  intro n
  induction n with
  | zero => intro i _; exact ⟨.nil, rfl, trivial, trivial⟩
  | succ n ih =>
    intro i h
    obtain ⟨f, hl, hf, hp⟩ := ih (i + 1) (fun j h1 h2 => h j (by omega) (by omega))
    obtain ⟨x, s, k, hc, hs, hx, hk⟩ := h i (by omega) (by omega)
    refine ⟨.cons x k f, by simp [Fo.len, hl], ⟨⟨s, hc, hs⟩, ?_⟩, hx, hk, hp⟩
    rwa [Nat.succ_mul, ← Nat.add_assoc] at hf

def IsForest (lc : α → List Value) (m : Nat) (p : α → Prop) (w : World) (cs : List Value) : Prop := ∃ s f, cs = [s] ∧ Fo.Sl lc m (fun _ => True) w s f ∧ f.All p

theorem forest_of (hm0 : 0 < m) {te tS : TypeId} (ht : P.underlying tS = some (.slice te)) (hcells : P.cellsOf te = m)
    (node : ∀ n cs y, (∀ n', n' < n → ∀ cs y, DataW.trod enc P w 0 (fun _ => true) held n' tS cs = some y → IsForest lc m p w cs) → DataW.trod enc P w 0 (fun _ => true) held n te cs = some y →
      ∃ x s, cs = lc x ++ [s] ∧ IsForest lc m p w [s] ∧ p x) :
    ∀ (fuel N : Nat), fuel < N → ∀ cs y, DataW.trod enc P w 0 (fun _ => true) held fuel tS cs = some y → IsForest lc m p w cs := by
  intro fuel N
  induction N generalizing fuel with
  | zero => intro h; omega
  | succ N ih =>
    intro hfN cs y h
    rcases DataW.trod_slice ht h with ⟨rfl, _⟩ | ⟨a, len, cap, elems, rest, n, rfl, rfl, _, hb, hl, hm', hlen, hel, _, _⟩
    · exact ⟨_, .nil, rfl, ⟨none, 0, rfl, Nat.zero_le _, .inl rfl⟩, trivial⟩
    · have each : ∀ i, i < len → ∃ cs', w.cells? 0 (a.add (i * m)) m = some cs' ∧ ∃ x s, cs' = lc x ++ [s] ∧ IsForest lc m p w [s] ∧ p x := by
        intro i hi
        have h1 := hel i hi
        rw [hcells, List.getElem?_eq_getElem (by omega)] at h1
        obtain ⟨cs', h2, h3⟩ := Option.bind_eq_some_iff.1 h1
        exact ⟨cs', h2, node n cs' _ (fun n' hn' cs y h => ih n' (by omega) cs y h) h3⟩
      by_cases h0 : len = 0
      · subst h0
        exact ⟨_, .nil, rfl, ⟨some a, cap, rfl, Nat.zero_le _, .inl rfl⟩, trivial⟩
      · have hplain : a = ⟨a.block, a.off, none⟩ := by
          obtain ⟨cs', h1, x, s, rfl, _⟩ := each 0 (by omega)
          obtain ⟨_, hl', hc⟩ := World.cells?_some h1
          have := hc 0 hm0
          have hlt : 0 < (lc x ++ [s]).length := by simp
          rw [List.getElem?_eq_getElem hlt] at this
          rw [Nat.zero_mul] at this
          have e : (a.add 0).add 0 = a := by simp [Addr.add]
          rw [e] at this
          exact plain_of_cell this
        obtain ⟨b, o, sp⟩ := a
        simp only [Addr.mk.injEq, true_and] at hplain
        subst hplain
        obtain ⟨f, hfl, hfat, hfp⟩ := forest_rows (w := w) (lc := lc) (m := m) (p := p) (b := b) (o := o) len 0 (fun j _ hj => by
          obtain ⟨cs', h1, x, s, rfl, ⟨s', k, hs', hsl, hkp⟩, hx⟩ := each j (by omega)
          simp only [List.cons.injEq, and_true] at hs'
          subst hs'
          have e : (⟨b, o, none⟩ : Addr).add (j * m) = ⟨b, o + j * m, none⟩ := by unfold Addr.add; split <;> simp_all
          rw [e] at h1
          exact ⟨x, s, k, (cells_of_cells? h1).1, hsl, hx, hkp⟩)
        refine ⟨_, f, rfl, ⟨some ⟨b, o, none⟩, cap, by rw [hfl], by omega, .inr ⟨b, o, rfl, trivial, by simpa using hfat⟩⟩, hfp⟩

end
end Go.Vc
namespace Go.Vc
open Go Go.RowKit

section
variable {α : Type}
/-- The cells of the elements stand from offset o of block b on. -/
def LsAt (lc : α → List Value) (m : Nat) (w : World) : List α → Nat → Nat → Prop
  | [], _, _ => True
  | x :: l, b, o => CellsAt w b o (lc x) ∧ LsAt lc m w l b (o + m)
/-- A slice value that stands for a list. -/
def LsSl (lc : α → List Value) (m : Nat) (ok : Nat → Prop) (w : World) (s : Value) (l : List α) : Prop :=
  ∃ a c, s = .slice a l.length c ∧ l.length ≤ c ∧ c ≤ maxLen ∧ (l.length = 0 ∨ ∃ b o, a = some ⟨b, o, none⟩ ∧ ok b ∧ LsAt lc m w l b o)

variable {lc : α → List Value} {m : Nat} {ok ok' : Nat → Prop} {w w' : World}
theorem LsAt.ext (h : Ext w w') : ∀ {l : List α} {b o : Nat}, LsAt lc m w l b o → LsAt lc m w' l b o := by
  intro l
  induction l with
  | nil => intro _ _ _; trivial
  | cons x l ih => rintro b o ⟨hc, hl⟩; exact ⟨hc.ext h, ih hl⟩
theorem LsSl.ext (h : Ext w w') {l : List α} {s : Value} (hs : LsSl lc m ok w s l) : LsSl lc m ok w' s l := by
  obtain ⟨a, c, h1, h2, h2', h3⟩ := hs
  refine ⟨a, c, h1, h2, h2', ?_⟩
  rcases h3 with h3 | ⟨b, o, ha, ho, h3⟩
  · exact .inl h3
  · exact .inr ⟨b, o, ha, ho, h3.ext h⟩
theorem LsSl.mono (h : ∀ b, ok b → ok' b) {l : List α} {s : Value} (hs : LsSl lc m ok w s l) : LsSl lc m ok' w s l := by
  obtain ⟨a, c, h1, h2, h2', h3⟩ := hs
  refine ⟨a, c, h1, h2, h2', ?_⟩
  rcases h3 with h3 | ⟨b, o, ha, ho, h3⟩
  · exact .inl h3
  · exact .inr ⟨b, o, ha, h _ ho, h3⟩
theorem LsAt.keep (hm : ∀ x, (lc x).length = m) {B lo : Nat} (hk : ∀ b i, b ≠ B ∨ i < lo → w'.cell? ⟨b, i, none⟩ = w.cell? ⟨b, i, none⟩) :
    ∀ {l : List α} {b o : Nat}, (b ≠ B ∨ o + m * l.length ≤ lo) → LsAt lc m w l b o → LsAt lc m w' l b o := by
  intro l
  induction l with
  | nil => intro _ _ _ _; trivial
  | cons x l ih =>
    rintro b o hb ⟨hc, hl⟩
    simp only [List.length_cons, Nat.mul_succ] at hb
    refine ⟨hc.keep fun i h1 h2 => hk b i ?_, ih ?_ hl⟩
    · rcases hb with hb | hb
      · exact .inl hb
      · right
        have := hm x
        omega
    · rcases hb with hb | hb
      · exact .inl hb
      · right; omega
theorem LsAt.app : ∀ {l k : List α} {b o : Nat}, LsAt lc m w l b o → LsAt lc m w k b (o + m * l.length) → LsAt lc m w (l ++ k) b o := by
  intro l
  induction l with
  | nil => intro k b o _ h; simpa using h
  | cons x l ih =>
    rintro k b o ⟨hx, hl⟩ hk
    refine ⟨hx, ih hl ?_⟩
    rw [List.length_cons, Nat.mul_succ] at hk
    rwa [show o + m + m * l.length = o + (m * l.length + m) from by omega]
/-- The element at an index. -/
theorem LsAt.get : ∀ {l : List α} {b o i : Nat} {x : α}, LsAt lc m w l b o → l[i]? = some x → CellsAt w b (o + i * m) (lc x) := by
  intro l
  induction l with
  | nil => intro _ _ _ _ _ h; simp at h
  | cons y l ih =>
    intro b o i x h hi
    cases i with
    | zero => simp at hi; subst hi; simpa using h.1
    | succ i =>
      have := ih h.2 (i := i) (by simpa using hi)
      rwa [show o + (i + 1) * m = o + m + i * m from by rw [Nat.succ_mul]; omega]
end

section
variable {H : Type} {enc : TypeId × Value → H} {P : Program} {w : World} {held : Bool} {α : Type} {lc : α → List Value} {m : Nat} {p : α → Prop}

theorem ls_rows {b o : Nat} : ∀ (n i : Nat), (∀ j, i ≤ j → j < i + n → ∃ x, CellsAt w b (o + j * m) (lc x) ∧ p x) → ∃ l : List α, l.length = n ∧ LsAt lc m w l b (o + i * m) ∧ ∀ x ∈ l, p x := by
  intro n
  induction n with
  | zero => intro i _; exact ⟨[], rfl, trivial, fun x hx => by cases hx⟩
  | succ n ih =>
    intro i h
    obtain ⟨l, hl, hf, hp⟩ := ih (i + 1) (fun j h1 h2 => h j (by omega) (by omega))
    obtain ⟨x, hc, hx⟩ := h i (by omega) (by omega)
    refine ⟨x :: l, by simp [hl], ⟨hc, ?_⟩, ?_⟩
    · rwa [Nat.succ_mul, ← Nat.add_assoc] at hf
    · intro y hy
      rcases List.mem_cons.1 hy with rfl | hy
      · exact hx
      · exact hp y hy

theorem ls_of (hm : ∀ x, (lc x).length = m) (hm0 : 0 < m) {te tS : TypeId} (ht : P.underlying tS = some (.slice te)) (hcells : P.cellsOf te = m)
    (node : ∀ n cs y, DataW.trod enc P w 0 (fun _ => true) held n te cs = some y → ∃ x, cs = lc x ∧ p x) {fuel : Nat} {cs : List Value} {y : DataW H × List MemPlace} (h : DataW.trod enc P w 0 (fun _ => true) held fuel tS cs = some y) :
    ∃ s l, cs = [s] ∧ LsSl lc m (fun _ => True) w s l ∧ ∀ x ∈ l, p x := by
  rcases DataW.trod_slice ht h with ⟨rfl, _⟩ | ⟨a, len, cap, elems, rest, n, rfl, rfl, _, hb, hl, hm', hlen, hel, _, _⟩
  · exact ⟨_, [], rfl, ⟨none, 0, rfl, Nat.le_refl _, Nat.zero_le _, .inl rfl⟩, fun x hx => by cases hx⟩
  · have each : ∀ i, i < len → ∃ cs', w.cells? 0 (a.add (i * m)) m = some cs' ∧ ∃ x, cs' = lc x ∧ p x := by
      intro i hi
      have h1 := hel i hi
      rw [hcells, List.getElem?_eq_getElem (by omega)] at h1
      obtain ⟨cs', h2, h3⟩ := Option.bind_eq_some_iff.1 h1
      exact ⟨cs', h2, node n cs' _ h3⟩
    by_cases h0 : len = 0
    · subst h0
      exact ⟨_, [], rfl, ⟨some a, cap, rfl, Nat.zero_le _, hm', .inl rfl⟩, fun x hx => by cases hx⟩
    · have hplain : a = ⟨a.block, a.off, none⟩ := by
        obtain ⟨cs', h1, x, rfl, _⟩ := each 0 (by omega)
        obtain ⟨_, hl', hc⟩ := World.cells?_some h1
        have := hc 0 hm0
        have hlt : 0 < (lc x).length := by rw [hm]; exact hm0
        rw [List.getElem?_eq_getElem hlt, Nat.zero_mul] at this
        have e : (a.add 0).add 0 = a := by simp [Addr.add]
        rw [e] at this
        exact plain_of_cell this
      obtain ⟨b, o, sp⟩ := a
      simp only [Addr.mk.injEq, true_and] at hplain
      subst hplain
      obtain ⟨l, hfl, hfat, hfp⟩ := ls_rows (w := w) (lc := lc) (m := m) (p := p) (b := b) (o := o) len 0 (fun j _ hj => by
        obtain ⟨cs', h1, x, rfl, hx⟩ := each j (by omega)
        have e : (⟨b, o, none⟩ : Addr).add (j * m) = ⟨b, o + j * m, none⟩ := by unfold Addr.add; split <;> simp_all
        rw [e] at h1
        exact ⟨x, (cells_of_cells? h1).1, hx⟩)
      exact ⟨_, l, rfl, ⟨some ⟨b, o, none⟩, cap, by rw [hfl], by omega, hm', .inr ⟨b, o, rfl, trivial, by simpa using hfat⟩⟩, hfp⟩
end
end Go.Vc
namespace Go.Vc
open Go Go.RowKit

/-! what a call may change -/
/-- All that was there is as it was, but for the blocks in S. -/
structure Chg (S : Nat → Prop) (w w' : World) : Prop where
  os : w'.os = w.os
  tape : w'.tape = w.tape
  output : w'.output = w.output
  size : w.heap.size ≤ w'.heap.size
  block : ∀ k, k < w.heap.size → ¬ S k → w'.heap[k]? = w.heap[k]?

section
variable {S S' : Nat → Prop} {w w' a b c W : World}
theorem Chg.refl (S : Nat → Prop) (w : World) : Chg S w w := ⟨rfl, rfl, rfl, Nat.le_refl _, fun _ _ _ => rfl⟩
theorem Chg.trans (h : Chg S a b) (k : Chg S b c) : Chg S a c :=
  ⟨k.os.trans h.os, k.tape.trans h.tape, k.output.trans h.output, Nat.le_trans h.size k.size, fun i hi hs => (k.block i (Nat.lt_of_lt_of_le hi h.size) hs).trans (h.block i hi hs)⟩
theorem Chg.mono (h : Chg S w w') (hS : ∀ k, k < w.heap.size → S k → S' k) : Chg S' w w' :=
  ⟨h.os, h.tape, h.output, h.size, fun i hi hn => h.block i hi fun hs => hn (hS i hi hs)⟩
theorem Chg.of (h : Ext w w') : Chg S w w' := ⟨h.os, h.tape, h.output, h.size, fun k hk _ => h.block k hk⟩
/-- What is written is all new. -/
theorem Ext.chg (h : Ext W w) (k : Chg S w w') (hS : ∀ i, S i → W.heap.size ≤ i) : Ext W w' :=
  ⟨k.os.trans h.os, k.tape.trans h.tape, k.output.trans h.output, Nat.le_trans h.size k.size, fun i hi => (k.block i (Nat.lt_of_lt_of_le hi h.size) fun hs => absurd (hS i hs) (by omega)).trans (h.block i hi)⟩
theorem Chg.ext (h : Chg S w w') (hS : ∀ i, S i → w.heap.size ≤ i) : Ext w w' := (Ext.refl w).chg h hS
theorem Chg.cell (h : Chg S w w') {a : Addr} {v : Value} (ha : ¬ S a.block) (hc : w.cell? a = some v) : w'.cell? a = some v :=
  (World.cell?_of_block (w := w) (h.block a.block (World.block_lt_of_cell? w a hc) ha)).trans hc
theorem Chg.free (h : Chg S w w') {a : Addr} (ha : ¬ S a.block) (hf : Free w a) : Free w' a := by
  obtain ⟨⟨u, hu⟩, hz⟩ := hf
  have hb := h.block a.block (World.block_lt_of_cell? w a hu) ha
  exact ⟨⟨u, (World.cell?_of_block (w := w) hb).trans hu⟩, (World.frozen?_of_block (w := w) hb).trans hz⟩
theorem Chg.cells (h : Chg S w w') {b : Nat} (hb : ¬ S b) : ∀ {vs : List Value} {o : Nat}, CellsAt w b o vs → CellsAt w' b o vs
  | [], _, _ => trivial
  | _ :: _, _, hc => ⟨h.cell hb hc.1, Chg.cells h hb hc.2⟩
theorem Chg.rmy (h : Chg S w w') {B n : Nat} (hB : ¬ S B) (hr : Rmy w B n) : Rmy w' B n := fun i hi => h.free hB (hr i hi)
theorem Chg.alloc (w : World) (o : Obj) : Chg S w (w.alloc o) := .of (Ext.new w o)
theorem Chg.setCell (w : World) {p : Addr} (hp : S p.block) (u : Value) : Chg S w (w.setCell p u) :=
  ⟨rfl, rfl, rfl, by simp [World.setCell], fun k _ hn => Below.heap_setCell _ _ _ _ (fun e => hn (e ▸ hp))⟩
theorem Chg.setCells {B : Nat} (hB : S B) : ∀ (vs : List Value) (w : World) (o : Nat), Chg S w (setCells w B o vs)
  | [], w, _ => Chg.refl _ w
  | v :: vs, w, o => (Chg.setCell w (p := ⟨B, o, none⟩) hB v).trans (Chg.setCells hB vs _ (o + 1))
end

theorem chg_drew (S : Nat → Prop) (w : World) : Chg S w w.drew := ⟨rfl, rfl, rfl, Nat.le_refl _, fun _ _ _ => rfl⟩

/-- The block of a slice. -/
def blk : Value → Nat → Prop
  | .slice (some a) _ _, b => a.block = b
  | _, _ => False

theorem CellsAt.split {w : World} {b : Nat} : ∀ {us vs : List Value} {o : Nat}, CellsAt w b o (us ++ vs) → CellsAt w b o us ∧ CellsAt w b (o + us.length) vs := by
  intro us
  induction us with
  | nil => intro vs o h; exact ⟨trivial, by simpa using h⟩
  | cons u us ih =>
    intro vs o h
    obtain ⟨h1, h2⟩ := ih (vs := vs) (o := o + 1) h.2
    exact ⟨⟨h.1, h1⟩, by rw [List.length_cons, show o + (us.length + 1) = o + 1 + us.length from by omega]; exact h2⟩

/-! elements -/
structure Rep (α : Type) where
  m : Nat
  R : (Nat → Prop) → World → α → List Value → Prop
  pos : 0 < m
  len : ∀ {ok : Nat → Prop} {w : World} {x : α} {cs : List Value}, R ok w x cs → cs.length = m
  one : ∀ {ok : Nat → Prop} {w : World} {x : α} {cs : List Value}, R ok w x cs → cs.all oneB = true
  chg : ∀ {ok S : Nat → Prop} {w w' : World} {x : α} {cs : List Value}, (∀ b, ok b → ¬ S b) → Chg S w w' → R ok w x cs → R ok w' x cs
  mono : ∀ {ok ok' : Nat → Prop} {w : World} {x : α} {cs : List Value}, (∀ b, ok b → ok' b) → R ok w x cs → R ok' w x cs
  lt : ∀ {ok : Nat → Prop} {w : World} {x : α} {cs : List Value}, R ok w x cs → R (fun b => ok b ∧ b < w.heap.size) w x cs

variable {α : Type}
theorem Rep.ext (E : Rep α) {ok : Nat → Prop} {w w' : World} {x : α} {cs : List Value} (h : Ext w w') (hr : E.R ok w x cs) : E.R ok w' x cs :=
  E.chg (S := fun _ => False) (fun _ _ h => h) (.of h) hr

def RAt (E : Rep α) (ok : Nat → Prop) (w : World) : List α → Nat → Nat → Prop
  | [], _, _ => True
  | x :: l, b, o => (∃ cs, CellsAt w b o cs ∧ E.R ok w x cs) ∧ RAt E ok w l b (o + E.m)

section
variable {E : Rep α} {ok ok' S : Nat → Prop} {w w' : World}
theorem RAt.chg (hok : ∀ b, ok b → ¬ S b) (h : Chg S w w') : ∀ {l : List α} {b o : Nat}, ¬ S b → RAt E ok w l b o → RAt E ok w' l b o
  | [], _, _, _, _ => trivial
  | _ :: _, _, _, hb, ⟨⟨cs, hc, hr⟩, hl⟩ => ⟨⟨cs, h.cells hb hc, E.chg hok h hr⟩, RAt.chg hok h hb hl⟩
theorem RAt.ext (h : Ext w w') {l : List α} {b o : Nat} (hr : RAt E ok w l b o) : RAt E ok w' l b o :=
  RAt.chg (S := fun _ => False) (fun _ _ h => h) (.of h) (fun h => h) hr
theorem RAt.mono (h : ∀ b, ok b → ok' b) : ∀ {l : List α} {b o : Nat}, RAt E ok w l b o → RAt E ok' w l b o
  | [], _, _, _ => trivial
  | _ :: _, _, _, ⟨⟨cs, hc, hr⟩, hl⟩ => ⟨⟨cs, hc, E.mono h hr⟩, RAt.mono h hl⟩
/-- What is written into the same block, elsewhere, and the elements' own memory as it was. -/
theorem RAt.keep (hk : ∀ x cs, E.R ok w x cs → E.R ok w' x cs) : ∀ {l : List α} {b o : Nat}, (∀ i, o ≤ i → i < o + E.m * l.length → w'.cell? ⟨b, i, none⟩ = w.cell? ⟨b, i, none⟩) → RAt E ok w l b o → RAt E ok w' l b o
  | [], _, _, _, _ => trivial
  | _ :: l, b, o, hc, ⟨⟨cs, h1, h2⟩, hl⟩ => by
    simp only [List.length_cons, Nat.mul_succ] at hc
    refine ⟨⟨cs, h1.keep fun i hi1 hi2 => hc i hi1 ?_, hk _ _ h2⟩, RAt.keep hk (fun i hi1 hi2 => hc i (by omega) (by omega)) hl⟩
    have := E.len h2
    omega
theorem RAt.app : ∀ {l k : List α} {b o : Nat}, RAt E ok w l b o → RAt E ok w k b (o + E.m * l.length) → RAt E ok w (l ++ k) b o := by
  intro l
  induction l with
  | nil => intro k b o _ h; simpa using h
  | cons x l ih =>
    rintro k b o ⟨hx, hl⟩ hk
    refine ⟨hx, ih hl ?_⟩
    rw [List.length_cons, Nat.mul_succ] at hk
    rwa [show o + E.m + E.m * l.length = o + (E.m * l.length + E.m) from by omega]
theorem RAt.get : ∀ {l : List α} {b o i : Nat} {x : α}, RAt E ok w l b o → l[i]? = some x → ∃ cs, CellsAt w b (o + i * E.m) cs ∧ E.R ok w x cs := by
  intro l
  induction l with
  | nil => intro _ _ _ _ _ h; simp at h
  | cons y l ih =>
    intro b o i x h hi
    cases i with
    | zero => simp at hi; subst hi; simpa using h.1
    | succ i =>
      have := ih h.2 (i := i) (by simpa using hi)
      rwa [show o + (i + 1) * E.m = o + E.m + i * E.m from by rw [Nat.succ_mul]; omega]
theorem RAt.of : ∀ {l : List α} {b o : Nat}, (∀ i x, l[i]? = some x → ∃ cs, CellsAt w b (o + i * E.m) cs ∧ E.R ok w x cs) → RAt E ok w l b o := by
  intro l
  induction l with
  | nil => intro _ _ _; trivial
  | cons y l ih =>
    intro b o h
    refine ⟨by simpa using h 0 y rfl, ih fun i x hi => ?_⟩
    have := h (i + 1) x (by simpa using hi)
    rwa [show o + (i + 1) * E.m = o + E.m + i * E.m from by rw [Nat.succ_mul]; omega] at this
theorem RAt.drop {l : List α} {b o k : Nat} (h : RAt E ok w l b o) : RAt E ok w (l.drop k) b (o + k * E.m) :=
  RAt.of fun i x hi => by
    rw [List.getElem?_drop] at hi
    have := h.get hi
    rwa [show o + (k + i) * E.m = o + k * E.m + i * E.m from by rw [Nat.add_mul]; omega] at this
theorem RAt.take {l : List α} {b o k : Nat} (h : RAt E ok w l b o) : RAt E ok w (l.take k) b o :=
  RAt.of fun i x hi => by
    rw [List.getElem?_take] at hi
    split at hi
    · exact h.get hi
    · cases hi
/-- The cells of a whole row. -/
theorem RAt.cells : ∀ {l : List α} {b o : Nat}, RAt E ok w l b o → ∃ cs, cs.length = l.length * E.m ∧ CellsAt w b o cs ∧ cs.all oneB = true ∧
    ∀ {w' : World} {b' o' : Nat}, (∀ x cs, E.R ok w x cs → E.R ok w' x cs) → CellsAt w' b' o' cs → RAt E ok w' l b' o' := by
  intro l
  induction l with
  | nil => intro b o _; exact ⟨[], by simp, trivial, rfl, fun _ _ => trivial⟩
  | cons x l ih =>
    rintro b o ⟨⟨cs, hc, hr⟩, hl⟩
    obtain ⟨ds, h1, h2, h3, h4⟩ := ih hl
    have hm := E.len hr
    refine ⟨cs ++ ds, by simp [h1, hm, Nat.succ_mul]; omega, CellsAt.append hc (by rwa [hm]), by simp [E.one hr, h3], ?_⟩
    intro w' b' o' hk hcs
    obtain ⟨h5, h6⟩ := CellsAt.split hcs
    exact ⟨⟨cs, h5, hk _ _ hr⟩, h4 hk (by rwa [hm] at h6)⟩
end

/-- A slice value that stands for a list. -/
def SlR (E : Rep α) (ok : Nat → Prop) (w : World) (s : Value) (l : List α) : Prop :=
  ∃ a c, s = .slice a l.length c ∧ l.length ≤ c ∧ c ≤ maxLen ∧ (l.length = 0 ∨ ∃ b o, a = some ⟨b, o, none⟩ ∧ ok b ∧ RAt E ok w l b o)
/-- A slice that may be written and grown: it lies at the beginning of its block. -/
def OwnR (E : Rep α) (ok : Nat → Prop) (w : World) (s : Value) (l : List α) : Prop :=
  ∃ a c, s = .slice a l.length c ∧ l.length ≤ c ∧ c ≤ maxLen ∧ (c = 0 ∨ ∃ B, a = some ⟨B, 0, none⟩ ∧ Rmy w B (c * E.m) ∧ RAt E ok w l B 0)

section
variable {E : Rep α} {ok ok' S : Nat → Prop} {w w' : World} {s : Value} {l : List α}
theorem SlR.ext (h : Ext w w') (hs : SlR E ok w s l) : SlR E ok w' s l := by
  obtain ⟨a, c, h1, h2, h2', h3⟩ := hs
  exact ⟨a, c, h1, h2, h2', h3.imp id fun ⟨b, o, ha, ho, h3⟩ => ⟨b, o, ha, ho, h3.ext h⟩⟩
theorem SlR.chg (hok : ∀ b, ok b → ¬ S b) (h : Chg S w w') (hs : SlR E ok w s l) : SlR E ok w' s l := by
  obtain ⟨a, c, h1, h2, h2', h3⟩ := hs
  exact ⟨a, c, h1, h2, h2', h3.imp id fun ⟨b, o, ha, ho, h3⟩ => ⟨b, o, ha, ho, h3.chg hok h (hok b ho)⟩⟩
theorem SlR.mono (h : ∀ b, ok b → ok' b) (hs : SlR E ok w s l) : SlR E ok' w s l := by
  obtain ⟨a, c, h1, h2, h2', h3⟩ := hs
  exact ⟨a, c, h1, h2, h2', h3.imp id fun ⟨b, o, ha, ho, h3⟩ => ⟨b, o, ha, h b ho, h3.mono h⟩⟩
theorem SlR.oneB (hs : SlR E ok w s l) : oneB s = true := by obtain ⟨a, c, rfl, _⟩ := hs; rfl
theorem SlR.nil (E : Rep α) (ok : Nat → Prop) (w : World) (a : Option Addr) (c : Nat) (hc : c ≤ maxLen) : SlR E ok w (.slice a 0 c) [] := ⟨a, c, rfl, Nat.zero_le _, hc, .inl rfl⟩
theorem OwnR.ext (h : Ext w w') (hs : OwnR E ok w s l) : OwnR E ok w' s l := by
  obtain ⟨a, c, h1, h2, h2', h3⟩ := hs
  exact ⟨a, c, h1, h2, h2', h3.imp id fun ⟨b, ha, hr, h3⟩ => ⟨b, ha, hr.ext h, h3.ext h⟩⟩
theorem OwnR.chg (hok : ∀ b, ok b → ¬ S b) (hb : ∀ b, blk s b → ¬ S b) (h : Chg S w w') (hs : OwnR E ok w s l) : OwnR E ok w' s l := by
  obtain ⟨a, c, h1, h2, h2', h3⟩ := hs
  refine ⟨a, c, h1, h2, h2', ?_⟩
  rcases h3 with h3 | ⟨b, ha, hr, h3⟩
  · exact .inl h3
  subst h1
  subst ha
  exact .inr ⟨b, rfl, h.rmy (hb b rfl) hr, RAt.chg hok h (hb b rfl) h3⟩
theorem OwnR.mono (h : ∀ b, ok b → ok' b) (hs : OwnR E ok w s l) : OwnR E ok' w s l := by
  obtain ⟨a, c, h1, h2, h2', h3⟩ := hs
  exact ⟨a, c, h1, h2, h2', h3.imp id fun ⟨b, ha, hr, h3⟩ => ⟨b, ha, hr, h3.mono h⟩⟩
theorem OwnR.sl (h : ∀ b, ok b → ok' b) (hb : ∀ b, blk s b → ok' b) (hs : OwnR E ok w s l) : SlR E ok' w s l := by
  obtain ⟨a, c, h1, h2, h2', h3⟩ := hs
  refine ⟨a, c, h1, h2, h2', ?_⟩
  rcases h3 with h3 | ⟨B, ha, hr, h3⟩
  · exact .inl (by omega)
  · subst h1
    subst ha
    exact .inr ⟨B, 0, rfl, hb B rfl, h3.mono h⟩
theorem OwnR.nil (E : Rep α) (ok : Nat → Prop) (w : World) (a : Option Addr) : OwnR E ok w (.slice a 0 0) [] := ⟨a, 0, rfl, Nat.le_refl _, Nat.zero_le _, .inl rfl⟩
/-- A new row. -/
theorem OwnR.new {t : Nat} {cells : List Value} (hn : cells.length = l.length * E.m) (hl : l.length ≤ maxLen) (hr : RAt E ok (w.alloc (.cells cells.toArray t)) l w.heap.size 0) :
    OwnR E ok (w.alloc (.cells cells.toArray t)) (.slice (some ⟨w.heap.size, 0, none⟩) l.length l.length) l :=
  ⟨_, _, rfl, Nat.le_refl _, hl, .inr ⟨_, rfl, by have := Rmy.new w cells t; rwa [hn] at this, hr⟩⟩
end

theorem RAt.lt {E : Rep α} {ok : Nat → Prop} {w : World} : ∀ {l : List α} {b o : Nat}, RAt E ok w l b o → RAt E (fun b => ok b ∧ b < w.heap.size) w l b o
  | [], _, _, _ => trivial
  | _ :: _, _, _, ⟨⟨cs, hc, hr⟩, hl⟩ => ⟨⟨cs, hc, E.lt hr⟩, RAt.lt hl⟩
theorem RAt.block_lt {E : Rep α} {ok : Nat → Prop} {w : World} {l : List α} {b o : Nat} (h : RAt E ok w l b o) (hl : l.length ≠ 0) : b < w.heap.size := by
  match l, hl, h with
  | x :: l, _, ⟨⟨cs, hc, hr⟩, _⟩ =>
    match cs, E.len hr, hc with
    | [], hm, _ => have := E.pos; simp at hm; omega
    | _ :: _, _, hc => exact World.block_lt_of_cell? _ _ hc.1
theorem SlR.lt {E : Rep α} {ok : Nat → Prop} {w : World} {s : Value} {l : List α} (h : SlR E ok w s l) : SlR E (fun b => ok b ∧ b < w.heap.size) w s l := by
  obtain ⟨a, c, h1, h2, h2', h3⟩ := h
  refine ⟨a, c, h1, h2, h2', ?_⟩
  by_cases h0 : l.length = 0
  · exact .inl h0
  · obtain ⟨b, o, ha, hb, hr⟩ := h3.resolve_left h0
    exact .inr ⟨b, o, ha, ⟨hb, hr.block_lt h0⟩, hr.lt⟩

/-! the kinds of elements -/
/-- Elements without parts of their own. -/
def Rep.flat (lc : α → List Value) (m : Nat) (hm : ∀ x, (lc x).length = m) (h1 : ∀ x, (lc x).all oneB = true) (h0 : 0 < m) : Rep α where
  m := m
  R := fun _ _ x cs => cs = lc x
  pos := h0
  len := fun h => by rw [h]; exact hm _
  one := fun h => by rw [h]; exact h1 _
  chg := fun _ _ h => h
  mono := fun _ h => h
  lt := fun h => h
/-- Slices as elements. -/
def Rep.sl (E : Rep α) : Rep (List α) where
  m := 1
  R := fun ok w l cs => ∃ s, cs = [s] ∧ SlR E ok w s l
  pos := Nat.one_pos
  len := fun ⟨s, h, _⟩ => by rw [h]; rfl
  one := fun ⟨s, h, hs⟩ => by rw [h]; simp [hs.oneB]
  chg := fun hok hc ⟨s, h, hs⟩ => ⟨s, h, hs.chg hok hc⟩
  mono := fun hok ⟨s, h, hs⟩ => ⟨s, h, hs.mono hok⟩
  lt := fun ⟨s, h, hs⟩ => ⟨s, h, hs.lt⟩

/-- The element at an index, behind a slice. -/
theorem SlR.at {E : Rep α} {ok : Nat → Prop} {w : World} {s : Value} {l : List α} (h : SlR E ok w s l) {i : Nat} (hi : i < l.length) :
    ∃ b o c cs, s = .slice (some ⟨b, o, none⟩) l.length c ∧ ok b ∧ CellsAt w b (o + i * E.m) cs ∧ E.R ok w (l[i]'hi) cs := by
  obtain ⟨a, c, h1, h2, h2', h3⟩ := h
  obtain ⟨b, o, ha, hb, hr⟩ := h3.resolve_left (by omega)
  subst ha
  obtain ⟨cs, hc, hR⟩ := hr.get (List.getElem?_eq_getElem hi)
  exact ⟨b, o, c, cs, h1, hb, hc, hR⟩

/-! reading out of an argument -/
section
variable {H : Type} {enc : TypeId × Value → H} {P : Program} {w : World} {held : Bool} {p : α → Prop}
theorem slR_of (E : Rep α) {te tS : TypeId} (ht : P.underlying tS = some (.slice te)) (hcells : P.cellsOf te = E.m)
    (node : ∀ n cs y, DataW.trod enc P w 0 (fun _ => true) held n te cs = some y → ∃ x, E.R (fun _ => True) w x cs ∧ p x) {fuel : Nat} {cs : List Value} {y : DataW H × List MemPlace} (h : DataW.trod enc P w 0 (fun _ => true) held fuel tS cs = some y) :
    ∃ s l, cs = [s] ∧ SlR E (fun _ => True) w s l ∧ ∀ x ∈ l, p x := by
  rcases DataW.trod_slice ht h with ⟨rfl, _⟩ | ⟨a, len, cap, elems, rest, n, rfl, rfl, _, hb, hl, hm', hlen, hel, _, _⟩
  · exact ⟨_, [], rfl, ⟨none, 0, rfl, Nat.le_refl _, Nat.zero_le _, .inl rfl⟩, fun x hx => by cases hx⟩
  · have each : ∀ i, i < len → ∃ cs', w.cells? 0 (a.add (i * E.m)) E.m = some cs' ∧ ∃ x, E.R (fun _ => True) w x cs' ∧ p x := by
      intro i hi
      have h1 := hel i hi
      rw [hcells, List.getElem?_eq_getElem (by omega)] at h1
      obtain ⟨cs', h2, h3⟩ := Option.bind_eq_some_iff.1 h1
      exact ⟨cs', h2, node n cs' _ h3⟩
    by_cases h0 : len = 0
    · subst h0
      exact ⟨_, [], rfl, ⟨some a, cap, rfl, Nat.zero_le _, hm', .inl rfl⟩, fun x hx => by cases hx⟩
    · have hplain : a = ⟨a.block, a.off, none⟩ := by
        obtain ⟨cs', h1, x, hR, _⟩ := each 0 (by omega)
        obtain ⟨_, hl', hc⟩ := World.cells?_some h1
        have := hc 0 E.pos
        rw [List.getElem?_eq_getElem (by have := E.pos; omega), Nat.zero_mul] at this
        have e : (a.add 0).add 0 = a := by simp [Addr.add]
        rw [e] at this
        exact plain_of_cell this
      obtain ⟨b, o, sp⟩ := a
      simp only [Addr.mk.injEq, true_and] at hplain
      subst hplain
      have rows : ∀ (n i : Nat), i + n = len → ∃ l : List α, l.length = n ∧ RAt E (fun _ => True) w l b (o + i * E.m) ∧ ∀ x ∈ l, p x := by
        intro n
        induction n with
        | zero => intro i _; exact ⟨[], rfl, trivial, fun x hx => by cases hx⟩
        | succ n ih =>
          intro i hi
          obtain ⟨l, hl, hf, hp⟩ := ih (i + 1) (by omega)
          obtain ⟨cs', h1, x, hR, hx⟩ := each i (by omega)
          have e : (⟨b, o, none⟩ : Addr).add (i * E.m) = ⟨b, o + i * E.m, none⟩ := by unfold Addr.add; split <;> simp_all
          rw [e] at h1
          refine ⟨x :: l, by simp [hl], ⟨⟨cs', (cells_of_cells? h1).1, hR⟩, ?_⟩, ?_⟩
          · rwa [Nat.succ_mul, ← Nat.add_assoc] at hf
          · intro y hy
            rcases List.mem_cons.1 hy with rfl | hy
            · exact hx
            · exact hp y hy
      obtain ⟨l, hfl, hfat, hfp⟩ := rows len 0 (by omega)
      exact ⟨_, l, rfl, ⟨some ⟨b, o, none⟩, cap, by rw [hfl], by omega, hm', .inr ⟨b, o, rfl, trivial, by simpa using hfat⟩⟩, hfp⟩
end

/-! append -/
theorem oneB_cell' {v : Value} (h : oneB v = true) : v.oneCell' = true := by cases v <;> simp_all [oneB, Value.oneCell']

theorem setCells_eq : ∀ (vs : List Value) (w : World) (b o : Nat), w.setCells b o vs = Vc.setCells w b o vs
  | [], _, _, _ => rfl
  | _ :: vs, _, b, o => by rw [World.setCells, Vc.setCells]; exact setCells_eq vs _ b (o + 1)

theorem cellsAt_get {w : World} {b : Nat} {vs : List Value} {o : Nat} (h : CellsAt w b o vs) (j : Nat) (u : Value) (hj : vs[j]? = some u) : w.cell? ((⟨b, o, none⟩ : Addr).add j) = some u := by
  have e : (⟨b, o, none⟩ : Addr).add j = ⟨b, o + j, none⟩ := by unfold Addr.add; split <;> simp_all
  rw [e]
  exact h.get hj

section
variable {P : Program} {T : Tab} {E : Rep α} {ok : Nat → Prop} {w : World} {s y : Value} {l k : List α}

theorem run_append_own (hT : Ties P T) {t e ty : Nat} {r q : TRow} (hr : look T t = some r) (ha : r.agg = false) (hd : r.desc = .slice e) (hq : look T e = some q) (hm : q.size = E.m) (hzs : q.zero.cells.toList.length = q.size)
    (hs : OwnR E ok w s l) (hok : ∀ b, ok b → ¬ blk s b)
    (hy : ∃ a c, y = .slice a k.length c ∧ (k.length = 0 ∨ ∃ b o, a = some ⟨b, o, none⟩ ∧ RAt E ok w k b o))
    (hbig : (l.length + k.length) * q.bytes ≤ 140737488355328) (hlen : l.length + k.length ≤ 9223372036854775807) :
    ∃ v w', (Builtin.append_ #[t, t] ty #[s, y]).run P w = .ok v w' ∧ OwnR E ok w' v (l ++ k) ∧ Chg (blk s) w w' ∧ (∀ b, blk v b → blk s b ∨ w.heap.size ≤ b ∧ b < w'.heap.size) := by
  obtain ⟨a, c, rfl, hlc, hcm, h3⟩ := hs
  obtain ⟨ya, yc, rfl, h4⟩ := hy
  have hu := ((ties_look hT hr).plain ha).trans (congrArg some hd)
  obtain ⟨i, hi, hsz, hby, hz⟩ := (ties_look hT hq).info
  have him : i.size = E.m := hsz.trans hm
  obtain ⟨news, hnl, hnc, hno, hnr⟩ : ∃ cs : List Value, cs.length = k.length * E.m ∧ (k.length = 0 ∨ ∃ b o, ya = some ⟨b, o, none⟩ ∧ CellsAt w b o cs) ∧ cs.all oneB = true ∧
      ∀ {w' : World} {b' o' : Nat}, (∀ x cs, E.R ok w x cs → E.R ok w' x cs) → CellsAt w' b' o' cs → RAt E ok w' k b' o' := by
    rcases h4 with h4 | ⟨b, o, hya, h4⟩
    · have := List.eq_nil_of_length_eq_zero h4
      subst this
      exact ⟨[], by simp, .inl rfl, rfl, fun _ _ => trivial⟩
    · obtain ⟨cs, g1, g2, g3, g4⟩ := h4.cells
      exact ⟨cs, g1, .inr ⟨b, o, hya, g2⟩, g3, g4⟩
  have hone : ∀ u ∈ news, u.oneCell' = true := fun u hu => oneB_cell' (List.all_eq_true.1 hno u hu)
  have hsrc : Src P i.size t (.slice ya k.length yc) k.length news w := by
    rcases hnc with h0 | ⟨b, o, rfl, hc⟩
    · have hn0 : news = [] := List.eq_nil_of_length_eq_zero (by rw [hnl, h0, Nat.zero_mul])
      subst hn0
      cases ya with
      | none => rw [h0]; exact Src.ofNil w hu yc
      | some ya => rw [h0]; exact Src.ofSlice w hu ya 0 yc [] (by simp) (fun j u h => by simp at h) hone
    · exact Src.ofSlice w hu _ _ _ news (by rw [hnl, him]) (fun j u hj => cellsAt_get hc j u hj) hone
  by_cases hroom : l.length + k.length ≤ c
  · by_cases hc0 : c = 0
    · have hl0 : l.length = 0 := by omega
      have hk0 : k.length = 0 := by omega
      have := List.eq_nil_of_length_eq_zero hl0
      subst this
      have := List.eq_nil_of_length_eq_zero hk0
      subst this
      subst hc0
      have hrun : (Builtin.append_ #[t, t] ty #[.slice a 0 0, .slice ya 0 yc]).run P w = .ok (.slice a 0 0) w := by
        have hl := hsrc.len
        have hcl := hsrc.cells
        have hn0 : news = [] := List.eq_nil_of_length_eq_zero (by rw [hnl]; simp)
        subst hn0
        cases a <;> simp [Builtin.append_, run_underlying hu, sizeOf, typeInfo, hi, Builtin.lenOf, storeCells]
        all_goals simp at hcl; simp [hcl, storeCells]
      exact ⟨_, _, hrun, OwnR.nil E ok w a, Chg.refl _ _, fun b hb => .inl hb⟩
    · obtain ⟨B, rfl, hrm, hra⟩ := h3.resolve_left hc0
      have hrm' : ∀ j, j < news.length → Free w ⟨B, 0 + l.length * i.size + j, none⟩ := fun j hj => hrm _ (by
        rw [him]
        rw [hnl] at hj
        have : (l.length + k.length) * E.m ≤ c * E.m := Nat.mul_le_mul_right _ hroom
        rw [Nat.add_mul] at this
        omega)
      have hrun := run_append_room_src w t t ty e i hu hi B 0 l.length c (.slice ya k.length yc) k.length news hsrc hroom (fun j hj => by obtain ⟨⟨u, hu⟩, _⟩ := hrm' j hj; rw [hu]; rfl) (fun j hj => (hrm' j hj).2)
      rw [setCells_eq, him] at hrun
      have hch : Chg (blk (.slice (some ⟨B, 0, none⟩) l.length c)) w (Vc.setCells w B (0 + l.length * E.m) news) := Chg.setCells rfl _ _ _
      have hfit : 0 + l.length * E.m + news.length ≤ c * E.m := by
        have : (l.length + k.length) * E.m ≤ c * E.m := Nat.mul_le_mul_right _ hroom
        rw [Nat.add_mul] at this
        rw [hnl]
        omega
      have hk : ∀ x cs, E.R ok w x cs → E.R ok (Vc.setCells w B (0 + l.length * E.m) news) x cs := fun x cs h => E.chg hok hch h
      refine ⟨_, _, hrun, ⟨_, c, by rw [List.length_append], by rw [List.length_append]; omega, hcm, .inr ⟨B, rfl, Rmy.setCells _ hrm, RAt.app (RAt.keep hk (fun j h1 h2 => ?_) hra) (hnr hk ?_)⟩⟩, hch, fun b hb => .inl hb⟩
      · exact setCells_other _ _ _ _ fun _ => .inl (by simp only; rw [Nat.mul_comm] at h2; omega)
      · have := setCells_at news w (0 + l.length * E.m) _ hrm hfit
        rwa [Nat.mul_comm E.m]
  · obtain ⟨olds, hol, hoc, hor⟩ : ∃ cs : List Value, cs.length = l.length * E.m ∧ (l.length = 0 ∨ ∃ b o, a = some ⟨b, o, none⟩ ∧ CellsAt w b o cs) ∧
        ∀ {w' : World} {b' o' : Nat}, (∀ x cs, E.R ok w x cs → E.R ok w' x cs) → CellsAt w' b' o' cs → RAt E ok w' l b' o' := by
      rcases h3 with h3 | ⟨B, hB, _, h3⟩
      · have := List.eq_nil_of_length_eq_zero (show l.length = 0 by omega)
        subst this
        exact ⟨[], by simp, .inl rfl, fun _ _ => trivial⟩
      · obtain ⟨cs, g1, g2, g3, g4⟩ := h3.cells
        exact ⟨cs, g1, .inr ⟨B, 0, hB, g2⟩, g4⟩
    have hold : (Builtin.firstCells i.size l.length (.slice a l.length c)).run P w.drew = .ok olds.toArray w.drew := by
      rcases hoc with h0 | ⟨b, o, rfl, hc⟩
      · have hn0 : olds = [] := List.eq_nil_of_length_eq_zero (by rw [hol, h0, Nat.zero_mul])
        subst hn0
        rw [h0]
        cases a with
        | none => exact run_firstCells_none w.drew i.size 0 0 c
        | some a => exact run_firstCells_some w.drew i.size 0 a 0 c [] (by simp) (fun j u h => by simp at h)
      · exact run_firstCells_some w.drew i.size l.length _ _ c olds (by rw [hol, him]) (fun j u hj => by simpa using cellsAt_get hc j u hj)
    have hg : c < l.length + k.length := by omega
    have hfits := growslice_fits (bytes := i.bytes) hg (by rw [hby]; exact hbig)
    have hrun := run_append_grow_src w t t ty e i q.zero hu hi hz a l.length c olds hold (.slice ya k.length yc) k.length news hsrc hg (by omega) hfits
    have hge := grownCap_ge w (l.length + k.length) c e
    have hle := grownCap_le_maxLen w (l.length + k.length) c e (by unfold maxLen; omega)
    generalize hgc : grownCap w (l.length + k.length) c e = g at *
    have hzc : Builtin.zeroCells q.zero.cells (g - (l.length + k.length)) = (zs (g - (l.length + k.length)) q.zero.cells.toList).toArray := zs_made _ _
    have harr : (olds ++ news).toArray ++ Builtin.zeroCells q.zero.cells (g - (l.length + k.length)) = ((olds ++ news) ++ zs (g - (l.length + k.length)) q.zero.cells.toList).toArray := by rw [hzc]; simp
    rw [harr] at hrun
    have hall := boxedAll w.drew ((olds ++ news) ++ zs (g - (l.length + k.length)) q.zero.cells.toList) e
    have hrm := Rmy.new w.drew ((olds ++ news) ++ zs (g - (l.length + k.length)) q.zero.cells.toList) e
    have hlen' : ((olds ++ news) ++ zs (g - (l.length + k.length)) q.zero.cells.toList).length = g * E.m := by
      rw [List.length_append, List.length_append, zs_length, hol, hnl, hzs, hm, ← Nat.add_mul, ← Nat.add_mul]
      congr 1
      omega
    rw [hlen'] at hrm
    have hxt : Ext w (w.drew.alloc (.cells ((olds ++ news) ++ zs (g - (l.length + k.length)) q.zero.cells.toList).toArray e)) := (Below.drew (Ext.refl w)).alloc (Nat.le_refl _) _
    obtain ⟨h5, _⟩ := CellsAt.split hall
    obtain ⟨h6, h7⟩ := CellsAt.split h5
    refine ⟨_, _, hrun, ⟨_, g, by rw [List.length_append]; rfl, by rw [List.length_append]; exact hge, hle, .inr ⟨_, rfl, hrm, RAt.app (hor (fun _ _ => E.ext hxt) h6) (hnr (fun _ _ => E.ext hxt) ?_)⟩⟩, .of hxt, fun b hb => .inr ?_⟩
    · rw [Nat.mul_comm E.m, ← hol]; exact h7
    · have hb' : w.heap.size = b := hb
      subst hb'
      exact ⟨Nat.le_refl _, by simp⟩

/-- An append to a slice of one's own, as the calculus meets it. -/
theorem raw_append (hT : Ties P T) {o : Oper} {ρ : Fr} {K : Value → World → Prop} {c : Call} {t e : Nat} {X Y : Operand} {r q : TRow} (ho : o.op = .call c) (hc : c.callee = .builtin .append) (hat : c.argTypes.toList = [t, t]) (har : c.args.toList = [X, Y])
    (hr : look T t = some r) (ha : r.agg = false) (hd : r.desc = .slice e) (hq : look T e = some q) (hm : q.size = E.m) (hzs : q.zero.cells.toList.length = q.size)
    (hs : OwnR E ok w (ev ρ X) l) (hok : ∀ b, ok b → ¬ blk (ev ρ X) b)
    (hy : ∃ a c, ev ρ Y = .slice a k.length c ∧ (k.length = 0 ∨ ∃ b o, a = some ⟨b, o, none⟩ ∧ RAt E ok w k b o))
    (hbig : (l.length + k.length) * q.bytes ≤ 140737488355328) (hlen : l.length + k.length ≤ 9223372036854775807)
    (hK : ∀ v w', OwnR E ok w' v (l ++ k) → Chg (blk (ev ρ X)) w w' → (∀ b, blk v b → blk (ev ρ X) b ∨ w.heap.size ≤ b ∧ b < w'.heap.size) → K v w') : Raw P o ρ w K := by
  have e1 : c.argTypes = #[t, t] := by rw [← Array.toList_inj]; exact hat
  have e2 : c.args = #[X, Y] := by rw [← Array.toList_inj]; exact har
  obtain ⟨v, w', hrun, h1, h2, h3⟩ := run_append_own (ty := o.type) hT hr ha hd hq hm hzs hs hok hy hbig hlen
  refine ⟨.value v, v, w', ?_, rfl, hK v w' h1 h2 h3⟩
  simp [execOp, ho, resolve, hc, e1, e2, invoke, builtin, hrun]

end
end Go.Vc
