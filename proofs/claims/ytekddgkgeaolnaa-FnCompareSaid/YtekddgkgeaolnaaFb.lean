/- A forest is read out of an argument. No program in sight. -/
import Derived.Test.YtekddgkgeaolnaaFa
import Derived.ChangeArms
import Derived.Deep.Slices
namespace Go.Vc
open Go Go.RowKit

def Fo.All {α : Type} (p : α → Prop) : Fo α → Prop
  | .nil => True
  | .cons x k r => p x ∧ k.All p ∧ r.All p

theorem plain_of_cell {w : World} {a : Addr} {v : Value} (h : w.cell? a = some v) : a = ⟨a.block, a.off, none⟩ := by
  unfold World.cell? at h
  obtain ⟨b, o, sp⟩ := a
  cases sp with
  | none => rfl
  | some x =>
    simp only at h
    split at h
    · simp at h
    · cases h

theorem cells_of_cells? {w : World} {b o n base : Nat} {cs : List Value} (h : w.cells? base ⟨b, o, none⟩ n = some cs) : CellsAt w b o cs ∧ cs.length = n := by
  obtain ⟨_, hl, hc⟩ := World.cells?_some h
  refine ⟨?_, hl⟩
  have key : ∀ (k : List Value) (i : Nat), (∀ j, k[j]? = cs[i + j]?) → i + k.length = cs.length → CellsAt w b (o + i) k := by
    intro k
    induction k with
    | nil => intro _ _ _; trivial
    | cons x k ih =>
      intro i hk hlen
      simp only [List.length_cons] at hlen
      refine ⟨?_, ?_⟩
      · have h1 := hc i (by omega)
        have e : (⟨b, o, none⟩ : Addr).add i = ⟨b, o + i, none⟩ := by unfold Addr.add; split <;> simp_all
        rw [e] at h1
        have := hk 0
        simp only [Nat.add_zero, List.getElem?_cons_zero] at this
        rw [h1, ← this]
      · have := ih (i + 1) (fun j => by have := hk (j + 1); rw [show i + 1 + j = i + (j + 1) from by omega, ← this]; simp) (by omega)
        rwa [show o + i + 1 = o + (i + 1) from by omega]
  exact key cs 0 (fun j => by simp) (by simp)

section
variable {H : Type} {enc : TypeId × Value → H} {P : Program} {w : World} {held : Bool} {α : Type} {lc : α → List Value} {m : Nat} {p : α → Prop}

theorem okWide_struct {r : Reach} {b0 : Nat} {t : TypeId} {v : Value} {fs : Array Field} (ht : P.underlying t = some (.struct fs)) (h : Value.okWide P w r b0 t v) : ∃ cs, v = .agg cs := by
  unfold Value.okWide at h
  rw [ht] at h
  obtain ⟨cs, rfl, _⟩ := h
  exact ⟨cs, rfl⟩

/-- A struct of two fields, of one cell each. -/
theorem struct2 {t : TypeId} {f0 f1 : Field} {fuel : Nat} {cs : List Value} {y : DataW H × List MemPlace} (ht : P.underlying t = some (.struct #[f0, f1])) (o0 : f0.offset = 0) (o1 : f1.offset = 1) (c : P.cellsOf t = 2) (c0 : P.cellsOf f0.type = 1) (c1 : P.cellsOf f1.type = 1)
    (h : DataW.trod enc P w 0 (fun _ => true) held fuel t cs = some y) :
    ∃ u v y0 y1 k, fuel = k + 1 ∧ cs = [u, v] ∧ DataW.trod enc P w 0 (fun _ => true) held k f0.type [u] = some y0 ∧ DataW.trod enc P w 0 (fun _ => true) held k f1.type [v] = some y1 := by
  obtain ⟨xs, k, rfl, _, hl, hxl, hf⟩ := DataW.trod_struct ht h
  rw [c] at hl
  have hxl : xs.length = 2 := hxl
  match cs, hl, xs, hxl with
  | [u, v], _, [x0, x1], _ =>
    have g0 := hf 0 f0 rfl
    have g1 := hf 1 f1 rfl
    simp [o0, o1, c0, c1] at g0 g1
    exact ⟨u, v, x0, x1, k, rfl, rfl, g0, g1⟩

theorem forest_rows {b o : Nat} : ∀ (n i : Nat), (∀ j, i ≤ j → j < i + n → ∃ x s k, CellsAt w b (o + j * m) (lc x ++ [s]) ∧ Fo.Sl lc m (fun _ => True) w s k ∧ p x ∧ k.All p) →
    ∃ f : Fo α, f.len = n ∧ f.At lc m (fun _ => True) w b (o + i * m) ∧ f.All p := by
  intro n
  induction n with
  | zero => intro i _; exact ⟨.nil, rfl, trivial, trivial⟩
  | succ n ih =>
    intro i h
    obtain ⟨f, hl, hf, hp⟩ := ih (i + 1) (fun j h1 h2 => h j (by omega) (by omega))
    obtain ⟨x, s, k, hc, hs, hx, hk⟩ := h i (by omega) (by omega)
    refine ⟨.cons x k f, by simp [Fo.len, hl], ⟨⟨s, hc, hs⟩, ?_⟩, hx, hk, hp⟩
    rwa [Nat.succ_mul, ← Nat.add_assoc] at hf

def IsForest (lc : α → List Value) (m : Nat) (p : α → Prop) (w : World) (cs : List Value) : Prop := ∃ s f, cs = [s] ∧ Fo.Sl lc m (fun _ => True) w s f ∧ f.All p

theorem forest_of (hm0 : 0 < m) {te tS : TypeId} (ht : P.underlying tS = some (.slice te)) (hcells : P.cellsOf te = m)
    (node : ∀ n cs y, (∀ n', n' < n → ∀ cs y, DataW.trod enc P w 0 (fun _ => true) held n' tS cs = some y → IsForest lc m p w cs) → DataW.trod enc P w 0 (fun _ => true) held n te cs = some y →
      ∃ x s, cs = lc x ++ [s] ∧ IsForest lc m p w [s] ∧ p x) :
    ∀ (fuel N : Nat), fuel < N → ∀ cs y, DataW.trod enc P w 0 (fun _ => true) held fuel tS cs = some y → IsForest lc m p w cs := by
  intro fuel N
  induction N generalizing fuel with
  | zero => intro h; omega
  | succ N ih =>
    intro hfN cs y h
    rcases DataW.trod_slice ht h with ⟨rfl, _⟩ | ⟨a, len, cap, elems, rest, n, rfl, rfl, _, hb, hl, hm', hlen, hel, _, _⟩
    · exact ⟨_, .nil, rfl, ⟨none, 0, rfl, Nat.zero_le _, .inl rfl⟩, trivial⟩
    · have each : ∀ i, i < len → ∃ cs', w.cells? 0 (a.add (i * m)) m = some cs' ∧ ∃ x s, cs' = lc x ++ [s] ∧ IsForest lc m p w [s] ∧ p x := by
        intro i hi
        have h1 := hel i hi
        rw [hcells, List.getElem?_eq_getElem (by omega)] at h1
        obtain ⟨cs', h2, h3⟩ := Option.bind_eq_some_iff.1 h1
        exact ⟨cs', h2, node n cs' _ (fun n' hn' cs y h => ih n' (by omega) cs y h) h3⟩
      by_cases h0 : len = 0
      · subst h0
        exact ⟨_, .nil, rfl, ⟨some a, cap, rfl, Nat.zero_le _, .inl rfl⟩, trivial⟩
      · have hplain : a = ⟨a.block, a.off, none⟩ := by
          obtain ⟨cs', h1, x, s, rfl, _⟩ := each 0 (by omega)
          obtain ⟨_, hl', hc⟩ := World.cells?_some h1
          have := hc 0 hm0
          have hlt : 0 < (lc x ++ [s]).length := by simp
          rw [List.getElem?_eq_getElem hlt] at this
          rw [Nat.zero_mul] at this
          have e : (a.add 0).add 0 = a := by simp [Addr.add]
          rw [e] at this
          exact plain_of_cell this
        obtain ⟨b, o, sp⟩ := a
        simp only [Addr.mk.injEq, true_and] at hplain
        subst hplain
        obtain ⟨f, hfl, hfat, hfp⟩ := forest_rows (w := w) (lc := lc) (m := m) (p := p) (b := b) (o := o) len 0 (fun j _ hj => by
          obtain ⟨cs', h1, x, s, rfl, ⟨s', k, hs', hsl, hkp⟩, hx⟩ := each j (by omega)
          simp only [List.cons.injEq, and_true] at hs'
          subst hs'
          have e : (⟨b, o, none⟩ : Addr).add (j * m) = ⟨b, o + j * m, none⟩ := by unfold Addr.add; split <;> simp_all
          rw [e] at h1
          exact ⟨x, s, k, (cells_of_cells? h1).1, hsl, hx, hkp⟩)
        refine ⟨_, f, rfl, ⟨some ⟨b, o, none⟩, cap, by rw [hfl], by omega, .inr ⟨b, o, rfl, trivial, by simpa using hfat⟩⟩, hfp⟩

end
end Go.Vc
