/- MakeClause, plainly: sorted, without doubles, is the same as put in one by one. No program in sight. -/
import Derived.Test.YtfmflffggcphjaaMc
import Derived.Lib.SlicesCompact
namespace Go.Sat
open Go.Vc
def lt2 (x y : Int) : Prop := av x < av y ∨ (av x = av y ∧ x < y)
instance (x y : Int) : Decidable (lt2 x y) := by unfold lt2; infer_instance
theorem lt2_irrefl (x : Int) : ¬ lt2 x x := by unfold lt2; omega
theorem lt2_asymm {x y : Int} (h : lt2 x y) : ¬ lt2 y x := by unfold lt2 at *; omega
theorem lt2_trans {x y z : Int} (h : lt2 x y) (h' : lt2 y z) : lt2 x z := by unfold lt2 at *; omega
theorem lt2_le {x y z : Int} (h : lt2 x y) (h' : ¬ lt2 z y) : lt2 x z := by unfold lt2 av at *; omega
theorem lt2_tot {x y : Int} (h : ¬ lt2 x y) (h' : ¬ lt2 y x) : x = y := by unfold lt2 at *; omega

theorem insC_mem {x : Int} : ∀ {o o' : List Int}, insC x o = some o' → ∀ y, y ∈ o' ↔ y = x ∨ y ∈ o := by
  intro o
  induction o with
  | nil => intro o' h y; cases h; simp
  | cons z t ih =>
    intro o' h y
    unfold insC at h
    split at h
    · cases hi : insC x t with
      | none => rw [hi] at h; cases h
      | some q =>
        rw [hi] at h
        cases h
        rw [List.mem_cons, ih hi y, List.mem_cons]
        constructor
        · rintro (h | h | h)
          · exact .inr (.inl h)
          · exact .inl h
          · exact .inr (.inr h)
        · rintro (h | h | h)
          · exact .inr (.inl h)
          · exact .inl h
          · exact .inr (.inr h)
    · split at h
      · rename_i h2
        cases h
        rw [List.mem_cons]
        constructor
        · exact .inr
        · rintro (h | h)
          · exact .inl (h.trans h2.symm)
          · exact h
      · split at h
        · cases h
        · cases h; rw [List.mem_cons]
theorem insC_none {x : Int} : ∀ {o : List Int}, insC x o = none → -x ∈ o := by
  intro o
  induction o with
  | nil => intro h; cases h
  | cons z t ih =>
    intro h
    unfold insC at h
    split at h
    · cases hi : insC x t with
      | none => exact List.mem_cons_of_mem _ (ih hi)
      | some q => rw [hi] at h; cases h
    · split at h
      · cases h
      · split at h
        · rename_i h3; rw [← h3]; exact List.mem_cons_self ..
        · cases h
theorem getD_mem {l : List Int} {k : Nat} (h : k < l.length) : l.getD k 0 ∈ l := by
  rw [List.getD_eq_getElem?_getD, List.getElem?_eq_getElem h]
  exact List.getElem_mem h
theorem mkcK_mem {l : List Int} : ∀ {k : Nat} {o : List Int}, k ≤ l.length → mkcK l k = some o → ∀ y, y ∈ o ↔ y ∈ l.take k := by
  intro k
  induction k with
  | zero => intro o _ h y; cases h; simp
  | succ k ih =>
    intro o hk h y
    rw [mkcK] at h
    split at h
    · cases h
    · rename_i o' ho
      split at h
      · rw [insC_mem h y, ih (by omega) ho y, take_snoc' (show k < l.length by omega), List.mem_append, List.mem_singleton]
        rw [List.getD_eq_getElem?_getD, List.getElem?_eq_getElem (show k < l.length by omega)]
        simp only [Option.getD_some]
        exact Or.comm
      · cases h
theorem mkcK_fail {l : List Int} (hl : ∀ x ∈ l, litOk 400 x = true) : ∀ {k : Nat}, k ≤ l.length → mkcK l k = none → ∃ x, x ∈ l ∧ -x ∈ l := by
  intro k
  induction k with
  | zero => intro _ h; cases h
  | succ k ih =>
    intro hk h
    rw [mkcK] at h
    split at h
    · rename_i ho; exact ih (by omega) ho
    · rename_i o' ho
      have hm := getD_mem (show k < l.length by omega)
      rw [if_pos (hl _ hm)] at h
      have := insC_none h
      rw [mkcK_mem (by omega) ho] at this
      exact ⟨_, hm, List.mem_of_mem_take this⟩
theorem mkcO_some {l c : List Int} (h : mkcO l = some c) : clOk 400 c = true ∧ ∀ y, y ∈ c ↔ y ∈ l := by
  refine ⟨mkcK_ok h, fun y => ?_⟩
  rw [mkcK_mem (Nat.le_refl _) h y, List.take_length]
theorem mkcO_lits {l : List Int} (h : litsOk 400 l = false) : mkcO l = none := by
  cases hc : mkcO l with
  | none => rfl
  | some c =>
    obtain ⟨h1, h2⟩ := mkcO_some hc
    have := clOk_lits h1
    have h3 : litsOk 400 l = true := litsOk_iff.2 fun x hx => this x ((h2 x).2 hx)
    rw [h] at h3
    cases h3
theorem clFrom_pair {n : Int} : ∀ {c : List Int} {last : Int}, clFrom n last c = true → (∀ y ∈ c, last < av y) ∧ c.Pairwise (fun x y => av x < av y) := by
  intro c
  induction c with
  | nil => intro last _; exact ⟨fun y hy => (by cases hy), List.Pairwise.nil⟩
  | cons x t ih =>
    intro last h
    simp only [clFrom, Bool.and_eq_true, decide_eq_true_eq] at h
    obtain ⟨h1, h2⟩ := ih h.2
    refine ⟨fun y hy => ?_, List.Pairwise.cons h1 h2⟩
    rcases List.mem_cons.1 hy with rfl | hy
    · exact h.1.2.2
    · have := h1 y hy; omega
theorem pair_unique : ∀ {a b : List Int}, a.Pairwise lt2 → b.Pairwise lt2 → (∀ y, y ∈ a ↔ y ∈ b) → a = b := by
  intro a
  induction a with
  | nil =>
    intro b _ _ h
    cases b with
    | nil => rfl
    | cons y b => exact absurd ((h y).2 (List.mem_cons_self ..)) (by simp)
  | cons x a ih =>
    intro b ha hb h
    cases b with
    | nil => exact absurd ((h x).1 (List.mem_cons_self ..)) (by simp)
    | cons y b =>
      obtain ⟨ha1, ha2⟩ := List.pairwise_cons.1 ha
      obtain ⟨hb1, hb2⟩ := List.pairwise_cons.1 hb
      have hxy : x = y := by
        rcases List.mem_cons.1 ((h x).1 (List.mem_cons_self ..)) with e | h1
        · exact e
        · rcases List.mem_cons.1 ((h y).2 (List.mem_cons_self ..)) with e | h2
          · exact e.symm
          · exact absurd (hb1 x h1) (lt2_asymm (ha1 y h2))
      subst hxy
      rw [ih ha2 hb2 fun z => ?_]
      constructor
      · intro hz
        rcases List.mem_cons.1 ((h z).1 (List.mem_cons_of_mem _ hz)) with e | h1
        · subst e; exact absurd (ha1 _ hz) (lt2_irrefl _)
        · exact h1
      · intro hz
        rcases List.mem_cons.1 ((h z).2 (List.mem_cons_of_mem _ hz)) with e | h1
        · subst e; exact absurd (hb1 _ hz) (lt2_irrefl _)
        · exact h1
/-- A list without doubles, strictly sorted, with the literals of l: it is a clause just if MakeClause finds it. -/
theorem mkcO_eq {l s : List Int} (hl : litsOk 400 l = true) (hs : s.Pairwise lt2) (hm : ∀ y, y ∈ s ↔ y ∈ l) : mkcO l = if clOk 400 s = true then some s else none := by
  have hl' := litsOk_iff.1 hl
  cases hc : mkcO l with
  | some c =>
    obtain ⟨h1, h2⟩ := mkcO_some hc
    have hp : c.Pairwise lt2 := (clFrom_pair h1).2.imp fun h => .inl h
    have : c = s := pair_unique hp hs fun y => (h2 y).trans (hm y).symm
    rw [← this, if_pos h1]
  | none =>
    obtain ⟨x, h1, h2⟩ := mkcK_fail hl' (Nat.le_refl _) hc
    rw [if_neg]
    intro hok
    have hp := (clFrom_pair hok).2
    have hx0 := (litOk_iff.1 (hl' x h1)).1
    have e : av x = av (-x) := by unfold av; omega
    have hne : x ≠ -x := by omega
    -- two members with one distance
    have key : ∀ {c : List Int}, c.Pairwise (fun x y => av x < av y) → ∀ y z, y ∈ c → z ∈ c → av y = av z → y = z := by
      intro c
      induction c with
      | nil => intro _ y z hy; cases hy
      | cons a t ih =>
        intro hp y z hy hz he
        obtain ⟨p1, p2⟩ := List.pairwise_cons.1 hp
        rcases List.mem_cons.1 hy with ey | hy'
        · rcases List.mem_cons.1 hz with ez | hz'
          · exact ey.trans ez.symm
          · have := p1 z hz'; rw [← ey] at this; omega
        · rcases List.mem_cons.1 hz with ez | hz'
          · have := p1 y hy'; rw [← ez] at this; omega
          · exact ih p2 y z hy' hz' he
    exact hne (key hp x (-x) ((hm x).2 h1) ((hm (-x)).2 h2) e)

/-! without doubles -/
theorem bang_getD (s : List Int) (j : Nat) : s.toArray[j]! = s.getD j 0 := by simp [List.getD_eq_getElem?_getD, getElem!_def]; rfl
theorem compact_sorted {s : List Int} (hs : ∀ i j, i < j → j < s.length → ¬ lt2 (s.getD j 0) (s.getD i 0)) : (Lib.compact s).Pairwise lt2 ∧ ∀ y, y ∈ Lib.compact s ↔ y ∈ s := by
  have key : ∀ m, m ≤ s.length → (Lib.compactUpTo s.toArray m).Pairwise lt2 ∧ ∀ y, y ∈ Lib.compactUpTo s.toArray m ↔ ∃ j, j < m ∧ s.getD j 0 = y := by
    intro m
    induction m with
    | zero => intro _; refine ⟨by simp [Lib.compactUpTo], fun y => ?_⟩; simp [Lib.compactUpTo]
    | succ m ih =>
      intro hm
      obtain ⟨h1, h2⟩ := ih (by omega)
      rw [Lib.compactUpTo_succ]
      by_cases hk : Lib.keeps s.toArray m = true
      · rw [if_pos hk, bang_getD]
        refine ⟨List.pairwise_append.2 ⟨h1, List.pairwise_singleton _ _, fun y hy z hz => ?_⟩, fun y => ?_⟩
        · rw [List.mem_singleton] at hz
          subst hz
          obtain ⟨j, hj, rfl⟩ := (h2 y).1 hy
          have hk' : m = 0 ∨ s.getD m 0 ≠ s.getD (m - 1) 0 := by
            unfold Lib.keeps at hk
            rw [decide_eq_true_eq, bang_getD, bang_getD] at hk
            exact hk
          have hne : s.getD m 0 ≠ s.getD (m - 1) 0 := hk'.resolve_left (by omega)
          have ha : lt2 (s.getD (m - 1) 0) (s.getD m 0) := by
            have h3 := hs (m - 1) m (by omega) (by omega)
            by_cases h4 : lt2 (s.getD (m - 1) 0) (s.getD m 0)
            · exact h4
            · exact absurd (lt2_tot h3 h4) hne
          by_cases hj1 : j = m - 1
          · rw [hj1]; exact ha
          · have h5 := hs j (m - 1) (by omega) (by omega)
            unfold lt2 av at *
            omega
        · rw [List.mem_append, List.mem_singleton, h2 y]
          constructor
          · rintro (⟨j, hj, rfl⟩ | rfl)
            · exact ⟨j, by omega, rfl⟩
            · exact ⟨m, by omega, rfl⟩
          · rintro ⟨j, hj, rfl⟩
            by_cases e : j = m
            · subst e; exact .inr rfl
            · exact .inl ⟨j, by omega, rfl⟩
      · rw [if_neg hk, List.append_nil]
        refine ⟨h1, fun y => ?_⟩
        rw [h2 y]
        have hk' : ¬ (m = 0 ∨ s.getD m 0 ≠ s.getD (m - 1) 0) := by
          unfold Lib.keeps at hk
          rw [decide_eq_true_eq, bang_getD, bang_getD] at hk
          exact hk
        constructor
        · rintro ⟨j, hj, rfl⟩; exact ⟨j, by omega, rfl⟩
        · rintro ⟨j, hj, rfl⟩
          by_cases e : j = m
          · subst e
            refine ⟨j - 1, by omega, ?_⟩
            have : s.getD j 0 = s.getD (j - 1) 0 := by
              by_cases h : s.getD j 0 = s.getD (j - 1) 0
              · exact h
              · exact absurd (.inr h) hk'
            exact this.symm
          · exact ⟨j, by omega, rfl⟩
  obtain ⟨h1, h2⟩ := key s.length (Nat.le_refl _)
  refine ⟨h1, fun y => ?_⟩
  show y ∈ Lib.compactUpTo s.toArray s.length ↔ _
  rw [h2 y, List.mem_iff_getElem?]
  constructor
  · rintro ⟨j, hj, rfl⟩
    exact ⟨j, by rw [List.getD_eq_getElem?_getD, List.getElem?_eq_getElem hj]; rfl⟩
  · rintro ⟨j, hj⟩
    have hjl : j < s.length := (List.getElem?_eq_some_iff.1 hj).1
    exact ⟨j, hjl, by rw [List.getD_eq_getElem?_getD, hj]; rfl⟩
end Go.Sat
