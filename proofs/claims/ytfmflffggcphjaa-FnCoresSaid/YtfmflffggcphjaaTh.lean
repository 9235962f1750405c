/- Models, searches and counts, plainly. No program in sight. Counts of models, plainly: numbers as models, both ways round. No program in sight. Propagations, plainly. No program in sight. -/
import Derived.Test.YtfmflffggcphjaaCp
import Derived.Test.YtfmflffggcphjaaEv
import Derived.Test.YtfmflffggcphjaaPp
namespace Go.Sat
open Go.Vc

theorem satL_neg {m : List Bool} {x : Int} (h : x ≠ 0) : satL m (-x) = !satL m x := by
  unfold satL
  have : av (-x) = av x := by unfold av; omega
  rw [this]
  rcases Int.lt_or_gt_of_ne h with h0 | h0
  · rw [decide_eq_true (show 0 < -x by omega), decide_eq_false (show ¬ 0 < x by omega)]; cases m.getD (av x - 1).toNat false <;> rfl
  · rw [decide_eq_false (show ¬ 0 < -x by omega), decide_eq_true (show 0 < x by omega)]; cases m.getD (av x - 1).toNat false <;> rfl
/-- The literals of A are true under m. -/
def Hol (m : List Bool) (A : Int → Prop) : Prop := ∀ l, A l → satL m l = true
def Nz (F : Cnf) : Prop := ∀ c ∈ F, ∀ x ∈ c, x ≠ 0
theorem evF_iff {F : Cnf} {m : List Bool} : evF F m = true ↔ ∀ c ∈ F, ∃ x ∈ c, satL m x = true := by simp [evF, satC]
theorem der_sat {F : Cnf} {A : Int → Prop} {m : List Bool} (hF : Nz F) (hm : evF F m = true) (_hA0 : ∀ l, A l → l ≠ 0) (hA : Hol m A) {l : Int} (h : Der F A l) : satL m l = true := by
  induction h with
  | base ha => exact hA _ ha
  | @unit c l hc hl _ ih =>
    obtain ⟨x, hx, ht⟩ := evF_iff.1 hm c hc
    by_cases e : x = l
    · exact e ▸ ht
    · have := ih x hx e
      rw [satL_neg (hF c hc x hx), ht] at this
      cases this
theorem der_nz {F : Cnf} {A : Int → Prop} (hF : Nz F) (hA0 : ∀ l, A l → l ≠ 0) {l : Int} (h : Der F A l) : l ≠ 0 := by
  cases h with
  | base ha => exact hA0 _ ha
  | @unit c l hc hl _ => exact hF c hc _ hl
theorem bad_no {F : Cnf} {A : Int → Prop} {m : List Bool} (hF : Nz F) (hA0 : ∀ l, A l → l ≠ 0) (hb : Bad F A) (hm : evF F m = true) : ¬ Hol m A := by
  intro hA
  rcases hb with ⟨l, h1, h2⟩ | ⟨c, hc, h⟩
  · have a := der_sat hF hm hA0 hA h1
    have b := der_sat hF hm hA0 hA h2
    rw [satL_neg (der_nz hF hA0 h1), a] at b
    cases b
  · obtain ⟨x, hx, ht⟩ := evF_iff.1 hm c hc
    have := der_sat hF hm hA0 hA (h x hx)
    rw [satL_neg (hF c hc x hx), ht] at this
    cases this
theorem upr_hol {F : Cnf} {n : Nat} {A : Int → Prop} {u : List Int} {m : List Bool} (hF : Nz F) (hA0 : ∀ l, A l → l ≠ 0) (h : Upr F n A (some u)) (hm : evF F m = true) : Hol m A ↔ Hol m (tr u) := by
  cases h with
  | yes hv hf hA hD => exact ⟨fun h l hl => der_sat hF hm hA0 h (hD l hl), fun h l hl => h l (hA l hl)⟩
theorem fOk_nz {n : Int} {F : Cnf} (h : fOk n F = true) : Nz F := fun c hc x hx => (litOk_iff.1 (fOk_lit h c hc x hx)).1

/-! the model of a row of values -/
theorem modelOf_len {n : Nat} {v : List Int} (hv : Vals n v) : (modelOf v).length = n := by simp [modelOf, hv.len]
theorem tr_sat {n : Nat} {v : List Int} (hv : Vals n v) {l : Int} (h : tr v l) : satL (modelOf v) l = true := by
  have hlo := litOk_iff.1 (tr_lit hv h)
  have hget : ∀ (i : Nat) (x : Int), v[i]? = some x → 1 ≤ i → (modelOf v).getD (i - 1) false = decide (0 < x) := by
    intro i x hx hi
    unfold modelOf
    rw [List.getD_eq_getElem?_getD, List.getElem?_map, List.getElem?_tail, show i - 1 + 1 = i by omega, hx]
    rfl
  unfold satL
  rcases h with ⟨h1, h2⟩ | ⟨h1, h2⟩
  · rw [show (av l - 1).toNat = l.toNat - 1 by unfold av; omega, hget _ _ h2 (by omega), decide_eq_true h1]; rfl
  · rw [show (av l - 1).toNat = (-l).toNat - 1 by unfold av; omega, hget _ _ h2 (by omega), decide_eq_false (show ¬ 0 < l by omega)]; rfl
theorem no_fre {n : Nat} {v : List Int} (_hv : Vals n v) (h : lf v = 0) {l : Int} (hl : litOk n l = true) : ¬ fre v l := by
  intro hf
  have hlo := litOk_iff.1 hl
  unfold fre at hf
  have : v.tail[l.natAbs - 1]? = some 0 := by rw [List.getElem?_tail, show l.natAbs - 1 + 1 = l.natAbs by omega]; exact hf
  exact lfFrom_zero (by decide) h 0 (List.mem_of_getElem? this) rfl
theorem model_ok {n : Nat} {F : Cnf} {v : List Int} (hF : ∀ c ∈ F, ∀ x ∈ c, litOk n x = true) (hv : Vals n v) (h0 : lf v = 0) (hf : ∀ c ∈ F, Fine v c) : evF F (modelOf v) = true := by
  rw [evF_iff]
  intro c hc
  rcases hf c hc with ⟨x, hx, ht⟩ | ⟨x, hx, y, hy, _, hfx, _⟩
  · exact ⟨x, hx, tr_sat hv ht⟩
  · exact absurd hfx (no_fre hv h0 (hF c hc x hx))

/-! models as numbers, the first variable counting most -/
def num : List Bool → Nat
  | [] => 0
  | b :: l => (if b then 2 ^ l.length else 0) + num l
theorem num_lt : ∀ m : List Bool, num m < 2 ^ m.length
  | [] => by decide
  | b :: l => by
    have := num_lt l
    simp only [num, List.length_cons, Nat.pow_succ]
    split <;> omega
theorem num_first : ∀ (i : Nat) (m m' : List Bool), m.length = m'.length → m[i]? = some false → m'[i]? = some true → (∀ j, j < i → m[j]? = m'[j]?) → num m < num m'
  | 0, b :: l, b' :: l', hl, h1, h2, _ => by
    simp at h1 h2 hl
    subst h1; subst h2
    have := num_lt l
    simp only [num, hl] at *
    simp; omega
  | i + 1, b :: l, b' :: l', hl, h1, h2, h3 => by
    simp at h1 h2 hl
    have e := h3 0 (by omega)
    simp at e
    subst e
    have := num_first i l l' hl h1 h2 fun j hj => by have := h3 (j + 1) (by omega); simpa using this
    simp only [num, hl]
    omega
  | _, [], [], _, h, _, _ => by simp at h
  | _, [], _ :: _, h, _, _, _ => by simp at h
  | _, _ :: _, [], h, _, _, _ => by simp at h
theorem sat_at {m : List Bool} {i : Nat} (hi : i < m.length) : (satL m ((i : Int) + 1) = true ↔ m[i]? = some true) ∧ (satL m (-((i : Int) + 1)) = true ↔ m[i]? = some false) := by
  have h1 : (av ((i : Int) + 1) - 1).toNat = i := by unfold av; omega
  have h2 : (av (-((i : Int) + 1)) - 1).toNat = i := by unfold av; omega
  unfold satL
  rw [h1, h2, decide_eq_true (show (0 : Int) < i + 1 by omega), decide_eq_false (show ¬ (0 : Int) < -((i : Int) + 1) by omega), List.getD_eq_getElem?_getD, List.getElem?_eq_getElem hi]
  simp
/-- A model that says no at the first free variable comes before one that says yes there. -/
theorem first_lt {n : Nat} {v : List Int} (hv : Vals n v) {i : Nat} (hi : lf v = i + 1) {m m' : List Bool} (hm : m.length = n) (hm' : m'.length = n) (h : Hol m (tr v)) (h' : Hol m' (tr v)) (h1 : satL m (-((i : Int) + 1)) = true) (h2 : satL m' ((i : Int) + 1) = true) : num m < num m' := by
  obtain ⟨a1, a2, a3, a4⟩ := lf_spec hi (by omega)
  have hlen := hv.len
  refine num_first i m m' (by omega) ((sat_at (by omega)).2.1 h1) ((sat_at (by omega)).1.1 h2) fun j hj => ?_
  have hne := a4 (j + 1) (by omega) (by omega)
  have s1 := sat_at (m := m) (i := j) (by omega)
  have s2 := sat_at (m := m') (i := j) (by omega)
  rcases hv.at (i := j + 1) (by omega) with e | e | e
  · exact absurd e hne
  · have ht : tr v ((j : Int) + 1) := .inl ⟨by omega, by rw [show ((j : Int) + 1).toNat = j + 1 by omega]; exact e⟩
    rw [s1.1.1 (h _ ht), s2.1.1 (h' _ ht)]
  · have ht : tr v (-((j : Int) + 1)) := .inr ⟨by omega, by rw [show (-(-((j : Int) + 1))).toNat = j + 1 by omega]; exact e⟩
    rw [s1.2.1 (h _ ht), s2.2.1 (h' _ ht)]

/-! what a search finds -/
structure Found (F : Cnf) (n limit : Nat) (A : Int → Prop) (z made : Nat) (r : Res) : Prop where
  room : made + 2 ^ z ≤ limit + 1 → r.code ≠ 3 ∧ r.made + 1 ≤ made + 2 ^ z
  none : r.code = 2 → ∀ m : List Bool, m.length = n → evF F m = true → ¬ Hol m A
  some : r.code = 1 → (modelOf r.vals).length = n ∧ evF F (modelOf r.vals) = true ∧ Hol (modelOf r.vals) A ∧ ∀ m : List Bool, m.length = n → evF F m = true → Hol m A → num (modelOf r.vals) ≤ num m
theorem tr_nz {v : List Int} {l : Int} (h : tr v l) : l ≠ 0 := by
  rcases h with ⟨h, _⟩ | ⟨h, _⟩ <;> omega
theorem Found.up {F : Cnf} {n limit z z' made : Nat} {A B : Int → Prop} {r : Res} (hz : z ≤ z') (hAB : ∀ m, evF F m = true → (Hol m A ↔ Hol m B)) (h : Found F n limit A z made r) : Found F n limit B z' made r := by
  have := Nat.pow_le_pow_right (n := 2) (by decide) hz
  refine ⟨fun hr => ?_, fun h2 m hm he hh => h.none h2 m hm he ((hAB m he).2 hh), fun h1 => ?_⟩
  · have := h.room (by omega); exact ⟨this.1, by omega⟩
  · obtain ⟨a, b, c, d⟩ := h.some h1
    exact ⟨a, b, (hAB _ b).1 c, fun m hm he hh => d m hm he ((hAB m he).2 hh)⟩

/-- A propagation has an outcome. -/
theorem upr_total {F : Cnf} {n : Nat} {A : Int → Prop} (hF : ∀ c ∈ F, ∀ x ∈ c, litOk n x = true) : ∀ (k : Nat) (v : List Int), zeros v < k → Vals n v → (∀ l, A l → tr v l) → (∀ l, tr v l → Der F A l) → ∃ o, Upr F n A o := by
  intro k
  induction k with
  | zero => intro v h; omega
  | succ k ih =>
    intro v hz hv hA hD
    by_cases hf : ∀ c ∈ F, Fine v c
    · exact ⟨some v, .yes hv hf hA hD⟩
    · obtain ⟨c, hc⟩ := Classical.not_forall.1 hf
      obtain ⟨hcF, hnf⟩ := Classical.not_imp.1 hc
      have hnt : ∀ x ∈ c, ¬ tr v x := fun x hx ht => hnf (.inl ⟨x, hx, ht⟩)
      by_cases hfr : ∃ x ∈ c, fre v x
      · obtain ⟨l, hl, hfl⟩ := hfr
        have hlo := hF c hcF l hl
        have hrest : ∀ x ∈ c, x ≠ l → tr v (-x) := by
          intro x hx hne
          rcases hv.three (hF c hcF x hx) with h | h | h
          · exact absurd (.inr ⟨x, hx, l, hl, hne, h, hfl⟩) hnf
          · exact absurd h (hnt x hx)
          · exact h
        have hzp := zeros_put hfl
        exact ih (put v l) (by omega) (put_vals hv hlo) (fun x hx => (tr_put hv hlo hfl x).2 (.inl (hA x hx))) (Der.of_tr hv hD hcF hl hrest hlo hfl)
      · refine ⟨none, .no (.inr ⟨c, hcF, fun x hx => hD _ ?_⟩)⟩
        rcases hv.three (hF c hcF x hx) with h | h | h
        · exact absurd ⟨x, hx, h⟩ hfr
        · exact absurd h (hnt x hx)
        · exact h
theorem srch_found {F : Cnf} {n limit : Nat} (hF : ∀ c ∈ F, ∀ x ∈ c, litOk n x = true) : ∀ (k : Nat) (v : List Int) (made : Nat), zeros v < k → Vals n v → (∀ c ∈ F, Fine v c) → Found F n limit (tr v) (zeros v) made (srch F n limit k v made) := by
  have hnz : Nz F := fun c hc x hx => (litOk_iff.1 (hF c hc x hx)).1
  intro k
  induction k with
  | zero => intro v made h; omega
  | succ k ih =>
    intro v made hz hv hf
    have hbr : ∀ (l : Int) (made : Nat), litOk n l = true → fre v l → Found F n limit (fun x => tr v x ∨ x = l) (zeros v - 1) made (branch F n (srch F n limit k) (put v l) made) := by
      intro l made hl hfl
      have hpv := put_vals hv hl
      have hzp := zeros_put hfl
      have hA : ∀ m, Hol m (fun x => tr v x ∨ x = l) ↔ Hol m (tr (put v l)) := fun m => ⟨fun h x hx => h x ((tr_put hv hl hfl x).1 hx), fun h x hx => h x ((tr_put hv hl hfl x).2 hx)⟩
      have htot := upr_total (A := tr (put v l)) hF (zeros (put v l) + 1) (put v l) (by omega) hpv (fun _ h => h) (fun _ h => .base h)
      refine Exists.elim htot fun o ho => ?_
      unfold branch
      rw [upF_eq ho]
      cases o with
      | none =>
        refine ⟨fun hr => ⟨(by decide : (2 : Int) ≠ 3), ?_⟩, fun _ m hm he hh => ?_, fun h => (by cases h)⟩
        · have := Nat.one_le_two_pow (n := zeros v - 1); show made + 1 ≤ _; omega
        · cases ho with | no hb => exact bad_no hnz (fun _ h => tr_nz h) hb he ((hA m).1 hh)
      | some u =>
        have hvu : Vals n u ∧ (∀ c ∈ F, Fine u c) ∧ ∀ l', tr (put v l) l' → tr u l' := by cases ho with | yes a b c d => exact ⟨a, b, c⟩
        have hzu := zeros_tr hpv hvu.1 hvu.2.2
        refine (ih u made (by omega) hvu.1 hvu.2.1).up (by omega) fun m hm => ?_
        rw [hA m]
        exact (upr_hol hnz (fun _ h => tr_nz h) ho hm).symm
    unfold srch
    by_cases h0 : lf v = 0
    · rw [if_pos h0]
      refine ⟨fun hr => ⟨(by decide : (1 : Int) ≠ 3), ?_⟩, (fun h => by cases h), fun _ => ⟨modelOf_len hv, model_ok hF hv h0 hf, fun l hl => tr_sat hv hl, fun m hm he hh => ?_⟩⟩
      · have := Nat.one_le_two_pow (n := zeros v); show made + 1 ≤ _; omega
      · have : m = modelOf v := by
          apply List.ext_getElem?
          intro i
          by_cases hi : i < n
          · have s1 := sat_at (m := m) (i := i) (by omega)
            have s2 := sat_at (m := modelOf v) (i := i) (by rw [modelOf_len hv]; omega)
            have hli : litOk n ((i : Int) + 1) = true := litOk_iff.2 (by omega)
            rcases hv.three hli with h | h | h
            · exact absurd h (no_fre hv h0 hli)
            · rw [s1.1.1 (hh _ h), s2.1.1 (tr_sat hv h)]
            · rw [s1.2.1 (hh _ h), s2.2.1 (tr_sat hv h)]
          · rw [List.getElem?_eq_none (by omega), List.getElem?_eq_none (by rw [modelOf_len hv]; omega)]
        rw [this]; exact Nat.le_refl _
    · rw [if_neg h0]
      obtain ⟨i, hi⟩ : ∃ i, lf v = i + 1 := ⟨lf v - 1, by omega⟩
      obtain ⟨hl1, hl2, hf1, hf2⟩ := lf_fre hv hi (by omega)
      rw [hi]
      have hzp := zeros_put hf1
      have hpow : 2 ^ zeros v = 2 ^ (zeros v - 1) + 2 ^ (zeros v - 1) := by
        rw [show zeros v = (zeros v - 1) + 1 by omega, Nat.pow_succ, Nat.add_sub_cancel]; omega
      have hp1 := Nat.one_le_two_pow (n := zeros v - 1)
      by_cases hm : made = limit
      · rw [if_pos hm]
        exact ⟨fun hr => by omega, (fun h => by cases h), fun h => by cases h⟩
      rw [if_neg hm]
      have b1 := hbr (-((i + 1 : Nat) : Int)) (made + 1) hl2 hf2
      have e1 : ((i + 1 : Nat) : Int) = (i : Int) + 1 := by omega
      have split : ∀ m : List Bool, m.length = n → Hol m (tr v) → Hol m (fun x => tr v x ∨ x = ((i + 1 : Nat) : Int)) ∨ Hol m (fun x => tr v x ∨ x = -((i + 1 : Nat) : Int)) := by
        intro m hm hh
        cases hs : satL m ((i + 1 : Nat) : Int) with
        | true => exact .inl fun x hx => hx.elim (hh x) (fun e => e ▸ hs)
        | false =>
          refine .inr fun x hx => hx.elim (hh x) (fun e => ?_)
          rw [e, satL_neg (by omega), hs]; rfl
      generalize branch F n (srch F n limit k) (put v (-((i + 1 : Nat) : Int))) (made + 1) = r at b1 ⊢
      by_cases h2 : r.code = 2
      · simp only [h2, if_true]
        have b2 := hbr ((i + 1 : Nat) : Int) r.made hl1 hf1
        generalize branch F n (srch F n limit k) (put v ((i + 1 : Nat) : Int)) r.made = q at b2 ⊢
        have main : Found F n limit (tr v) (zeros v) made q := by
          refine ⟨fun hr => ?_, fun hq m hm he hh => ?_, fun hq => ?_⟩
          · have r1 := b1.room (by omega)
            have r2 := b2.room (by omega)
            exact ⟨r2.1, by omega⟩
          · rcases split m hm hh with h | h
            · exact b2.none hq m hm he h
            · exact b1.none h2 m hm he h
          · obtain ⟨a1, a2, a3, a4⟩ := b2.some hq
            refine ⟨a1, a2, fun x hx => a3 x (.inl hx), fun m hm he hh => ?_⟩
            rcases split m hm hh with h | h
            · exact a4 m hm he h
            · exact absurd h (b1.none h2 m hm he)
        by_cases hq : q.code = 2
        · simp only [hq, if_true]
          exact ⟨fun hr => ⟨(by decide : (2 : Int) ≠ 3), (main.room hr).2⟩, fun _ => main.none hq, fun h => by cases h⟩
        · simp only [hq, if_false]
          exact ⟨main.room, main.none, main.some⟩
      · simp only [h2, if_false]
        refine ⟨fun hr => ?_, fun h => absurd h h2, fun hq => ?_⟩
        · have r1 := b1.room (by omega)
          exact ⟨r1.1, by show r.made + 1 ≤ _; omega⟩
        · obtain ⟨a1, a2, a3, a4⟩ := b1.some hq
          refine ⟨a1, a2, fun x hx => a3 x (.inl hx), fun m hm he hh => ?_⟩
          rcases split m hm hh with h | h
          · refine Nat.le_of_lt (first_lt hv hi a1 hm (fun x hx => a3 x (.inl hx)) hh ?_ ?_)
            · rw [← e1]; exact a3 _ (.inr rfl)
            · rw [← e1]; exact h _ (.inr rfl)
          · exact a4 m hm he h

/-- What a search of a small formula hands back. -/
theorem sea_small {n : Nat} {F : Cnf} {lits : List Int} {r : Res} (hn : n ≤ 6) (hF : fOk n F = true) (hl : ∀ x ∈ lits, litOk n x = true) (h : SeaO n F lits 3000 r) :
    (r.code = 2 ∧ ∀ m : List Bool, m.length = n → evF F m = true → ¬ Hol m (fun x => x ∈ lits)) ∨
    (r.code = 1 ∧ (modelOf r.vals).length = n ∧ evF F (modelOf r.vals) = true ∧ Hol (modelOf r.vals) (fun x => x ∈ lits) ∧ ∀ m : List Bool, m.length = n → evF F m = true → Hol m (fun x => x ∈ lits) → num (modelOf r.vals) ≤ num m) := by
  unfold SeaO at h
  rw [if_pos ⟨hF, litsOk_iff.2 hl, by decide, by decide⟩] at h
  obtain ⟨o, ho, rfl⟩ := h
  have hnz := fOk_nz hF
  have hA0 : ∀ x, x ∈ lits → x ≠ 0 := fun x hx => (litOk_iff.1 (hl x hx)).1
  rw [Int.toNat_natCast] at ho ⊢
  cases o with
  | none =>
    cases ho with | no hb => exact .inl ⟨rfl, fun m _ he => bad_no hnz hA0 hb he⟩
  | some u =>
    have hvu : Vals n u ∧ (∀ c ∈ F, Fine u c) := by cases ho with | yes a b c d => exact ⟨a, b⟩
    have hzu := zeros_le u
    have hul := hvu.1.len
    have hz : zeros u ≤ 7 := by omega
    have hp : 2 ^ zeros u ≤ 2 ^ 7 := Nat.pow_le_pow_right (by decide) hz
    have hsf := (srch_found (limit := 3000) (fun c hc x hx => fOk_lit hF c hc x hx) (n + 2) u 0 (by omega) hvu.1 hvu.2).up (B := fun x => x ∈ lits) (Nat.le_refl _) (fun m hm => (upr_hol hnz hA0 ho hm).symm)
    have hroom := hsf.room (by omega)
    show (Res.code (srch F n 3000 (n + 2) u 0) = 2 ∧ _) ∨ _
    rcases srch_code (F := F) (n := n) (limit := 3000) (n + 2) u 0 with h | h | h
    · exact .inr ⟨h, hsf.some h⟩
    · exact .inl ⟨h, hsf.none h⟩
    · exact absurd h hroom.1
end Go.Sat
namespace Go.Sat
open Go.Vc

theorem bit_is {k i : Nat} (hi : i ≤ 63) (hk : k < 4611686018427387904) : bitAt k i = decide (k / 2 ^ i % 2 = 1) := by
  unfold bitAt
  have e1 : min (Int.toNat (i : Int)) IntKind.i64.bits = i := by
    show min (Int.toNat (i : Int)) 64 = i
    rw [Int.toNat_natCast]; omega
  have e2 : (k : Int).fdiv (2 ^ i) = ((k / 2 ^ i : Nat) : Int) := by
    rw [Int.fdiv_eq_ediv_of_nonneg _ (by exact_mod_cast Nat.zero_le _)]
    push_cast
    rfl
  have hq : k / 2 ^ i < 4611686018427387904 := Nat.lt_of_le_of_lt (Nat.div_le_self _ _) hk
  rw [e1, e2]
  generalize k / 2 ^ i = q at hq
  have e3 : bitsI .and .i64 (q : Int) 1 = ((q % 2 : Nat) : Int) := by
    unfold bitsI
    simp only
    rw [BitVec.toNat_and]
    have a : (BitVec.ofInt IntKind.i64.bits (q : Int)).toNat = q := by
      rw [BitVec.toNat_ofInt]
      show ((q : Int) % ((2 ^ 64 : Nat) : Int)).toNat = q
      omega
    have b : (BitVec.ofInt IntKind.i64.bits 1).toNat = 1 := by decide
    rw [a, b, Nat.and_one_is_mod, IntWalk.i64_in _ (by omega)]
  rw [e3]
  exact decide_eq_decide.2 (by omega)

/-- The first n bits of a number, the greatest first. -/
def rbits : Nat → Nat → List Bool
  | 0, _ => []
  | n + 1, k => decide (k / 2 ^ n % 2 = 1) :: rbits n k
theorem rbits_len : ∀ n k, (rbits n k).length = n
  | 0, _ => rfl
  | n + 1, k => by simp [rbits, rbits_len n k]
theorem rbits_get : ∀ {n k i : Nat}, i < n → (rbits n k)[i]? = some (decide (k / 2 ^ (n - 1 - i) % 2 = 1))
  | n + 1, k, 0, _ => by simp [rbits]
  | n + 1, k, i + 1, h => by
    rw [rbits, List.getElem?_cons_succ, rbits_get (by omega), show n + 1 - 1 - (i + 1) = n - 1 - i by omega]
theorem num_rbits : ∀ n k, num (rbits n k) = k % 2 ^ n
  | 0, k => by simp [rbits, num, Nat.mod_one]
  | n + 1, k => by
    rw [rbits, num, num_rbits n k, rbits_len, Nat.mod_pow_succ]
    have : k / 2 ^ n % 2 = 0 ∨ k / 2 ^ n % 2 = 1 := by omega
    rcases this with h | h <;> simp [h, Nat.add_comm]
theorem num_inj : ∀ {m m' : List Bool}, m.length = m'.length → num m = num m' → m = m'
  | [], [], _, _ => rfl
  | b :: l, b' :: l', hl, h => by
    have hl' : l.length = l'.length := by simpa using hl
    have h1 := num_lt l
    have h2 := num_lt l'
    rw [num, num, hl'] at h
    rw [hl'] at h1
    cases b <;> cases b' <;> simp at h
    · rw [num_inj hl' h]
    · omega
    · omega
    · rw [num_inj hl' h]
  | [], _ :: _, h, _ => by simp at h
  | _ :: _, [], h, _ => by simp at h
theorem rbits_num {m : List Bool} {n : Nat} (h : m.length = n) : rbits n (num m) = m := by
  refine num_inj (by rw [rbits_len, h]) ?_
  rw [num_rbits, Nat.mod_eq_of_lt (h ▸ num_lt m)]
theorem rbits_low {n a k : Nat} (h : n ≤ a) : rbits n (2 ^ a + k) = rbits n k := by
  induction n with
  | zero => rfl
  | succ n ih =>
    rw [rbits, rbits, ih (by omega)]
    have : (2 ^ a + k) / 2 ^ n % 2 = k / 2 ^ n % 2 := by
      have e : 2 ^ a = 2 ^ n * (2 * 2 ^ (a - n - 1)) := by
        rw [← Nat.pow_succ', ← Nat.pow_add]; congr 1; omega
      rw [e, Nat.mul_add_div (Nat.two_pow_pos n)]
      omega
    rw [this]
theorem bitsOf_succ (n k : Nat) : bitsOf (n + 1) k = bitsOf n k ++ [bitAt k n] := by simp [bitsOf, List.range_succ]

/-- Numbers below K. -/
def cntK (Q : Nat → Bool) : Nat → Nat
  | 0 => 0
  | k + 1 => cntK Q k + if Q k then 1 else 0
theorem cntK_le (Q : Nat → Bool) : ∀ k, cntK Q k ≤ k
  | 0 => Nat.le_refl _
  | k + 1 => by have := cntK_le Q k; rw [cntK]; split <;> omega
theorem cntK_add (Q : Nat → Bool) (a : Nat) : ∀ b, cntK Q (a + b) = cntK Q a + cntK (fun k => Q (a + k)) b
  | 0 => rfl
  | b + 1 => by rw [Nat.add_succ, cntK, cntK_add Q a b, cntK, Nat.add_assoc]
theorem cntK_congr {Q R : Nat → Bool} : ∀ {K : Nat}, (∀ k, k < K → Q k = R k) → cntK Q K = cntK R K
  | 0, _ => rfl
  | k + 1, h => by rw [cntK, cntK, cntK_congr fun j hj => h j (by omega), h k (by omega)]
def cntA : Nat → (List Bool → Bool) → Nat
  | 0, P => if P [] then 1 else 0
  | n + 1, P => cntA n (fun l => P (false :: l)) + cntA n (fun l => P (true :: l))
theorem cntA_snoc : ∀ (n : Nat) (P : List Bool → Bool), cntA (n + 1) P = cntA n (fun l => P (l ++ [false])) + cntA n (fun l => P (l ++ [true]))
  | 0, P => rfl
  | n + 1, P => by
    rw [cntA, cntA_snoc n (fun l => P (false :: l)), cntA_snoc n (fun l => P (true :: l))]
    simp only [cntA, List.cons_append]
    omega
theorem cnt_rbits : ∀ (n : Nat) (P : List Bool → Bool), cntK (fun k => P (rbits n k)) (2 ^ n) = cntA n P
  | 0, P => by simp [cntK, cntA, rbits]
  | n + 1, P => by
    rw [Nat.pow_succ, Nat.mul_two, cntK_add, cntA, ← cnt_rbits n, ← cnt_rbits n]
    congr 1
    · refine cntK_congr fun k hk => ?_
      rw [rbits, Nat.div_eq_of_lt hk]; rfl
    · refine cntK_congr fun k hk => ?_
      rw [rbits, rbits_low (Nat.le_refl _), Nat.add_div_left _ (Nat.two_pow_pos n), Nat.div_eq_of_lt hk]; rfl
theorem bitsOf_low {n a k : Nat} (h : n ≤ a) (ha : a ≤ 60) (hk : k < 2 ^ a) : bitsOf n (2 ^ a + k) = bitsOf n k := by
  have hp : 2 ^ a ≤ 2 ^ 60 := Nat.pow_le_pow_right (by decide) ha
  have h60 : (2 : Nat) ^ 60 = 1152921504606846976 := rfl
  rw [h60] at hp
  clear h60
  have hk' : 2 ^ a + k < 4611686018427387904 := by omega
  have hk2 : k < 4611686018427387904 := by omega
  clear hp
  induction n with
  | zero => simp [bitsOf]
  | succ n ih =>
    rw [bitsOf_succ, bitsOf_succ, ih (by omega), bit_is (by omega) hk', bit_is (by omega) hk2]
    have : (2 ^ a + k) / 2 ^ n % 2 = k / 2 ^ n % 2 := by
      have e : 2 ^ a = 2 ^ n * (2 * 2 ^ (a - n - 1)) := by
        rw [← Nat.pow_succ', ← Nat.pow_add]; congr 1; omega
      rw [e, Nat.mul_add_div (Nat.two_pow_pos n)]
      omega
    rw [this]
theorem cnt_bitsOf : ∀ (n : Nat) (P : List Bool → Bool), n ≤ 60 → cntK (fun k => P (bitsOf n k)) (2 ^ n) = cntA n P
  | 0, P, _ => by simp [cntK, cntA, bitsOf]
  | n + 1, P, hn => by
    have hp : 2 ^ n ≤ 2 ^ 60 := Nat.pow_le_pow_right (by decide) (by omega)
    have h60 : (2 : Nat) ^ 60 = 1152921504606846976 := rfl
    rw [h60] at hp
    clear h60
    rw [Nat.pow_succ, Nat.mul_two, cntK_add, cntA_snoc, ← cnt_bitsOf n _ (by omega), ← cnt_bitsOf n _ (by omega)]
    congr 1
    · refine cntK_congr fun k hk => ?_
      rw [bitsOf_succ, bit_is (by omega) (by omega), Nat.div_eq_of_lt hk]; rfl
    · refine cntK_congr fun k hk => ?_
      rw [bitsOf_succ, bitsOf_low (Nat.le_refl _) (by omega) hk, bit_is (by omega) (by omega), Nat.add_div_left _ (Nat.two_pow_pos n), Nat.div_eq_of_lt hk]; rfl
theorem cntF_K (n : Nat) (F : Cnf) : ∀ K, cntF n F K = cntK (fun k => evF F (bitsOf n k)) K
  | 0 => rfl
  | K + 1 => by rw [cntF, cntK, cntF_K n F K]
theorem cntM_A {n : Nat} {F : Cnf} (h : fOk n F = true) (hn : n ≤ 12) : cntM n F = cntA n (evF F) := by
  unfold cntM
  rw [if_pos ⟨h, by omega⟩, Int.toNat_natCast, cntF_K, cnt_bitsOf n (evF F) (by omega)]
theorem cntA_zero : ∀ {n : Nat} {P : List Bool → Bool}, cntA n P = 0 ↔ ∀ m : List Bool, m.length = n → P m = false
  | 0, P => by
    rw [cntA]
    constructor
    · intro h m hm
      rw [List.length_eq_zero_iff.1 hm]
      cases hp : P [] with
      | false => rfl
      | true => simp [hp] at h
    · intro h; rw [h [] rfl]; rfl
  | n + 1, P => by
    rw [cntA, Nat.add_eq_zero_iff, cntA_zero, cntA_zero]
    constructor
    · rintro ⟨h1, h2⟩ m hm
      match m, hm with
      | false :: l, hm => exact h1 l (by simpa using hm)
      | true :: l, hm => exact h2 l (by simpa using hm)
    · exact fun h => ⟨fun l hl => h _ (by simp [hl]), fun l hl => h _ (by simp [hl])⟩
theorem cntA_le : ∀ {n : Nat} {P Q : List Bool → Bool}, (∀ m : List Bool, m.length = n → P m = true → Q m = true) → cntA n P ≤ cntA n Q ∧ (cntA n P = cntA n Q ↔ ∀ m : List Bool, m.length = n → P m = Q m)
  | 0, P, Q, h => by
    have := h [] rfl
    rw [cntA, cntA]
    cases hp : P [] <;> cases hq : Q [] <;> simp [hp, hq] at this ⊢
    all_goals exact fun m hm => by rw [hm, hp, hq]
  | n + 1, P, Q, h => by
    have h1 := cntA_le (n := n) (P := fun l => P (false :: l)) (Q := fun l => Q (false :: l)) fun l hl => h _ (by simp [hl])
    have h2 := cntA_le (n := n) (P := fun l => P (true :: l)) (Q := fun l => Q (true :: l)) fun l hl => h _ (by simp [hl])
    rw [cntA, cntA]
    refine ⟨by omega, fun e => ?_, fun e => ?_⟩
    · have e1 := h1.2.1 (by omega)
      have e2 := h2.2.1 (by omega)
      intro m hm
      match m, hm with
      | false :: l, hm => exact e1 l (by simpa using hm)
      | true :: l, hm => exact e2 l (by simpa using hm)
    · have e1 := h1.2.2 fun l hl => e _ (by simp [hl])
      have e2 := h2.2.2 fun l hl => e _ (by simp [hl])
      omega
theorem cntM_zero {n : Nat} {F : Cnf} (h : fOk n F = true) (hn : n ≤ 12) : cntM n F = 0 ↔ ∀ m : List Bool, m.length = n → evF F m = false := by
  rw [cntM_A h hn, ← cntA_zero]; omega
theorem evF_sub {F G : Cnf} {m : List Bool} (h : ∀ c ∈ F, c ∈ G) (he : evF G m = true) : evF F m = true := evF_iff.2 fun c hc => evF_iff.1 he c (h c hc)
theorem evF_app {F G : Cnf} {m : List Bool} : evF (F ++ G) m = (evF F m && evF G m) := by simp [evF]
theorem cntM_more {n : Nat} {F : Cnf} {c : Cl} (h : fOk n F = true) (h' : fOk n (F ++ [c]) = true) (hn : n ≤ 12) : cntM n (F ++ [c]) = cntM n F ↔ ∀ m : List Bool, m.length = n → evF F m = true → satC m c = true := by
  rw [cntM_A h hn, cntM_A h' hn]
  have := (cntA_le (n := n) (P := evF (F ++ [c])) (Q := evF F) fun m _ => evF_sub fun d hd => List.mem_append_left _ hd).2
  constructor
  · intro e m hm he
    have := this.1 (by omega) m hm
    rw [evF_app, he] at this
    simpa [evF] using this
  · intro e
    have := this.2 fun m hm => by
      rw [evF_app]
      cases he : evF F m with
      | false => rfl
      | true => simp [evF, e m hm he]
    omega
theorem rbits_snoc {n k i : Nat} (hi : i < n) (hn : n ≤ 60) (hk : k < 4611686018427387904 := by omega) : (rbits n k).take (i + 1) = (rbits n k).take i ++ [bitAt k ((n : Int) - 1 - i)] := by
  have hl : i < (rbits n k).length := by rw [rbits_len]; exact hi
  rw [List.take_succ_eq_append_getElem hl]
  have h1 := rbits_get (k := k) hi
  rw [List.getElem?_eq_getElem hl] at h1
  rw [Option.some.inj h1, show (n : Int) - 1 - i = ((n - 1 - i : Nat) : Int) by omega, bit_is (by omega) hk]
/-- The first model, met on the way up. -/
theorem first_is {n k : Nat} {M : List Bool} (hM : M.length = n) (hk : k < 2 ^ n) (h1 : k ≤ num M) (h2 : num M ≤ num (rbits n k)) : M = rbits n k := by
  rw [num_rbits, Nat.mod_eq_of_lt hk] at h2
  rw [← rbits_num hM, show num M = k by omega]
theorem all_next {α : Type} {p : α → Bool} {l : List α} {k : Nat} (h : k < l.length) : (l.take (k + 1)).all p = ((l.take k).all p && p (l[k]'h)) := by
  rw [List.take_succ_eq_append_getElem h, List.all_append]; simp
end Go.Sat
namespace Go.Sat
open Go.Vc

/-! propagations -/
theorem Der.swap {F G : Cnf} {A B : Int → Prop} (hFG : ∀ c ∈ F, c ∈ G) (hAB : ∀ l, A l → B l) {l : Int} (h : Der F A l) : Der G B l := by
  induction h with
  | base ha => exact .base (hAB _ ha)
  | unit hc hl _ ih => exact .unit (hFG _ hc) hl ih
theorem Bad.swap {F G : Cnf} {A B : Int → Prop} (hFG : ∀ c ∈ F, c ∈ G) (hAB : ∀ l, A l → B l) (h : Bad F A) : Bad G B := by
  rcases h with ⟨l, h1, h2⟩ | ⟨c, hc, h⟩
  · exact .inl ⟨l, h1.swap hFG hAB, h2.swap hFG hAB⟩
  · exact .inr ⟨c, hFG c hc, fun x hx => (h x hx).swap hFG hAB⟩
theorem Upr.swap {F G : Cnf} {n : Nat} {A B : Int → Prop} {o : Option (List Int)} (hFG : ∀ c, c ∈ F ↔ c ∈ G) (hAB : ∀ l, A l ↔ B l) (h : Upr F n A o) : Upr G n B o := by
  cases h with
  | no hb => exact .no (hb.swap (fun c => (hFG c).1) fun l => (hAB l).1)
  | yes hv hf hA hD => exact .yes hv (fun c hc => hf c ((hFG c).2 hc)) (fun l hl => hA l ((hAB l).2 hl)) fun l hl => (hD l hl).swap (fun c => (hFG c).1) fun l => (hAB l).1
theorem fOk_rev {n : Int} {F : Cnf} : fOk n F.reverse = fOk n F := by simp [fOk]
theorem litsOk_rev {n : Int} {l : List Int} : litsOk n l.reverse = litsOk n l := by simp [litsOk]
theorem propO_rev {n : Int} {F : Cnf} {lits : List Int} {o : Option (List Int)} (h : PropO n F lits o) : PropO n F.reverse lits.reverse o := by
  unfold PropO at *
  rw [fOk_rev, litsOk_rev]
  split
  · rename_i hc
    rw [if_pos hc] at h
    obtain ⟨u, h1, h2⟩ := h
    exact ⟨u, h1.swap (by simp) (by simp), h2⟩
  · rename_i hc
    rw [if_neg hc] at h
    exact h
theorem mem_outK {n : Nat} {v : List Int} (hv : Vals n v) {l : Int} : ∀ {k : Nat}, k ≤ n + 1 → (l ∈ outK v k ↔ tr v l ∧ av l < k) := by
  intro k
  induction k with
  | zero => intro _; simp only [outK, List.not_mem_nil, false_iff]; unfold av; omega
  | succ k ih =>
    intro hk
    rw [outK, List.mem_append, ih (by omega)]
    have key : (l ∈ (if v.getD k 0 = 0 then [] else [v.getD k 0 * (k : Int)]) ↔ tr v l ∧ av l = k) := by
      rcases hv.at (i := k) (by omega) with e | e | e
      · rw [getD_of e]
        simp only [if_true, List.not_mem_nil, false_iff]
        rintro ⟨h, ha⟩
        have hf : fre v l := by unfold fre; rw [show l.natAbs = k by unfold av at ha; omega]; exact e
        exact (fre_not hf).1 h
      · rw [getD_of e]
        simp only [List.mem_singleton, (by decide : ¬ (1 : Int) = 0), if_false]
        by_cases hk0 : k = 0
        · subst hk0; have := hv.head; rw [this] at e; cases e
        constructor
        · intro hl
          have hl : l = k := by omega
          subst hl
          exact ⟨.inl ⟨by omega, by simpa using e⟩, by unfold av; omega⟩
        · rintro ⟨h | h, ha⟩
          · unfold av at ha; omega
          · have : (-l).toNat = k := by unfold av at ha; omega
            rw [this, e] at h
            exact absurd h.2 (by decide)
      · rw [getD_of e]
        simp only [List.mem_singleton, (by decide : ¬ (-1 : Int) = 0), if_false]
        by_cases hk0 : k = 0
        · subst hk0; have := hv.head; rw [this] at e; cases e
        constructor
        · intro hl
          have hl : l = -(k : Int) := by omega
          subst hl
          exact ⟨.inr ⟨by omega, by simpa using e⟩, by unfold av; omega⟩
        · rintro ⟨h | h, ha⟩
          · have : l.toNat = k := by unfold av at ha; omega
            rw [this, e] at h
            exact absurd h.2 (by decide)
          · unfold av at ha; omega
    rw [key]
    constructor
    · rintro (⟨h, h'⟩ | ⟨h, h'⟩)
      · exact ⟨h, by omega⟩
      · exact ⟨h, by omega⟩
    · rintro ⟨h, h'⟩
      by_cases e : av l = k
      · exact .inr ⟨h, e⟩
      · exact .inl ⟨h, by omega⟩
theorem mem_out {n : Nat} {v : List Int} (hv : Vals n v) {l : Int} : l ∈ outK v (n + 1) ↔ tr v l := by
  rw [mem_outK hv (Nat.le_refl _)]
  exact ⟨fun h => h.1, fun h => ⟨h, by have := litOk_iff.1 (tr_lit hv h); unfold av; omega⟩⟩
/-- What a propagation of good arguments hands back. -/
theorem propO_good {n : Nat} {F : Cnf} {lits : List Int} {o : Option (List Int)} (hF : fOk n F = true) (hl : ∀ x ∈ lits, litOk n x = true) (h : PropO n F lits o) :
    (∀ x ∈ o.getD [], litOk n x = true) ∧ (∀ l, o = some l → PropO n F l (some l)) ∧ (∀ m : List Bool, evF F m = true → Hol m (fun x => x ∈ lits) → o.isSome = true ∧ Hol m (fun x => x ∈ o.getD [])) := by
  unfold PropO at h
  rw [if_pos ⟨hF, litsOk_iff.2 hl⟩, Int.toNat_natCast] at h
  obtain ⟨u, hu, rfl⟩ := h
  have hnz := fOk_nz hF
  have hA0 : ∀ x, x ∈ lits → x ≠ 0 := fun x hx => (litOk_iff.1 (hl x hx)).1
  cases u with
  | none =>
    refine ⟨fun x hx => by simp at hx, fun l h => by simp at h, fun m he hh => ?_⟩
    cases hu with | no hb => exact absurd hh (bad_no hnz hA0 hb he)
  | some v =>
    have hv : Vals n v ∧ ∀ c ∈ F, Fine v c := by cases hu with | yes a b _ _ => exact ⟨a, b⟩
    have hlo : ∀ x ∈ outK v (n + 1), litOk n x = true := fun x hx => tr_lit hv.1 ((mem_out hv.1).1 hx)
    refine ⟨hlo, fun l h => ?_, fun m he hh => ⟨rfl, fun x hx => ?_⟩⟩
    · have h : outK v (n + 1) = l := by simpa using h
      subst h
      unfold PropO
      rw [if_pos ⟨hF, litsOk_iff.2 hlo⟩, Int.toNat_natCast]
      exact ⟨some v, .yes hv.1 hv.2 (fun l h => (mem_out hv.1).1 h) fun l h => .base ((mem_out hv.1).2 h), rfl⟩
    · exact (upr_hol hnz hA0 hu he).1 hh x ((mem_out hv.1).1 hx)
theorem fOk_more {n : Nat} {F : Cnf} {c : Cl} (hF : fOk n F = true) (hl : F.length ≤ 1599) (hc : clOk n c = true) : fOk n (F ++ [c]) = true := by
  simp only [fOk, Bool.and_eq_true, decide_eq_true_eq, List.all_eq_true, List.length_append, List.length_singleton] at hF ⊢
  refine ⟨by omega, fun d hd => ?_⟩
  rcases List.mem_append.1 hd with hd | hd
  · exact hF.2 d hd
  · rw [List.mem_singleton.1 hd]; exact hc
end Go.Sat
