/- Clauses, unit propagation and searches, plainly. No program in sight. -/
import Derived.Test.YtfmflffggcphjaaFa
namespace Go.Sat
open Go.Vc

abbrev Cl := List Int
abbrev Cnf := List Cl

def av (x : Int) : Int := x.natAbs
theorem av_pos {x : Int} (h : 0 ≤ x) : av x = x := by unfold av; omega
theorem av_neg {x : Int} (h : x < 0) : av x = -x := by unfold av; omega
def litOk (n x : Int) : Bool := decide (x ≠ 0 ∧ -n ≤ x ∧ x ≤ n)
theorem litOk_iff {n x : Int} : litOk n x = true ↔ x ≠ 0 ∧ -n ≤ x ∧ x ≤ n := by simp [litOk]
def clFrom (n : Int) : Int → Cl → Bool
  | _, [] => true
  | last, x :: l => decide (-n ≤ x ∧ x ≤ n ∧ last < av x) && clFrom n (av x) l
def clOk (n : Int) (l : Cl) : Bool := clFrom n 0 l
def fOk (n : Int) (F : Cnf) : Bool := decide (0 ≤ n ∧ n ≤ 400 ∧ F.length ≤ 1600) && F.all (clOk n)

theorem clFrom_lits {n : Int} : ∀ {l : Cl} {last : Int}, 0 ≤ last → clFrom n last l = true → ∀ x ∈ l, litOk n x = true ∧ last < av x
  | [], _, _, _, _, hx => by cases hx
  | y :: l, last, h0, h, x, hx => by
    simp only [clFrom, Bool.and_eq_true, decide_eq_true_eq] at h
    have hy : litOk n y = true := by rw [litOk_iff]; unfold av at h; omega
    rcases List.mem_cons.1 hx with rfl | hx
    · exact ⟨hy, h.1.2.2⟩
    · have := clFrom_lits (last := av y) (by unfold av; omega) h.2 x hx
      exact ⟨this.1, by omega⟩
theorem clOk_lits {n : Int} {l : Cl} (h : clOk n l = true) : ∀ x ∈ l, litOk n x = true := fun x hx => (clFrom_lits (Int.le_refl 0) h x hx).1

theorem clFrom_iff {n : Int} : ∀ {l : Cl} {last : Int}, 0 ≤ last → (clFrom n last l = true ↔ (∀ x ∈ l, litOk n x = true) ∧ (∀ h : 0 < l.length, last < av (l[0]'h)) ∧ ∀ i, (h : i + 1 < l.length) → av (l[i]'(by omega)) < av (l[i + 1]'h)) := by
  intro l
  induction l with
  | nil => intro last _; simp [clFrom]
  | cons x l ih =>
    intro last h0
    have hx0 : 0 ≤ av x := by unfold av; omega
    simp only [clFrom, Bool.and_eq_true, decide_eq_true_eq, ih hx0]
    constructor
    · rintro ⟨⟨h1, h2, h3⟩, h4, h5, h6⟩
      refine ⟨?_, fun _ => h3, ?_⟩
      · intro y hy
        rcases List.mem_cons.1 hy with rfl | hy
        · rw [litOk_iff]; unfold av at h3; omega
        · exact h4 y hy
      · intro i hi
        cases i with
        | zero => simpa using h5 (by simpa using hi)
        | succ i => simpa using h6 i (by simpa using hi)
    · rintro ⟨h1, h2, h3⟩
      have hx := litOk_iff.1 (h1 x (by simp))
      refine ⟨⟨hx.2.1, hx.2.2, h2 (Nat.succ_pos _)⟩, fun y hy => h1 y (by simp [hy]), fun h => h3 0 (by simpa using h), fun i hi => h3 (i + 1) (by simpa using hi)⟩
theorem clOk_iff {n : Int} {l : Cl} : clOk n l = true ↔ (∀ x ∈ l, litOk n x = true) ∧ ∀ i, (h : i + 1 < l.length) → av (l[i]'(by omega)) < av (l[i + 1]'h) := by
  unfold clOk
  rw [clFrom_iff (Int.le_refl 0)]
  constructor
  · rintro ⟨h1, _, h3⟩; exact ⟨h1, h3⟩
  · rintro ⟨h1, h3⟩
    refine ⟨h1, fun h => ?_, h3⟩
    have := litOk_iff.1 (h1 _ (List.getElem_mem h))
    unfold av; omega
def litsOk (n : Int) (l : List Int) : Bool := l.all (litOk n)
theorem litsOk_iff {n : Int} {l : List Int} : litsOk n l = true ↔ ∀ x ∈ l, litOk n x = true := by simp [litsOk]
theorem all_no {α : Type} {p : α → Bool} {l : List α} {k : Nat} (h : k < l.length) (hp : p (l[k]'h) = false) : l.all p = false := by
  cases ha : l.all p with
  | false => rfl
  | true => rw [List.all_eq_true.1 ha _ (List.getElem_mem h)] at hp; cases hp
theorem all_step {α : Type} {p : α → Bool} {l : List α} {k : Nat} (h : k < l.length) (ha : (l.take k).all p = true) (hp : p (l[k]'h) = true) : (l.take (k + 1)).all p = true := by
  rw [List.take_succ_eq_append_getElem h, List.all_append, ha]; simp [hp]
theorem clFrom_step {n : Int} {l : Cl} {k : Nat} {last : Int} (h : k < l.length) : clFrom n last (l.drop k) = (decide (-n ≤ l[k]'h ∧ l[k]'h ≤ n ∧ last < av (l[k]'h)) && clFrom n (av (l[k]'h)) (l.drop (k + 1))) := by
  rw [List.drop_eq_getElem_cons h, clFrom]
theorem clFrom_iff' {n : Int} {c : Cl} (hc : clOk n c = true) : ∀ i, (h : i + 1 < c.length) → av (c[i]'(by omega)) < av (c[i + 1]'h) := (clOk_iff.1 hc).2

/-! values -/
/-- A literal is true. -/
def tr (v : List Int) (l : Int) : Prop := (0 < l ∧ v[l.toNat]? = some 1) ∨ (l < 0 ∧ v[(-l).toNat]? = some (-1))
/-- A variable is free. -/
def fre (v : List Int) (l : Int) : Prop := v[l.natAbs]? = some 0
structure Vals (n : Nat) (v : List Int) : Prop where
  len : v.length = n + 1
  head : v[0]? = some 0
  each : ∀ (i : Nat) (x : Int), v[i]? = some x → x = 0 ∨ x = 1 ∨ x = -1

theorem Vals.at {n : Nat} {v : List Int} (h : Vals n v) {i : Nat} (hi : i ≤ n) : v[i]? = some 0 ∨ v[i]? = some 1 ∨ v[i]? = some (-1) := by
  have hl := h.len
  have hg : v[i]? = some (v[i]'(by omega)) := List.getElem?_eq_getElem (by omega)
  rcases h.each _ _ hg with e | e | e <;> rw [hg, e] <;> simp
theorem Vals.three {n : Nat} {v : List Int} (h : Vals n v) {l : Int} (hl : litOk n l = true) : fre v l ∨ tr v l ∨ tr v (-l) := by
  rw [litOk_iff] at hl
  have := h.at (i := l.natAbs) (by omega)
  unfold fre tr
  rcases Int.lt_or_gt_of_ne hl.1 with h0 | h0
  · rw [show l.natAbs = (-l).toNat from by omega] at this ⊢
    rcases this with e | e | e
    · exact .inl e
    · exact .inr (.inr (.inl ⟨by omega, e⟩))
    · exact .inr (.inl (.inr ⟨h0, e⟩))
  · rw [show l.natAbs = l.toNat from by omega] at this ⊢
    rcases this with e | e | e
    · exact .inl e
    · exact .inr (.inl (.inl ⟨h0, e⟩))
    · exact .inr (.inr (.inr ⟨by omega, by rw [Int.neg_neg]; exact e⟩))
theorem tr_not {v : List Int} {l : Int} (h : tr v l) : ¬ tr v (-l) := by
  unfold tr at *
  rintro (⟨h1, h2⟩ | ⟨h1, h2⟩)
  · rcases h with ⟨h3, h4⟩ | ⟨h3, h4⟩
    · omega
    · rw [h4] at h2; cases h2
  · rcases h with ⟨h3, h4⟩ | ⟨h3, h4⟩
    · rw [Int.neg_neg, h4] at h2; cases h2
    · omega
theorem fre_not {v : List Int} {l : Int} (h : fre v l) : ¬ tr v l ∧ ¬ tr v (-l) := by
  unfold fre tr at *
  constructor
  · rintro (⟨h1, h2⟩ | ⟨h1, h2⟩)
    · rw [show l.natAbs = l.toNat from by omega, h2] at h; cases h
    · rw [show l.natAbs = (-l).toNat from by omega, h2] at h; cases h
  · rintro (⟨h1, h2⟩ | ⟨h1, h2⟩)
    · rw [show l.natAbs = (-l).toNat from by omega, h2] at h; cases h
    · rw [show l.natAbs = (- -l).toNat from by omega, h2] at h; cases h
def sgn (l : Int) : Int := if l < 0 then -1 else 1
/-- A literal is made true. -/
def put (v : List Int) (l : Int) : List Int := v.set l.natAbs (sgn l)
theorem put_vals {n : Nat} {v : List Int} (h : Vals n v) {l : Int} (hl : litOk n l = true) : Vals n (put v l) := by
  rw [litOk_iff] at hl
  refine ⟨by unfold put; rw [List.length_set]; exact h.len, by unfold put; rw [List.getElem?_set_ne (by omega)]; exact h.head, fun i x hx => ?_⟩
  unfold put at hx
  by_cases e : l.natAbs = i
  · subst e
    rw [List.getElem?_set_self (by rw [h.len]; omega)] at hx
    cases hx
    unfold sgn; split <;> simp
  · rw [List.getElem?_set_ne e] at hx
    exact h.each _ _ hx
theorem tr_put {n : Nat} {v : List Int} (h : Vals n v) {l : Int} (hl : litOk n l = true) (hf : fre v l) (m : Int) : tr (put v l) m ↔ tr v m ∨ m = l := by
  rw [litOk_iff] at hl
  have hlen := h.len
  have hin : l.natAbs < v.length := by omega
  unfold fre at hf
  unfold tr put sgn
  constructor
  · rintro (⟨h1, h2⟩ | ⟨h1, h2⟩)
    · by_cases e : l.natAbs = m.toNat
      · rw [← e, List.getElem?_set_self hin] at h2
        split at h2
        · cases h2
        · right; omega
      · rw [List.getElem?_set_ne e] at h2
        exact .inl (.inl ⟨h1, h2⟩)
    · by_cases e : l.natAbs = (-m).toNat
      · rw [← e, List.getElem?_set_self hin] at h2
        split at h2
        · right; omega
        · cases h2
      · rw [List.getElem?_set_ne e] at h2
        exact .inl (.inr ⟨h1, h2⟩)
  · rintro ((⟨h1, h2⟩ | ⟨h1, h2⟩) | rfl)
    · left
      refine ⟨h1, ?_⟩
      rw [List.getElem?_set_ne (fun e => by rw [e, h2] at hf; cases hf)]
      exact h2
    · right
      refine ⟨h1, ?_⟩
      rw [List.getElem?_set_ne (fun e => by rw [e, h2] at hf; cases hf)]
      exact h2
    · rcases Int.lt_or_gt_of_ne hl.1 with h0 | h0
      · right
        refine ⟨h0, ?_⟩
        rw [show (-m).toNat = m.natAbs from by omega, List.getElem?_set_self hin, if_pos h0]
      · left
        refine ⟨h0, ?_⟩
        rw [show m.toNat = m.natAbs from by omega, List.getElem?_set_self hin, if_neg (by omega)]
theorem fre_put {n : Nat} {v : List Int} (_h : Vals n v) {l : Int} {m : Int} (hm : fre (put v l) m) : fre v m ∧ m.natAbs ≠ l.natAbs := by
  unfold fre put at *
  by_cases e : l.natAbs = m.natAbs
  · rw [← e] at hm
    by_cases hin : l.natAbs < v.length
    · rw [List.getElem?_set_self hin] at hm
      unfold sgn at hm
      split at hm <;> cases hm
    · rw [List.getElem?_eq_none (by rw [List.length_set]; omega)] at hm
      cases hm
  · rw [List.getElem?_set_ne e] at hm
    exact ⟨hm, fun h => e h.symm⟩
theorem fre_put_iff {v : List Int} {l m : Int} (h : m.natAbs ≠ l.natAbs) : fre (put v l) m ↔ fre v m := by
  unfold fre put
  rw [List.getElem?_set_ne (fun e => h e.symm)]

/-- How many are free. -/
def zeros : List Int → Nat
  | [] => 0
  | x :: v => (if x = 0 then 1 else 0) + zeros v
theorem zeros_set : ∀ (v : List Int) (i : Nat) (x : Int), v[i]? = some 0 → x ≠ 0 → zeros (v.set i x) + 1 = zeros v
  | [], i, x, h, _ => by simp at h
  | y :: v, 0, x, h, hx => by simp at h; subst h; simp [zeros, hx]; omega
  | y :: v, i + 1, x, h, hx => by
    have := zeros_set v i x (by simpa using h) hx
    simp only [List.set_cons_succ, zeros]; omega
theorem zeros_put {v : List Int} {l : Int} (h : fre v l) : zeros (put v l) + 1 = zeros v :=
  zeros_set _ _ _ h (by unfold sgn; split <;> omega)
theorem zeros_le : ∀ v : List Int, zeros v ≤ v.length
  | [] => Nat.le_refl _
  | x :: v => by have := zeros_le v; simp only [zeros, List.length_cons]; split <;> omega

/-! what follows by unit propagation -/
inductive Der (F : Cnf) (A : Int → Prop) : Int → Prop
  | base {l : Int} : A l → Der F A l
  | unit {c : Cl} {l : Int} : c ∈ F → l ∈ c → (∀ x ∈ c, x ≠ l → Der F A (-x)) → Der F A l
def Bad (F : Cnf) (A : Int → Prop) : Prop := (∃ l, Der F A l ∧ Der F A (-l)) ∨ ∃ c ∈ F, ∀ x ∈ c, Der F A (-x)

theorem Der.mono {F : Cnf} {A B : Int → Prop} (h : ∀ l, A l → Der F B l) {l : Int} (hd : Der F A l) : Der F B l := by
  induction hd with
  | base ha => exact h _ ha
  | unit hc hl _ ih => exact .unit hc hl ih
theorem Bad.mono {F : Cnf} {A B : Int → Prop} (h : ∀ l, A l → Der F B l) (hb : Bad F A) : Bad F B := by
  rcases hb with ⟨l, h1, h2⟩ | ⟨c, hc, h1⟩
  · exact .inl ⟨l, h1.mono h, h2.mono h⟩
  · exact .inr ⟨c, hc, fun x hx => (h1 x hx).mono h⟩

/-- A clause is satisfied, or two of its literals are free. -/
def Fine (v : List Int) (c : Cl) : Prop := (∃ x ∈ c, tr v x) ∨ ∃ x ∈ c, ∃ y ∈ c, x ≠ y ∧ fre v x ∧ fre v y
theorem Fine.closed {F : Cnf} {A : Int → Prop} {v : List Int} (hF : ∀ c ∈ F, Fine v c) (hA : ∀ l, A l → tr v l) {l : Int} (hd : Der F A l) : tr v l := by
  induction hd with
  | base ha => exact hA _ ha
  | @unit c l hc hl _ ih =>
    rcases hF c hc with ⟨x, hx, ht⟩ | ⟨x, hx, y, hy, hne, hfx, hfy⟩
    · by_cases e : x = l
      · exact e ▸ ht
      · exact absurd (ih x hx e) (tr_not ht)
    · by_cases e : x = l
      · subst e
        exact absurd (ih y hy (fun e => hne e.symm)) (fre_not hfy).2
      · exact absurd (ih x hx e) (fre_not hfx).2
theorem Fine.good {F : Cnf} {A : Int → Prop} {v : List Int} (hF : ∀ c ∈ F, Fine v c) (hA : ∀ l, A l → tr v l) : ¬ Bad F A := by
  rintro (⟨l, h1, h2⟩ | ⟨c, hc, h⟩)
  · exact tr_not (Fine.closed hF hA h1) (Fine.closed hF hA h2)
  · rcases hF c hc with ⟨x, hx, ht⟩ | ⟨x, hx, y, hy, hne, hfx, hfy⟩
    · exact tr_not ht (Fine.closed hF hA (h x hx))
    · exact (fre_not hfx).2 (Fine.closed hF hA (h x hx))

/-- The outcome of a propagation of A. -/
inductive Upr (F : Cnf) (n : Nat) (A : Int → Prop) : Option (List Int) → Prop
  | no : Bad F A → Upr F n A none
  | yes {v : List Int} : Vals n v → (∀ c ∈ F, Fine v c) → (∀ l, A l → tr v l) → (∀ l, tr v l → Der F A l) → Upr F n A (some v)

theorem vals_eq {n : Nat} {v u : List Int} (hv : Vals n v) (hu : Vals n u) (h : ∀ l, tr v l ↔ tr u l) : v = u := by
  apply List.ext_getElem?
  intro i
  by_cases hi : i ≤ n
  · by_cases h0 : i = 0
    · subst h0; rw [hv.head, hu.head]
    · have hp := h (i : Int)
      have hm := h (-(i : Int))
      unfold tr at hp hm
      simp only [Int.toNat_natCast, Int.neg_neg] at hp hm
      have e1 : ¬ ((i : Int) < 0) := by omega
      have e2 : (0 : Int) < i := by omega
      have e3 : ¬ ((0 : Int) < -(i : Int)) := by omega
      have e4 : -(i : Int) < 0 := by omega
      simp only [e1, e2, e3, e4, true_and, false_and, or_false, false_or] at hp hm
      rcases hv.at hi with e | e | e <;> rcases hu.at hi with e' | e' | e' <;> rw [e, e'] at hp hm ⊢ <;> simp_all
  · rw [List.getElem?_eq_none (by rw [hv.len]; omega), List.getElem?_eq_none (by rw [hu.len]; omega)]

theorem Upr.unique {F : Cnf} {n : Nat} {A B : Int → Prop} {o o' : Option (List Int)} (hAB : ∀ l, A l → Der F B l) (hBA : ∀ l, B l → Der F A l) (h : Upr F n A o) (h' : Upr F n B o') : o = o' := by
  cases h with
  | no hb =>
    cases h' with
    | no _ => rfl
    | yes _ hF hA _ => exact absurd (hb.mono hAB) (Fine.good hF hA)
  | yes hv hF hA hD =>
    cases h' with
    | no hb => exact absurd (hb.mono hBA) (Fine.good hF hA)
    | yes hv' hF' hA' hD' =>
      congr 1
      exact vals_eq hv hv' fun l => ⟨fun h => Fine.closed hF' hA' ((hD l h).mono hAB), fun h => Fine.closed hF hA ((hD' l h).mono hBA)⟩

open Classical in
/-- The outcome of a propagation of what is true under v. -/
noncomputable def upF (F : Cnf) (n : Nat) (v : List Int) : Option (List Int) := if h : ∃ u, Upr F n (tr v) (some u) then some h.choose else none
theorem upF_eq {F : Cnf} {n : Nat} {v : List Int} {o : Option (List Int)} (h : Upr F n (tr v) o) : upF F n v = o := by
  unfold upF
  split
  · rename_i h'
    exact Upr.unique (fun _ ha => .base ha) (fun _ ha => .base ha) h'.choose_spec h
  · rename_i h'
    cases o with
    | none => rfl
    | some u => exact absurd ⟨u, h⟩ h'

/-- The least free variable. -/
def lfFrom (i : Nat) : List Int → Nat
  | [] => 0
  | x :: v => if x = 0 then i else lfFrom (i + 1) v
def lf (v : List Int) : Nat := lfFrom 1 v.tail
theorem lfFrom_zero {i : Nat} (hi : i ≠ 0) : ∀ {v : List Int}, lfFrom i v = 0 → ∀ x ∈ v, x ≠ 0 := by
  intro v
  induction v generalizing i with
  | nil => intro _ x hx; cases hx
  | cons y v ih =>
    intro h x hx
    simp only [lfFrom] at h
    split at h
    · exact absurd h hi
    · rcases List.mem_cons.1 hx with rfl | hx
      · assumption
      · exact ih (by omega) h x hx
theorem lfFrom_at : ∀ {v : List Int} {i k : Nat}, k < v.length → (∀ j, j < k → ∃ x, v[j]? = some x ∧ x ≠ 0) → v[k]? = some 0 → lfFrom i v = i + k := by
  intro v
  induction v with
  | nil => intro i k h; simp at h
  | cons y v ih =>
    intro i k hk hj h0
    cases k with
    | zero => simp at h0; simp [lfFrom, h0]
    | succ k =>
      obtain ⟨x, hx, hne⟩ := hj 0 (by omega)
      simp at hx
      subst hx
      rw [lfFrom, if_neg hne, ih (k := k) (by simpa using hk) (fun j h => by obtain ⟨x, h1, h2⟩ := hj (j + 1) (by omega); exact ⟨x, by simpa using h1, h2⟩) (by simpa using h0)]
      omega
theorem lfFrom_none : ∀ {v : List Int} {i : Nat}, (∀ x ∈ v, x ≠ 0) → lfFrom i v = 0 := by
  intro v
  induction v with
  | nil => intro _ _; rfl
  | cons y v ih => intro i h; rw [lfFrom, if_neg (h y (by simp)), ih fun x hx => h x (by simp [hx])]
theorem lfFrom_spec : ∀ {v : List Int} {i k : Nat}, i ≠ 0 → lfFrom i v = k → k ≠ 0 → i ≤ k ∧ k - i < v.length ∧ v[k - i]? = some 0 ∧ ∀ j, j < k - i → v[j]? ≠ some 0 := by
  intro v
  induction v with
  | nil => intro i k _ h hk; simp [lfFrom] at h; omega
  | cons y v ih =>
    intro i k hi h hk
    simp only [lfFrom] at h
    split at h
    · rename_i hy
      subst h
      subst hy
      refine ⟨Nat.le_refl _, by simp, by simp, fun j hj => by omega⟩
    · rename_i hy
      obtain ⟨h1, h2, h3, h4⟩ := ih (by omega) h hk
      refine ⟨by omega, by simp only [List.length_cons]; omega, ?_, fun j hj => ?_⟩
      · rw [show k - i = (k - (i + 1)) + 1 from by omega]; simpa using h3
      · cases j with
        | zero => simp; exact hy
        | succ j => simpa using h4 j (by omega)
theorem lf_spec {v : List Int} {k : Nat} (h : lf v = k) (hk : k ≠ 0) : 1 ≤ k ∧ k < v.length ∧ v[k]? = some 0 ∧ ∀ j, 1 ≤ j → j < k → v[j]? ≠ some 0 := by
  cases v with
  | nil => simp [lf, lfFrom] at h; omega
  | cons y v =>
    obtain ⟨h1, h2, h3, h4⟩ := lfFrom_spec (by omega) h hk
    simp only [List.tail_cons] at h2 h3 h4
    refine ⟨h1, by simp only [List.length_cons]; omega, ?_, fun j hj1 hj2 => ?_⟩
    · rw [show k = (k - 1) + 1 from by omega]; simpa using h3
    · have := h4 (j - 1) (by omega)
      rwa [show j = (j - 1) + 1 from by omega, List.getElem?_cons_succ]

/-! a search -/
structure Res where
  code : Int
  vals : List Int
  made : Nat
  tree : Int × Fo Int
def Res.no (made : Nat) (t : Int × Fo Int) : Res := ⟨2, [], made, t⟩

/-- One branch: f searches on. -/
noncomputable def branch (F : Cnf) (n : Nat) (f : List Int → Nat → Res) (v : List Int) (made : Nat) : Res :=
  match upF F n v with
  | none => Res.no made (0, .nil)
  | some u => f u made
noncomputable def srch (F : Cnf) (n limit : Nat) : Nat → List Int → Nat → Res
  | 0, _, made => Res.no made (0, .nil)
  | k + 1, v, made =>
    if lf v = 0 then ⟨1, v, made, (0, .nil)⟩
    else if made = limit then ⟨3, [], made, (0, .nil)⟩
    else
      let r := branch F n (srch F n limit k) (put v (-(lf v : Int))) (made + 1)
      if r.code = 2 then
        let q := branch F n (srch F n limit k) (put v (lf v : Int)) r.made
        if q.code = 2 then Res.no q.made (lf v, .cons r.tree.1 r.tree.2 (.cons q.tree.1 q.tree.2 .nil)) else ⟨q.code, q.vals, q.made, (0, .nil)⟩
      else ⟨r.code, r.vals, r.made, (0, .nil)⟩

end Go.Sat
