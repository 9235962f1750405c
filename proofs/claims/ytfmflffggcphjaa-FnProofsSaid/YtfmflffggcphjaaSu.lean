/- Propagation step by step, plainly: scanning a clause, putting a literal, pending clauses. No program in sight. -/
import Derived.Test.YtfmflffggcphjaaSt
namespace Go.Sat
open Go.Vc

theorem tr_lit {n : Nat} {v : List Int} (h : Vals n v) {l : Int} (ht : tr v l) : litOk n l = true := by
  rw [litOk_iff]
  have hl := h.len
  have h0 := h.head
  unfold tr at ht
  rcases ht with ⟨h1, h2⟩ | ⟨h1, h2⟩
  · have := (List.getElem?_eq_some_iff.1 h2).1; omega
  · have := (List.getElem?_eq_some_iff.1 h2).1; omega
theorem put_mono {n : Nat} {v : List Int} (h : Vals n v) {l : Int} (hl : litOk n l = true) (hf : fre v l) {m : Int} (hm : tr v m) : tr (put v l) m := (tr_put h hl hf m).2 (.inl hm)
theorem Fine.put {n : Nat} {v : List Int} {c : Cl} (h : Vals n v) {l : Int} (hl : litOk n l = true) (hf : fre v l) (hc : Fine v c) : Fine (put v l) c ∨ -l ∈ c := by
  rcases hc with ⟨x, hx, ht⟩ | ⟨x, hx, y, hy, hne, hfx, hfy⟩
  · exact .inl (.inl ⟨x, hx, put_mono h hl hf ht⟩)
  · by_cases e1 : x.natAbs = l.natAbs
    · rcases Int.natAbs_eq_natAbs_iff.1 e1 with e | e
      · subst e; exact .inl (.inl ⟨x, hx, (tr_put h hl hf x).2 (.inr rfl)⟩)
      · subst e; exact .inr hx
    · by_cases e2 : y.natAbs = l.natAbs
      · rcases Int.natAbs_eq_natAbs_iff.1 e2 with e | e
        · subst e; exact .inl (.inl ⟨y, hy, (tr_put h hl hf y).2 (.inr rfl)⟩)
        · subst e; exact .inr hy
      · exact .inl (.inr ⟨x, hx, y, hy, hne, (fre_put_iff e1).2 hfx, (fre_put_iff e2).2 hfy⟩)

theorem val_cases {n : Nat} {v : List Int} (h : Vals n v) {x a : Int} (hx : litOk n x = true) (ha : v[x.natAbs]? = some a) :
    (a = 0 ∧ fre v x) ∨ (a ≠ 0 ∧ (decide (0 < a) == decide (0 < x)) = true ∧ tr v x) ∨ (a ≠ 0 ∧ (decide (0 < a) == decide (0 < x)) = false ∧ tr v (-x)) := by
  have hx := litOk_iff.1 hx
  unfold fre tr
  rcases h.each _ _ ha with e | e | e <;> subst e
  · exact .inl ⟨rfl, ha⟩
  · rcases Int.lt_or_gt_of_ne hx.1 with h0 | h0
    · refine .inr (.inr ⟨by decide, ?_, .inl ⟨by omega, by rw [show (-x).toNat = x.natAbs from by omega]; exact ha⟩⟩)
      rw [decide_eq_false (show ¬ 0 < x by omega)]; rfl
    · refine .inr (.inl ⟨by decide, ?_, .inl ⟨h0, by rw [show x.toNat = x.natAbs from by omega]; exact ha⟩⟩)
      rw [decide_eq_true h0]; rfl
  · rcases Int.lt_or_gt_of_ne hx.1 with h0 | h0
    · refine .inr (.inl ⟨by decide, ?_, .inr ⟨h0, by rw [show (-x).toNat = x.natAbs from by omega]; exact ha⟩⟩)
      rw [decide_eq_false (show ¬ 0 < x by omega)]; rfl
    · refine .inr (.inr ⟨by decide, ?_, .inr ⟨by omega, by rw [show (- -x).toNat = x.natAbs from by omega]; exact ha⟩⟩)
      rw [decide_eq_true h0]; rfl

/-! scanning a clause -/
/-- What is known of the literals that have been looked at, none of them true. -/
def Scan (v : List Int) (c : Cl) (free : Nat) (last : Int) : Prop :=
  (free = 0 ∧ ∀ x ∈ c, tr v (-x)) ∨ (free = 1 ∧ last ∈ c ∧ fre v last ∧ ∀ x ∈ c, x ≠ last → tr v (-x)) ∨ (2 ≤ free ∧ ∃ x ∈ c, ∃ y ∈ c, x ≠ y ∧ fre v x ∧ fre v y)
theorem Scan.nil (v : List Int) (last : Int) : Scan v [] 0 last := .inl ⟨rfl, fun x hx => by cases hx⟩
theorem Scan.no {v : List Int} {c : Cl} {free : Nat} {last x : Int} (h : Scan v c free last) (hx : tr v (-x)) : Scan v (c ++ [x]) free last := by
  rcases h with ⟨h1, h2⟩ | ⟨h1, h2, h3, h4⟩ | ⟨h1, y, hy, z, hz, h2⟩
  · exact .inl ⟨h1, fun y hy => by rcases List.mem_append.1 hy with hy | hy; exact h2 y hy; rw [List.mem_singleton.1 hy]; exact hx⟩
  · exact .inr (.inl ⟨h1, by simp [h2], h3, fun y hy hne => by rcases List.mem_append.1 hy with hy | hy; exact h4 y hy hne; rw [List.mem_singleton.1 hy]; exact hx⟩)
  · exact .inr (.inr ⟨h1, y, by simp [hy], z, by simp [hz], h2⟩)
theorem Scan.free {v : List Int} {c : Cl} {free : Nat} {last x : Int} (h : Scan v c free last) (hx : fre v x) (hnew : x ∉ c) : Scan v (c ++ [x]) (free + 1) x := by
  rcases h with ⟨h1, h2⟩ | ⟨h1, h2, h3, h4⟩ | ⟨h1, y, hy, z, hz, h2⟩
  · refine .inr (.inl ⟨by omega, by simp, hx, fun y hy hne => ?_⟩)
    rcases List.mem_append.1 hy with hy | hy
    · exact h2 y hy
    · exact absurd (List.mem_singleton.1 hy) hne
  · exact .inr (.inr ⟨by omega, last, by simp [h2], x, by simp, fun e => hnew (e ▸ h2), h3, hx⟩)
  · exact .inr (.inr ⟨by omega, y, by simp [hy], z, by simp [hz], h2⟩)
theorem cl_new {n : Int} {c : Cl} (hc : clOk n c = true) {k : Nat} (hk : k < c.length) : c[k]'hk ∉ c.take k := by
  intro hm
  obtain ⟨i, hi, he⟩ := List.mem_iff_getElem.1 hm
  rw [List.length_take] at hi
  rw [List.getElem_take] at he
  have asc : ∀ (j : Nat) (hj : j < c.length), i < j → av (c[i]'(by omega)) < av (c[j]'hj) := by
    intro j
    induction j with
    | zero => intro _ h; omega
    | succ j ih =>
      intro hj hij
      have h1 := ((clFrom_iff' hc) j hj)
      by_cases e : i = j
      · subst e; exact h1
      · have := ih (by omega) (by omega); omega
  have := asc k hk (by omega)
  rw [he] at this
  omega

/-! what becomes of a look at a clause -/
inductive Look (v : List Int) (c : Cl) : Option (Option Int) → Prop
  | fine : Fine v c → Look v c (some none)
  | unit {l : Int} : l ∈ c → fre v l → (∀ x ∈ c, x ≠ l → tr v (-x)) → Look v c (some (some l))
  | bad : (∀ x ∈ c, tr v (-x)) → Look v c none

theorem Der.of_tr {F : Cnf} {A : Int → Prop} {n : Nat} {v : List Int} (hv : Vals n v) (hD : ∀ l, tr v l → Der F A l) {c : Cl} {l : Int} (hc : c ∈ F) (hl : l ∈ c) (hx : ∀ x ∈ c, x ≠ l → tr v (-x)) (hlo : litOk n l = true) (hf : fre v l) :
    ∀ m, tr (put v l) m → Der F A m := fun m hm => by
  rcases (tr_put hv hlo hf m).1 hm with h | rfl
  · exact hD m h
  · exact .unit hc hl fun x hx' hne => hD _ (hx x hx' hne)
theorem Upr.base {F : Cnf} {n : Nat} {A B : Int → Prop} {o : Option (List Int)} (hAB : ∀ l, A l → B l) (hBA : ∀ l, B l → Der F A l) (h : Upr F n B o) : Upr F n A o := by
  cases h with
  | no hb => exact .no (hb.mono hBA)
  | yes hv hF hA hD => exact .yes hv hF (fun l h => hA l (hAB l h)) (fun l h => (hD l h).mono hBA)

/-! sets of literals -/
theorem zero_vals (n : Nat) : Vals n (List.replicate (n + 1) 0) := by
  refine ⟨by simp, by simp [List.replicate_succ], fun i x hx => ?_⟩
  rw [List.getElem?_replicate] at hx
  split at hx
  · cases hx; simp
  · cases hx
theorem zero_tr (n : Nat) (l : Int) : ¬ tr (List.replicate (n + 1) 0) l := by
  rintro (⟨h1, h2⟩ | ⟨h1, h2⟩)
  · rw [List.getElem?_replicate] at h2; split at h2 <;> cases h2
  · rw [List.getElem?_replicate] at h2; split at h2 <;> cases h2

end Go.Sat
