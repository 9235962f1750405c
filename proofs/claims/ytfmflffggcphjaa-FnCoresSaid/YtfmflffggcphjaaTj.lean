/- Propagations, plainly. No program in sight. -/
import Derived.Test.YtfmflffggcphjaaTi
import Derived.Test.YtfmflffggcphjaaPp
namespace Go.Sat
open Go.Vc

/-! propagations -/
theorem Der.swap {F G : Cnf} {A B : Int → Prop} (hFG : ∀ c ∈ F, c ∈ G) (hAB : ∀ l, A l → B l) {l : Int} (h : Der F A l) : Der G B l := by
  induction h with
  | base ha => exact .base (hAB _ ha)
  | unit hc hl _ ih => exact .unit (hFG _ hc) hl ih
theorem Bad.swap {F G : Cnf} {A B : Int → Prop} (hFG : ∀ c ∈ F, c ∈ G) (hAB : ∀ l, A l → B l) (h : Bad F A) : Bad G B := by
  rcases h with ⟨l, h1, h2⟩ | ⟨c, hc, h⟩
  · exact .inl ⟨l, h1.swap hFG hAB, h2.swap hFG hAB⟩
  · exact .inr ⟨c, hFG c hc, fun x hx => (h x hx).swap hFG hAB⟩
theorem Upr.swap {F G : Cnf} {n : Nat} {A B : Int → Prop} {o : Option (List Int)} (hFG : ∀ c, c ∈ F ↔ c ∈ G) (hAB : ∀ l, A l ↔ B l) (h : Upr F n A o) : Upr G n B o := by
  cases h with
  | no hb => exact .no (hb.swap (fun c => (hFG c).1) fun l => (hAB l).1)
  | yes hv hf hA hD => exact .yes hv (fun c hc => hf c ((hFG c).2 hc)) (fun l hl => hA l ((hAB l).2 hl)) fun l hl => (hD l hl).swap (fun c => (hFG c).1) fun l => (hAB l).1
theorem fOk_rev {n : Int} {F : Cnf} : fOk n F.reverse = fOk n F := by simp [fOk]
theorem litsOk_rev {n : Int} {l : List Int} : litsOk n l.reverse = litsOk n l := by simp [litsOk]
theorem propO_rev {n : Int} {F : Cnf} {lits : List Int} {o : Option (List Int)} (h : PropO n F lits o) : PropO n F.reverse lits.reverse o := by
  unfold PropO at *
  rw [fOk_rev, litsOk_rev]
  split
  · rename_i hc
    rw [if_pos hc] at h
    obtain ⟨u, h1, h2⟩ := h
    exact ⟨u, h1.swap (by simp) (by simp), h2⟩
  · rename_i hc
    rw [if_neg hc] at h
    exact h
theorem mem_outK {n : Nat} {v : List Int} (hv : Vals n v) {l : Int} : ∀ {k : Nat}, k ≤ n + 1 → (l ∈ outK v k ↔ tr v l ∧ av l < k) := by
  intro k
  induction k with
  | zero => intro _; simp only [outK, List.not_mem_nil, false_iff]; unfold av; omega
  | succ k ih =>
    intro hk
    rw [outK, List.mem_append, ih (by omega)]
    have key : (l ∈ (if v.getD k 0 = 0 then [] else [v.getD k 0 * (k : Int)]) ↔ tr v l ∧ av l = k) := by
      rcases hv.at (i := k) (by omega) with e | e | e
      · rw [getD_of e]
        simp only [if_true, List.not_mem_nil, false_iff]
        rintro ⟨h, ha⟩
        have hf : fre v l := by unfold fre; rw [show l.natAbs = k by unfold av at ha; omega]; exact e
        exact (fre_not hf).1 h
      · rw [getD_of e]
        simp only [List.mem_singleton, (by decide : ¬ (1 : Int) = 0), if_false]
        by_cases hk0 : k = 0
        · subst hk0; have := hv.head; rw [this] at e; cases e
        constructor
        · intro hl
          have hl : l = k := by omega
          subst hl
          exact ⟨.inl ⟨by omega, by simpa using e⟩, by unfold av; omega⟩
        · rintro ⟨h | h, ha⟩
          · unfold av at ha; omega
          · have : (-l).toNat = k := by unfold av at ha; omega
            rw [this, e] at h
            exact absurd h.2 (by decide)
      · rw [getD_of e]
        simp only [List.mem_singleton, (by decide : ¬ (-1 : Int) = 0), if_false]
        by_cases hk0 : k = 0
        · subst hk0; have := hv.head; rw [this] at e; cases e
        constructor
        · intro hl
          have hl : l = -(k : Int) := by omega
          subst hl
          exact ⟨.inr ⟨by omega, by simpa using e⟩, by unfold av; omega⟩
        · rintro ⟨h | h, ha⟩
          · have : l.toNat = k := by unfold av at ha; omega
            rw [this, e] at h
            exact absurd h.2 (by decide)
          · unfold av at ha; omega
    rw [key]
    constructor
    · rintro (⟨h, h'⟩ | ⟨h, h'⟩)
      · exact ⟨h, by omega⟩
      · exact ⟨h, by omega⟩
    · rintro ⟨h, h'⟩
      by_cases e : av l = k
      · exact .inr ⟨h, e⟩
      · exact .inl ⟨h, by omega⟩
theorem mem_out {n : Nat} {v : List Int} (hv : Vals n v) {l : Int} : l ∈ outK v (n + 1) ↔ tr v l := by
  rw [mem_outK hv (Nat.le_refl _)]
  exact ⟨fun h => h.1, fun h => ⟨h, by have := litOk_iff.1 (tr_lit hv h); unfold av; omega⟩⟩
/-- What a propagation of good arguments hands back. -/
theorem propO_good {n : Nat} {F : Cnf} {lits : List Int} {o : Option (List Int)} (hF : fOk n F = true) (hl : ∀ x ∈ lits, litOk n x = true) (h : PropO n F lits o) :
    (∀ x ∈ o.getD [], litOk n x = true) ∧ (∀ l, o = some l → PropO n F l (some l)) ∧ (∀ m : List Bool, evF F m = true → Hol m (fun x => x ∈ lits) → o.isSome = true ∧ Hol m (fun x => x ∈ o.getD [])) := by
  unfold PropO at h
  rw [if_pos ⟨hF, litsOk_iff.2 hl⟩, Int.toNat_natCast] at h
  obtain ⟨u, hu, rfl⟩ := h
  have hnz := fOk_nz hF
  have hA0 : ∀ x, x ∈ lits → x ≠ 0 := fun x hx => (litOk_iff.1 (hl x hx)).1
  cases u with
  | none =>
    refine ⟨fun x hx => by simp at hx, fun l h => by simp at h, fun m he hh => ?_⟩
    cases hu with | no hb => exact absurd hh (bad_no hnz hA0 hb he)
  | some v =>
    have hv : Vals n v ∧ ∀ c ∈ F, Fine v c := by cases hu with | yes a b _ _ => exact ⟨a, b⟩
    have hlo : ∀ x ∈ outK v (n + 1), litOk n x = true := fun x hx => tr_lit hv.1 ((mem_out hv.1).1 hx)
    refine ⟨hlo, fun l h => ?_, fun m he hh => ⟨rfl, fun x hx => ?_⟩⟩
    · have h : outK v (n + 1) = l := by simpa using h
      subst h
      unfold PropO
      rw [if_pos ⟨hF, litsOk_iff.2 hlo⟩, Int.toNat_natCast]
      exact ⟨some v, .yes hv.1 hv.2 (fun l h => (mem_out hv.1).1 h) fun l h => .base ((mem_out hv.1).2 h), rfl⟩
    · exact (upr_hol hnz hA0 hu he).1 hh x ((mem_out hv.1).1 hx)
theorem fOk_more {n : Nat} {F : Cnf} {c : Cl} (hF : fOk n F = true) (hl : F.length ≤ 1599) (hc : clOk n c = true) : fOk n (F ++ [c]) = true := by
  simp only [fOk, Bool.and_eq_true, decide_eq_true_eq, List.all_eq_true, List.length_append, List.length_singleton] at hF ⊢
  refine ⟨by omega, fun d hd => ?_⟩
  rcases List.mem_append.1 hd with hd | hd
  · exact hF.2 d hd
  · rw [List.mem_singleton.1 hd]; exact hc
end Go.Sat
