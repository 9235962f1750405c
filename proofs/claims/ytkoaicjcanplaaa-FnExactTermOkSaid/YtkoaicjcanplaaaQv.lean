/- Variables of terms, ascending by name, plainly. No program in sight. -/
import Derived.Test.YtkoaicjcanplaaaQh
namespace Go.Proofs.Ytkoaicjcanplaaa
open Go Go.Vc Go.RowKit
set_option linter.unusedVariables false
/-! variables, ascending by name -/
theorem less_irr (a : ByteArray) : less a a = false := by rw [less_cmp, decide_eq_false]; rw [cmpS_zero.2 rfl]; decide
theorem less_trans {a b c : ByteArray} (h1 : less a b = true) (h2 : less b c = true) : less a c = true := by
  rw [less_cmp] at *
  exact decide_eq_true (cmpS_trans (of_decide_eq_true h1) (of_decide_eq_true h2))
theorem less_asym {a b : ByteArray} (h1 : less a b = true) : less b a = false := by
  cases h : less b a with
  | false => rfl
  | true => have := less_trans h1 h; rw [less_irr] at this; cases this
theorem less_ne {a b : ByteArray} (h1 : less a b = true) : a ≠ b := by rintro rfl; rw [less_irr] at h1; cases h1
theorem less_tri {a b : ByteArray} (h1 : less a b = false) (h2 : a ≠ b) : less b a = true := by
  rw [less_cmp] at *
  have h := of_decide_eq_false h1
  refine decide_eq_true ?_
  have := cmpS_val a b
  have := cmpS_swap a b
  have : cmpS a b ≠ 0 := fun e => h2 (cmpS_zero.1 e)
  omega
/-- Ascending by name. -/
def Asc : Vs → Prop
  | [] => True
  | p :: l => (∀ q ∈ l, less p.1 q.1 = true) ∧ Asc l
def insV (s : ByteArray) (w : Int) : Vs → Vs
  | [] => [(s, w)]
  | p :: l => if less p.1 s = true then p :: insV s w l else if p.1 = s then p :: l else (s, w) :: p :: l
theorem insV_mem {s : ByteArray} {w : Int} : ∀ {l : Vs} {q : ByteArray × Int}, q ∈ insV s w l → q = (s, w) ∨ q ∈ l := by
  intro l
  induction l with
  | nil => intro q h; simp only [insV, List.mem_singleton] at h; exact .inl h
  | cons p l ih =>
    intro q h
    unfold insV at h
    split at h
    · rcases List.mem_cons.1 h with rfl | h
      · exact .inr (by simp)
      · exact (ih h).imp id fun h => List.mem_cons_of_mem _ h
    split at h
    · exact .inr h
    · rcases List.mem_cons.1 h with rfl | h
      · exact .inl rfl
      · exact .inr h
theorem insV_asc {s : ByteArray} {w : Int} : ∀ {l : Vs}, Asc l → Asc (insV s w l) := by
  intro l
  induction l with
  | nil => intro _; exact ⟨fun _ h => (by cases h), trivial⟩
  | cons p l ih =>
    rintro ⟨h1, h2⟩
    unfold insV
    split
    · rename_i hl
      refine ⟨fun q hq => ?_, ih h2⟩
      rcases insV_mem hq with rfl | hq
      · exact hl
      · exact h1 q hq
    split
    · exact ⟨h1, h2⟩
    · rename_i hl hn
      have hl := less_tri (by simpa using hl) hn
      refine ⟨fun q hq => ?_, h1, h2⟩
      rcases List.mem_cons.1 hq with rfl | hq
      · exact hl
      · exact less_trans hl (h1 q hq)
theorem insV_lk {s : ByteArray} {w : Int} {t : ByteArray} : ∀ {l : Vs}, Asc l → lk t (insV s w l) = (lk t l).or (if t = s then some w else none) := by
  intro l
  induction l with
  | nil =>
    intro _
    simp only [insV, lk]
    rfl
  | cons p l ih =>
    rintro ⟨h1, h2⟩
    unfold insV
    split
    · rename_i hl
      simp only [lk]
      split
      · rfl
      · exact ih h2
    split
    · rename_i hl he
      simp only [lk]
      by_cases ht : t = p.1
      · rw [if_pos ht]; rfl
      · rw [if_neg ht, if_neg (by rw [← he]; exact ht), Option.or_none]
    · rename_i hl hn
      have hl := less_tri (by simpa using hl) hn
      simp only [lk]
      by_cases ht : t = s
      · rw [if_pos ht]
        subst ht
        rw [if_neg (fun e => hn e.symm)]
        have : lk t l = none := lk_none.2 fun q hq e => by
          have := less_trans hl (h1 q hq)
          exact less_ne this e.symm
        rw [this]; simp
      · rw [if_neg ht]
        simp only [if_neg ht, Option.or_none]
/-- All of them put in. -/
def vput (acc ws : Vs) : Vs := ws.foldl (fun a p => insV p.1 p.2 a) acc
theorem vput_asc : ∀ (ws acc : Vs), Asc acc → Asc (vput acc ws) := by
  intro ws
  induction ws with
  | nil => intro acc h; exact h
  | cons p ws ih => intro acc h; exact ih _ (insV_asc h)
theorem vput_app (acc ws us : Vs) : vput acc (ws ++ us) = vput (vput acc ws) us := by simp [vput]
theorem vput_lk {t : ByteArray} : ∀ (ws acc : Vs), Asc acc → lk t (vput acc ws) = (lk t acc).or (lk t ws) := by
  intro ws
  induction ws with
  | nil => intro acc _; simp [vput, lk]
  | cons p ws ih =>
    intro acc h
    show lk t (vput (insV p.1 p.2 acc) ws) = _
    rw [ih _ (insV_asc h), insV_lk h, Option.or_assoc]
    congr 1
    simp only [lk]
    split <;> simp
/-- A row that ascends is known by what it says of each name. -/
theorem asc_ext : ∀ {l m : Vs}, Asc l → Asc m → (∀ t, lk t l = lk t m) → l = m := by
  intro l
  induction l with
  | nil =>
    intro m _ _ h
    cases m with
    | nil => rfl
    | cons q m =>
      have := h q.1
      simp [lk] at this
  | cons p l ih =>
    rintro m ⟨h1, h2⟩ hm h
    cases m with
    | nil =>
      have := h p.1
      simp [lk] at this
    | cons q m =>
      obtain ⟨g1, g2⟩ := hm
      have nol : lk p.1 l = none := lk_none.2 fun r hr e => less_ne (h1 r hr) e.symm
      have nom : lk q.1 m = none := lk_none.2 fun r hr e => less_ne (g1 r hr) e.symm
      have hpq : p = q := by
        by_cases e : p.1 = q.1
        · have := h p.1
          simp only [lk, if_pos e, ite_true, Option.some.injEq] at this
          exact Prod.ext e this
        · have a1 := h p.1
          have a2 := h q.1
          simp only [lk, ite_true, if_neg e] at a1
          simp only [lk, ite_true, if_neg (fun h => e h.symm : ¬ q.1 = p.1)] at a2
          have b1 := g1 _ (lk_mem a1.symm)
          have b2 := h1 _ (lk_mem a2)
          have := less_trans b1 b2
          rw [less_irr] at this; cases this
      subst hpq
      refine congrArg (p :: ·) (ih h2 g2 fun t => ?_)
      have := h t
      simp only [lk] at this
      by_cases e : t = p.1
      · subst e; rw [nol, nom]
      · rwa [if_neg e, if_neg e] at this
def Nod (l : Vs) : Prop := (l.map (·.1)).Nodup
theorem asc_nod : ∀ {l : Vs}, Asc l → Nod l := by
  intro l
  induction l with
  | nil => intro _; exact List.nodup_nil
  | cons p l ih =>
    rintro ⟨h1, h2⟩
    refine List.nodup_cons.2 ⟨fun h => ?_, ih h2⟩
    obtain ⟨q, hq, e⟩ := List.mem_map.1 h
    exact less_ne (h1 q hq) e.symm
theorem lk_mem_iff {s : ByteArray} {w : Int} : ∀ {l : Vs}, Nod l → (lk s l = some w ↔ (s, w) ∈ l) := by
  intro l
  induction l with
  | nil => intro _; simp [lk]
  | cons p l ih =>
    intro h
    obtain ⟨h1, h2⟩ := List.nodup_cons.1 h
    simp only [lk, List.mem_cons]
    by_cases e : s = p.1
    · rw [if_pos e]
      constructor
      · intro hw; left; cases hw; exact Prod.ext e rfl
      · rintro (hw | hw)
        · rw [← hw]
        · exact absurd (List.mem_map.2 ⟨_, hw, e⟩) h1
    · rw [if_neg e, ih h2]
      constructor
      · exact .inr
      · rintro (hw | hw)
        · exact absurd (congrArg Prod.fst hw) e
        · exact hw
theorem lk_perm {l m : Vs} (h : l.Perm m) (hn : Nod m) (t : ByteArray) : lk t l = lk t m := by
  have hl : Nod l := (h.map _).nodup_iff.2 hn
  cases e : lk t m with
  | some w => exact (lk_mem_iff hl).2 (h.mem_iff.2 ((lk_mem_iff hn).1 e))
  | none =>
    cases e' : lk t l with
    | none => rfl
    | some w =>
      have := (lk_mem_iff hn).2 (h.mem_iff.1 ((lk_mem_iff hl).1 e'))
      rw [e] at this; cases this
theorem perm_asc {l m : Vs} (h : l.Perm m) (hl : Asc l) (hm : Asc m) : l = m := asc_ext hl hm fun t => lk_perm h (asc_nod hm) t
/-- The variables of a term. -/
def vsT (t : Tm) : Vs := vput [] (varsT t)
theorem vsT_asc (t : Tm) : Asc (vsT t) := vput_asc _ [] (show Asc [] from trivial)
theorem vsT_lk (t : Tm) (s : ByteArray) : lk s (vsT t) = lk s (varsT t) := by unfold vsT; rw [vput_lk _ [] (show Asc [] from trivial)]; simp [lk]
end Go.Proofs.Ytkoaicjcanplaaa
