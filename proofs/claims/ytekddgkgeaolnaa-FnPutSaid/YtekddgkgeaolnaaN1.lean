/- Terms are ordered: the plain law. No program in sight. -/
import Derived.Test.YtekddgkgeaolnaaQd
namespace Go.Proofs.Ytekddgkgeaolnaa
open Go Go.Vc Go.RowKit
set_option linter.unusedVariables false

/-- What three comparisons of three things say of each other. -/
def T3 (x y z : Int) : Prop := (x ≤ 0 → y ≤ 0 → z ≤ 0 ∧ (z = 0 → x = 0 ∧ y = 0)) ∧ (x = 0 → y = 0 → z = 0)
def lexi (p q : Int) : Int := if p ≠ 0 then p else q
theorem T3.lex {p1 p2 p3 q1 q2 q3 : Int} (hp : T3 p1 p2 p3) (hq : T3 q1 q2 q3) : T3 (lexi p1 q1) (lexi p2 q2) (lexi p3 q3) := by
  obtain ⟨a, b⟩ := hp
  obtain ⟨c, d⟩ := hq
  unfold lexi
  constructor
  · intro h1 h2
    by_cases e1 : p1 = 0
    · by_cases e2 : p2 = 0
      · have e3 := b e1 e2
        rw [if_neg (by omega)] at h1 h2
        rw [if_neg (by omega), if_neg (by omega), if_neg (by omega)]
        exact c h1 h2
      · rw [if_pos e2] at h2
        obtain ⟨k1, k2⟩ := a (by omega) h2
        have : p3 ≠ 0 := fun e => e2 (k2 e).2
        rw [if_pos this]
        exact ⟨k1, fun e => absurd e this⟩
    · rw [if_pos e1] at h1
      by_cases e2 : p2 = 0
      · obtain ⟨k1, k2⟩ := a h1 (by omega)
        have : p3 ≠ 0 := fun e => e1 (k2 e).1
        rw [if_pos this]
        exact ⟨k1, fun e => absurd e this⟩
      · rw [if_pos e2] at h2
        obtain ⟨k1, k2⟩ := a h1 h2
        have : p3 ≠ 0 := fun e => e1 (k2 e).1
        rw [if_pos this]
        exact ⟨k1, fun e => absurd e this⟩
  · intro h1 h2
    have e1 : p1 = 0 := by
      by_cases e : p1 = 0
      · exact e
      · rw [if_pos e] at h1; exact h1
    have e2 : p2 = 0 := by
      by_cases e : p2 = 0
      · exact e
      · rw [if_pos e] at h2; exact h2
    rw [if_neg (by omega)] at h1 h2
    rw [if_neg (by have := b e1 e2; omega)]
    exact d h1 h2
theorem cmpI_T3 (a b c : Int) : T3 (cmpI a b) (cmpI b c) (cmpI a c) := by
  unfold T3 cmpI
  constructor
  · intro h1 h2
    split at h1 <;> split at h2 <;> (try split at h1) <;> (try split at h2) <;> (repeat split) <;> omega
  · intro h1 h2
    split at h1 <;> split at h2 <;> (try split at h1) <;> (try split at h2) <;> (repeat split) <;> omega
theorem cmpS_T3 (a b c : ByteArray) : T3 (cmpS a b) (cmpS b c) (cmpS a c) := by
  have v1 := cmpS_val a b
  have v2 := cmpS_val b c
  have z1 := @cmpS_zero a b
  have z2 := @cmpS_zero b c
  have z3 := @cmpS_zero a c
  have t := @cmpS_trans a b c
  constructor
  · intro h1 h2
    rcases v1 with h | h | h
    · rcases v2 with k | k | k
      · rw [t h k]; exact ⟨by decide, fun e => by cases e⟩
      · have := z2.1 k
        subst this
        rw [h]; exact ⟨by decide, fun e => by cases e⟩
      · omega
    · have := z1.1 h
      subst this
      exact ⟨h2, fun e => ⟨h, e⟩⟩
    · omega
  · intro h1 h2
    exact z3.2 ((z1.1 h1).trans (z2.1 h2))
theorem cmpL_lex (x y : Lab) : cmpL x y = lexi (cmpI x.op y.op) (lexi (cmpI x.w y.w) (lexi (cmpI x.n y.n) (cmpS x.name y.name))) := rfl
theorem cmpL_T3 (x y z : Lab) : T3 (cmpL x y) (cmpL y z) (cmpL x z) := by
  rw [cmpL_lex, cmpL_lex, cmpL_lex]
  exact (cmpI_T3 _ _ _).lex ((cmpI_T3 _ _ _).lex ((cmpI_T3 _ _ _).lex (cmpS_T3 _ _ _)))
theorem cmpF_T3 : ∀ (f g h : TF), T3 (cmpF f g) (cmpF g h) (cmpF f h)
  | .nil, .nil, .nil => ⟨fun _ _ => ⟨by decide, fun _ => ⟨rfl, rfl⟩⟩, fun _ _ => rfl⟩
  | .nil, .nil, .cons _ _ _ => ⟨fun _ _ => ⟨by simp [cmpF], fun e => by simp [cmpF] at e⟩, fun _ e => by simp [cmpF] at e⟩
  | .nil, .cons _ _ _, .nil => ⟨fun _ e => by simp [cmpF] at e, fun e _ => by simp [cmpF] at e⟩
  | .nil, .cons _ _ _, .cons _ _ _ => ⟨fun _ _ => ⟨by simp [cmpF], fun e => by simp [cmpF] at e⟩, fun e _ => by simp [cmpF] at e⟩
  | .cons _ _ _, .nil, .nil => ⟨fun e _ => by simp [cmpF] at e, fun e _ => by simp [cmpF] at e⟩
  | .cons _ _ _, .nil, .cons _ _ _ => ⟨fun e _ => by simp [cmpF] at e, fun e _ => by simp [cmpF] at e⟩
  | .cons _ _ _, .cons _ _ _, .nil => ⟨fun _ e => by simp [cmpF] at e, fun _ e => by simp [cmpF] at e⟩
  | .cons x k r, .cons y l q, .cons z m s => by
    have h1 : cmpF (.cons x k r) (.cons y l q) = lexi (cmpL x y) (lexi (cmpF k l) (cmpF r q)) := by simp only [cmpF, lexi]
    have h2 : cmpF (.cons y l q) (.cons z m s) = lexi (cmpL y z) (lexi (cmpF l m) (cmpF q s)) := by simp only [cmpF, lexi]
    have h3 : cmpF (.cons x k r) (.cons z m s) = lexi (cmpL x z) (lexi (cmpF k m) (cmpF r s)) := by simp only [cmpF, lexi]
    rw [h1, h2, h3]
    exact (cmpL_T3 x y z).lex ((cmpF_T3 k l m).lex (cmpF_T3 r q s))
theorem cmpT_T3 (a b c : Tm) : T3 (cmpT a b) (cmpT b c) (cmpT a c) := (cmpL_T3 a.1 b.1 c.1).lex (cmpF_T3 a.2 b.2 c.2)
theorem cmpT_same (a : Tm) : cmpT a a = 0 := cmpT_zero.2 rfl
end Go.Proofs.Ytekddgkgeaolnaa
