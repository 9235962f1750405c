/- Resolvents and what is implied, plainly. No program in sight. -/
import Derived.Test.YtfmflffggcphjaaTh
import Derived.Test.YtfmflffggcphjaaMy
namespace Go.Sat
open Go.Vc

/-! resolvents -/
theorem satC_iff {m : List Bool} {c : Cl} : satC m c = true ↔ ∃ x ∈ c, satL m x = true := by simp [satC]
theorem mem_flt {l : List Int} {x y : Int} : y ∈ flt l x l.length ↔ y ∈ l ∧ y ≠ x := by simp [flt]
theorem cl_narrow {n : Int} {l c : List Int} (h : mkcO l = some c) (hl : ∀ x ∈ l, litOk n x = true) : clOk n c = true := by
  obtain ⟨h1, h2⟩ := mkcO_some h
  exact clOk_iff.2 ⟨fun x hx => hl x ((h2 x).1 hx), (clOk_iff.1 h1).2⟩
theorem res_good {n : Nat} {a b r : List Int} {v : Int} (ha : clOk n a = true) (hb : clOk n b = true) (h : resO a b v = some r) : clOk n r = true ∧ ∀ m : List Bool, satC m a = true → satC m b = true → satC m r = true := by
  unfold resO at h
  split at h
  · rename_i hc
    refine ⟨cl_narrow h fun x hx => ?_, fun m h1 h2 => ?_⟩
    · rcases List.mem_append.1 hx with hx | hx
      · exact clOk_lits ha x (mem_flt.1 hx).1
      · exact clOk_lits hb x (mem_flt.1 hx).1
    · have hm := (mkcO_some h).2
      obtain ⟨x, hx, hsx⟩ := satC_iff.1 h1
      obtain ⟨y, hy, hsy⟩ := satC_iff.1 h2
      refine satC_iff.2 ?_
      by_cases e : x = v
      · by_cases e' : y = -v
        · rw [e', satL_neg (by omega), ← e, hsx] at hsy; cases hsy
        · exact ⟨y, (hm y).2 (List.mem_append_right _ (mem_flt.2 ⟨hy, e'⟩)), hsy⟩
      · exact ⟨x, (hm x).2 (List.mem_append_left _ (mem_flt.2 ⟨hx, e⟩)), hsx⟩
  · cases h
theorem hol_negs {m : List Bool} {c : Cl} (hz : ∀ x ∈ c, x ≠ 0) : Hol m (fun l => l ∈ negs c) ↔ satC m c = false := by
  constructor
  · intro h
    cases hs : satC m c with
    | false => rfl
    | true =>
      obtain ⟨x, hx, ht⟩ := satC_iff.1 hs
      have := h (-x) (List.mem_map.2 ⟨x, hx, rfl⟩)
      rw [satL_neg (hz x hx), ht] at this; cases this
  · intro h l hl
    obtain ⟨x, hx, rfl⟩ := List.mem_map.1 hl
    rw [satL_neg (hz x hx)]
    cases hs : satL m x with
    | false => rfl
    | true => rw [satC_iff.2 ⟨x, hx, hs⟩] at h; cases h
theorem imp_good {n : Nat} {F : Cnf} {c : Cl} {k : Int} (hn : n ≤ 6) (hF : fOk n F = true) (hc : clOk n c = true) (h : ImpO n F c 3000 k) :
    (k = 1 ∧ ∀ m : List Bool, m.length = n → evF F m = true → satC m c = true) ∨ (k = 2 ∧ ∃ m : List Bool, m.length = n ∧ evF F m = true ∧ satC m c = false) := by
  unfold ImpO at h
  rw [if_pos ⟨hF, hc, by decide, by decide⟩] at h
  obtain ⟨r, hr, rfl⟩ := h
  have hz : ∀ x ∈ c, x ≠ 0 := fun x hx => (litOk_iff.1 (clOk_lits hc x hx)).1
  rcases sea_small hn hF (negs_ok hc) hr with ⟨h1, h2⟩ | ⟨h1, h2, h3, h4, _⟩
  · refine .inl ⟨by rw [h1]; rfl, fun m hm he => ?_⟩
    cases hs : satC m c with
    | true => rfl
    | false => exact absurd ((hol_negs hz).2 hs) (h2 m hm he)
  · exact .inr ⟨by rw [h1]; rfl, _, h2, h3, (hol_negs hz).1 h4⟩
theorem res_implied {n : Nat} {a b r : List Int} {v k : Int} (hn : n ≤ 6) (ha : clOk n a = true) (hb : clOk n b = true) (h : resO a b v = some r) (hk : ImpO n [a, b] r 3000 k) : k = 1 := by
  obtain ⟨h1, h2⟩ := res_good ha hb h
  have hF : fOk n [a, b] = true := by simp [fOk, ha, hb]; omega
  rcases imp_good hn hF h1 hk with ⟨e, _⟩ | ⟨_, m, _, he, hs⟩
  · exact e
  · have := evF_iff.1 he
    rw [h2 m (satC_iff.2 (this a (by simp))) (satC_iff.2 (this b (by simp)))] at hs; cases hs
theorem implied_more {n : Nat} {F : Cnf} {c : Cl} {k : Int} (hn : n ≤ 6) (hF : fOk n F = true) (hl : F.length ≤ 1599) (hc : clOk n c = true) (h : ImpO n F c 3000 k) : (k = 1 ∧ cntM n (F ++ [c]) = cntM n F) ∨ (k = 2 ∧ cntM n (F ++ [c]) ≠ cntM n F) := by
  have hm := cntM_more hF (fOk_more hF hl hc) (show n ≤ 12 by omega)
  rcases imp_good hn hF hc h with ⟨e, h1⟩ | ⟨e, m, h1, h2, h3⟩
  · exact .inl ⟨e, hm.2 h1⟩
  · refine .inr ⟨e, fun g => ?_⟩
    rw [hm.1 g m h1 h2] at h3; cases h3
end Go.Sat
