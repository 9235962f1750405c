/- Words, plainly: cuts and joins, wider words, quotients and remainders, differences, signs, shifts. No program in sight. -/
import Derived.Test.YtkoaicjcanplaaaWb
import Derived.Test.YtkoaicjcanplaaaWe
namespace Go.Proofs.Ytkoaicjcanplaaa
open Go Go.Vc Go.RowKit
set_option linter.unusedVariables false

theorem pow_cast (k : Nat) : ((2 ^ k : Nat) : Int) = 2 ^ k := by push_cast; rfl
theorem and_pow {x : Int} {k : Nat} (hk : k ≤ 16) : bitsI .and .i64 x (2 ^ k - 1) = x % 2 ^ k := by
  have hp := pow16n k hk
  have hP : 1 ≤ 2 ^ k := Nat.one_le_two_pow
  rw [← pow_cast] at hp ⊢
  unfold bitsI
  simp only
  rw [BitVec.toNat_and]
  have e1 : (BitVec.ofInt IntKind.i64.bits (((2 ^ k : Nat) : Int) - 1)).toNat = 2 ^ k - 1 := by
    rw [BitVec.toNat_ofInt]
    show ((((2 ^ k : Nat) : Int) - 1) % ((2 ^ 64 : Nat) : Int)).toNat = _
    omega
  rw [e1, Nat.and_two_pow_sub_one_eq_mod]
  have e2 : (BitVec.ofInt IntKind.i64.bits x).toNat = (x % ((2 ^ 64 : Nat) : Int)).toNat := by rw [BitVec.toNat_ofInt]; rfl
  rw [e2]
  have h64 : 0 ≤ x % ((2 ^ 64 : Nat) : Int) := Int.emod_nonneg _ (by decide)
  have hlt : (x % ((2 ^ 64 : Nat) : Int)).toNat % 2 ^ k < 2 ^ k := Nat.mod_lt _ (by omega)
  rw [IntWalk.i64_in _ (by omega)]
  rw [Int.natCast_emod, Int.toNat_of_nonneg h64]
  refine Int.emod_emod_of_dvd x ?_
  exact Int.natCast_dvd_natCast.2 (Nat.pow_dvd_pow 2 (by omega))
theorem wOf_mod {k : Nat} {x : Int} (h1 : 1 ≤ k) (h2 : k ≤ 16) : wOf k x = x % 2 ^ k := by
  unfold wOf
  rw [if_pos (inR_iff.2 (by omega)), Int.toNat_natCast, and_pow h2]
theorem xor_low {c i : Nat} (h : c < 2 ^ i) : c ^^^ 2 ^ i = c + 2 ^ i := by
  apply Nat.eq_of_testBit_eq
  intro j
  rw [Nat.testBit_xor, Nat.testBit_two_pow, Nat.add_comm c]
  rcases Nat.lt_trichotomy j i with hj | hj | hj
  · rw [Nat.testBit_two_pow_add_gt hj, decide_eq_false (by omega)]; simp
  · subst hj
    rw [Nat.testBit_two_pow_add_eq, decide_eq_true rfl]; simp
  · have h1 : c < 2 ^ j := Nat.lt_trans h (Nat.pow_lt_pow_right (by decide) hj)
    have h2 : 2 ^ i + c < 2 ^ j := by
      have := Nat.pow_le_pow_right (n := 2) (by decide) hj
      rw [Nat.pow_succ] at this
      omega
    rw [Nat.testBit_lt_two_pow h1, Nat.testBit_lt_two_pow h2, decide_eq_false (by omega)]; rfl
theorem xor_high {a i : Nat} (h : 2 ^ i ≤ a) (h' : a < 2 * 2 ^ i) : a ^^^ 2 ^ i = a - 2 ^ i := by
  have := xor_low (c := a - 2 ^ i) (i := i) (by omega)
  rw [show a - 2 ^ i + 2 ^ i = a by omega] at this
  calc a ^^^ 2 ^ i = (a - 2 ^ i ^^^ 2 ^ i) ^^^ 2 ^ i := by rw [this]
    _ = a - 2 ^ i := by rw [Nat.xor_assoc, Nat.xor_self, Nat.xor_zero]
theorem xor_top {a i : Nat} (hi : i ≤ 15) (h : a < 2 * 2 ^ i) : bitsI .xor .i64 (a : Int) (2 ^ i) = if a < 2 ^ i then (a : Int) + 2 ^ i else (a : Int) - 2 ^ i := by
  have hp := pow16n i (by omega)
  rw [← pow_cast] at hp ⊢
  unfold bitsI
  simp only
  rw [BitVec.toNat_xor]
  have e1 : ∀ x : Nat, x ≤ 200000 → (BitVec.ofInt IntKind.i64.bits (x : Int)).toNat = x := fun x hx => by
    rw [BitVec.toNat_ofInt]
    show ((x : Int) % ((2 ^ 64 : Nat) : Int)).toNat = _
    omega
  rw [e1 _ (by omega), e1 _ (by omega)]
  split
  · rename_i h1
    rw [xor_low h1, IntWalk.i64_in _ (by omega)]; omega
  · rename_i h1
    rw [xor_high (by omega) h, IntWalk.i64_in _ (by omega)]; omega
section
variable {k n : Nat} {a b : Int}
theorem wOkN : wOk k a = true ↔ 1 ≤ k ∧ k ≤ 16 ∧ 0 ≤ a ∧ a < 2 ^ k := by
  rw [wOk_iff, Int.toNat_natCast]; omega
theorem mod_word (h1 : 1 ≤ k) (h2 : k ≤ 16) (x : Int) : wOk k (x % 2 ^ k) = true := by
  have hp := pow16n k h2
  exact wOkN.2 ⟨h1, h2, Int.emod_nonneg _ (by omega), Int.emod_lt_of_pos _ (by omega)⟩
theorem pow_split (h : n ≤ k) : (2 : Int) ^ k = 2 ^ n * 2 ^ (k - n) := by rw [← Int.pow_add]; congr 1; omega
/-- Cut words are joined again. -/
theorem join_cut (h : wOk k a = true) (hn : 1 ≤ n ∧ n < k) : jW ((k : Int) - n) (cW k a n ((k : Int) - n)) n (cW k a 0 n) = a := by
  obtain ⟨h1, h2, h3, h4⟩ := wOkN.1 h
  have hkn : (k : Int) - n = ((k - n : Nat) : Int) := by omega
  have hpn := pow16n n (by omega)
  have hpk := pow16n (k - n) (by omega)
  have hs := pow_split (n := n) (k := k) (by omega)
  have hq : a / 2 ^ n < 2 ^ (k - n) := Int.ediv_lt_of_lt_mul (by omega) (by rw [Int.mul_comm, ← hs]; exact h4)
  have hq0 : 0 ≤ a / 2 ^ n := Int.ediv_nonneg h3 (by omega)
  rw [cW_yes h (by omega), cW_yes h (by omega), hkn, Int.toNat_natCast, Int.toNat_natCast, and_pow (by omega), and_pow (by omega)]
  rw [Int.emod_eq_of_lt hq0 hq]
  rw [show (2 : Int) ^ Int.toNat 0 = 1 from rfl, Int.ediv_one]
  rw [jW_yes (wOkN.2 ⟨by omega, by omega, hq0, hq⟩) (mod_word (by omega) (by omega) a) (by omega), Int.toNat_natCast, Int.mul_comm]
  exact Int.mul_ediv_add_emod a (2 ^ n)
theorem widen_same (h : wOk k a = true) (hk : k ≤ 12) : wiW k a ((k : Int) + 2) false = a := by
  rw [wiW_yes h (by omega)]; rfl
theorem sOf_N (h : wOk k a = true) : sOf k a = if a < 2 ^ (k - 1) then a else a - 2 ^ k := by
  unfold sOf
  rw [if_pos h, Int.toNat_natCast, show ((k : Int) - 1).toNat = k - 1 by omega]
theorem widen_sign (h : wOk k a = true) (hk : k ≤ 12) : sOf ((k : Int) + 3) (wiW k a ((k : Int) + 3) true) = sOf k a := by
  obtain ⟨h1, h2, h3, h4⟩ := wOkN.1 h
  have hp := pow16n (k - 1) (by omega)
  have hs := pow_split (n := k - 1) (k := k) (by omega)
  rw [show k - (k - 1) = 1 by omega, Int.pow_one] at hs
  have h8 : (2 : Int) ^ (k + 3) = 8 * 2 ^ k := by rw [Int.pow_add]; omega
  have h42 : (2 : Int) ^ (k + 3 - 1) = 4 * 2 ^ k := by rw [show k + 3 - 1 = k + 2 by omega, Int.pow_add]; omega
  have hk3 : (k : Int) + 3 = ((k + 3 : Nat) : Int) := by omega
  rw [wiW_yes h (by omega), if_pos rfl, hk3, wOf_mod (by omega) (by omega), sOf_N (mod_word (by omega) (by omega) _), sOf_N h, h8, h42]
  split
  · rename_i hlt
    rw [Int.emod_eq_of_lt (by omega) (by omega), if_pos (by omega)]
  · rename_i hlt
    have e : (a - 2 ^ k) % (8 * 2 ^ k) = a - 2 ^ k + 8 * 2 ^ k := by
      rw [← Int.add_emod_right, Int.emod_eq_of_lt (by omega) (by omega)]
    rw [e, if_neg (by omega)]; omega
theorem bW_two (op : Int) (ha : wOk k a = true) (hb : wOk k b = true) : (wOk k a && wOk k b) = true := by rw [ha, hb]; rfl
/-- A quotient times its divisor and the remainder. -/
theorem quo_rem (ha : wOk k a = true) (hb : wOk k b = true) : bW 3 k (bW 5 k (bW 6 k a b) b) (bW 7 k a b) = a ∧ (0 < b → bW 7 k a b < b) := by
  obtain ⟨h1, h2, h3, h4⟩ := wOkN.1 ha
  obtain ⟨_, _, g3, g4⟩ := wOkN.1 hb
  have hp := pow16n k h2
  have hq : bW 6 k a b = if b = 0 then 2 ^ k - 1 else a / b := by unfold bW; rw [if_pos (bW_two 6 ha hb)]; simp
  have hr : bW 7 k a b = if b = 0 then a else a % b := by unfold bW; rw [if_pos (bW_two 7 ha hb)]; simp
  have hm : ∀ q, wOk k q = true → bW 5 k q b = (q * b) % 2 ^ k := fun q hq => by unfold bW; rw [if_pos (bW_two 5 hq hb)]; simp [wOf_mod h1 h2]
  have hadd : ∀ x y, wOk k x = true → wOk k y = true → bW 3 k x y = (x + y) % 2 ^ k := fun x y hx hy => by unfold bW; rw [if_pos (bW_two 3 hx hy)]; simp [wOf_mod h1 h2]
  rw [hq, hr]
  by_cases hb0 : b = 0
  · rw [if_pos hb0, if_pos hb0, hm _ (wOkN.2 ⟨h1, h2, by omega, by omega⟩), hb0, Int.mul_zero, Int.zero_emod, hadd _ _ (wOkN.2 ⟨h1, h2, by omega, by omega⟩) ha, Int.zero_add, Int.emod_eq_of_lt h3 h4]
    exact ⟨rfl, fun h => by omega⟩
  · rw [if_neg hb0, if_neg hb0]
    have hd := Int.mul_ediv_add_emod a b
    have hd0 : 0 ≤ a / b := Int.ediv_nonneg h3 g3
    have hdl : a / b ≤ a := Int.ediv_le_self b h3
    have hr0 : 0 ≤ a % b := Int.emod_nonneg _ hb0
    have hrl : a % b < b := Int.emod_lt_of_pos _ (by omega)
    have hqb : 0 ≤ a / b * b := Int.mul_nonneg hd0 g3
    rw [Int.mul_comm] at hd
    rw [hm _ (wOkN.2 ⟨h1, h2, hd0, by omega⟩), Int.emod_eq_of_lt hqb (by omega), hadd _ _ (wOkN.2 ⟨h1, h2, hqb, by omega⟩) (wOkN.2 ⟨h1, h2, hr0, by omega⟩), hd, Int.emod_eq_of_lt h3 h4]
    exact ⟨rfl, fun _ => hrl⟩
theorem sub_neg (ha : wOk k a = true) (hb : wOk k b = true) : bW 4 k a b = bW 3 k a (uW 2 k b) := by
  obtain ⟨h1, h2, h3, h4⟩ := wOkN.1 ha
  have hu : uW 2 k b = (-b) % 2 ^ k := by unfold uW; rw [if_pos hb]; simp [wOf_mod h1 h2]
  rw [hu]
  unfold bW
  rw [if_pos (bW_two 4 ha hb), if_pos (bW_two 3 ha (mod_word h1 h2 _))]
  simp only [show ¬ (4 : Int) = 3 by decide, if_false, if_true, wOf_mod h1 h2]
  rw [Int.add_emod_emod, Int.sub_eq_add_neg]
theorem not_not_word (ha : wOk k a = true) : uW 1 k (uW 1 k a) = a := by
  obtain ⟨h1, h2, h3, h4⟩ := wOkN.1 ha
  have hu : ∀ x, wOk k x = true → uW 1 k x = 2 ^ k - 1 - x := fun x hx => by unfold uW; rw [if_pos hx]; simp
  rw [hu a ha, hu _ (wOkN.2 ⟨h1, h2, by omega, by omega⟩)]; omega
theorem half_word (h1 : 2 ≤ k) (h2 : k ≤ 16) : wOf k (2 ^ (k - 1)) = 2 ^ (k - 1) ∧ wOk k (2 ^ (k - 1)) = true := by
  have hp := pow16n (k - 1) (by omega)
  have hs := pow_split (n := k - 1) (k := k) (by omega)
  rw [show k - (k - 1) = 1 by omega, Int.pow_one] at hs
  rw [wOf_mod (by omega) h2]
  exact ⟨Int.emod_eq_of_lt (by omega) (by omega), wOkN.2 ⟨by omega, h2, by omega, by omega⟩⟩
/-- Signs: the order of words whose highest bits are turned. -/
theorem below_less (hk : 2 ≤ k) (ha : wOk k a = true) (hb : wOk k b = true) : bW 16 k a b = bW 15 k (bW 10 k a (2 ^ (k - 1))) (bW 10 k b (2 ^ (k - 1))) := by
  obtain ⟨h1, h2, h3, h4⟩ := wOkN.1 ha
  obtain ⟨_, _, g3, g4⟩ := wOkN.1 hb
  have hp := pow16n (k - 1) (by omega)
  have hs := pow_split (n := k - 1) (k := k) (by omega)
  rw [show k - (k - 1) = 1 by omega, Int.pow_one] at hs
  obtain ⟨_, hh⟩ := half_word hk h2
  have hx : ∀ x, wOk k x = true → bW 10 k x (2 ^ (k - 1)) = if x < 2 ^ (k - 1) then x + 2 ^ (k - 1) else x - 2 ^ (k - 1) := fun x hx => by
    obtain ⟨_, _, x3, x4⟩ := wOkN.1 hx
    obtain ⟨y, rfl⟩ : ∃ y : Nat, x = y := ⟨x.toNat, by omega⟩
    unfold bW
    rw [if_pos (bW_two 10 hx hh)]
    simp only [show ¬ (10 : Int) = 3 by decide, show ¬ (10 : Int) = 4 by decide, show ¬ (10 : Int) = 5 by decide, show ¬ (10 : Int) = 6 by decide, show ¬ (10 : Int) = 7 by decide, show ¬ (10 : Int) = 8 by decide, show ¬ (10 : Int) = 9 by decide, if_false, if_true]
    have hc := pow_cast (k - 1)
    rw [xor_top (by omega) (by omega)]
    by_cases hy : y < 2 ^ (k - 1)
    · rw [if_pos hy, if_pos (by omega)]
    · rw [if_neg hy, if_neg (by omega)]
  have hok : ∀ x, wOk k x = true → wOk k (if x < 2 ^ (k - 1) then x + 2 ^ (k - 1) else x - 2 ^ (k - 1)) = true := fun x hx => by
    obtain ⟨_, _, x3, x4⟩ := wOkN.1 hx
    refine wOkN.2 ⟨h1, h2, ?_⟩
    split <;> omega
  rw [hx a ha, hx b hb]
  unfold bW
  rw [if_pos (bW_two 16 ha hb), if_pos (bW_two 15 (hok a ha) (hok b hb))]
  simp only [show ¬ (16 : Int) = 3 by decide, show ¬ (16 : Int) = 4 by decide, show ¬ (16 : Int) = 5 by decide, show ¬ (16 : Int) = 6 by decide, show ¬ (16 : Int) = 7 by decide, show ¬ (16 : Int) = 8 by decide, show ¬ (16 : Int) = 9 by decide, show ¬ (16 : Int) = 10 by decide, show ¬ (16 : Int) = 11 by decide, show ¬ (16 : Int) = 12 by decide, show ¬ (16 : Int) = 13 by decide, show ¬ (16 : Int) = 14 by decide, show ¬ (16 : Int) = 15 by decide,
    show ¬ (15 : Int) = 3 by decide, show ¬ (15 : Int) = 4 by decide, show ¬ (15 : Int) = 5 by decide, show ¬ (15 : Int) = 6 by decide, show ¬ (15 : Int) = 7 by decide, show ¬ (15 : Int) = 8 by decide, show ¬ (15 : Int) = 9 by decide, show ¬ (15 : Int) = 10 by decide, show ¬ (15 : Int) = 11 by decide, show ¬ (15 : Int) = 12 by decide, show ¬ (15 : Int) = 13 by decide, show ¬ (15 : Int) = 14 by decide, if_false, if_true]
  rw [sOf_N ha, sOf_N hb]
  congr 1
  refine decide_eq_decide.2 ?_
  split <;> split <;> constructor <;> intro h <;> omega
theorem back_cut (ha : wOk k a = true) (hn : 1 ≤ n ∧ n < k) : bW 12 k (bW 11 k a n) n = cW k a 0 ((k : Int) - n) := by
  obtain ⟨h1, h2, h3, h4⟩ := wOkN.1 ha
  have hs := pow_split (n := n) (k := k) (by omega)
  have hpn := pow16n n (by omega)
  have hpk := pow16n (k - n) (by omega)
  have hnk : (n : Int) < 2 ^ k := by
    have : n < 2 ^ n := Nat.lt_two_pow_self
    have hc := pow_cast n
    rw [hs]
    have := Int.mul_le_mul_of_nonneg_left (show (1 : Int) ≤ 2 ^ (k - n) by omega) (show (0 : Int) ≤ 2 ^ n by omega)
    omega
  have hnw : wOk k (n : Int) = true := wOkN.2 ⟨h1, h2, by omega, hnk⟩
  have h11 : bW 11 k a n = (a * 2 ^ n) % 2 ^ k := by
    unfold bW
    rw [if_pos (bW_two 11 ha hnw)]
    simp only [show ¬ (11 : Int) = 3 by decide, show ¬ (11 : Int) = 4 by decide, show ¬ (11 : Int) = 5 by decide, show ¬ (11 : Int) = 6 by decide, show ¬ (11 : Int) = 7 by decide, show ¬ (11 : Int) = 8 by decide, show ¬ (11 : Int) = 9 by decide, show ¬ (11 : Int) = 10 by decide, if_false, if_true, show ¬ (k : Int) ≤ n by omega, wOf_mod h1 h2, Int.toNat_natCast]
  rw [h11]
  have h12 : bW 12 k ((a * 2 ^ n) % 2 ^ k) n = (a * 2 ^ n) % 2 ^ k / 2 ^ n := by
    unfold bW
    rw [if_pos (bW_two 12 (mod_word h1 h2 _) hnw)]
    simp only [show ¬ (12 : Int) = 3 by decide, show ¬ (12 : Int) = 4 by decide, show ¬ (12 : Int) = 5 by decide, show ¬ (12 : Int) = 6 by decide, show ¬ (12 : Int) = 7 by decide, show ¬ (12 : Int) = 8 by decide, show ¬ (12 : Int) = 9 by decide, show ¬ (12 : Int) = 10 by decide, show ¬ (12 : Int) = 11 by decide, if_false, if_true, show ¬ (k : Int) ≤ n by omega, Int.toNat_natCast]
  rw [h12, cW_yes ha (by omega), show ((k : Int) - n).toNat = k - n by omega, and_pow (by omega), show (2 : Int) ^ Int.toNat 0 = 1 from rfl, Int.ediv_one, hs, Int.mul_comm a, Int.mul_emod_mul_of_pos _ _ (by omega), Int.mul_ediv_cancel_left _ (by omega)]
end
end Go.Proofs.Ytkoaicjcanplaaa
