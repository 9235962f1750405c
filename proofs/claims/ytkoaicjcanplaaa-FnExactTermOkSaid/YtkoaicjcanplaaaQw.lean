/- Words, plainly: the operations, their rules. No program in sight. -/
import Derived.Test.YtkoaicjcanplaaaWf
namespace Go.Proofs.Ytkoaicjcanplaaa
open Go Go.Vc Go.RowKit
set_option linter.unusedVariables false
section
variable {k n m : Nat} {a b c : Int}
theorem pow_pos16 (h : k ≤ 16) : (0 : Int) < 2 ^ k := by have := pow16n k h; omega
theorem b2_word (x : Bool) : wOk ((1 : Nat) : Int) (b2 x) = true := by cases x <;> decide
theorem bW_if (ha : wOk k a = true) (hb : wOk k b = true) {X Y : Int} : (if (wOk k a && wOk k b) = true then X else Y) = X := if_pos (bW_two 0 ha hb)
section
variable (ha : wOk k a = true) (hb : wOk k b = true)
include ha hb
theorem bW3 : bW 3 k a b = (a + b) % 2 ^ k := by
  obtain ⟨h1, h2, _⟩ := wOkN.1 ha
  rw [bW, bW_if ha hb, if_pos rfl, wOf_mod h1 h2]
theorem bW4 : bW 4 k a b = (a - b) % 2 ^ k := by
  obtain ⟨h1, h2, _⟩ := wOkN.1 ha
  rw [bW, bW_if ha hb, if_neg (by decide), if_pos rfl, wOf_mod h1 h2]
theorem bW5 : bW 5 k a b = (a * b) % 2 ^ k := by
  obtain ⟨h1, h2, _⟩ := wOkN.1 ha
  rw [bW, bW_if ha hb, if_neg (by decide), if_neg (by decide), if_pos rfl, wOf_mod h1 h2]
theorem bW6 : bW 6 k a b = if b = 0 then 2 ^ k - 1 else a / b := by
  rw [bW, bW_if ha hb, if_neg (by decide), if_neg (by decide), if_neg (by decide), if_pos rfl, Int.toNat_natCast]
theorem bW7 : bW 7 k a b = if b = 0 then a else a % b := by
  rw [bW, bW_if ha hb, if_neg (by decide), if_neg (by decide), if_neg (by decide), if_neg (by decide), if_pos rfl]
theorem bW8 : bW 8 k a b = bitsI .and .i64 a b := by
  rw [bW, bW_if ha hb, if_neg (by decide), if_neg (by decide), if_neg (by decide), if_neg (by decide), if_neg (by decide), if_pos rfl]
theorem bW9 : bW 9 k a b = bitsI .or .i64 a b := by
  rw [bW, bW_if ha hb, if_neg (by decide), if_neg (by decide), if_neg (by decide), if_neg (by decide), if_neg (by decide), if_neg (by decide), if_pos rfl]
theorem bW10 : bW 10 k a b = bitsI .xor .i64 a b := by
  rw [bW, bW_if ha hb, if_neg (by decide), if_neg (by decide), if_neg (by decide), if_neg (by decide), if_neg (by decide), if_neg (by decide), if_neg (by decide), if_pos rfl]
theorem bW11 : bW 11 k a b = if (k : Int) ≤ b then 0 else (a * 2 ^ b.toNat) % 2 ^ k := by
  obtain ⟨h1, h2, _⟩ := wOkN.1 ha
  rw [bW, bW_if ha hb, if_neg (by decide), if_neg (by decide), if_neg (by decide), if_neg (by decide), if_neg (by decide), if_neg (by decide), if_neg (by decide), if_neg (by decide), if_pos rfl, wOf_mod h1 h2]
theorem bW12 : bW 12 k a b = if (k : Int) ≤ b then 0 else a / 2 ^ b.toNat := by
  rw [bW, bW_if ha hb, if_neg (by decide), if_neg (by decide), if_neg (by decide), if_neg (by decide), if_neg (by decide), if_neg (by decide), if_neg (by decide), if_neg (by decide), if_neg (by decide), if_pos rfl]
theorem bW13 : bW 13 k a b = (sOf k a / 2 ^ (if (k : Int) ≤ b then (k : Int) - 1 else b).toNat) % 2 ^ k := by
  obtain ⟨h1, h2, _⟩ := wOkN.1 ha
  rw [bW, bW_if ha hb, if_neg (by decide), if_neg (by decide), if_neg (by decide), if_neg (by decide), if_neg (by decide), if_neg (by decide), if_neg (by decide), if_neg (by decide), if_neg (by decide), if_neg (by decide), if_pos rfl, wOf_mod h1 h2]
theorem bW14 : bW 14 k a b = b2 (decide (a = b)) := by
  rw [bW, bW_if ha hb, if_neg (by decide), if_neg (by decide), if_neg (by decide), if_neg (by decide), if_neg (by decide), if_neg (by decide), if_neg (by decide), if_neg (by decide), if_neg (by decide), if_neg (by decide), if_neg (by decide), if_pos rfl]
theorem bW15 : bW 15 k a b = b2 (decide (a < b)) := by
  rw [bW, bW_if ha hb, if_neg (by decide), if_neg (by decide), if_neg (by decide), if_neg (by decide), if_neg (by decide), if_neg (by decide), if_neg (by decide), if_neg (by decide), if_neg (by decide), if_neg (by decide), if_neg (by decide), if_neg (by decide), if_pos rfl]
theorem bW16 : bW 16 k a b = b2 (decide (sOf k a < sOf k b)) := by
  rw [bW, bW_if ha hb, if_neg (by decide), if_neg (by decide), if_neg (by decide), if_neg (by decide), if_neg (by decide), if_neg (by decide), if_neg (by decide), if_neg (by decide), if_neg (by decide), if_neg (by decide), if_neg (by decide), if_neg (by decide), if_neg (by decide), if_pos rfl]
end
theorem ofNat16 {x : Int} (h0 : 0 ≤ x) (h1 : x ≤ 200000) : (BitVec.ofInt IntKind.i64.bits x).toNat = x.toNat := by
  rw [BitVec.toNat_ofInt]
  show (x % ((2 ^ 64 : Nat) : Int)).toNat = _
  omega
theorem word_le (h : wOk k a = true) : 0 ≤ a ∧ a < 2 ^ k ∧ a.toNat < 2 ^ k ∧ a ≤ 65536 := by
  obtain ⟨h1, h2, h3, h4⟩ := wOkN.1 h
  have hp := pow16n k h2
  rw [← pow_cast] at h4 hp
  rw [← pow_cast]
  omega
theorem nat_word (h1 : 1 ≤ k) (h2 : k ≤ 16) {x : Nat} (h : x < 2 ^ k) : wOk k (x : Int) = true := by
  rw [wOkN, ← pow_cast]; omega
section
variable (ha : wOk k a = true) (hb : wOk k b = true)
include ha hb
theorem and_nat : bitsI .and .i64 a b = ((a.toNat &&& b.toNat : Nat) : Int) := by
  obtain ⟨h1, h2, h3, h4⟩ := word_le ha
  obtain ⟨g1, g2, g3, g4⟩ := word_le hb
  have hp := pow16n k (wOkN.1 ha).2.1
  have hlt := Nat.and_lt_two_pow a.toNat g3
  unfold bitsI
  simp only
  rw [BitVec.toNat_and, ofNat16 h1 (by omega), ofNat16 g1 (by omega)]
  rw [← pow_cast] at hp
  exact IntWalk.i64_in _ (by omega)
theorem or_nat : bitsI .or .i64 a b = ((a.toNat ||| b.toNat : Nat) : Int) := by
  obtain ⟨h1, h2, h3, h4⟩ := word_le ha
  obtain ⟨g1, g2, g3, g4⟩ := word_le hb
  have hp := pow16n k (wOkN.1 ha).2.1
  have hlt := Nat.or_lt_two_pow h3 g3
  unfold bitsI
  simp only
  rw [BitVec.toNat_or, ofNat16 h1 (by omega), ofNat16 g1 (by omega)]
  rw [← pow_cast] at hp
  exact IntWalk.i64_in _ (by omega)
theorem xor_nat : bitsI .xor .i64 a b = ((a.toNat ^^^ b.toNat : Nat) : Int) := by
  obtain ⟨h1, h2, h3, h4⟩ := word_le ha
  obtain ⟨g1, g2, g3, g4⟩ := word_le hb
  have hp := pow16n k (wOkN.1 ha).2.1
  have hlt := Nat.xor_lt_two_pow h3 g3
  unfold bitsI
  simp only
  rw [BitVec.toNat_xor, ofNat16 h1 (by omega), ofNat16 g1 (by omega)]
  rw [← pow_cast] at hp
  exact IntWalk.i64_in _ (by omega)
/-- What an operation gives is a word. -/
theorem and_word : wOk k (bW 8 k a b) = true := by
  rw [bW8 ha hb, and_nat ha hb]
  exact nat_word (wOkN.1 ha).1 (wOkN.1 ha).2.1 (Nat.and_lt_two_pow _ (word_le hb).2.2.1)
theorem or_word : wOk k (bW 9 k a b) = true := by
  rw [bW9 ha hb, or_nat ha hb]
  exact nat_word (wOkN.1 ha).1 (wOkN.1 ha).2.1 (Nat.or_lt_two_pow (word_le ha).2.2.1 (word_le hb).2.2.1)
theorem xor_word : wOk k (bW 10 k a b) = true := by
  rw [bW10 ha hb, xor_nat ha hb]
  exact nat_word (wOkN.1 ha).1 (wOkN.1 ha).2.1 (Nat.xor_lt_two_pow (word_le ha).2.2.1 (word_le hb).2.2.1)
theorem bW_word (op : Int) (ho : 3 ≤ op ∧ op ≤ 13) : wOk k (bW op k a b) = true := by
  obtain ⟨h1, h2, h3, h4⟩ := wOkN.1 ha
  obtain ⟨_, _, g3, g4⟩ := wOkN.1 hb
  have hp := pow16n k h2
  have hop : op = 3 ∨ op = 4 ∨ op = 5 ∨ op = 6 ∨ op = 7 ∨ op = 8 ∨ op = 9 ∨ op = 10 ∨ op = 11 ∨ op = 12 ∨ op = 13 := by omega
  rcases hop with rfl | rfl | rfl | rfl | rfl | rfl | rfl | rfl | rfl | rfl | rfl
  · rw [bW3 ha hb]; exact mod_word h1 h2 _
  · rw [bW4 ha hb]; exact mod_word h1 h2 _
  · rw [bW5 ha hb]; exact mod_word h1 h2 _
  · rw [bW6 ha hb]
    split
    · exact wOkN.2 ⟨h1, h2, by omega, by omega⟩
    · have := Int.ediv_le_self b h3
      exact wOkN.2 ⟨h1, h2, Int.ediv_nonneg h3 g3, by omega⟩
  · rw [bW7 ha hb]
    split
    · exact ha
    · have := Int.emod_lt_of_pos a (show 0 < b by omega)
      exact wOkN.2 ⟨h1, h2, Int.emod_nonneg _ (by omega), by omega⟩
  · exact and_word ha hb
  · exact or_word ha hb
  · exact xor_word ha hb
  · rw [bW11 ha hb]
    split
    · exact wOkN.2 ⟨h1, h2, by omega, by omega⟩
    · exact mod_word h1 h2 _
  · rw [bW12 ha hb]
    split
    · exact wOkN.2 ⟨h1, h2, by omega, by omega⟩
    · have := Int.ediv_le_self (2 ^ b.toNat) h3
      exact wOkN.2 ⟨h1, h2, Int.ediv_nonneg h3 (Int.le_of_lt (Int.pow_pos (by omega))), by omega⟩
  · rw [bW13 ha hb]; exact mod_word h1 h2 _
theorem bW_cmp (op : Int) (ho : 14 ≤ op ∧ op ≤ 16) : wOk ((1 : Nat) : Int) (bW op k a b) = true := by
  have hop : op = 14 ∨ op = 15 ∨ op = 16 := by omega
  rcases hop with rfl | rfl | rfl
  · rw [bW14 ha hb]; exact b2_word _
  · rw [bW15 ha hb]; exact b2_word _
  · rw [bW16 ha hb]; exact b2_word _
theorem bW_comm (op : Int) (ho : op = 3 ∨ op = 5 ∨ op = 8 ∨ op = 9 ∨ op = 10 ∨ op = 14) : bW op k a b = bW op k b a := by
  rcases ho with rfl | rfl | rfl | rfl | rfl | rfl
  · rw [bW3 ha hb, bW3 hb ha, Int.add_comm]
  · rw [bW5 ha hb, bW5 hb ha, Int.mul_comm]
  · rw [bW8 ha hb, bW8 hb ha, and_nat ha hb, and_nat hb ha, Nat.and_comm]
  · rw [bW9 ha hb, bW9 hb ha, or_nat ha hb, or_nat hb ha, Nat.or_comm]
  · rw [bW10 ha hb, bW10 hb ha, xor_nat ha hb, xor_nat hb ha, Nat.xor_comm]
  · rw [bW14 ha hb, bW14 hb ha]; congr 1; exact decide_eq_decide.2 ⟨fun h => h.symm, fun h => h.symm⟩
end
theorem bW_assoc (ha : wOk k a = true) (hb : wOk k b = true) (hc : wOk k c = true) (op : Int) (ho : op = 3 ∨ op = 5 ∨ op = 8 ∨ op = 9 ∨ op = 10) : bW op k (bW op k a b) c = bW op k a (bW op k b c) := by
  have h1 := bW_word ha hb op (by omega)
  have h2 := bW_word hb hc op (by omega)
  rcases ho with rfl | rfl | rfl | rfl | rfl
  · rw [bW3 h1 hc, bW3 ha h2, bW3 ha hb, bW3 hb hc, Int.emod_add_emod, Int.add_emod_emod, Int.add_assoc]
  · rw [bW5 h1 hc, bW5 ha h2, bW5 ha hb, bW5 hb hc, Int.mul_emod, Int.emod_emod, ← Int.mul_emod, Int.mul_emod a, Int.emod_emod, ← Int.mul_emod, Int.mul_assoc]
  · rw [bW8 h1 hc, bW8 ha h2, and_nat h1 hc, and_nat ha h2, bW8 ha hb, bW8 hb hc, and_nat ha hb, and_nat hb hc, Int.toNat_natCast, Int.toNat_natCast, Nat.and_assoc]
  · rw [bW9 h1 hc, bW9 ha h2, or_nat h1 hc, or_nat ha h2, bW9 ha hb, bW9 hb hc, or_nat ha hb, or_nat hb hc, Int.toNat_natCast, Int.toNat_natCast, Nat.or_assoc]
  · rw [bW10 h1 hc, bW10 ha h2, xor_nat h1 hc, xor_nat ha h2, bW10 ha hb, bW10 hb hc, xor_nat ha hb, xor_nat hb hc, Int.toNat_natCast, Int.toNat_natCast, Nat.xor_assoc]
theorem zero_word (h1 : 1 ≤ k) (h2 : k ≤ 16) : wOk k 0 = true := by have := pow16n k h2; exact wOkN.2 ⟨h1, h2, by omega, by omega⟩
theorem ones_word (h1 : 1 ≤ k) (h2 : k ≤ 16) : wOk k (2 ^ k - 1) = true := by have := pow16n k h2; exact wOkN.2 ⟨h1, h2, by omega, by omega⟩
theorem ones_nat (h2 : k ≤ 16) : ((2 : Int) ^ k - 1).toNat = 2 ^ k - 1 := by rw [← pow_cast]; have := Nat.one_le_two_pow (n := k); omega
section
variable (hb : wOk k b = true)
include hb
theorem id_add : bW 3 k 0 b = b := by
  obtain ⟨h1, h2, h3, h4⟩ := wOkN.1 hb
  rw [bW3 (zero_word h1 h2) hb, Int.zero_add, Int.emod_eq_of_lt h3 h4]
theorem id_mul : bW 5 k 1 b = b := by
  obtain ⟨h1, h2, h3, h4⟩ := wOkN.1 hb
  have := pow16n (k - 1) (by omega)
  have hs := pow_split (n := k - 1) (k := k) (by omega)
  rw [show k - (k - 1) = 1 by omega, Int.pow_one] at hs
  rw [bW5 (wOkN.2 ⟨h1, h2, by omega, by omega⟩) hb, Int.one_mul, Int.emod_eq_of_lt h3 h4]
theorem id_and : bW 8 k (2 ^ k - 1) b = b := by
  obtain ⟨h1, h2, h3, h4⟩ := wOkN.1 hb
  rw [bW8 (ones_word h1 h2) hb, and_nat (ones_word h1 h2) hb, ones_nat h2, Nat.and_comm, Nat.and_two_pow_sub_one_eq_mod, Nat.mod_eq_of_lt (word_le hb).2.2.1]
  omega
theorem id_or : bW 9 k 0 b = b := by
  obtain ⟨h1, h2, h3, h4⟩ := wOkN.1 hb
  rw [bW9 (zero_word h1 h2) hb, or_nat (zero_word h1 h2) hb, Int.toNat_zero, Nat.zero_or]; omega
theorem id_xor : bW 10 k 0 b = b := by
  obtain ⟨h1, h2, h3, h4⟩ := wOkN.1 hb
  rw [bW10 (zero_word h1 h2) hb, xor_nat (zero_word h1 h2) hb, Int.toNat_zero, Nat.zero_xor]; omega
theorem no_mul : bW 5 k 0 b = 0 := by
  obtain ⟨h1, h2, h3, h4⟩ := wOkN.1 hb
  rw [bW5 (zero_word h1 h2) hb, Int.zero_mul, Int.zero_emod]
theorem no_and : bW 8 k 0 b = 0 := by
  obtain ⟨h1, h2, h3, h4⟩ := wOkN.1 hb
  rw [bW8 (zero_word h1 h2) hb, and_nat (zero_word h1 h2) hb, Int.toNat_zero, Nat.zero_and]; rfl
theorem no_or : bW 9 k (2 ^ k - 1) b = 2 ^ k - 1 := by
  obtain ⟨h1, h2, h3, h4⟩ := wOkN.1 hb
  have hw := ones_word h1 h2
  have hlt := (word_le hb).2.2.1
  rw [bW9 hw hb, or_nat hw hb, ones_nat h2]
  have : (2 ^ k - 1) ||| b.toNat = 2 ^ k - 1 := by
    apply Nat.eq_of_testBit_eq
    intro j
    rw [Nat.testBit_or, Nat.testBit_two_pow_sub_one]
    by_cases hj : j < k
    · simp [hj]
    · rw [Nat.testBit_lt_two_pow (Nat.lt_of_lt_of_le hlt (Nat.pow_le_pow_right (by decide) (by omega)))]; simp
  rw [this, ← ones_nat h2]
  have := pow16n k h2
  omega
theorem xor_ones : bW 10 k (2 ^ k - 1) b = uW 1 k b := by
  obtain ⟨h1, h2, h3, h4⟩ := wOkN.1 hb
  have hw := ones_word h1 h2
  have hlt := (word_le hb).2.2.1
  rw [bW10 hw hb, xor_nat hw hb, ones_nat h2, uW, if_pos hb, if_pos rfl, Int.toNat_natCast]
  have : (2 ^ k - 1) ^^^ b.toNat = 2 ^ k - 1 - b.toNat := by
    apply Nat.eq_of_testBit_eq
    intro j
    rw [Nat.testBit_xor, Nat.testBit_two_pow_sub_one, show 2 ^ k - 1 - b.toNat = 2 ^ k - (b.toNat + 1) from by omega, Nat.testBit_two_pow_sub_succ hlt]
    by_cases hj : j < k
    · simp [hj]
    · rw [Nat.testBit_lt_two_pow (Nat.lt_of_lt_of_le hlt (Nat.pow_le_pow_right (by decide) (by omega)))]; simp [hj]
  rw [this]
  have hc := pow_cast k
  omega
theorem un_word (op : Int) (ho : op = 1 ∨ op = 2) : wOk k (uW op k b) = true := by
  obtain ⟨h1, h2, h3, h4⟩ := wOkN.1 hb
  rcases ho with rfl | rfl
  · rw [uW, if_pos hb, if_pos rfl, Int.toNat_natCast]
    exact wOkN.2 ⟨h1, h2, by omega, by omega⟩
  · rw [uW, if_pos hb, if_neg (by decide), if_pos rfl, wOf_mod h1 h2]
    exact mod_word h1 h2 _
theorem un_un (op : Int) (ho : op = 1 ∨ op = 2) : uW op k (uW op k b) = b := by
  have hw := un_word hb op ho
  obtain ⟨h1, h2, h3, h4⟩ := wOkN.1 hb
  rcases ho with rfl | rfl
  · exact not_not_word hb
  · have e : ∀ x, wOk k x = true → uW 2 k x = (-x) % 2 ^ k := fun x hx => by rw [uW, if_pos hx, if_neg (by decide), if_pos rfl, wOf_mod h1 h2]
    rw [e _ hw, e _ hb]
    have hp := pow16n k h2
    by_cases h0 : b = 0
    · subst h0; simp
    · have e1 : (-b) % 2 ^ k = 2 ^ k - b := by rw [← Int.add_emod_right, Int.emod_eq_of_lt (by omega) (by omega)]; omega
      rw [e1]
      have : (-(2 ^ k - b)) % 2 ^ k = b := by rw [← Int.add_emod_right, Int.emod_eq_of_lt (by omega) (by omega)]; omega
      exact this
theorem same_and : bW 8 k b b = b := by
  rw [bW8 hb hb, and_nat hb hb, Nat.and_self]; have := (wOkN.1 hb).2.2.1; omega
theorem same_or : bW 9 k b b = b := by
  rw [bW9 hb hb, or_nat hb hb, Nat.or_self]; have := (wOkN.1 hb).2.2.1; omega
theorem same_no (op : Int) (ho : op = 4 ∨ op = 10 ∨ op = 15 ∨ op = 16) : bW op k b b = 0 := by
  rcases ho with rfl | rfl | rfl | rfl
  · rw [bW4 hb hb, Int.sub_self, Int.zero_emod]
  · rw [bW10 hb hb, xor_nat hb hb, Nat.xor_self]; rfl
  · rw [bW15 hb hb, decide_eq_false (by omega)]; rfl
  · rw [bW16 hb hb, decide_eq_false (by omega)]; rfl
theorem same_eq : bW 14 k b b = 1 := by rw [bW14 hb hb, decide_eq_true rfl]; rfl
theorem by_zero (op : Int) (ho : op = 4 ∨ op = 11 ∨ op = 12 ∨ op = 13) : bW op k b 0 = b := by
  obtain ⟨h1, h2, h3, h4⟩ := wOkN.1 hb
  have hz := zero_word h1 h2
  have hk : ¬ (k : Int) ≤ 0 := by omega
  rcases ho with rfl | rfl | rfl | rfl
  · rw [bW4 hb hz, Int.sub_zero, Int.emod_eq_of_lt h3 h4]
  · rw [bW11 hb hz, if_neg hk, show (2 : Int) ^ Int.toNat 0 = 1 from rfl, Int.mul_one, Int.emod_eq_of_lt h3 h4]
  · rw [bW12 hb hz, if_neg hk, show (2 : Int) ^ Int.toNat 0 = 1 from rfl, Int.ediv_one]
  · rw [bW13 hb hz, if_neg hk, show (2 : Int) ^ Int.toNat 0 = 1 from rfl, Int.ediv_one, sOf_N hb]
    split
    · exact Int.emod_eq_of_lt h3 h4
    · have hp := pow16n k h2
      rw [← Int.add_emod_right, Int.emod_eq_of_lt (by omega) (by omega)]; omega
theorem less_zero : bW 15 k b 0 = 0 := by
  obtain ⟨h1, h2, h3, h4⟩ := wOkN.1 hb
  rw [bW15 hb (zero_word h1 h2), decide_eq_false (by omega)]; rfl
end
/-- Words of one bit. -/
theorem bit (h : wOk ((1 : Nat) : Int) a = true) : a = 0 ∨ a = 1 := by
  obtain ⟨h1, h2, h3, h4⟩ := wOkN.1 h
  have : (2 : Int) ^ 1 = 2 := rfl
  omega
theorem bit_not (h : wOk ((1 : Nat) : Int) a = true) : uW 1 ((1 : Nat) : Int) a = 1 - a := by
  rcases bit h with rfl | rfl <;> decide
theorem bit_eq1 (h : wOk ((1 : Nat) : Int) a = true) : bW 14 ((1 : Nat) : Int) 1 a = a := by
  rw [bW14 (by decide) h]
  rcases bit h with rfl | rfl <;> decide
theorem bit_eq0 (h : wOk ((1 : Nat) : Int) a = true) : bW 14 ((1 : Nat) : Int) 0 a = uW 1 ((1 : Nat) : Int) a := by
  rw [bW14 (by decide) h, bit_not h]
  rcases bit h with rfl | rfl <;> decide
end
section
variable {k n m j l p : Nat} {a b : Int} {s : Bool}
theorem cut_val (h : wOk k a = true) (hn : 1 ≤ n) (hl : l + n ≤ k) : cW k a l n = ((a.toNat / 2 ^ l % 2 ^ n : Nat) : Int) := by
  obtain ⟨h1, h2, h3, h4⟩ := wOkN.1 h
  rw [cW_yes h (by omega), Int.toNat_natCast, Int.toNat_natCast, and_pow (by omega)]
  rw [Int.natCast_emod, Int.natCast_ediv, Int.toNat_of_nonneg h3, pow_cast, pow_cast]
theorem cut_word (h : wOk k a = true) (hn : 1 ≤ n) (hl : l + n ≤ k) : wOk n (cW k a l n) = true := by
  obtain ⟨h1, h2, h3, h4⟩ := wOkN.1 h
  rw [cut_val h hn hl]
  exact nat_word hn (by omega) (Nat.mod_lt _ (Nat.two_pow_pos n))
theorem cut_all (h : wOk k a = true) : cW k a (0 : Nat) k = a := by
  obtain ⟨h1, h2, h3, h4⟩ := wOkN.1 h
  rw [cut_val h h1 (by omega), Nat.pow_zero, Nat.div_one, Nat.mod_eq_of_lt (word_le h).2.2.1]; omega
theorem cut_cut (h : wOk k a = true) (hn : 1 ≤ n) (hm : l + m ≤ k) (hj : j + n ≤ m) : cW m (cW k a l m) j n = cW k a ((l + j : Nat) : Int) n := by
  rw [cut_val (cut_word h (by omega) hm) hn hj, cut_val h (by omega) hm, cut_val h hn (by omega), Int.toNat_natCast]
  congr 1
  apply Nat.eq_of_testBit_eq
  intro i
  rw [Nat.testBit_mod_two_pow, Nat.testBit_mod_two_pow, Nat.testBit_div_two_pow, Nat.testBit_mod_two_pow, Nat.testBit_div_two_pow, Nat.testBit_div_two_pow]
  by_cases hi : i < n
  · rw [decide_eq_true (show i + j < m by omega), show i + j + l = i + (l + j) by omega]; simp
  · simp [hi]
theorem join_val (ha : wOk m a = true) (hb : wOk n b = true) (hw : m + n ≤ 16) : jW m a n b = ((2 ^ n * a.toNat + b.toNat : Nat) : Int) := by
  obtain ⟨h1, h2, h3, h4⟩ := wOkN.1 ha
  obtain ⟨g1, g2, g3, g4⟩ := wOkN.1 hb
  rw [jW_yes ha hb (by omega), Int.toNat_natCast, Int.natCast_add, Int.natCast_mul, pow_cast, Int.toNat_of_nonneg h3, Int.toNat_of_nonneg g3, Int.mul_comm]
theorem join_word (ha : wOk m a = true) (hb : wOk n b = true) (hw : m + n ≤ 16) : wOk ((m + n : Nat) : Int) (jW m a n b) = true := by
  have h1 := (word_le ha).2.2.1
  have h2 := (word_le hb).2.2.1
  have h3 := wOkN.1 ha
  have h4 := wOkN.1 hb
  rw [join_val ha hb hw]
  refine nat_word (by omega) hw ?_
  have : 2 ^ n * (a.toNat + 1) ≤ 2 ^ n * 2 ^ m := Nat.mul_le_mul_left _ h1
  rw [← Nat.pow_add, Nat.add_comm n m] at this
  rw [Nat.mul_succ] at this
  omega
theorem cut_low (ha : wOk m a = true) (hb : wOk n b = true) (hw : m + n ≤ 16) (hp : 1 ≤ p) (hj : j + p ≤ n) : cW ((m + n : Nat) : Int) (jW m a n b) j p = cW n b j p := by
  have h2 := (word_le hb).2.2.1
  rw [cut_val (join_word ha hb hw) hp (by omega), cut_val hb hp hj, join_val ha hb hw, Int.toNat_natCast]
  congr 1
  apply Nat.eq_of_testBit_eq
  intro i
  rw [Nat.testBit_mod_two_pow, Nat.testBit_mod_two_pow, Nat.testBit_div_two_pow, Nat.testBit_div_two_pow, Nat.testBit_two_pow_mul_add _ h2]
  by_cases hi : i < p
  · rw [if_pos (by omega)]
  · simp [hi]
theorem cut_high (ha : wOk m a = true) (hb : wOk n b = true) (hw : m + n ≤ 16) (hp : 1 ≤ p) (hj : j + p ≤ m) : cW ((m + n : Nat) : Int) (jW m a n b) ((n + j : Nat) : Int) p = cW m a j p := by
  have h2 := (word_le hb).2.2.1
  rw [cut_val (join_word ha hb hw) hp (by omega), cut_val ha hp hj, join_val ha hb hw, Int.toNat_natCast]
  congr 1
  apply Nat.eq_of_testBit_eq
  intro i
  rw [Nat.testBit_mod_two_pow, Nat.testBit_mod_two_pow, Nat.testBit_div_two_pow, Nat.testBit_div_two_pow, Nat.testBit_two_pow_mul_add _ h2]
  rw [if_neg (by omega), show i + (n + j) - n = i + j by omega]
theorem join_cuts (h : wOk k a = true) (hp : 1 ≤ p) (hm : 1 ≤ m) (hl : l + m + p ≤ k) : jW p (cW k a ((l + m : Nat) : Int) p) m (cW k a l m) = cW k a l ((p + m : Nat) : Int) := by
  obtain ⟨h1, h2, h3, h4⟩ := wOkN.1 h
  rw [join_val (cut_word h hp (by omega)) (cut_word h hm (by omega)) (by omega), cut_val h hp (by omega), cut_val h hm (by omega), cut_val h (by omega) (by omega), Int.toNat_natCast, Int.toNat_natCast]
  congr 1
  apply Nat.eq_of_testBit_eq
  intro i
  rw [Nat.testBit_two_pow_mul_add _ (Nat.mod_lt _ (Nat.two_pow_pos m)), Nat.testBit_mod_two_pow, Nat.testBit_mod_two_pow, Nat.testBit_mod_two_pow, Nat.testBit_div_two_pow, Nat.testBit_div_two_pow]
  by_cases hi : i < m
  · rw [if_pos hi]; simp [hi, show i < p + m by omega]
  · rw [if_neg hi, show i - m + (l + m) = i + l by omega, decide_eq_decide.2 (show i - m < p ↔ i < p + m by omega)]
/-- A wider word: what stands above its bits. -/
theorem wid_val (h : wOk k a = true) (hk : k ≤ m) (hm : m ≤ 16) (s : Bool) : ∃ q, wiW k a m s = ((2 ^ k * q + a.toNat : Nat) : Int) ∧ 2 ^ k * q + a.toNat < 2 ^ m := by
  obtain ⟨h1, h2, h3, h4⟩ := wOkN.1 h
  have hlt := (word_le h).2.2.1
  have hle : 2 ^ k ≤ 2 ^ m := Nat.pow_le_pow_right (by decide) hk
  rw [wiW_yes h (by omega)]
  cases s with
  | false => exact ⟨0, by simp; omega, by omega⟩
  | true =>
    rw [if_pos rfl, wOf_mod (by omega) hm, sOf_N h]
    split
    · refine ⟨0, ?_, by omega⟩
      have e := pow_cast m
      have e' := pow_cast k
      rw [Int.emod_eq_of_lt h3 (by omega)]; omega
    · refine ⟨2 ^ (m - k) - 1, ?_, ?_⟩
      · have hs : 2 ^ m = 2 ^ k * 2 ^ (m - k) := by rw [← Nat.pow_add]; congr 1; omega
        have hq : 2 ^ k * (2 ^ (m - k) - 1) = 2 ^ m - 2 ^ k := by rw [Nat.mul_sub, Nat.mul_one, ← hs]
        have e := pow_cast m
        have e' := pow_cast k
        rw [hq, ← Int.add_emod_right, Int.emod_eq_of_lt (by omega) (by omega)]; omega
      · have hs : 2 ^ m = 2 ^ k * 2 ^ (m - k) := by rw [← Nat.pow_add]; congr 1; omega
        have hq : 2 ^ k * (2 ^ (m - k) - 1) = 2 ^ m - 2 ^ k := by rw [Nat.mul_sub, Nat.mul_one, ← hs]
        omega
theorem wid_word (h : wOk k a = true) (hk : k ≤ m) (hm : m ≤ 16) (s : Bool) : wOk m (wiW k a m s) = true := by
  obtain ⟨q, e, hq⟩ := wid_val h hk hm s
  have := wOkN.1 h
  rw [e]; exact nat_word (by omega) hm hq
theorem cut_wid (h : wOk k a = true) (hk : k ≤ m) (hm : m ≤ 16) (hp : 1 ≤ p) (hj : j + p ≤ k) : cW m (wiW k a m s) j p = cW k a j p := by
  obtain ⟨q, e, hq⟩ := wid_val h hk hm s
  have hlt := (word_le h).2.2.1
  rw [cut_val (wid_word h hk hm s) hp (by omega), cut_val h hp hj, e, Int.toNat_natCast]
  congr 1
  apply Nat.eq_of_testBit_eq
  intro i
  rw [Nat.testBit_mod_two_pow, Nat.testBit_mod_two_pow, Nat.testBit_div_two_pow, Nat.testBit_div_two_pow, Nat.testBit_two_pow_mul_add _ hlt]
  by_cases hi : i < p
  · rw [if_pos (by omega)]
  · simp [hi]
theorem sign_back (h : wOk k a = true) (hk : k ≤ m) (hm : m ≤ 16) : sOf m (wiW k a m true) = sOf k a := by
  obtain ⟨h1, h2, h3, h4⟩ := wOkN.1 h
  have hw := wid_word h hk hm true
  rw [sOf_N hw, sOf_N h]
  rw [wiW_yes h (by omega), if_pos rfl, wOf_mod (by omega) hm, sOf_N h]
  have hp := pow16n (k - 1) (by omega)
  have hs := pow_split (n := k - 1) (k := k) (by omega)
  rw [show k - (k - 1) = 1 by omega, Int.pow_one] at hs
  have hs' := pow_split (n := m - 1) (k := m) (by omega)
  rw [show m - (m - 1) = 1 by omega, Int.pow_one] at hs'
  have hle : (2 : Int) ^ (k - 1) ≤ 2 ^ (m - 1) := by
    rw [← pow_cast, ← pow_cast]
    exact Int.ofNat_le.2 (Nat.pow_le_pow_right (by decide) (by omega))
  split
  · rename_i hlt
    rw [Int.emod_eq_of_lt (by omega) (by omega), if_pos (by omega)]
  · rename_i hlt
    have e : (a - 2 ^ k) % 2 ^ m = a - 2 ^ k + 2 ^ m := by
      rw [← Int.add_emod_right, Int.emod_eq_of_lt (by omega) (by omega)]
    rw [e, if_neg (by omega)]; omega
theorem wid_all (h : wOk k a = true) (s : Bool) : wiW k a k s = a := by
  obtain ⟨h1, h2, h3, h4⟩ := wOkN.1 h
  rw [wiW_yes h (by omega)]
  cases s with
  | false => rfl
  | true =>
    rw [if_pos rfl, wOf_mod h1 h2, sOf_N h]
    split
    · exact Int.emod_eq_of_lt h3 h4
    · have hp := pow16n k h2
      rw [← Int.add_emod_right, Int.emod_eq_of_lt (by omega) (by omega)]; omega
theorem wid_wid (h : wOk k a = true) (hk : k ≤ m) (hm : m ≤ p) (hp : p ≤ 16) (s : Bool) : wiW m (wiW k a m s) p s = wiW k a p s := by
  have hw := wid_word h hk (by omega) s
  rw [wiW_yes hw (by omega), wiW_yes h (by omega)]
  cases s with
  | false => rw [if_neg (by decide), if_neg (by decide), wiW_yes h (by omega)]; rfl
  | true =>
    have := sign_back h hk (show m ≤ 16 by omega)
    rw [wiW_yes h (by omega)] at this
    rw [if_pos rfl, if_pos rfl, wiW_yes h (by omega), if_pos rfl]
    rw [if_pos rfl] at this
    rw [this]
end
end Go.Proofs.Ytkoaicjcanplaaa
