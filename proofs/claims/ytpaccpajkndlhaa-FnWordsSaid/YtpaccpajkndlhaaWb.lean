/- Contracts of ResultWidth, CutWord, JoinWords, WidenWord, ApplyUnary; for all arguments of their kinds. (OPTIONAL) Contracts of ApplyBinary and its helpers, in the program and in the reference; for all arguments. (OPTIONAL) Words, plainly: cuts and joins, wider words, quotients and remainders, differences, signs, shifts. No program in sight. -/
import Derived.Test.YtpaccpajkndlhaaWa
import Derived.Test.YtpaccpajkndlhaaWd
namespace Go.Proofs.Ytpaccpajkndlhaa
open Go Go.Vc Go.RowKit

theorem shl_in {a n : Int} (h0 : 0 ≤ n) (h1 : n ≤ 16) (ha : 0 ≤ a) (hb : a ≤ 65536) : IntKind.i64.wrap (a * 2 ^ min n.toNat IntKind.i64.bits) = a * 2 ^ n.toNat := by
  have hm : min n.toNat IntKind.i64.bits = n.toNat := by show min n.toNat 64 = _; omega
  have hp := pow16 h0 h1
  rw [hm]
  have h2 : a * 2 ^ n.toNat ≤ 65536 * 65536 := Int.mul_le_mul hb hp.2 (by omega) (by omega)
  have h3 : 0 ≤ a * 2 ^ n.toNat := Int.mul_nonneg ha (by omega)
  exact IntWalk.i64_in _ (by omega)

theorem cW_no {w a low n : Int} (h : ¬ (wOk w a = true ∧ (0 ≤ low ∧ 1 ≤ n ∧ n ≤ w - low))) : cW w a low n = -1 := by
  rw [cW, if_neg]
  simpa only [Bool.and_eq_true, decide_eq_true_eq] using h

theorem cW_yes {w a low n : Int} (h : wOk w a = true) (h' : 0 ≤ low ∧ 1 ≤ n ∧ n ≤ w - low) : cW w a low n = bitsI .and .i64 (a / 2 ^ low.toNat) (2 ^ n.toNat - 1) := by
  rw [cW, if_pos]
  simpa only [Bool.and_eq_true, decide_eq_true_eq] using ⟨h, h'⟩

theorem impl_CutWord (w a low n : Int) (hl : -9223372036854775808 ≤ low ∧ low ≤ 9223372036854775807) (W : World) : Ret Try.prog 34 #[.int .i64 w, .int .i64 a, .int .i64 low, .int .i64 n] W (fun v w' => v = .int .i64 (cW w a low n) ∧ w' = W) := by
  refine ret_of_vc ties mixed Try.func34 rfl (by kernel_rfl) rfl rfl ?_
  refine Or.inl ((impl_WordOk _ _ _).mono ?_)
  rintro _ _ ⟨rfl, rfl⟩
  refine br_not (fun h => ?_) (fun h => ?_)
  · exact ⟨vint (by rw [cW_no]; simp [h]), rfl⟩
  · have h' := wOk_iff.1 h
    refine br_dec (fun h1 => ?_) (fun h1 => ?_)
    · exact ⟨vint (by rw [cW_no]; omega), rfl⟩
    · refine br_dec (fun h2 => ?_) (fun h2 => ?_)
      · exact ⟨vint (by rw [cW_no]; omega), rfl⟩
      · refine ⟨_, IntWalk.i64_in _ (by omega), ?_⟩
        refine br_dec (fun h3 => ?_) (fun h3 => ?_)
        · exact ⟨vint (by rw [cW_no]; omega), rfl⟩
        · have hp := pow16 (by omega : 0 ≤ n) (by omega)
          refine ⟨_, IntWalk.u64_in _ (by omega), by omega, _, shr_eq h'.2.2.1 (by omega) (by omega), _, IntWalk.u64_in _ (by omega), by omega, _, shl1 (by omega) (by omega), _, IntWalk.i64_in _ (by omega), _, rfl, ?_⟩
          exact ⟨vint (by rw [cW_yes h (by omega)]), rfl⟩

theorem jW_no {w a v b : Int} (h : ¬ (wOk w a = true ∧ wOk v b = true ∧ w + v ≤ 16)) : jW w a v b = -1 := by
  rw [jW, if_neg]
  simpa only [Bool.and_eq_true, decide_eq_true_eq, and_assoc] using h

theorem jW_yes {w a v b : Int} (h : wOk w a = true) (h' : wOk v b = true) (h2 : w + v ≤ 16) : jW w a v b = a * 2 ^ v.toNat + b := by
  rw [jW, if_pos]
  simpa only [Bool.and_eq_true, decide_eq_true_eq, and_assoc] using ⟨h, h', h2⟩

theorem impl_JoinWords (w a v b : Int) (W : World) : Ret Try.prog 33 #[.int .i64 w, .int .i64 a, .int .i64 v, .int .i64 b] W (fun x w' => x = .int .i64 (jW w a v b) ∧ w' = W) := by
  refine ret_of_vc ties mixed Try.func33 rfl (by kernel_rfl) rfl rfl ?_
  refine Or.inl ((impl_WordOk _ _ _).mono ?_)
  rintro _ _ ⟨rfl, rfl⟩
  refine br_not (fun h => ?_) (fun h => ?_)
  · exact ⟨vint (by rw [jW_no]; simp [h]), rfl⟩
  · have h' := wOk_iff.1 h
    refine Or.inl ((impl_WordOk _ _ _).mono ?_)
    rintro _ _ ⟨rfl, rfl⟩
    refine br_not (fun h1 => ?_) (fun h1 => ?_)
    · exact ⟨vint (by rw [jW_no]; simp [h1]), rfl⟩
    · have h1' := wOk_iff.1 h1
      refine ⟨_, IntWalk.i64_in _ (by omega), ?_⟩
      refine br_dec (fun h2 => ?_) (fun h2 => ?_)
      · exact ⟨vint (by rw [jW_no]; omega), rfl⟩
      · have hp := pow16 (by omega : 0 ≤ w) (by omega)
        have hq := pow16 (by omega : 0 ≤ v) (by omega)
        have h5 : a * 2 ^ v.toNat ≤ 65536 * 65536 := Int.mul_le_mul (by omega) hq.2 (by omega) (by omega)
        have h6 : 0 ≤ a * 2 ^ v.toNat := Int.mul_nonneg (by omega) (by omega)
        refine ⟨_, IntWalk.u64_in _ (by omega), by omega, _, shl_in (by omega) (by omega) (by omega) (by omega), _, IntWalk.i64_in _ (by omega), ?_⟩
        exact ⟨vint (by rw [jW_yes h h1 (by omega)]), rfl⟩

theorem wiW_no {w a n : Int} {s : Bool} (h : ¬ (wOk w a = true ∧ w ≤ n ∧ n ≤ 16)) : wiW w a n s = -1 := by
  rw [wiW, if_neg]
  simpa only [Bool.and_eq_true, decide_eq_true_eq] using h

theorem wiW_yes {w a n : Int} {s : Bool} (h : wOk w a = true) (h' : w ≤ n ∧ n ≤ 16) : wiW w a n s = if s then wOf n (sOf w a) else a := by
  rw [wiW, if_pos]
  simpa only [Bool.and_eq_true, decide_eq_true_eq] using ⟨h, h'⟩

theorem impl_WidenWord (w a n : Int) (s : Bool) (W : World) : Ret Try.prog 35 #[.int .i64 w, .int .i64 a, .int .i64 n, .bool s] W (fun x w' => x = .int .i64 (wiW w a n s) ∧ w' = W) := by
  refine ret_of_vc ties mixed Try.func35 rfl (by kernel_rfl) rfl rfl ?_
  refine Or.inl ((impl_WordOk _ _ _).mono ?_)
  rintro _ _ ⟨rfl, rfl⟩
  refine br_not (fun h => ?_) (fun h => ?_)
  · exact ⟨vint (by rw [wiW_no]; simp [h]), rfl⟩
  · have h' := wOk_iff.1 h
    refine Or.inl ((isWidth_ret _ _).mono ?_)
    rintro _ _ ⟨rfl, rfl⟩
    refine br_not (fun h1 => ?_) (fun h1 => ?_)
    · rw [inR_not] at h1
      exact ⟨vint (by rw [wiW_no]; omega), rfl⟩
    · rw [inR_iff] at h1
      refine br_dec (fun h2 => ?_) (fun h2 => ?_)
      · exact ⟨vint (by rw [wiW_no]; omega), rfl⟩
      · refine br_split (fun h3 => ?_) (fun h3 => ?_)
        · refine Or.inl ((impl_SignedOf _ _ _).mono ?_)
          rintro _ _ ⟨rfl, rfl⟩
          refine Or.inl ((impl_WordOf _ _ _).mono ?_)
          rintro _ _ ⟨rfl, rfl⟩
          exact ⟨vint (by rw [wiW_yes h (by omega), if_pos h3]), rfl⟩
        · exact ⟨vint (by rw [wiW_yes h (by omega), h3]; rfl), rfl⟩

theorem impl_ApplyUnary (op w a : Int) (W : World) : Ret Try.prog 38 #[.int .i64 op, .int .i64 w, .int .i64 a] W (fun x w' => x = .int .i64 (uW op w a) ∧ w' = W) := by
  refine ret_of_vc ties mixed Try.func38 rfl (by kernel_rfl) rfl rfl ?_
  refine Or.inl ((impl_WordOk _ _ _).mono ?_)
  rintro _ _ ⟨rfl, rfl⟩
  refine br_not (fun h => ?_) (fun h => ?_)
  · exact ⟨vint (by simp [uW, h]), rfl⟩
  · have h' := wOk_iff.1 h
    have hp := pow16 (by omega : 0 ≤ w) (by omega)
    refine br_dec (fun h1 => ?_) (fun h1 => ?_)
    · refine ⟨_, IntWalk.u64_in _ (by omega), by omega, _, shl1 (by omega) (by omega), _, IntWalk.i64_in _ (by omega), _, IntWalk.i64_in _ (by omega), ?_⟩
      exact ⟨vint (by simp [uW, h, h1]), rfl⟩
    · refine br_dec (fun h2 => ?_) (fun h2 => ?_)
      · refine ⟨_, IntWalk.i64_in _ (by omega), ?_⟩
        refine Or.inl ((impl_WordOf _ _ _).mono ?_)
        rintro _ _ ⟨rfl, rfl⟩
        exact ⟨vint (by simp [uW, h, h2]), rfl⟩
      · exact ⟨vint (by simp [uW, h1, h2]), rfl⟩

end Go.Proofs.Ytpaccpajkndlhaa
namespace Go.Proofs.Ytpaccpajkndlhaa
open Go Go.Vc Go.RowKit

def b2 (x : Bool) : Int := if x then 1 else 0
def bW (op w a b : Int) : Int :=
  if wOk w a && wOk w b then
    if op = 3 then wOf w (a + b) else if op = 4 then wOf w (a - b) else if op = 5 then wOf w (a * b)
    else if op = 6 then (if b = 0 then 2 ^ w.toNat - 1 else a / b)
    else if op = 7 then (if b = 0 then a else a % b)
    else if op = 8 then bitsI .and .i64 a b else if op = 9 then bitsI .or .i64 a b else if op = 10 then bitsI .xor .i64 a b
    else if op = 11 then (if w ≤ b then 0 else wOf w (a * 2 ^ b.toNat))
    else if op = 12 then (if w ≤ b then 0 else a / 2 ^ b.toNat)
    else if op = 13 then wOf w (sOf w a / 2 ^ (if w ≤ b then w - 1 else b).toNat)
    else if op = 14 then b2 (decide (a = b)) else if op = 15 then b2 (decide (a < b)) else if op = 16 then b2 (decide (sOf w a < sOf w b))
    else -1
  else -1

theorem shr_any {a n : Int} (h0 : 0 ≤ n) (h1 : n ≤ 63) : a.fdiv (2 ^ min n.toNat IntKind.i64.bits) = a / 2 ^ n.toNat := by
  have hm : min n.toNat IntKind.i64.bits = n.toNat := by show min n.toNat 64 = _; omega
  rw [hm, Int.fdiv_eq_ediv_of_nonneg]
  exact Int.le_of_lt (Int.pow_pos (by omega))

theorem mul_small {a b : Int} (ha : 0 ≤ a) (ha' : a ≤ 65536) (hb : 0 ≤ b) (hb' : b ≤ 65536) : 0 ≤ a * b ∧ a * b ≤ 4294967296 :=
  ⟨Int.mul_nonneg ha hb, Int.le_trans (Int.mul_le_mul ha' hb' hb (by omega)) (by omega)⟩

theorem impl_boolWord (x : Bool) (W : World) : Ret Try.prog 59 #[.bool x] W (fun v w' => v = .int .i64 (b2 x) ∧ w' = W) := by
  refine ret_of_vc ties mixed Try.func59 rfl (by kernel_rfl) rfl rfl ?_
  refine br_split (fun h => ?_) (fun h => ?_)
  · exact ⟨vint (by rw [h]; rfl), rfl⟩
  · exact ⟨vint (by rw [h]; rfl), rfl⟩

theorem impl_shiftWord (op w a b : Int) (h1 : wOk w a = true) (h2 : wOk w b = true) (hop : op = 11 ∨ op = 12 ∨ op = 13) (W : World) :
    Ret Try.prog 58 #[.int .i64 op, .int .i64 w, .int .i64 a, .int .i64 b] W (fun v w' => v = .int .i64 (bW op w a b) ∧ w' = W) := by
  refine ret_of_vc ties mixed Try.func58 rfl (by kernel_rfl) rfl rfl ?_
  have g1 := wOk_iff.1 h1
  have g2 := wOk_iff.1 h2
  have hp := pow16 (by omega : 0 ≤ w) (by omega)
  refine br_dec (fun h => ?_) (fun h => ?_)
  · refine Or.inl ((impl_SignedOf _ _ _).mono ?_)
    rintro _ _ ⟨rfl, rfl⟩
    refine ⟨_, IntWalk.i64_in _ (by omega), ?_⟩
    have hm : (if w - 1 < b then w - 1 else b) = if w ≤ b then w - 1 else b := by
      by_cases e : w ≤ b
      · rw [if_pos e, if_pos (by omega)]
      · rw [if_neg e, if_neg (by omega)]
    have hb : 0 ≤ (if w - 1 < b then w - 1 else b) ∧ (if w - 1 < b then w - 1 else b) ≤ 16 := by split <;> omega
    refine ⟨_, IntWalk.u64_in _ (by omega), by omega, _, shr_any (by omega) (by omega), ?_⟩
    refine Or.inl ((impl_WordOf _ _ _).mono ?_)
    rintro _ _ ⟨rfl, rfl⟩
    exact ⟨vint (by simp [bW, h1, h2, h, hm]), rfl⟩
  · refine br_dec (fun h3 => ?_) (fun h3 => ?_)
    · refine ⟨vint ?_, rfl⟩
      rcases hop with e | e | e
      · simp [bW, h1, h2, e, h3]
      · simp [bW, h1, h2, e, h3]
      · exact absurd e h
    · refine br_dec (fun h4 => ?_) (fun h4 => ?_)
      · refine ⟨_, IntWalk.u64_in _ (by omega), by omega, _, shl_in (by omega) (by omega) (by omega) (by omega), ?_⟩
        refine Or.inl ((impl_WordOf _ _ _).mono ?_)
        rintro _ _ ⟨rfl, rfl⟩
        exact ⟨vint (by simp [bW, h1, h2, h4, h3]), rfl⟩
      · refine ⟨_, IntWalk.u64_in _ (by omega), by omega, _, shr_any (by omega) (by omega), vint ?_, rfl⟩
        have e : op = 12 := by omega
        simp [bW, h1, h2, e, h3]

theorem impl_ApplyBinary (op w a b : Int) (W : World) : Ret Try.prog 37 #[.int .i64 op, .int .i64 w, .int .i64 a, .int .i64 b] W (fun v w' => v = .int .i64 (bW op w a b) ∧ w' = W) := by
  refine ret_of_vc ties mixed Try.func37 rfl (by kernel_rfl) rfl rfl ?_
  refine Or.inl ((impl_WordOk _ _ _).mono ?_)
  rintro _ _ ⟨rfl, rfl⟩
  refine br_not (fun h => ?_) (fun h1 => ?_)
  · exact ⟨vint (by simp [bW, h]), rfl⟩
  refine Or.inl ((impl_WordOk _ _ _).mono ?_)
  rintro _ _ ⟨rfl, rfl⟩
  refine br_not (fun h => ?_) (fun h2 => ?_)
  · exact ⟨vint (by simp [bW, h]), rfl⟩
  have g1 := wOk_iff.1 h1
  have g2 := wOk_iff.1 h2
  have hp := pow16 (by omega : 0 ≤ w) (by omega)
  have hm := mul_small g1.2.2.1 (by omega) g2.2.2.1 (by omega)
  refine br_dec (fun h => ?_) (fun e3 => ?_)
  · refine ⟨_, IntWalk.i64_in _ (by omega), ?_⟩
    refine Or.inl ((impl_WordOf _ _ _).mono ?_)
    rintro _ _ ⟨rfl, rfl⟩
    exact ⟨vint (by simp [bW, h1, h2, h]), rfl⟩
  refine br_dec (fun h => ?_) (fun e4 => ?_)
  · refine ⟨_, IntWalk.i64_in _ (by omega), ?_⟩
    refine Or.inl ((impl_WordOf _ _ _).mono ?_)
    rintro _ _ ⟨rfl, rfl⟩
    exact ⟨vint (by simp [bW, h1, h2, h]), rfl⟩
  refine br_dec (fun h => ?_) (fun e5 => ?_)
  · refine ⟨_, IntWalk.i64_in _ (by omega), ?_⟩
    refine Or.inl ((impl_WordOf _ _ _).mono ?_)
    rintro _ _ ⟨rfl, rfl⟩
    exact ⟨vint (by simp [bW, h1, h2, h]), rfl⟩
  refine br_dec (fun h => ?_) (fun e6 => ?_)
  · refine br_dec (fun hb => ?_) (fun hb => ?_)
    · refine ⟨_, IntWalk.u64_in _ (by omega), by omega, _, shl1 (by omega) (by omega), _, IntWalk.i64_in _ (by omega), ?_⟩
      exact ⟨vint (by subst hb; simp [bW, h1, h2, h]), rfl⟩
    · refine ⟨hb, _, IntWalk.i64_quo _ _ (by omega), ?_⟩
      exact ⟨vint (by simp [bW, h1, h2, h, hb]), rfl⟩
  refine br_dec (fun h => ?_) (fun e7 => ?_)
  · refine br_dec (fun hb => ?_) (fun hb => ?_)
    · exact ⟨vint (by subst hb; simp [bW, h1, h2, h]), rfl⟩
    · refine ⟨hb, _, IntWalk.rem_in _ _ (by omega), ?_⟩
      exact ⟨vint (by simp [bW, h1, h2, h, hb]), rfl⟩
  refine br_dec (fun h => ?_) (fun e8 => ?_)
  · exact ⟨_, rfl, vint (by simp [bW, h1, h2, h]), rfl⟩
  refine br_dec (fun h => ?_) (fun e9 => ?_)
  · exact ⟨_, rfl, vint (by simp [bW, h1, h2, h]), rfl⟩
  refine br_dec (fun h => ?_) (fun e10 => ?_)
  · exact ⟨_, rfl, vint (by simp [bW, h1, h2, h]), rfl⟩
  refine br_dec (fun h => ?_) (fun e11 => ?_)
  · refine br_dec_true h ?_
    refine Or.inl ((impl_shiftWord op w a b h1 h2 (by omega) _).mono ?_)
    rintro _ _ ⟨rfl, rfl⟩
    exact ⟨rfl, rfl⟩
  refine br_dec (fun h => ?_) (fun e12 => ?_)
  · refine br_dec_true h ?_
    refine Or.inl ((impl_shiftWord op w a b h1 h2 (by omega) _).mono ?_)
    rintro _ _ ⟨rfl, rfl⟩
    exact ⟨rfl, rfl⟩
  refine br_dec (fun h => ?_) (fun e13 => ?_)
  · refine Or.inl ((impl_shiftWord op w a b h1 h2 (by omega) _).mono ?_)
    rintro _ _ ⟨rfl, rfl⟩
    exact ⟨rfl, rfl⟩
  refine br_dec (fun h => ?_) (fun e14 => ?_)
  · refine Or.inl ((impl_boolWord _ _).mono ?_)
    rintro _ _ ⟨rfl, rfl⟩
    exact ⟨vint (by simp [bW, h1, h2, h]), rfl⟩
  refine br_dec (fun h => ?_) (fun e15 => ?_)
  · refine Or.inl ((impl_boolWord _ _).mono ?_)
    rintro _ _ ⟨rfl, rfl⟩
    exact ⟨vint (by simp [bW, h1, h2, h]), rfl⟩
  refine br_dec (fun h => ?_) (fun e16 => ?_)
  · refine Or.inl ((impl_SignedOf _ _ _).mono ?_)
    rintro _ _ ⟨rfl, rfl⟩
    refine Or.inl ((impl_SignedOf _ _ _).mono ?_)
    rintro _ _ ⟨rfl, rfl⟩
    refine Or.inl ((impl_boolWord _ _).mono ?_)
    rintro _ _ ⟨rfl, rfl⟩
    exact ⟨vint (by simp [bW, h1, h2, h]), rfl⟩
  exact ⟨vint (by simp [bW, e3, e4, e5, e6, e7, e8, e9, e10, e11, e12, e13, e14, e15, e16]), rfl⟩

end Go.Proofs.Ytpaccpajkndlhaa
namespace Go.Proofs.Ytpaccpajkndlhaa
open Go Go.Vc Go.RowKit
set_option linter.unusedVariables false

theorem pow_cast (k : Nat) : ((2 ^ k : Nat) : Int) = 2 ^ k := by push_cast; rfl

theorem and_pow {x : Int} {k : Nat} (hk : k ≤ 16) : bitsI .and .i64 x (2 ^ k - 1) = x % 2 ^ k := by
  have hp := pow16n k hk
  have hP : 1 ≤ 2 ^ k := Nat.one_le_two_pow
  rw [← pow_cast] at hp ⊢
  unfold bitsI
  simp only
  rw [BitVec.toNat_and]
  have e1 : (BitVec.ofInt IntKind.i64.bits (((2 ^ k : Nat) : Int) - 1)).toNat = 2 ^ k - 1 := by
    rw [BitVec.toNat_ofInt]
    show ((((2 ^ k : Nat) : Int) - 1) % ((2 ^ 64 : Nat) : Int)).toNat = _
    omega
  rw [e1, Nat.and_two_pow_sub_one_eq_mod]
  have e2 : (BitVec.ofInt IntKind.i64.bits x).toNat = (x % ((2 ^ 64 : Nat) : Int)).toNat := by rw [BitVec.toNat_ofInt]; rfl
  rw [e2]
  have h64 : 0 ≤ x % ((2 ^ 64 : Nat) : Int) := Int.emod_nonneg _ (by decide)
  have hlt : (x % ((2 ^ 64 : Nat) : Int)).toNat % 2 ^ k < 2 ^ k := Nat.mod_lt _ (by omega)
  rw [IntWalk.i64_in _ (by omega)]
  rw [Int.natCast_emod, Int.toNat_of_nonneg h64]
  refine Int.emod_emod_of_dvd x ?_
  exact Int.natCast_dvd_natCast.2 (Nat.pow_dvd_pow 2 (by omega))

theorem wOf_mod {k : Nat} {x : Int} (h1 : 1 ≤ k) (h2 : k ≤ 16) : wOf k x = x % 2 ^ k := by
  unfold wOf
  rw [if_pos (inR_iff.2 (by omega)), Int.toNat_natCast, and_pow h2]

theorem xor_low {c i : Nat} (h : c < 2 ^ i) : c ^^^ 2 ^ i = c + 2 ^ i := by
  apply Nat.eq_of_testBit_eq
  intro j
  rw [Nat.testBit_xor, Nat.testBit_two_pow, Nat.add_comm c]
  rcases Nat.lt_trichotomy j i with hj | hj | hj
  · rw [Nat.testBit_two_pow_add_gt hj, decide_eq_false (by omega)]; simp
  · subst hj
    rw [Nat.testBit_two_pow_add_eq, decide_eq_true rfl]; simp
  · have h1 : c < 2 ^ j := Nat.lt_trans h (Nat.pow_lt_pow_right (by decide) hj)
    have h2 : 2 ^ i + c < 2 ^ j := by
      have := Nat.pow_le_pow_right (n := 2) (by decide) hj
      rw [Nat.pow_succ] at this
      omega
    rw [Nat.testBit_lt_two_pow h1, Nat.testBit_lt_two_pow h2, decide_eq_false (by omega)]; rfl

theorem xor_high {a i : Nat} (h : 2 ^ i ≤ a) (h' : a < 2 * 2 ^ i) : a ^^^ 2 ^ i = a - 2 ^ i := by
  have := xor_low (c := a - 2 ^ i) (i := i) (by omega)
  rw [show a - 2 ^ i + 2 ^ i = a by omega] at this
  calc a ^^^ 2 ^ i = (a - 2 ^ i ^^^ 2 ^ i) ^^^ 2 ^ i := by rw [this]
    _ = a - 2 ^ i := by rw [Nat.xor_assoc, Nat.xor_self, Nat.xor_zero]

theorem xor_top {a i : Nat} (hi : i ≤ 15) (h : a < 2 * 2 ^ i) : bitsI .xor .i64 (a : Int) (2 ^ i) = if a < 2 ^ i then (a : Int) + 2 ^ i else (a : Int) - 2 ^ i := by
  have hp := pow16n i (by omega)
  rw [← pow_cast] at hp ⊢
  unfold bitsI
  simp only
  rw [BitVec.toNat_xor]
  have e1 : ∀ x : Nat, x ≤ 200000 → (BitVec.ofInt IntKind.i64.bits (x : Int)).toNat = x := fun x hx => by
    rw [BitVec.toNat_ofInt]
    show ((x : Int) % ((2 ^ 64 : Nat) : Int)).toNat = _
    omega
  rw [e1 _ (by omega), e1 _ (by omega)]
  split
  · rename_i h1
    rw [xor_low h1, IntWalk.i64_in _ (by omega)]; omega
  · rename_i h1
    rw [xor_high (by omega) h, IntWalk.i64_in _ (by omega)]; omega
section
variable {k n : Nat} {a b : Int}

theorem wOkN : wOk k a = true ↔ 1 ≤ k ∧ k ≤ 16 ∧ 0 ≤ a ∧ a < 2 ^ k := by
  rw [wOk_iff, Int.toNat_natCast]; omega

theorem mod_word (h1 : 1 ≤ k) (h2 : k ≤ 16) (x : Int) : wOk k (x % 2 ^ k) = true := by
  have hp := pow16n k h2
  exact wOkN.2 ⟨h1, h2, Int.emod_nonneg _ (by omega), Int.emod_lt_of_pos _ (by omega)⟩

theorem pow_split (h : n ≤ k) : (2 : Int) ^ k = 2 ^ n * 2 ^ (k - n) := by rw [← Int.pow_add]; congr 1; omega
/-- Cut words are joined again. -/

theorem join_cut (h : wOk k a = true) (hn : 1 ≤ n ∧ n < k) : jW ((k : Int) - n) (cW k a n ((k : Int) - n)) n (cW k a 0 n) = a := by
  obtain ⟨h1, h2, h3, h4⟩ := wOkN.1 h
  have hkn : (k : Int) - n = ((k - n : Nat) : Int) := by omega
  have hpn := pow16n n (by omega)
  have hpk := pow16n (k - n) (by omega)
  have hs := pow_split (n := n) (k := k) (by omega)
  have hq : a / 2 ^ n < 2 ^ (k - n) := Int.ediv_lt_of_lt_mul (by omega) (by rw [Int.mul_comm, ← hs]; exact h4)
  have hq0 : 0 ≤ a / 2 ^ n := Int.ediv_nonneg h3 (by omega)
  rw [cW_yes h (by omega), cW_yes h (by omega), hkn, Int.toNat_natCast, Int.toNat_natCast, and_pow (by omega), and_pow (by omega)]
  rw [Int.emod_eq_of_lt hq0 hq]
  rw [show (2 : Int) ^ Int.toNat 0 = 1 from rfl, Int.ediv_one]
  rw [jW_yes (wOkN.2 ⟨by omega, by omega, hq0, hq⟩) (mod_word (by omega) (by omega) a) (by omega), Int.toNat_natCast, Int.mul_comm]
  exact Int.mul_ediv_add_emod a (2 ^ n)

theorem widen_same (h : wOk k a = true) (hk : k ≤ 12) : wiW k a ((k : Int) + 2) false = a := by
  rw [wiW_yes h (by omega)]; rfl

theorem sOf_N (h : wOk k a = true) : sOf k a = if a < 2 ^ (k - 1) then a else a - 2 ^ k := by
  unfold sOf
  rw [if_pos h, Int.toNat_natCast, show ((k : Int) - 1).toNat = k - 1 by omega]

theorem widen_sign (h : wOk k a = true) (hk : k ≤ 12) : sOf ((k : Int) + 3) (wiW k a ((k : Int) + 3) true) = sOf k a := by
  obtain ⟨h1, h2, h3, h4⟩ := wOkN.1 h
  have hp := pow16n (k - 1) (by omega)
  have hs := pow_split (n := k - 1) (k := k) (by omega)
  rw [show k - (k - 1) = 1 by omega, Int.pow_one] at hs
  have h8 : (2 : Int) ^ (k + 3) = 8 * 2 ^ k := by rw [Int.pow_add]; omega
  have h42 : (2 : Int) ^ (k + 3 - 1) = 4 * 2 ^ k := by rw [show k + 3 - 1 = k + 2 by omega, Int.pow_add]; omega
  have hk3 : (k : Int) + 3 = ((k + 3 : Nat) : Int) := by omega
  rw [wiW_yes h (by omega), if_pos rfl, hk3, wOf_mod (by omega) (by omega), sOf_N (mod_word (by omega) (by omega) _), sOf_N h, h8, h42]
  split
  · rename_i hlt
    rw [Int.emod_eq_of_lt (by omega) (by omega), if_pos (by omega)]
  · rename_i hlt
    have e : (a - 2 ^ k) % (8 * 2 ^ k) = a - 2 ^ k + 8 * 2 ^ k := by
      rw [← Int.add_emod_right, Int.emod_eq_of_lt (by omega) (by omega)]
    rw [e, if_neg (by omega)]; omega

theorem bW_two (op : Int) (ha : wOk k a = true) (hb : wOk k b = true) : (wOk k a && wOk k b) = true := by rw [ha, hb]; rfl
/-- A quotient times its divisor and the remainder. -/

theorem quo_rem (ha : wOk k a = true) (hb : wOk k b = true) : bW 3 k (bW 5 k (bW 6 k a b) b) (bW 7 k a b) = a ∧ (0 < b → bW 7 k a b < b) := by
  obtain ⟨h1, h2, h3, h4⟩ := wOkN.1 ha
  obtain ⟨_, _, g3, g4⟩ := wOkN.1 hb
  have hp := pow16n k h2
  have hq : bW 6 k a b = if b = 0 then 2 ^ k - 1 else a / b := by unfold bW; rw [if_pos (bW_two 6 ha hb)]; simp
  have hr : bW 7 k a b = if b = 0 then a else a % b := by unfold bW; rw [if_pos (bW_two 7 ha hb)]; simp
  have hm : ∀ q, wOk k q = true → bW 5 k q b = (q * b) % 2 ^ k := fun q hq => by unfold bW; rw [if_pos (bW_two 5 hq hb)]; simp [wOf_mod h1 h2]
  have hadd : ∀ x y, wOk k x = true → wOk k y = true → bW 3 k x y = (x + y) % 2 ^ k := fun x y hx hy => by unfold bW; rw [if_pos (bW_two 3 hx hy)]; simp [wOf_mod h1 h2]
  rw [hq, hr]
  by_cases hb0 : b = 0
  · rw [if_pos hb0, if_pos hb0, hm _ (wOkN.2 ⟨h1, h2, by omega, by omega⟩), hb0, Int.mul_zero, Int.zero_emod, hadd _ _ (wOkN.2 ⟨h1, h2, by omega, by omega⟩) ha, Int.zero_add, Int.emod_eq_of_lt h3 h4]
    exact ⟨rfl, fun h => by omega⟩
  · rw [if_neg hb0, if_neg hb0]
    have hd := Int.mul_ediv_add_emod a b
    have hd0 : 0 ≤ a / b := Int.ediv_nonneg h3 g3
    have hdl : a / b ≤ a := Int.ediv_le_self b h3
    have hr0 : 0 ≤ a % b := Int.emod_nonneg _ hb0
    have hrl : a % b < b := Int.emod_lt_of_pos _ (by omega)
    have hqb : 0 ≤ a / b * b := Int.mul_nonneg hd0 g3
    rw [Int.mul_comm] at hd
    rw [hm _ (wOkN.2 ⟨h1, h2, hd0, by omega⟩), Int.emod_eq_of_lt hqb (by omega), hadd _ _ (wOkN.2 ⟨h1, h2, hqb, by omega⟩) (wOkN.2 ⟨h1, h2, hr0, by omega⟩), hd, Int.emod_eq_of_lt h3 h4]
    exact ⟨rfl, fun _ => hrl⟩

theorem sub_neg (ha : wOk k a = true) (hb : wOk k b = true) : bW 4 k a b = bW 3 k a (uW 2 k b) := by
  obtain ⟨h1, h2, h3, h4⟩ := wOkN.1 ha
  have hu : uW 2 k b = (-b) % 2 ^ k := by unfold uW; rw [if_pos hb]; simp [wOf_mod h1 h2]
  rw [hu]
  unfold bW
  rw [if_pos (bW_two 4 ha hb), if_pos (bW_two 3 ha (mod_word h1 h2 _))]
  simp only [show ¬ (4 : Int) = 3 by decide, if_false, if_true, wOf_mod h1 h2]
  rw [Int.add_emod_emod, Int.sub_eq_add_neg]

theorem not_not_word (ha : wOk k a = true) : uW 1 k (uW 1 k a) = a := by
  obtain ⟨h1, h2, h3, h4⟩ := wOkN.1 ha
  have hu : ∀ x, wOk k x = true → uW 1 k x = 2 ^ k - 1 - x := fun x hx => by unfold uW; rw [if_pos hx]; simp
  rw [hu a ha, hu _ (wOkN.2 ⟨h1, h2, by omega, by omega⟩)]; omega

theorem half_word (h1 : 2 ≤ k) (h2 : k ≤ 16) : wOf k (2 ^ (k - 1)) = 2 ^ (k - 1) ∧ wOk k (2 ^ (k - 1)) = true := by
  have hp := pow16n (k - 1) (by omega)
  have hs := pow_split (n := k - 1) (k := k) (by omega)
  rw [show k - (k - 1) = 1 by omega, Int.pow_one] at hs
  rw [wOf_mod (by omega) h2]
  exact ⟨Int.emod_eq_of_lt (by omega) (by omega), wOkN.2 ⟨by omega, h2, by omega, by omega⟩⟩
/-- Signs: the order of words whose highest bits are turned. -/

theorem below_less (hk : 2 ≤ k) (ha : wOk k a = true) (hb : wOk k b = true) : bW 16 k a b = bW 15 k (bW 10 k a (2 ^ (k - 1))) (bW 10 k b (2 ^ (k - 1))) := by
  obtain ⟨h1, h2, h3, h4⟩ := wOkN.1 ha
  obtain ⟨_, _, g3, g4⟩ := wOkN.1 hb
  have hp := pow16n (k - 1) (by omega)
  have hs := pow_split (n := k - 1) (k := k) (by omega)
  rw [show k - (k - 1) = 1 by omega, Int.pow_one] at hs
  obtain ⟨_, hh⟩ := half_word hk h2
  have hx : ∀ x, wOk k x = true → bW 10 k x (2 ^ (k - 1)) = if x < 2 ^ (k - 1) then x + 2 ^ (k - 1) else x - 2 ^ (k - 1) := fun x hx => by
    obtain ⟨_, _, x3, x4⟩ := wOkN.1 hx
    obtain ⟨y, rfl⟩ : ∃ y : Nat, x = y := ⟨x.toNat, by omega⟩
    unfold bW
    rw [if_pos (bW_two 10 hx hh)]
    simp only [show ¬ (10 : Int) = 3 by decide, show ¬ (10 : Int) = 4 by decide, show ¬ (10 : Int) = 5 by decide, show ¬ (10 : Int) = 6 by decide, show ¬ (10 : Int) = 7 by decide, show ¬ (10 : Int) = 8 by decide, show ¬ (10 : Int) = 9 by decide, if_false, if_true]
    have hc := pow_cast (k - 1)
    rw [xor_top (by omega) (by omega)]
    by_cases hy : y < 2 ^ (k - 1)
    · rw [if_pos hy, if_pos (by omega)]
    · rw [if_neg hy, if_neg (by omega)]
  have hok : ∀ x, wOk k x = true → wOk k (if x < 2 ^ (k - 1) then x + 2 ^ (k - 1) else x - 2 ^ (k - 1)) = true := fun x hx => by
    obtain ⟨_, _, x3, x4⟩ := wOkN.1 hx
    refine wOkN.2 ⟨h1, h2, ?_⟩
    split <;> omega
  rw [hx a ha, hx b hb]
  unfold bW
  rw [if_pos (bW_two 16 ha hb), if_pos (bW_two 15 (hok a ha) (hok b hb))]
  simp only [show ¬ (16 : Int) = 3 by decide, show ¬ (16 : Int) = 4 by decide, show ¬ (16 : Int) = 5 by decide, show ¬ (16 : Int) = 6 by decide, show ¬ (16 : Int) = 7 by decide, show ¬ (16 : Int) = 8 by decide, show ¬ (16 : Int) = 9 by decide, show ¬ (16 : Int) = 10 by decide, show ¬ (16 : Int) = 11 by decide, show ¬ (16 : Int) = 12 by decide, show ¬ (16 : Int) = 13 by decide, show ¬ (16 : Int) = 14 by decide, show ¬ (16 : Int) = 15 by decide,
    show ¬ (15 : Int) = 3 by decide, show ¬ (15 : Int) = 4 by decide, show ¬ (15 : Int) = 5 by decide, show ¬ (15 : Int) = 6 by decide, show ¬ (15 : Int) = 7 by decide, show ¬ (15 : Int) = 8 by decide, show ¬ (15 : Int) = 9 by decide, show ¬ (15 : Int) = 10 by decide, show ¬ (15 : Int) = 11 by decide, show ¬ (15 : Int) = 12 by decide, show ¬ (15 : Int) = 13 by decide, show ¬ (15 : Int) = 14 by decide, if_false, if_true]
  rw [sOf_N ha, sOf_N hb]
  congr 1
  refine decide_eq_decide.2 ?_
  split <;> split <;> constructor <;> intro h <;> omega

theorem back_cut (ha : wOk k a = true) (hn : 1 ≤ n ∧ n < k) : bW 12 k (bW 11 k a n) n = cW k a 0 ((k : Int) - n) := by
  obtain ⟨h1, h2, h3, h4⟩ := wOkN.1 ha
  have hs := pow_split (n := n) (k := k) (by omega)
  have hpn := pow16n n (by omega)
  have hpk := pow16n (k - n) (by omega)
  have hnk : (n : Int) < 2 ^ k := by
    have : n < 2 ^ n := Nat.lt_two_pow_self
    have hc := pow_cast n
    rw [hs]
    have := Int.mul_le_mul_of_nonneg_left (show (1 : Int) ≤ 2 ^ (k - n) by omega) (show (0 : Int) ≤ 2 ^ n by omega)
    omega
  have hnw : wOk k (n : Int) = true := wOkN.2 ⟨h1, h2, by omega, hnk⟩
  have h11 : bW 11 k a n = (a * 2 ^ n) % 2 ^ k := by
    unfold bW
    rw [if_pos (bW_two 11 ha hnw)]
    simp only [show ¬ (11 : Int) = 3 by decide, show ¬ (11 : Int) = 4 by decide, show ¬ (11 : Int) = 5 by decide, show ¬ (11 : Int) = 6 by decide, show ¬ (11 : Int) = 7 by decide, show ¬ (11 : Int) = 8 by decide, show ¬ (11 : Int) = 9 by decide, show ¬ (11 : Int) = 10 by decide, if_false, if_true, show ¬ (k : Int) ≤ n by omega, wOf_mod h1 h2, Int.toNat_natCast]
  rw [h11]
  have h12 : bW 12 k ((a * 2 ^ n) % 2 ^ k) n = (a * 2 ^ n) % 2 ^ k / 2 ^ n := by
    unfold bW
    rw [if_pos (bW_two 12 (mod_word h1 h2 _) hnw)]
    simp only [show ¬ (12 : Int) = 3 by decide, show ¬ (12 : Int) = 4 by decide, show ¬ (12 : Int) = 5 by decide, show ¬ (12 : Int) = 6 by decide, show ¬ (12 : Int) = 7 by decide, show ¬ (12 : Int) = 8 by decide, show ¬ (12 : Int) = 9 by decide, show ¬ (12 : Int) = 10 by decide, show ¬ (12 : Int) = 11 by decide, if_false, if_true, show ¬ (k : Int) ≤ n by omega, Int.toNat_natCast]
  rw [h12, cW_yes ha (by omega), show ((k : Int) - n).toNat = k - n by omega, and_pow (by omega), show (2 : Int) ^ Int.toNat 0 = 1 from rfl, Int.ediv_one, hs, Int.mul_comm a, Int.mul_emod_mul_of_pos _ _ (by omega), Int.mul_ediv_cancel_left _ (by omega)]
end
end Go.Proofs.Ytpaccpajkndlhaa
