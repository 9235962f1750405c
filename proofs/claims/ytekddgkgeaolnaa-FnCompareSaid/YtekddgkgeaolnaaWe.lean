/- Contracts of ApplyBinary and its helpers, in the program and in the reference; for all arguments. (OPTIONAL) -/
import Derived.Test.YtekddgkgeaolnaaWb
import Derived.Test.YtekddgkgeaolnaaWd
namespace Go.Proofs.Ytekddgkgeaolnaa
open Go Go.Vc Go.RowKit

def b2 (x : Bool) : Int := if x then 1 else 0
def bW (op w a b : Int) : Int :=
  if wOk w a && wOk w b then
    if op = 3 then wOf w (a + b) else if op = 4 then wOf w (a - b) else if op = 5 then wOf w (a * b)
    else if op = 6 then (if b = 0 then 2 ^ w.toNat - 1 else a / b)
    else if op = 7 then (if b = 0 then a else a % b)
    else if op = 8 then bitsI .and .i64 a b else if op = 9 then bitsI .or .i64 a b else if op = 10 then bitsI .xor .i64 a b
    else if op = 11 then (if w ≤ b then 0 else wOf w (a * 2 ^ b.toNat))
    else if op = 12 then (if w ≤ b then 0 else a / 2 ^ b.toNat)
    else if op = 13 then wOf w (sOf w a / 2 ^ (if w ≤ b then w - 1 else b).toNat)
    else if op = 14 then b2 (decide (a = b)) else if op = 15 then b2 (decide (a < b)) else if op = 16 then b2 (decide (sOf w a < sOf w b))
    else -1
  else -1

theorem shr_any {a n : Int} (h0 : 0 ≤ n) (h1 : n ≤ 63) : a.fdiv (2 ^ min n.toNat IntKind.i64.bits) = a / 2 ^ n.toNat := by
  have hm : min n.toNat IntKind.i64.bits = n.toNat := by show min n.toNat 64 = _; omega
  rw [hm, Int.fdiv_eq_ediv_of_nonneg]
  exact Int.le_of_lt (Int.pow_pos (by omega))

theorem mul_small {a b : Int} (ha : 0 ≤ a) (ha' : a ≤ 65536) (hb : 0 ≤ b) (hb' : b ≤ 65536) : 0 ≤ a * b ∧ a * b ≤ 4294967296 :=
  ⟨Int.mul_nonneg ha hb, Int.le_trans (Int.mul_le_mul ha' hb' hb (by omega)) (by omega)⟩

theorem impl_boolWord (x : Bool) (W : World) : Ret Try.prog 93 #[.bool x] W (fun v w' => v = .int .i64 (b2 x) ∧ w' = W) := by
  refine ret_of_vc ties mixed Try.func93 rfl (by kernel_rfl) rfl rfl ?_
  refine br_split (fun h => ?_) (fun h => ?_)
  · exact ⟨vint (by rw [h]; rfl), rfl⟩
  · exact ⟨vint (by rw [h]; rfl), rfl⟩

theorem spec_Truth (x : Bool) (W : World) : Ret Try.prog 118 #[.bool x] W (fun v w' => v = .int .i64 (b2 x) ∧ w' = W) := by
  refine ret_of_vc ties mixed Try.func118 rfl (by kernel_rfl) rfl rfl ?_
  refine br_split (fun h => ?_) (fun h => ?_)
  · exact ⟨vint (by rw [h]; rfl), rfl⟩
  · exact ⟨vint (by rw [h]; rfl), rfl⟩

theorem impl_shiftWord (op w a b : Int) (h1 : wOk w a = true) (h2 : wOk w b = true) (hop : op = 11 ∨ op = 12 ∨ op = 13) (W : World) :
    Ret Try.prog 92 #[.int .i64 op, .int .i64 w, .int .i64 a, .int .i64 b] W (fun v w' => v = .int .i64 (bW op w a b) ∧ w' = W) := by
  refine ret_of_vc ties mixed Try.func92 rfl (by kernel_rfl) rfl rfl ?_
  have g1 := wOk_iff.1 h1
  have g2 := wOk_iff.1 h2
  have hp := pow16 (by omega : 0 ≤ w) (by omega)
  refine br_dec (fun h => ?_) (fun h => ?_)
  · refine Or.inl ((impl_SignedOf _ _ _).mono ?_)
    rintro _ _ ⟨rfl, rfl⟩
    refine ⟨_, IntWalk.i64_in _ (by omega), ?_⟩
    have hm : (if w - 1 < b then w - 1 else b) = if w ≤ b then w - 1 else b := by
      by_cases e : w ≤ b
      · rw [if_pos e, if_pos (by omega)]
      · rw [if_neg e, if_neg (by omega)]
    have hb : 0 ≤ (if w - 1 < b then w - 1 else b) ∧ (if w - 1 < b then w - 1 else b) ≤ 16 := by split <;> omega
    refine ⟨_, IntWalk.u64_in _ (by omega), by omega, _, shr_any (by omega) (by omega), ?_⟩
    refine Or.inl ((impl_WordOf _ _ _).mono ?_)
    rintro _ _ ⟨rfl, rfl⟩
    exact ⟨vint (by simp [bW, h1, h2, h, hm]), rfl⟩
  · refine br_dec (fun h3 => ?_) (fun h3 => ?_)
    · refine ⟨vint ?_, rfl⟩
      rcases hop with e | e | e
      · simp [bW, h1, h2, e, h3]
      · simp [bW, h1, h2, e, h3]
      · exact absurd e h
    · refine br_dec (fun h4 => ?_) (fun h4 => ?_)
      · refine ⟨_, IntWalk.u64_in _ (by omega), by omega, _, shl_in (by omega) (by omega) (by omega) (by omega), ?_⟩
        refine Or.inl ((impl_WordOf _ _ _).mono ?_)
        rintro _ _ ⟨rfl, rfl⟩
        exact ⟨vint (by simp [bW, h1, h2, h4, h3]), rfl⟩
      · refine ⟨_, IntWalk.u64_in _ (by omega), by omega, _, shr_any (by omega) (by omega), vint ?_, rfl⟩
        have e : op = 12 := by omega
        simp [bW, h1, h2, e, h3]

theorem impl_ApplyBinary (op w a b : Int) (W : World) : Ret Try.prog 70 #[.int .i64 op, .int .i64 w, .int .i64 a, .int .i64 b] W (fun v w' => v = .int .i64 (bW op w a b) ∧ w' = W) := by
  refine ret_of_vc ties mixed Try.func70 rfl (by kernel_rfl) rfl rfl ?_
  refine Or.inl ((impl_WordOk _ _ _).mono ?_)
  rintro _ _ ⟨rfl, rfl⟩
  refine br_not (fun h => ?_) (fun h1 => ?_)
  · exact ⟨vint (by simp [bW, h]), rfl⟩
  refine Or.inl ((impl_WordOk _ _ _).mono ?_)
  rintro _ _ ⟨rfl, rfl⟩
  refine br_not (fun h => ?_) (fun h2 => ?_)
  · exact ⟨vint (by simp [bW, h]), rfl⟩
  have g1 := wOk_iff.1 h1
  have g2 := wOk_iff.1 h2
  have hp := pow16 (by omega : 0 ≤ w) (by omega)
  have hm := mul_small g1.2.2.1 (by omega) g2.2.2.1 (by omega)
  refine br_dec (fun h => ?_) (fun e3 => ?_)
  · refine ⟨_, IntWalk.i64_in _ (by omega), ?_⟩
    refine Or.inl ((impl_WordOf _ _ _).mono ?_)
    rintro _ _ ⟨rfl, rfl⟩
    exact ⟨vint (by simp [bW, h1, h2, h]), rfl⟩
  refine br_dec (fun h => ?_) (fun e4 => ?_)
  · refine ⟨_, IntWalk.i64_in _ (by omega), ?_⟩
    refine Or.inl ((impl_WordOf _ _ _).mono ?_)
    rintro _ _ ⟨rfl, rfl⟩
    exact ⟨vint (by simp [bW, h1, h2, h]), rfl⟩
  refine br_dec (fun h => ?_) (fun e5 => ?_)
  · refine ⟨_, IntWalk.i64_in _ (by omega), ?_⟩
    refine Or.inl ((impl_WordOf _ _ _).mono ?_)
    rintro _ _ ⟨rfl, rfl⟩
    exact ⟨vint (by simp [bW, h1, h2, h]), rfl⟩
  refine br_dec (fun h => ?_) (fun e6 => ?_)
  · refine br_dec (fun hb => ?_) (fun hb => ?_)
    · refine ⟨_, IntWalk.u64_in _ (by omega), by omega, _, shl1 (by omega) (by omega), _, IntWalk.i64_in _ (by omega), ?_⟩
      exact ⟨vint (by subst hb; simp [bW, h1, h2, h]), rfl⟩
    · refine ⟨hb, _, IntWalk.i64_quo _ _ (by omega), ?_⟩
      exact ⟨vint (by simp [bW, h1, h2, h, hb]), rfl⟩
  refine br_dec (fun h => ?_) (fun e7 => ?_)
  · refine br_dec (fun hb => ?_) (fun hb => ?_)
    · exact ⟨vint (by subst hb; simp [bW, h1, h2, h]), rfl⟩
    · refine ⟨hb, _, IntWalk.rem_in _ _ (by omega), ?_⟩
      exact ⟨vint (by simp [bW, h1, h2, h, hb]), rfl⟩
  refine br_dec (fun h => ?_) (fun e8 => ?_)
  · exact ⟨_, rfl, vint (by simp [bW, h1, h2, h]), rfl⟩
  refine br_dec (fun h => ?_) (fun e9 => ?_)
  · exact ⟨_, rfl, vint (by simp [bW, h1, h2, h]), rfl⟩
  refine br_dec (fun h => ?_) (fun e10 => ?_)
  · exact ⟨_, rfl, vint (by simp [bW, h1, h2, h]), rfl⟩
  refine br_dec (fun h => ?_) (fun e11 => ?_)
  · refine br_dec_true h ?_
    refine Or.inl ((impl_shiftWord op w a b h1 h2 (by omega) _).mono ?_)
    rintro _ _ ⟨rfl, rfl⟩
    exact ⟨rfl, rfl⟩
  refine br_dec (fun h => ?_) (fun e12 => ?_)
  · refine br_dec_true h ?_
    refine Or.inl ((impl_shiftWord op w a b h1 h2 (by omega) _).mono ?_)
    rintro _ _ ⟨rfl, rfl⟩
    exact ⟨rfl, rfl⟩
  refine br_dec (fun h => ?_) (fun e13 => ?_)
  · refine Or.inl ((impl_shiftWord op w a b h1 h2 (by omega) _).mono ?_)
    rintro _ _ ⟨rfl, rfl⟩
    exact ⟨rfl, rfl⟩
  refine br_dec (fun h => ?_) (fun e14 => ?_)
  · refine Or.inl ((impl_boolWord _ _).mono ?_)
    rintro _ _ ⟨rfl, rfl⟩
    exact ⟨vint (by simp [bW, h1, h2, h]), rfl⟩
  refine br_dec (fun h => ?_) (fun e15 => ?_)
  · refine Or.inl ((impl_boolWord _ _).mono ?_)
    rintro _ _ ⟨rfl, rfl⟩
    exact ⟨vint (by simp [bW, h1, h2, h]), rfl⟩
  refine br_dec (fun h => ?_) (fun e16 => ?_)
  · refine Or.inl ((impl_SignedOf _ _ _).mono ?_)
    rintro _ _ ⟨rfl, rfl⟩
    refine Or.inl ((impl_SignedOf _ _ _).mono ?_)
    rintro _ _ ⟨rfl, rfl⟩
    refine Or.inl ((impl_boolWord _ _).mono ?_)
    rintro _ _ ⟨rfl, rfl⟩
    exact ⟨vint (by simp [bW, h1, h2, h]), rfl⟩
  exact ⟨vint (by simp [bW, e3, e4, e5, e6, e7, e8, e9, e10, e11, e12, e13, e14, e15, e16]), rfl⟩

theorem spec_ApplyBinary (op w a b : Int) (W : World) : Ret Try.prog 97 #[.int .i64 op, .int .i64 w, .int .i64 a, .int .i64 b] W (fun v w' => v = .int .i64 (bW op w a b) ∧ w' = W) := by
  refine ret_of_vc ties mixed Try.func97 rfl (by kernel_rfl) rfl rfl ?_
  refine Or.inl ((spec_WordOk _ _ _).mono ?_)
  rintro _ _ ⟨rfl, rfl⟩
  refine br_not (fun h => ?_) (fun h1 => ?_)
  · exact ⟨vint (by simp [bW, h]), rfl⟩
  refine Or.inl ((spec_WordOk _ _ _).mono ?_)
  rintro _ _ ⟨rfl, rfl⟩
  refine br_not (fun h => ?_) (fun h2 => ?_)
  · exact ⟨vint (by simp [bW, h]), rfl⟩
  have g1 := wOk_iff.1 h1
  have g2 := wOk_iff.1 h2
  have hp := pow16 (by omega : 0 ≤ w) (by omega)
  have hm := mul_small g1.2.2.1 (by omega) g2.2.2.1 (by omega)
  refine br_dec (fun h => ?_) (fun e3 => ?_)
  · refine ⟨_, IntWalk.i64_in _ (by omega), ?_⟩
    refine Or.inl ((spec_WordOf _ _ _).mono ?_)
    rintro _ _ ⟨rfl, rfl⟩
    exact ⟨vint (by simp [bW, h1, h2, h]), rfl⟩
  refine br_dec (fun h => ?_) (fun e4 => ?_)
  · refine ⟨_, IntWalk.i64_in _ (by omega), ?_⟩
    refine Or.inl ((spec_WordOf _ _ _).mono ?_)
    rintro _ _ ⟨rfl, rfl⟩
    exact ⟨vint (by simp [bW, h1, h2, h]), rfl⟩
  refine br_dec (fun h => ?_) (fun e5 => ?_)
  · refine ⟨_, IntWalk.i64_in _ (by omega), ?_⟩
    refine Or.inl ((spec_WordOf _ _ _).mono ?_)
    rintro _ _ ⟨rfl, rfl⟩
    exact ⟨vint (by simp [bW, h1, h2, h]), rfl⟩
  refine br_dec (fun h => ?_) (fun e6 => ?_)
  · refine br_dec (fun hb => ?_) (fun hb => ?_)
    · refine ⟨by omega, _, shl1 (by omega) (by omega), _, IntWalk.i64_in _ (by omega), ?_⟩
      exact ⟨vint (by subst hb; simp [bW, h1, h2, h]), rfl⟩
    · refine ⟨hb, _, IntWalk.i64_quo _ _ (by omega), ?_⟩
      exact ⟨vint (by simp [bW, h1, h2, h, hb]), rfl⟩
  refine br_dec (fun h => ?_) (fun e7 => ?_)
  · refine br_dec (fun hb => ?_) (fun hb => ?_)
    · exact ⟨vint (by subst hb; simp [bW, h1, h2, h]), rfl⟩
    · refine ⟨hb, _, IntWalk.rem_in _ _ (by omega), ?_⟩
      exact ⟨vint (by simp [bW, h1, h2, h, hb]), rfl⟩
  refine br_dec (fun h => ?_) (fun e8 => ?_)
  · exact ⟨_, rfl, vint (by simp [bW, h1, h2, h]), rfl⟩
  refine br_dec (fun h => ?_) (fun e9 => ?_)
  · exact ⟨_, rfl, vint (by simp [bW, h1, h2, h]), rfl⟩
  refine br_dec (fun h => ?_) (fun e10 => ?_)
  · exact ⟨_, rfl, vint (by simp [bW, h1, h2, h]), rfl⟩
  refine br_dec (fun h => ?_) (fun e11 => ?_)
  · refine br_dec (fun hb => ?_) (fun hb => ?_)
    · exact ⟨vint (by simp [bW, h1, h2, h, hb]), rfl⟩
    · refine ⟨by omega, _, shl_in (by omega) (by omega) (by omega) (by omega), ?_⟩
      refine Or.inl ((spec_WordOf _ _ _).mono ?_)
      rintro _ _ ⟨rfl, rfl⟩
      exact ⟨vint (by simp [bW, h1, h2, h, hb]), rfl⟩
  refine br_dec (fun h => ?_) (fun e12 => ?_)
  · refine br_dec (fun hb => ?_) (fun hb => ?_)
    · exact ⟨vint (by simp [bW, h1, h2, h, hb]), rfl⟩
    · refine ⟨by omega, _, shr_any (by omega) (by omega), vint (by simp [bW, h1, h2, h, hb]), rfl⟩
  refine br_dec (fun h => ?_) (fun e13 => ?_)
  · refine br_dec (fun hb => ?_) (fun hb => ?_)
    · refine ⟨_, IntWalk.i64_in _ (by omega), ?_⟩
      refine Or.inl ((spec_SignedOf _ _ _).mono ?_)
      rintro _ _ ⟨rfl, rfl⟩
      refine ⟨by omega, _, shr_any (by omega) (by omega), ?_⟩
      refine Or.inl ((spec_WordOf _ _ _).mono ?_)
      rintro _ _ ⟨rfl, rfl⟩
      exact ⟨vint (by simp [bW, h1, h2, h, hb]), rfl⟩
    · refine Or.inl ((spec_SignedOf _ _ _).mono ?_)
      rintro _ _ ⟨rfl, rfl⟩
      refine ⟨by omega, _, shr_any (by omega) (by omega), ?_⟩
      refine Or.inl ((spec_WordOf _ _ _).mono ?_)
      rintro _ _ ⟨rfl, rfl⟩
      exact ⟨vint (by simp [bW, h1, h2, h, hb]), rfl⟩
  refine br_dec (fun h => ?_) (fun e14 => ?_)
  · refine Or.inl ((spec_Truth _ _).mono ?_)
    rintro _ _ ⟨rfl, rfl⟩
    exact ⟨vint (by simp [bW, h1, h2, h]), rfl⟩
  refine br_dec (fun h => ?_) (fun e15 => ?_)
  · refine Or.inl ((spec_Truth _ _).mono ?_)
    rintro _ _ ⟨rfl, rfl⟩
    exact ⟨vint (by simp [bW, h1, h2, h]), rfl⟩
  refine br_dec (fun h => ?_) (fun e16 => ?_)
  · refine Or.inl ((spec_SignedOf _ _ _).mono ?_)
    rintro _ _ ⟨rfl, rfl⟩
    refine Or.inl ((spec_SignedOf _ _ _).mono ?_)
    rintro _ _ ⟨rfl, rfl⟩
    refine Or.inl ((spec_Truth _ _).mono ?_)
    rintro _ _ ⟨rfl, rfl⟩
    exact ⟨vint (by simp [bW, h1, h2, h]), rfl⟩
  exact ⟨vint (by simp [bW, e3, e4, e5, e6, e7, e8, e9, e10, e11, e12, e13, e14, e15, e16]), rfl⟩

end Go.Proofs.Ytekddgkgeaolnaa
