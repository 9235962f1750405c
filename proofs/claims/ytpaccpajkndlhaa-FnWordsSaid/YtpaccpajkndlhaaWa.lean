/- The words: the types that are met, plain functions, and contracts of WordOk, WordOf, SignedOf; for all arguments. (OPTIONAL: a theorem on a function that the seat lacks is dropped.) -/
import Derived.Test.YtpaccpajkndlhaaTt
namespace Go.Proofs.Ytpaccpajkndlhaa
open Go Go.Vc Go.RowKit

/-! plain -/
def inR (n lo hi : Int) : Bool := decide (lo ≤ n) && decide (n ≤ hi)
def wOk (w a : Int) : Bool := decide (1 ≤ w ∧ w ≤ 16 ∧ 0 ≤ a ∧ a < 2 ^ w.toNat)

theorem pow16n : ∀ n : Nat, n ≤ 16 → (1 : Int) ≤ 2 ^ n ∧ (2 : Int) ^ n ≤ 65536 := by decide

theorem pow16 {w : Int} (_h0 : 0 ≤ w) (h1 : w ≤ 16) : (1 : Int) ≤ 2 ^ w.toNat ∧ (2 : Int) ^ w.toNat ≤ 65536 := pow16n _ (by omega)

theorem pow_pred {w : Int} (h0 : 1 ≤ w) : (2 : Int) ^ w.toNat = 2 * 2 ^ (w - 1).toNat := by
  have : w.toNat = (w - 1).toNat + 1 := by omega
  rw [this, Int.pow_succ, Int.mul_comm]

theorem shl1 {w : Int} (h0 : 0 ≤ w) (h1 : w ≤ 16) : IntKind.i64.wrap (1 * 2 ^ min w.toNat IntKind.i64.bits) = 2 ^ w.toNat := by
  have hm : min w.toNat IntKind.i64.bits = w.toNat := by show min w.toNat 64 = _; omega
  have := pow16 h0 h1
  rw [hm, Int.one_mul]
  exact IntWalk.i64_in _ (by omega)

theorem inR_iff {n lo hi : Int} : inR n lo hi = true ↔ lo ≤ n ∧ n ≤ hi := by simp [inR]

theorem inR_not {n lo hi : Int} : inR n lo hi = false ↔ ¬ (lo ≤ n ∧ n ≤ hi) := by rw [← inR_iff]; simp

theorem wOk_iff {w a : Int} : wOk w a = true ↔ 1 ≤ w ∧ w ≤ 16 ∧ 0 ≤ a ∧ a < 2 ^ w.toNat := by simp [wOk]

theorem wOk_not {w a : Int} : wOk w a = false ↔ ¬ (1 ≤ w ∧ w ≤ 16 ∧ 0 ≤ a ∧ a < 2 ^ w.toNat) := by rw [← wOk_iff]; simp

theorem beq_of_iff {a b : Bool} (h : a = true ↔ b = true) : a = b := by cases a <;> cases b <;> simp_all

def wOf (w n : Int) : Int := if inR w 1 16 then bitsI .and .i64 n (2 ^ w.toNat - 1) else -1
def sOf (w a : Int) : Int := if wOk w a then (if a < 2 ^ (w - 1).toNat then a else a - 2 ^ w.toNat) else 0
def jW (w a v b : Int) : Int := if wOk w a && wOk v b && decide (w + v ≤ 16) then a * 2 ^ v.toNat + b else -1
def rW (op w : Int) : Int := if inR w 1 16 && inR op 1 16 then (if 14 ≤ op then 1 else w) else 0
def cW (w a low n : Int) : Int := if wOk w a && decide (0 ≤ low ∧ 1 ≤ n ∧ n ≤ w - low) then bitsI .and .i64 (a / 2 ^ low.toNat) (2 ^ n.toNat - 1) else -1
def wiW (w a n : Int) (s : Bool) : Int := if wOk w a && decide (w ≤ n ∧ n ≤ 16) then (if s then wOf n (sOf w a) else a) else -1
def uW (op w a : Int) : Int := if wOk w a then (if op = 1 then 2 ^ w.toNat - 1 - a else if op = 2 then wOf w (-a) else -1) else -1
def names : List ByteArray := [⟨#[]⟩, ⟨#[110, 111, 116]⟩, ⟨#[110, 101, 103]⟩, ⟨#[97, 100, 100]⟩, ⟨#[115, 117, 98]⟩, ⟨#[109, 117, 108]⟩, ⟨#[100, 105, 118]⟩, ⟨#[114, 101, 109]⟩, ⟨#[97, 110, 100]⟩, ⟨#[111, 114]⟩, ⟨#[120, 111, 114]⟩, ⟨#[115, 104, 108]⟩, ⟨#[115, 104, 114]⟩, ⟨#[115, 97, 114]⟩, ⟨#[101, 113]⟩, ⟨#[108, 101, 115, 115]⟩, ⟨#[98, 101, 108, 111, 119]⟩]
def opNm (op : Int) : ByteArray := if inR op 1 16 then names.getD op.toNat ByteArray.empty else ByteArray.empty

theorem shr_eq {a n : Int} (_ha : 0 ≤ a) (h0 : 0 ≤ n) (h1 : n ≤ 63) : a.fdiv (2 ^ min n.toNat IntKind.i64.bits) = a / 2 ^ n.toNat := by
  have hm : min n.toNat IntKind.i64.bits = n.toNat := by show min n.toNat 64 = _; omega
  rw [hm, Int.fdiv_eq_ediv_of_nonneg]
  exact Int.le_of_lt (Int.pow_pos (by omega))

theorem top_bit {w a : Int} (h : wOk w a = true) : a / 2 ^ (w - 1).toNat = if a < 2 ^ (w - 1).toNat then 0 else 1 := by
  rw [wOk_iff] at h
  have hp := pow_pred h.1
  have hq := pow16n (w - 1).toNat (by omega)
  generalize (2 : Int) ^ (w - 1).toNat = q at *
  split
  · exact Int.ediv_eq_zero_of_lt (by omega) (by omega)
  · have h1 : a / q < 2 := Int.ediv_lt_of_lt_mul (by omega) (by omega)
    have h2 : 1 ≤ a / q := (Int.le_ediv_iff_mul_le (by omega)).2 (by omega)
    omega

/-! walks -/

theorem isWidth_ret (n : Int) (w : World) : Ret Try.prog 54 #[.int .i64 n] w (fun v w' => v = .bool (inR n 1 16) ∧ w' = w) := by
  refine ret_of_vc ties mixed Try.func54 rfl (by kernel_rfl) rfl rfl ?_
  refine br_dec (fun h => ?_) (fun h => ?_)
  · exact ⟨vbool (by simp [inR, h]), rfl⟩
  · exact ⟨vbool (by simp [inR, h]), rfl⟩

theorem l01In_ret (n lo hi : Int) (w : World) : Ret Try.prog 53 #[.int .i64 n, .int .i64 lo, .int .i64 hi] w (fun v w' => v = .bool (inR n lo hi) ∧ w' = w) := by
  refine ret_of_vc ties mixed Try.func53 rfl (by kernel_rfl) rfl rfl ?_
  refine br_dec (fun h => ?_) (fun h => ?_)
  · exact ⟨vbool (by simp [inR, h]), rfl⟩
  · exact ⟨vbool (by simp [inR, h]), rfl⟩

theorem impl_WordOk (w a : Int) (W : World) : Ret Try.prog 47 #[.int .i64 w, .int .i64 a] W (fun v w' => v = .bool (wOk w a) ∧ w' = W) := by
  refine ret_of_vc ties mixed Try.func47 rfl (by kernel_rfl) rfl rfl ?_
  refine Or.inl ((isWidth_ret _ _).mono ?_)
  rintro _ _ ⟨rfl, rfl⟩
  refine br_split (fun h => ?_) (fun h => ?_)
  · rw [inR_iff] at h
    refine br_dec (fun h1 => ?_) (fun h1 => ?_)
    · refine ⟨_, IntWalk.u64_in _ (by omega), by omega, _, shl1 (by omega) h.2, ?_⟩
      exact ⟨vbool (by simp [wOk, h, h1]), rfl⟩
    · exact ⟨vbool (by simp [wOk, h, h1]), rfl⟩
  · rw [inR_not] at h
    exact ⟨vbool (beq_of_iff (by rw [wOk_iff]; exact ⟨fun e => (by cases e), fun e => absurd ⟨e.1, e.2.1⟩ h⟩)), rfl⟩

theorem spec_WordOk (w a : Int) (W : World) : Ret Try.prog 44 #[.int .i64 w, .int .i64 a] W (fun v w' => v = .bool (wOk w a) ∧ w' = W) := by
  refine ret_of_vc ties mixed Try.func44 rfl (by kernel_rfl) rfl rfl ?_
  refine Or.inl ((l01In_ret _ _ _ _).mono ?_)
  rintro _ _ ⟨rfl, rfl⟩
  refine br_split (fun h => ?_) (fun h => ?_)
  · rw [inR_iff] at h
    have hp := pow16 (by omega : 0 ≤ w) h.2
    refine ⟨by omega, _, shl1 (by omega) h.2, _, IntWalk.i64_in _ (by omega), ?_⟩
    refine Or.inl ((l01In_ret _ _ _ _).mono ?_)
    rintro _ _ ⟨rfl, rfl⟩
    exact ⟨vbool (beq_of_iff (by rw [wOk_iff, inR_iff]; omega)), rfl⟩
  · rw [inR_not] at h
    exact ⟨vbool (beq_of_iff (by rw [wOk_iff]; exact ⟨fun e => (by cases e), fun e => absurd ⟨e.1, e.2.1⟩ h⟩)), rfl⟩

theorem impl_WordOf (w n : Int) (W : World) : Ret Try.prog 57 #[.int .i64 w, .int .i64 n] W (fun v w' => v = .int .i64 (wOf w n) ∧ w' = W) := by
  refine ret_of_vc ties mixed Try.func57 rfl (by kernel_rfl) rfl rfl ?_
  refine Or.inl ((isWidth_ret _ _).mono ?_)
  rintro _ _ ⟨rfl, rfl⟩
  refine br_not (fun h => ?_) (fun h => ?_)
  · exact ⟨vint (by simp [wOf, h]), rfl⟩
  · have h' := inR_iff.1 h
    have hp := pow16 (by omega : 0 ≤ w) h'.2
    refine ⟨_, IntWalk.u64_in _ (by omega), by omega, _, shl1 (by omega) h'.2, _, IntWalk.i64_in _ (by omega), _, rfl, ?_⟩
    exact ⟨vint (by simp [wOf, h]), rfl⟩

theorem spec_WordOf (w n : Int) (W : World) : Ret Try.prog 31 #[.int .i64 w, .int .i64 n] W (fun v w' => v = .int .i64 (wOf w n) ∧ w' = W) := by
  refine ret_of_vc ties mixed Try.func31 rfl (by kernel_rfl) rfl rfl ?_
  refine Or.inl ((l01In_ret _ _ _ _).mono ?_)
  rintro _ _ ⟨rfl, rfl⟩
  refine br_not (fun h => ?_) (fun h => ?_)
  · exact ⟨vint (by simp [wOf, h]), rfl⟩
  · have h' := inR_iff.1 h
    have hp := pow16 (by omega : 0 ≤ w) h'.2
    refine ⟨by omega, _, shl1 (by omega) h'.2, _, IntWalk.i64_in _ (by omega), _, rfl, ?_⟩
    exact ⟨vint (by simp [wOf, h]), rfl⟩

theorem impl_SignedOf (w a : Int) (W : World) : Ret Try.prog 36 #[.int .i64 w, .int .i64 a] W (fun v w' => v = .int .i64 (sOf w a) ∧ w' = W) := by
  refine ret_of_vc ties mixed Try.func36 rfl (by kernel_rfl) rfl rfl ?_
  refine Or.inl ((impl_WordOk _ _ _).mono ?_)
  rintro _ _ ⟨rfl, rfl⟩
  refine br_not (fun h => ?_) (fun h => ?_)
  · exact ⟨vint (by simp [sOf, h]), rfl⟩
  · have h' := wOk_iff.1 h
    have hp := pow16 (by omega : 0 ≤ w) h'.2.1
    refine ⟨_, IntWalk.i64_in _ (by omega), _, IntWalk.u64_in _ (by omega), by omega, _, shr_eq h'.2.2.1 (by omega) (by omega), ?_⟩
    have ht := top_bit h
    refine br_dec (fun h1 => ?_) (fun h1 => ?_)
    · refine ⟨vint ?_, rfl⟩
      have : a < 2 ^ (w - 1).toNat := by
        rw [ht] at h1; split at h1
        · assumption
        · cases h1
      rw [sOf, if_pos h, if_pos this]
    · refine ⟨_, IntWalk.u64_in _ (by omega), by omega, _, shl1 (by omega) h'.2.1, _, IntWalk.i64_in _ (by omega), vint ?_, rfl⟩
      have : ¬ a < 2 ^ (w - 1).toNat := fun e => h1 (by rw [ht, if_pos e])
      rw [sOf, if_pos h, if_neg this]

end Go.Proofs.Ytpaccpajkndlhaa
