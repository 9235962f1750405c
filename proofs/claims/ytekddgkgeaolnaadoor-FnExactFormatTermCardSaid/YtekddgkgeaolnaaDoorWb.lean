/- Contracts of ResultWidth, CutWord, JoinWords, WidenWord, ApplyUnary; for all arguments of their kinds. (OPTIONAL) -/
import Derived.Test.YtekddgkgeaolnaaDoorWa
namespace Go.Proofs.YtekddgkgeaolnaaDoor
open Go Go.Vc Go.RowKit

theorem shl_in {a n : Int} (h0 : 0 ≤ n) (h1 : n ≤ 16) (ha : 0 ≤ a) (hb : a ≤ 65536) : IntKind.i64.wrap (a * 2 ^ min n.toNat IntKind.i64.bits) = a * 2 ^ n.toNat := by
  have hm : min n.toNat IntKind.i64.bits = n.toNat := by show min n.toNat 64 = _; omega
  have hp := pow16 h0 h1
  rw [hm]
  have h2 : a * 2 ^ n.toNat ≤ 65536 * 65536 := Int.mul_le_mul hb hp.2 (by omega) (by omega)
  have h3 : 0 ≤ a * 2 ^ n.toNat := Int.mul_nonneg ha (by omega)
  exact IntWalk.i64_in _ (by omega)

theorem cW_no {w a low n : Int} (h : ¬ (wOk w a = true ∧ (0 ≤ low ∧ 1 ≤ n ∧ n ≤ w - low))) : cW w a low n = -1 := by
  rw [cW, if_neg]
  simpa only [Bool.and_eq_true, decide_eq_true_eq] using h

theorem cW_yes {w a low n : Int} (h : wOk w a = true) (h' : 0 ≤ low ∧ 1 ≤ n ∧ n ≤ w - low) : cW w a low n = bitsI .and .i64 (a / 2 ^ low.toNat) (2 ^ n.toNat - 1) := by
  rw [cW, if_pos]
  simpa only [Bool.and_eq_true, decide_eq_true_eq] using ⟨h, h'⟩

theorem jW_no {w a v b : Int} (h : ¬ (wOk w a = true ∧ wOk v b = true ∧ w + v ≤ 16)) : jW w a v b = -1 := by
  rw [jW, if_neg]
  simpa only [Bool.and_eq_true, decide_eq_true_eq, and_assoc] using h

theorem jW_yes {w a v b : Int} (h : wOk w a = true) (h' : wOk v b = true) (h2 : w + v ≤ 16) : jW w a v b = a * 2 ^ v.toNat + b := by
  rw [jW, if_pos]
  simpa only [Bool.and_eq_true, decide_eq_true_eq, and_assoc] using ⟨h, h', h2⟩

theorem wiW_no {w a n : Int} {s : Bool} (h : ¬ (wOk w a = true ∧ w ≤ n ∧ n ≤ 16)) : wiW w a n s = -1 := by
  rw [wiW, if_neg]
  simpa only [Bool.and_eq_true, decide_eq_true_eq] using h

theorem wiW_yes {w a n : Int} {s : Bool} (h : wOk w a = true) (h' : w ≤ n ∧ n ≤ 16) : wiW w a n s = if s then wOf n (sOf w a) else a := by
  rw [wiW, if_pos]
  simpa only [Bool.and_eq_true, decide_eq_true_eq] using ⟨h, h'⟩

end Go.Proofs.YtekddgkgeaolnaaDoor
