/- Contracts of ApplyBinary and its helpers, in the program and in the reference; for all arguments. (OPTIONAL) -/
import Derived.Test.YtekddgkgeaolnaaDoorWb
import Derived.Test.YtekddgkgeaolnaaDoorWd
namespace Go.Proofs.YtekddgkgeaolnaaDoor
open Go Go.Vc Go.RowKit

def b2 (x : Bool) : Int := if x then 1 else 0
def bW (op w a b : Int) : Int :=
  if wOk w a && wOk w b then
    if op = 3 then wOf w (a + b) else if op = 4 then wOf w (a - b) else if op = 5 then wOf w (a * b)
    else if op = 6 then (if b = 0 then 2 ^ w.toNat - 1 else a / b)
    else if op = 7 then (if b = 0 then a else a % b)
    else if op = 8 then bitsI .and .i64 a b else if op = 9 then bitsI .or .i64 a b else if op = 10 then bitsI .xor .i64 a b
    else if op = 11 then (if w ≤ b then 0 else wOf w (a * 2 ^ b.toNat))
    else if op = 12 then (if w ≤ b then 0 else a / 2 ^ b.toNat)
    else if op = 13 then wOf w (sOf w a / 2 ^ (if w ≤ b then w - 1 else b).toNat)
    else if op = 14 then b2 (decide (a = b)) else if op = 15 then b2 (decide (a < b)) else if op = 16 then b2 (decide (sOf w a < sOf w b))
    else -1
  else -1

theorem shr_any {a n : Int} (h0 : 0 ≤ n) (h1 : n ≤ 63) : a.fdiv (2 ^ min n.toNat IntKind.i64.bits) = a / 2 ^ n.toNat := by
  have hm : min n.toNat IntKind.i64.bits = n.toNat := by show min n.toNat 64 = _; omega
  rw [hm, Int.fdiv_eq_ediv_of_nonneg]
  exact Int.le_of_lt (Int.pow_pos (by omega))

theorem mul_small {a b : Int} (ha : 0 ≤ a) (ha' : a ≤ 65536) (hb : 0 ≤ b) (hb' : b ≤ 65536) : 0 ≤ a * b ∧ a * b ≤ 4294967296 :=
  ⟨Int.mul_nonneg ha hb, Int.le_trans (Int.mul_le_mul ha' hb' hb (by omega)) (by omega)⟩

end Go.Proofs.YtekddgkgeaolnaaDoor
