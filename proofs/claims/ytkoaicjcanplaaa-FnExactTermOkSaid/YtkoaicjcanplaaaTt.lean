/- The types that are met, one table for all texts of this seat. -/
import Derived.Test.YtkoaicjcanplaaaRows
import Derived.Test.YtkoaicjcanplaaaVc
namespace Go.Proofs.Ytkoaicjcanplaaa
open Go Go.Vc Go.RowKit

def T : Tab := [
  (3, ⟨false, [], .int .i64, 1, 8, .int .i64 0⟩),
  (4, ⟨false, [], .bool, 1, 1, .bool false⟩),
  (9, ⟨false, [], .string, 1, 16, .string ByteArray.empty⟩),
  (43, ⟨true, [(0, 3), (1, 3), (2, 3), (3, 9), (4, 41)], .invalid, 5, 64, .agg #[.int .i64 0, .int .i64 0, .int .i64 0, .string ByteArray.empty, .slice none 0 0]⟩),
  (41, ⟨false, [], .slice 43, 1, 24, .slice none 0 0⟩),
  (25, ⟨true, [(0, 3), (1, 3), (2, 3), (3, 9), (4, 23)], .invalid, 5, 64, .agg #[.int .i64 0, .int .i64 0, .int .i64 0, .string ByteArray.empty, .slice none 0 0]⟩),
  (23, ⟨false, [], .slice 25, 1, 24, .slice none 0 0⟩),
  (102, ⟨true, [(0, 9), (1, 3), (2, 3)], .invalid, 3, 32, .agg #[.string ByteArray.empty, .int .i64 0, .int .i64 0]⟩),
  (61, ⟨false, [], .slice 102, 1, 24, .slice none 0 0⟩),
  (74, ⟨true, [(0, 9), (1, 3), (2, 3)], .invalid, 3, 32, .agg #[.string ByteArray.empty, .int .i64 0, .int .i64 0]⟩),
  (31, ⟨false, [], .slice 74, 1, 24, .slice none 0 0⟩),
  (65, ⟨false, [], .slice 3, 1, 24, .slice none 0 0⟩),
  (71, ⟨false, [], .slice 9, 1, 24, .slice none 0 0⟩),
  (85, ⟨false, [], .map 9 3, 1, 8, .map none⟩),
  (87, ⟨false, [], .map 9 25, 1, 8, .map none⟩),
  (93, ⟨true, [(0, 3), (1, 85)], .invalid, 2, 16, .agg #[.int .i64 0, .map none]⟩),
  (121, ⟨false, [], .pointer 93, 1, 8, .pointer none⟩),
  (80, ⟨false, [], .pointer 3, 1, 8, .pointer none⟩),
  (5, ⟨false, [], .int .u8, 1, 1, .int .u8 0⟩),
  (22, ⟨false, [], .slice 5, 1, 24, .slice none 0 0⟩),
  (105, ⟨false, [], .int .u64, 1, 8, .int .u64 0⟩),
  (3, ⟨false, [], .int .i64, 1, 8, .int .i64 0⟩)]

theorem ties_cons {P : Program} {t : Nat} {r : TRow} {l : Tab} (h1 : (P.info? t).map (fun i => (i.size, i.bytes, i.zero)) = some (r.size, r.bytes, some r.zero)) (h2 : (P.underlying t).map Go.Vc.keyOf = some (r.agg, r.fs, r.desc)) (h : Ties P l) : Ties P ((t, r) :: l) := ⟨⟨h1, h2⟩, h⟩
theorem ties_nil {P : Program} : Ties P [] := trivial
theorem ties : Ties Try.prog T := by
  unfold T
  repeat' (first | with_reducible exact ties_nil | with_reducible refine ties_cons ?_ ?_ ?_)
  all_goals kernel_rfl
theorem mixed : Try.prog.follows .mixedOrders = true := by kernel_rfl

end Go.Proofs.Ytkoaicjcanplaaa
