/- The types that are met, one table for all texts of this seat. -/
import Derived.Test.YtfmflffggcphjaaRows
import Derived.Test.YtfmflffggcphjaaVh
namespace Go.Proofs.Ytfmflffggcphjaa
open Go Go.Vc Go.RowKit

def T : Tab := [
  (3, ⟨false, [], .int .i64, 1, 8, .int .i64 0⟩),
  (4, ⟨false, [], .bool, 1, 1, .bool false⟩),
  (9, ⟨false, [], .string, 1, 16, .string ByteArray.empty⟩),
  (34, ⟨true, [(0, 3), (1, 32)], .invalid, 2, 32, .agg #[.int .i64 0, .slice none 0 0]⟩),
  (32, ⟨false, [], .slice 34, 1, 24, .slice none 0 0⟩),
  (39, ⟨true, [(0, 3), (1, 37)], .invalid, 2, 32, .agg #[.int .i64 0, .slice none 0 0]⟩),
  (37, ⟨false, [], .slice 39, 1, 24, .slice none 0 0⟩),
  (48, ⟨true, [(0, 3), (1, 23)], .invalid, 2, 32, .agg #[.int .i64 0, .slice none 0 0]⟩),
  (25, ⟨true, [(0, 3), (1, 23)], .invalid, 2, 32, .agg #[.int .i64 0, .slice none 0 0]⟩),
  (107, ⟨true, [(0, 27), (1, 27)], .invalid, 2, 48, .agg #[.slice none 0 0, .slice none 0 0]⟩),
  (125, ⟨true, [(0, 25), (2, 23)], .invalid, 3, 56, .agg #[.int .i64 0, .slice none 0 0, .slice none 0 0]⟩),
  (85, ⟨false, [], .pointer 125, 1, 8, .pointer none⟩),
  (127, ⟨true, [(0, 85), (1, 3), (2, 3), (3, 54)], .invalid, 4, 48, .agg #[.pointer none, .int .i64 0, .int .i64 0, .slice none 0 0]⟩),
  (113, ⟨true, [(0, 25), (2, 3), (3, 3), (4, 4)], .invalid, 5, 56, .agg #[.int .i64 0, .slice none 0 0, .int .i64 0, .int .i64 0, .bool false]⟩),
  (23, ⟨false, [], .slice 27, 1, 24, .slice none 0 0⟩),
  (27, ⟨false, [], .slice 3, 1, 24, .slice none 0 0⟩),
  (54, ⟨false, [], .slice 4, 1, 24, .slice none 0 0⟩),
  (5, ⟨false, [], .int .u8, 1, 1, .int .u8 0⟩),
  (22, ⟨false, [], .slice 5, 1, 24, .slice none 0 0⟩),
  (104, ⟨false, [], .int .u64, 1, 8, .int .u64 0⟩),
  (3, ⟨false, [], .int .i64, 1, 8, .int .i64 0⟩)]

theorem ties_cons {P : Program} {t : Nat} {r : TRow} {l : Tab} (h1 : (P.info? t).map (fun i => (i.size, i.bytes, i.zero)) = some (r.size, r.bytes, some r.zero)) (h2 : (P.underlying t).map Go.Vc.keyOf = some (r.agg, r.fs, r.desc)) (h : Ties P l) : Ties P ((t, r) :: l) := ⟨⟨h1, h2⟩, h⟩
theorem ties_nil {P : Program} : Ties P [] := trivial
theorem ties : Ties Try.prog T := by
  unfold T
  repeat' (first | with_reducible exact ties_nil | with_reducible refine ties_cons ?_ ?_ ?_)
  all_goals kernel_rfl
theorem mixed : Try.prog.follows .mixedOrders = true := by kernel_rfl

end Go.Proofs.Ytfmflffggcphjaa
