/- The types that are met, one table for all texts of this seat. -/
import Derived.Test.YtgeknlnclkdpmaaDoorRows
import Derived.Test.YtgeknlnclkdpmaaDoorVh
namespace Go.Proofs.YtgeknlnclkdpmaaDoor
open Go Go.Vc Go.RowKit

def T : Tab := [
  (3, ⟨false, [], .int .i64, 1, 8, .int .i64 0⟩),
  (4, ⟨false, [], .bool, 1, 1, .bool false⟩),
  (9, ⟨false, [], .string, 1, 16, .string ByteArray.empty⟩),
  (29, ⟨false, [], .slice 3, 1, 24, .slice none 0 0⟩),
  (24, ⟨false, [], .slice 9, 1, 24, .slice none 0 0⟩),
  (5, ⟨false, [], .int .u8, 1, 1, .int .u8 0⟩),
  (39, ⟨false, [], .slice 5, 1, 24, .slice none 0 0⟩),
  (79, ⟨false, [], .int .u64, 1, 8, .int .u64 0⟩),
  (3, ⟨false, [], .int .i64, 1, 8, .int .i64 0⟩)]

theorem ties_cons {P : Program} {t : Nat} {r : TRow} {l : Tab} (h1 : (P.info? t).map (fun i => (i.size, i.bytes, i.zero)) = some (r.size, r.bytes, some r.zero)) (h2 : (P.underlying t).map Go.Vc.keyOf = some (r.agg, r.fs, r.desc)) (h : Ties P l) : Ties P ((t, r) :: l) := ⟨⟨h1, h2⟩, h⟩
theorem ties_nil {P : Program} : Ties P [] := trivial
theorem ties : Ties Tryd.prog T := by
  unfold T
  repeat' (first | with_reducible exact ties_nil | with_reducible refine ties_cons ?_ ?_ ?_)
  all_goals kernel_rfl
theorem mixed : Tryd.prog.follows .mixedOrders = true := by kernel_rfl

end Go.Proofs.YtgeknlnclkdpmaaDoor
