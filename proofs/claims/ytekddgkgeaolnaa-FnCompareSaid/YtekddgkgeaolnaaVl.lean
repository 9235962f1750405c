/- The calculus: the string of one new byte. -/
import Derived.Test.YtekddgkgeaolnaaFa
import Derived.Laws.BytesString
namespace Go.Vc
open Go Go.RowKit

theorem raw_byte {P : Program} {o : Oper} {ρ : Fr} {K : Value → World → Prop} {w : World} {src dst e t : TypeId} {x : Operand} {n : Int} (ho : o.op = .convert src dst x) (hs : P.underlying src = some (.slice e)) (he : P.underlying e = some (.int .u8)) (hd : P.underlying dst = some .string)
    (hx : ev ρ x = .slice (some ⟨w.heap.size, 0, none⟩) 1 1) (hK : K (.string ⟨#[UInt8.ofNat n.toNat]⟩) (w.alloc (.cells [.int .u8 n].toArray t))) : Raw P o ρ (w.alloc (.cells [.int .u8 n].toArray t)) K := by
  refine ⟨.value (.string ⟨#[UInt8.ofNat n.toNat]⟩), _, _, ?_, rfl, hK⟩
  have hc := boxedAll w [.int .u8 n] t
  have hl := run_cells (P := P) hc
  have hb := run_bytesToString (P := P) (w.alloc (.cells [.int .u8 n].toArray t)) ⟨w.heap.size, 0, none⟩ 1 1 [n] hl
  have h := (run_convert_bytes_string (P := P) (w.alloc (.cells [.int .u8 n].toArray t)) src dst e (some ⟨w.heap.size, 0, none⟩) 1 1 hs he hd).trans hb
  simp only [execOp, ho, hx]
  simp [h]
  rfl
/-- The same, whenever the byte was made. -/
theorem raw_byte_at {P : Program} {o : Oper} {ρ : Fr} {K : Value → World → Prop} {w : World} {src dst e : TypeId} {x : Operand} {n : Int} {b : Nat} (ho : o.op = .convert src dst x) (hs : P.underlying src = some (.slice e)) (he : P.underlying e = some (.int .u8)) (hd : P.underlying dst = some .string)
    (hx : ev ρ x = .slice (some ⟨b, 0, none⟩) 1 1) (hc : CellsAt w b 0 [.int .u8 n]) (hK : K (.string ⟨#[UInt8.ofNat n.toNat]⟩) w) : Raw P o ρ w K := by
  refine ⟨.value (.string ⟨#[UInt8.ofNat n.toNat]⟩), _, _, ?_, rfl, hK⟩
  have hl := run_cells (P := P) hc
  have hb := run_bytesToString (P := P) w ⟨b, 0, none⟩ 1 1 [n] hl
  have h := (run_convert_bytes_string (P := P) w src dst e (some ⟨b, 0, none⟩) 1 1 hs he hd).trans hb
  simp only [execOp, ho, hx]
  simp [h]
  rfl
end Go.Vc
