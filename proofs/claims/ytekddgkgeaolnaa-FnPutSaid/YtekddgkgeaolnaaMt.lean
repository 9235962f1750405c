/- Marks: the text of a mark; contract of markText. Marks on terms: contracts of markTermS, heldTermS. -/
import Derived.Test.YtekddgkgeaolnaaTt
import Derived.Test.YtekddgkgeaolnaaFa
import Derived.Test.YtekddgkgeaolnaaTa
import Derived.Test.YtekddgkgeaolnaaSp
namespace Go.Vc
open Go Go.RowKit
/-- 'string([]byte{c})'. -/
theorem raw_bytec {P : Program} {T : Tab} (hT : Ties P T) {o : Oper} {ρ : Fr} {w : World} {K : Value → World → Prop} {src dst e b off c : Nat} {Y : Operand} {r q u : TRow} {n : Int} (ho : o.op = .convert src dst Y)
    (hr : look T src = some r) (ha : r.agg = false) (hd : r.desc = .slice e) (hq : look T e = some q) (hqa : q.agg = false) (hqd : q.desc = .int .u8) (hu : look T dst = some u) (hua : u.agg = false) (hud : u.desc = .string)
    (hY : ev ρ Y = .slice (some ⟨b, off, none⟩) 1 c) (hc : w.cell? ⟨b, off, none⟩ = some (.int .u8 n)) (hK : K (.string ⟨#[UInt8.ofNat n.toNat]⟩) w) : Raw P o ρ w K := by
  have h1 := ((ties_look hT hr).plain ha).trans (congrArg some hd)
  have h2 := ((ties_look hT hq).plain hqa).trans (congrArg some hqd)
  have h3 := ((ties_look hT hu).plain hua).trans (congrArg some hud)
  have h4 := run_cells (P := P) (w := w) (b := b) (o := off) (vs := [.int .u8 n]) ⟨hc, trivial⟩
  refine ⟨.value _, _, w, ?_, rfl, hK⟩
  simp only [List.length_singleton] at h4
  simp [execOp, ho, hY, convert, run_underlying h1, run_underlying h2, run_underlying h3, Conv.bytesToString, h4]
  rfl
end Go.Vc
namespace Go.Proofs.Ytekddgkgeaolnaa
open Go Go.Vc Go.RowKit

def digB (k : Nat) : ByteArray := ⟨#[UInt8.ofNat (IntKind.u8.wrap (48 + (k : Int).tmod 10)).toNat]⟩
def mkD (k : Nat) (out : ByteArray) : ByteArray := if _h : k = 0 then out else mkD (k / 10) (digB k ++ out)
termination_by k
decreasing_by omega
theorem mkD_zero (out : ByteArray) : mkD 0 out = out := by rw [mkD]; simp
theorem mkD_pos {k : Nat} (h : 0 < k) (out : ByteArray) : mkD k out = mkD (k / 10) (digB k ++ out) := by rw [mkD, dif_neg (by omega)]
def mkT (k : Int) : ByteArray := if k ≤ 0 then ⟨#[109, 48]⟩ else ⟨#[109]⟩ ++ mkD k.toNat ByteArray.empty
theorem digB_size (k : Nat) : (digB k).size = 1 := rfl
theorem mkD_size : ∀ (n k : Nat) (out : ByteArray), k < n → (mkD k out).size ≤ k + out.size := by
  intro n
  induction n with
  | zero => intro k _ h; omega
  | succ n ih =>
    intro k out h
    by_cases h0 : k = 0
    · subst h0; rw [mkD_zero]; omega
    · rw [mkD_pos (by omega)]
      have := ih (k / 10) (digB k ++ out) (by omega)
      rw [ByteArray.size_append, digB_size] at this
      omega

end Go.Proofs.Ytekddgkgeaolnaa
namespace Go.Proofs.Ytekddgkgeaolnaa
open Go Go.Vc Go.RowKit

/-! marks on terms -/
def mkL (k : Int) : Lab := ⟨k, k + 1, k + 2, mkT (k + 3)⟩
def mkF : TF → Int → TF
  | .nil, _ => .nil
  | .cons _ kk r, k => .cons (mkL k) (mkF kk (k + 4)) (mkF r (k + 4 + 4 * (kk.size : Int)))
theorem mkF_len : ∀ (f : TF) (k : Int), (mkF f k).len = f.len := by
  intro f
  induction f with
  | nil => intro k; rfl
  | cons x kk r _ ihr => intro k; simp only [mkF, Fo.len, ihr]
theorem mkF_size : ∀ (f : TF) (k : Int), (mkF f k).size = f.size := by
  intro f
  induction f with
  | nil => intro k; rfl
  | cons x kk r ihk ihr => intro k; simp only [mkF, Fo.size, ihk, ihr]
abbrev TSep (w : World) (s : Value) (f : TF) (lo hi : Nat) : Prop := Fo.Sep tlc 5 w s f lo hi
theorem free_block {w w' : World} {B : Nat} (h : w'.heap[B]? = w.heap[B]?) {i : Nat} (hf : Free w ⟨B, i, none⟩) : Free w' ⟨B, i, none⟩ := by
  obtain ⟨⟨u, hu⟩, hz⟩ := hf
  exact ⟨⟨u, (World.cell?_of_block (w := w) (a := ⟨B, i, none⟩) h).trans hu⟩, (World.frozen?_of_block (w := w) (a := ⟨B, i, none⟩) h).trans hz⟩

theorem mark_mem {w w5 : World} {B o N : Nat} {k : Int} {s' : Value} (hrm : Rmy w B N) (ho : o + 5 ≤ N) (hs4 : w.cell? ⟨B, o + 4, none⟩ = some s') (x5 : Ext (Vc.setCells w B o [.int .i64 k, .int .i64 (k + 1), .int .i64 (k + 1 + 1)]) w5) (hBW : B < w.heap.size) :
    ∀ w6, w5.setCell ⟨B, o + 3, none⟩ (.string (mkT (k + 1 + 1 + 1))) = w6 → Free w5 ⟨B, o + 3, none⟩ ∧ Rmy w6 B N ∧ CellsAt w6 B o (tlc (mkL k) ++ [s']) ∧ Chg (fun b => b = B) w w6 ∧ ∀ q, (q < o ∨ o + 4 ≤ q) → w6.cell? ⟨B, q, none⟩ = w.cell? ⟨B, q, none⟩ := by
  intro w6 hw6
  have hc3 := setCells_at [.int .i64 k, .int .i64 (k + 1), .int .i64 (k + 1 + 1)] w o _ hrm (by show o + 3 ≤ N; omega)
  have hrm5 : Rmy w5 B N := (Rmy.setCells _ hrm).ext x5
  have c6 : ∀ q, q ≠ o + 3 → w6.cell? ⟨B, q, none⟩ = w5.cell? ⟨B, q, none⟩ := fun q hq => by
    rw [← hw6]; exact World.cell?_setCell_other _ _ _ _ (fun e => hq (congrArg Addr.off e).symm)
  have cold : ∀ q, (q < o ∨ o + 4 ≤ q) → w6.cell? ⟨B, q, none⟩ = w.cell? ⟨B, q, none⟩ := fun q hq => by
    rw [c6 q (by omega), Below.cell x5 (p := ⟨B, q, none⟩) (by rw [setCells_size]; exact hBW), setCells_other _ _ _ _ (fun _ => by show q < o ∨ o + 3 ≤ q; omega)]
  refine ⟨hrm5 (o + 3) (by omega), by rw [← hw6]; exact hrm5.setCell, ⟨(c6 o (by omega)).trans (x5.cell hc3.1), (c6 (o + 1) (by omega)).trans (x5.cell hc3.2.1), ?_, ?_, (cold (o + 4) (by omega)).trans hs4, trivial⟩, ?_, cold⟩
  · rw [c6 (o + 1 + 1) (by omega), x5.cell hc3.2.2.1, show k + 1 + 1 = k + 2 from by omega]; rfl
  · rw [← hw6, show o + 1 + 1 + 1 = o + 3 from rfl, show k + 1 + 1 + 1 = k + 3 from by omega]
    exact World.cell?_setCell_same _ _ _ (hrm5 (o + 3) (by omega)).1.choose_spec
  · rw [← hw6]
    exact ((Chg.setCells (S := fun b => b = B) rfl _ w o).trans (.of x5)).trans (Chg.setCell (S := fun b => b = B) _ rfl _)

/-! a term alone -/
abbrev tv (v : Lab) (s : Value) : Value := .agg #[.int .i64 v.op, .int .i64 v.w, .int .i64 v.n, .string v.name, s]
end Go.Proofs.Ytekddgkgeaolnaa
