/- Marks: the text of a mark; contract of markText. Marks on terms: contracts of markTermS, heldTermS. -/
import Derived.Test.YtekddgkgeaolnaaDoorTt
import Derived.Test.YtekddgkgeaolnaaDoorFa
import Derived.Test.YtekddgkgeaolnaaDoorTa
import Derived.Test.YtekddgkgeaolnaaDoorSp
namespace Go.Vc
open Go Go.RowKit
/-- 'string([]byte{c})'. -/
theorem raw_bytec {P : Program} {T : Tab} (hT : Ties P T) {o : Oper} {ρ : Fr} {w : World} {K : Value → World → Prop} {src dst e b off c : Nat} {Y : Operand} {r q u : TRow} {n : Int} (ho : o.op = .convert src dst Y)
    (hr : look T src = some r) (ha : r.agg = false) (hd : r.desc = .slice e) (hq : look T e = some q) (hqa : q.agg = false) (hqd : q.desc = .int .u8) (hu : look T dst = some u) (hua : u.agg = false) (hud : u.desc = .string)
    (hY : ev ρ Y = .slice (some ⟨b, off, none⟩) 1 c) (hc : w.cell? ⟨b, off, none⟩ = some (.int .u8 n)) (hK : K (.string ⟨#[UInt8.ofNat n.toNat]⟩) w) : Raw P o ρ w K := by
  have h1 := ((ties_look hT hr).plain ha).trans (congrArg some hd)
  have h2 := ((ties_look hT hq).plain hqa).trans (congrArg some hqd)
  have h3 := ((ties_look hT hu).plain hua).trans (congrArg some hud)
  have h4 := run_cells (P := P) (w := w) (b := b) (o := off) (vs := [.int .u8 n]) ⟨hc, trivial⟩
  refine ⟨.value _, _, w, ?_, rfl, hK⟩
  simp only [List.length_singleton] at h4
  simp [execOp, ho, hY, convert, run_underlying h1, run_underlying h2, run_underlying h3, Conv.bytesToString, h4]
  rfl
end Go.Vc
namespace Go.Proofs.YtekddgkgeaolnaaDoor
open Go Go.Vc Go.RowKit

def digB (k : Nat) : ByteArray := ⟨#[UInt8.ofNat (IntKind.u8.wrap (48 + (k : Int).tmod 10)).toNat]⟩
def mkD (k : Nat) (out : ByteArray) : ByteArray := if _h : k = 0 then out else mkD (k / 10) (digB k ++ out)
termination_by k
decreasing_by omega
theorem mkD_zero (out : ByteArray) : mkD 0 out = out := by rw [mkD]; simp
theorem mkD_pos {k : Nat} (h : 0 < k) (out : ByteArray) : mkD k out = mkD (k / 10) (digB k ++ out) := by rw [mkD, dif_neg (by omega)]
def mkT (k : Int) : ByteArray := if k ≤ 0 then ⟨#[109, 48]⟩ else ⟨#[109]⟩ ++ mkD k.toNat ByteArray.empty
theorem digB_size (k : Nat) : (digB k).size = 1 := rfl
theorem mkD_size : ∀ (n k : Nat) (out : ByteArray), k < n → (mkD k out).size ≤ k + out.size := by
  intro n
  induction n with
  | zero => intro k _ h; omega
  | succ n ih =>
    intro k out h
    by_cases h0 : k = 0
    · subst h0; rw [mkD_zero]; omega
    · rw [mkD_pos (by omega)]
      have := ih (k / 10) (digB k ++ out) (by omega)
      rw [ByteArray.size_append, digB_size] at this
      omega

theorem markText_ret (k : Int) (W : World) (h1 : k ≤ 1099511627776) : Ret Tryd.prog 38 #[.int .i64 k] W (fun v w' => v = .string (mkT k) ∧ Ext W w') := by
  refine ret_of_vc ties mixed Tryd.func38 rfl (by kernel_rfl) rfl rfl ?_
  refine br_dec (fun h => ?_) (fun h => ?_)
  · exact ⟨vstr (by simp [mkT, h]), Ext.refl _⟩
  obtain ⟨N, rfl⟩ : ∃ N : Nat, k = N := ⟨k.toNat, by omega⟩
  refine loop_rule (σ := Nat × ByteArray) [0, 3] 6 18 (fun q => [.int .i64 q.1, .string q.2])
    (fun q w' => Ext W w' ∧ q.1 + q.2.size ≤ N ∧ mkD q.1 q.2 = mkD N ByteArray.empty) (fun q => q.1) (N, ByteArray.empty) rfl ⟨Ext.refl _, by simp, rfl⟩ ?_
  rintro ⟨m, out⟩ w junk ⟨hx, hsz, hm⟩ K hK
  simp only at hsz hm
  refine br_dec (fun h2 => ?_) (fun h2 => ?_) <;> dsimp only at h2
  · have hm0 : 0 < m := by omega
    have htm : (m : Int).tmod 10 = ((m % 10 : Nat) : Int) := by rw [Int.tmod_eq_emod_of_nonneg (by omega)]; omega
    have htd : (m : Int).tdiv 10 = ((m / 10 : Nat) : Int) := by rw [Int.tdiv_eq_ediv_of_nonneg (by omega)]; omega
    refine ⟨by decide, _, rfl, _, IntWalk.i64_in _ (by rw [htm]; omega), _, rfl, ?_⟩
    refine raw_bytec ties rfl rfl rfl rfl rfl rfl rfl rfl rfl rfl rfl (boxed _ _ _ _ _ rfl) ?_
    refine ⟨by show (digB m).size + out.size ≤ _; rw [digB_size]; omega, by decide, _, IntWalk.i64_in _ (by rw [htd]; omega), ?_⟩
    refine hK (m / 10, digB m ++ out) _ _ (vs2 (vint htd) rfl) ⟨hx.trans (Ext.new _ _), by simp only [ByteArray.size_append, digB_size]; omega, ?_⟩ (by show m / 10 < m; omega) ?_
    · show mkD (m / 10) (digB m ++ out) = _
      rw [← mkD_pos hm0]; exact hm
    · ((repeat (first | (with_reducible exact Only.refl) | (with_reducible refine Only.skip ?_) | ((with_reducible refine Only.upd ?_ ?_); rfl) | ((with_reducible refine Only.over ?_ ?_ _); rfl) | ((with_reducible refine Only.hav ?_ ?_ ?_); rfl; rfl))))
  · have : m = 0 := by omega
    subst this
    rw [mkD_zero] at hm
    refine ⟨by show (⟨#[109]⟩ : ByteArray).size + out.size ≤ _; have : (⟨#[109]⟩ : ByteArray).size = 1 := rfl; omega, vstr ?_, hx⟩
    simp only [mkT, if_neg h]
    rw [hm]; rfl

end Go.Proofs.YtekddgkgeaolnaaDoor
namespace Go.Proofs.YtekddgkgeaolnaaDoor
open Go Go.Vc Go.RowKit

/-! marks on terms -/
def mkL (k : Int) : Lab := ⟨k, k + 1, k + 2, mkT (k + 3)⟩
def mkF : TF → Int → TF
  | .nil, _ => .nil
  | .cons _ kk r, k => .cons (mkL k) (mkF kk (k + 4)) (mkF r (k + 4 + 4 * (kk.size : Int)))
theorem mkF_len : ∀ (f : TF) (k : Int), (mkF f k).len = f.len := by
  intro f
  induction f with
  | nil => intro k; rfl
  | cons x kk r _ ihr => intro k; simp only [mkF, Fo.len, ihr]
theorem mkF_size : ∀ (f : TF) (k : Int), (mkF f k).size = f.size := by
  intro f
  induction f with
  | nil => intro k; rfl
  | cons x kk r ihk ihr => intro k; simp only [mkF, Fo.size, ihk, ihr]
abbrev TSep (w : World) (s : Value) (f : TF) (lo hi : Nat) : Prop := Fo.Sep tlc 5 w s f lo hi
theorem free_block {w w' : World} {B : Nat} (h : w'.heap[B]? = w.heap[B]?) {i : Nat} (hf : Free w ⟨B, i, none⟩) : Free w' ⟨B, i, none⟩ := by
  obtain ⟨⟨u, hu⟩, hz⟩ := hf
  exact ⟨⟨u, (World.cell?_of_block (w := w) (a := ⟨B, i, none⟩) h).trans hu⟩, (World.frozen?_of_block (w := w) (a := ⟨B, i, none⟩) h).trans hz⟩

theorem mark_mem {w w5 : World} {B o N : Nat} {k : Int} {s' : Value} (hrm : Rmy w B N) (ho : o + 5 ≤ N) (hs4 : w.cell? ⟨B, o + 4, none⟩ = some s') (x5 : Ext (Vc.setCells w B o [.int .i64 k, .int .i64 (k + 1), .int .i64 (k + 1 + 1)]) w5) (hBW : B < w.heap.size) :
    ∀ w6, w5.setCell ⟨B, o + 3, none⟩ (.string (mkT (k + 1 + 1 + 1))) = w6 → Free w5 ⟨B, o + 3, none⟩ ∧ Rmy w6 B N ∧ CellsAt w6 B o (tlc (mkL k) ++ [s']) ∧ Chg (fun b => b = B) w w6 ∧ ∀ q, (q < o ∨ o + 4 ≤ q) → w6.cell? ⟨B, q, none⟩ = w.cell? ⟨B, q, none⟩ := by
  intro w6 hw6
  have hc3 := setCells_at [.int .i64 k, .int .i64 (k + 1), .int .i64 (k + 1 + 1)] w o _ hrm (by show o + 3 ≤ N; omega)
  have hrm5 : Rmy w5 B N := (Rmy.setCells _ hrm).ext x5
  have c6 : ∀ q, q ≠ o + 3 → w6.cell? ⟨B, q, none⟩ = w5.cell? ⟨B, q, none⟩ := fun q hq => by
    rw [← hw6]; exact World.cell?_setCell_other _ _ _ _ (fun e => hq (congrArg Addr.off e).symm)
  have cold : ∀ q, (q < o ∨ o + 4 ≤ q) → w6.cell? ⟨B, q, none⟩ = w.cell? ⟨B, q, none⟩ := fun q hq => by
    rw [c6 q (by omega), Below.cell x5 (p := ⟨B, q, none⟩) (by rw [setCells_size]; exact hBW), setCells_other _ _ _ _ (fun _ => by show q < o ∨ o + 3 ≤ q; omega)]
  refine ⟨hrm5 (o + 3) (by omega), by rw [← hw6]; exact hrm5.setCell, ⟨(c6 o (by omega)).trans (x5.cell hc3.1), (c6 (o + 1) (by omega)).trans (x5.cell hc3.2.1), ?_, ?_, (cold (o + 4) (by omega)).trans hs4, trivial⟩, ?_, cold⟩
  · rw [c6 (o + 1 + 1) (by omega), x5.cell hc3.2.2.1, show k + 1 + 1 = k + 2 from by omega]; rfl
  · rw [← hw6, show o + 1 + 1 + 1 = o + 3 from rfl, show k + 1 + 1 + 1 = k + 3 from by omega]
    exact World.cell?_setCell_same _ _ _ (hrm5 (o + 3) (by omega)).1.choose_spec
  · rw [← hw6]
    exact ((Chg.setCells (S := fun b => b = B) rfl _ w o).trans (.of x5)).trans (Chg.setCell (S := fun b => b = B) _ rfl _)

/-! a term alone -/
abbrev tv (v : Lab) (s : Value) : Value := .agg #[.int .i64 v.op, .int .i64 v.w, .int .i64 v.n, .string v.name, s]
end Go.Proofs.YtekddgkgeaolnaaDoor
