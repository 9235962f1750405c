/- Marks: the text of a mark; contract of markText. Marks on terms: contracts of markTermS, heldTermS. -/
import Derived.Test.YtkoaicjcanplaaaTt
import Derived.Test.YtkoaicjcanplaaaFa
import Derived.Test.YtkoaicjcanplaaaTa
import Derived.Test.YtkoaicjcanplaaaSp
namespace Go.Vc
open Go Go.RowKit
/-- 'string([]byte{c})'. -/
theorem raw_bytec {P : Program} {T : Tab} (hT : Ties P T) {o : Oper} {ρ : Fr} {w : World} {K : Value → World → Prop} {src dst e b off c : Nat} {Y : Operand} {r q u : TRow} {n : Int} (ho : o.op = .convert src dst Y)
    (hr : look T src = some r) (ha : r.agg = false) (hd : r.desc = .slice e) (hq : look T e = some q) (hqa : q.agg = false) (hqd : q.desc = .int .u8) (hu : look T dst = some u) (hua : u.agg = false) (hud : u.desc = .string)
    (hY : ev ρ Y = .slice (some ⟨b, off, none⟩) 1 c) (hc : w.cell? ⟨b, off, none⟩ = some (.int .u8 n)) (hK : K (.string ⟨#[UInt8.ofNat n.toNat]⟩) w) : Raw P o ρ w K := by
  have h1 := ((ties_look hT hr).plain ha).trans (congrArg some hd)
  have h2 := ((ties_look hT hq).plain hqa).trans (congrArg some hqd)
  have h3 := ((ties_look hT hu).plain hua).trans (congrArg some hud)
  have h4 := run_cells (P := P) (w := w) (b := b) (o := off) (vs := [.int .u8 n]) ⟨hc, trivial⟩
  refine ⟨.value _, _, w, ?_, rfl, hK⟩
  simp only [List.length_singleton] at h4
  simp [execOp, ho, hY, convert, run_underlying h1, run_underlying h2, run_underlying h3, Conv.bytesToString, h4]
  rfl
end Go.Vc
namespace Go.Proofs.Ytkoaicjcanplaaa
open Go Go.Vc Go.RowKit

def digB (k : Nat) : ByteArray := ⟨#[UInt8.ofNat (IntKind.u8.wrap (48 + (k : Int).tmod 10)).toNat]⟩
def mkD (k : Nat) (out : ByteArray) : ByteArray := if _h : k = 0 then out else mkD (k / 10) (digB k ++ out)
termination_by k
decreasing_by omega
theorem mkD_zero (out : ByteArray) : mkD 0 out = out := by rw [mkD]; simp
theorem mkD_pos {k : Nat} (h : 0 < k) (out : ByteArray) : mkD k out = mkD (k / 10) (digB k ++ out) := by rw [mkD, dif_neg (by omega)]
def mkT (k : Int) : ByteArray := if k ≤ 0 then ⟨#[109, 48]⟩ else ⟨#[109]⟩ ++ mkD k.toNat ByteArray.empty
theorem digB_size (k : Nat) : (digB k).size = 1 := rfl
theorem mkD_size : ∀ (n k : Nat) (out : ByteArray), k < n → (mkD k out).size ≤ k + out.size := by
  intro n
  induction n with
  | zero => intro k _ h; omega
  | succ n ih =>
    intro k out h
    by_cases h0 : k = 0
    · subst h0; rw [mkD_zero]; omega
    · rw [mkD_pos (by omega)]
      have := ih (k / 10) (digB k ++ out) (by omega)
      rw [ByteArray.size_append, digB_size] at this
      omega

theorem markText_ret (k : Int) (W : World) (h1 : k ≤ 1099511627776) : Ret Try.prog 87 #[.int .i64 k] W (fun v w' => v = .string (mkT k) ∧ Ext W w') := by
  refine ret_of_vc ties mixed Try.func87 rfl (by kernel_rfl) rfl rfl ?_
  refine br_dec (fun h => ?_) (fun h => ?_)
  · exact ⟨vstr (by simp [mkT, h]), Ext.refl _⟩
  obtain ⟨N, rfl⟩ : ∃ N : Nat, k = N := ⟨k.toNat, by omega⟩
  refine loop_rule (σ := Nat × ByteArray) [0, 3] 6 18 (fun q => [.int .i64 q.1, .string q.2])
    (fun q w' => Ext W w' ∧ q.1 + q.2.size ≤ N ∧ mkD q.1 q.2 = mkD N ByteArray.empty) (fun q => q.1) (N, ByteArray.empty) rfl ⟨Ext.refl _, by simp, rfl⟩ ?_
  rintro ⟨m, out⟩ w junk ⟨hx, hsz, hm⟩ K hK
  simp only at hsz hm
  refine br_dec (fun h2 => ?_) (fun h2 => ?_) <;> dsimp only at h2
  · have hm0 : 0 < m := by omega
    have htm : (m : Int).tmod 10 = ((m % 10 : Nat) : Int) := by rw [Int.tmod_eq_emod_of_nonneg (by omega)]; omega
    have htd : (m : Int).tdiv 10 = ((m / 10 : Nat) : Int) := by rw [Int.tdiv_eq_ediv_of_nonneg (by omega)]; omega
    refine ⟨by decide, _, rfl, _, IntWalk.i64_in _ (by rw [htm]; omega), _, rfl, ?_⟩
    refine raw_bytec ties rfl rfl rfl rfl rfl rfl rfl rfl rfl rfl rfl (boxed _ _ _ _ _ rfl) ?_
    refine ⟨by show (digB m).size + out.size ≤ _; rw [digB_size]; omega, by decide, _, IntWalk.i64_in _ (by rw [htd]; omega), ?_⟩
    refine hK (m / 10, digB m ++ out) _ _ (vs2 (vint htd) rfl) ⟨hx.trans (Ext.new _ _), by simp only [ByteArray.size_append, digB_size]; omega, ?_⟩ (by show m / 10 < m; omega) ?_
    · show mkD (m / 10) (digB m ++ out) = _
      rw [← mkD_pos hm0]; exact hm
    · ((repeat (first | (with_reducible exact Only.refl) | (with_reducible refine Only.skip ?_) | ((with_reducible refine Only.upd ?_ ?_); rfl) | ((with_reducible refine Only.over ?_ ?_ _); rfl) | ((with_reducible refine Only.hav ?_ ?_ ?_); rfl; rfl))))
  · have : m = 0 := by omega
    subst this
    rw [mkD_zero] at hm
    refine ⟨by show (⟨#[109]⟩ : ByteArray).size + out.size ≤ _; have : (⟨#[109]⟩ : ByteArray).size = 1 := rfl; omega, vstr ?_, hx⟩
    simp only [mkT, if_neg h]
    rw [hm]; rfl

end Go.Proofs.Ytkoaicjcanplaaa
namespace Go.Proofs.Ytkoaicjcanplaaa
open Go Go.Vc Go.RowKit

/-! marks on terms -/
def mkL (k : Int) : Lab := ⟨k, k + 1, k + 2, mkT (k + 3)⟩
def mkF : TF → Int → TF
  | .nil, _ => .nil
  | .cons _ kk r, k => .cons (mkL k) (mkF kk (k + 4)) (mkF r (k + 4 + 4 * (kk.size : Int)))
theorem mkF_len : ∀ (f : TF) (k : Int), (mkF f k).len = f.len := by
  intro f
  induction f with
  | nil => intro k; rfl
  | cons x kk r _ ihr => intro k; simp only [mkF, Fo.len, ihr]
theorem mkF_size : ∀ (f : TF) (k : Int), (mkF f k).size = f.size := by
  intro f
  induction f with
  | nil => intro k; rfl
  | cons x kk r ihk ihr => intro k; simp only [mkF, Fo.size, ihk, ihr]
abbrev TSep (w : World) (s : Value) (f : TF) (lo hi : Nat) : Prop := Fo.Sep tlc 5 w s f lo hi
def MkS (f : TF) : Prop := ∀ (s : Value) (lo hi : Nat) (k : Int) (W : World), TSep W s f lo hi → hi ≤ W.heap.size → 0 ≤ k → k + 4 * (f.size : Int) ≤ 1099511627776 →
  Ret Try.prog 49 #[s, .int .i64 k] W (fun v w' => v = .int .i64 (k + 4 * (f.size : Int)) ∧ TSep w' s (mkF f k) lo hi ∧ Chg (fun b => lo ≤ b ∧ b < hi) W w')

theorem free_block {w w' : World} {B : Nat} (h : w'.heap[B]? = w.heap[B]?) {i : Nat} (hf : Free w ⟨B, i, none⟩) : Free w' ⟨B, i, none⟩ := by
  obtain ⟨⟨u, hu⟩, hz⟩ := hf
  exact ⟨⟨u, (World.cell?_of_block (w := w) (a := ⟨B, i, none⟩) h).trans hu⟩, (World.frozen?_of_block (w := w) (a := ⟨B, i, none⟩) h).trans hz⟩

theorem mark_mem {w w5 : World} {B o N : Nat} {k : Int} {s' : Value} (hrm : Rmy w B N) (ho : o + 5 ≤ N) (hs4 : w.cell? ⟨B, o + 4, none⟩ = some s') (x5 : Ext (Vc.setCells w B o [.int .i64 k, .int .i64 (k + 1), .int .i64 (k + 1 + 1)]) w5) (hBW : B < w.heap.size) :
    ∀ w6, w5.setCell ⟨B, o + 3, none⟩ (.string (mkT (k + 1 + 1 + 1))) = w6 → Free w5 ⟨B, o + 3, none⟩ ∧ Rmy w6 B N ∧ CellsAt w6 B o (tlc (mkL k) ++ [s']) ∧ Chg (fun b => b = B) w w6 ∧ ∀ q, (q < o ∨ o + 4 ≤ q) → w6.cell? ⟨B, q, none⟩ = w.cell? ⟨B, q, none⟩ := by
  intro w6 hw6
  have hc3 := setCells_at [.int .i64 k, .int .i64 (k + 1), .int .i64 (k + 1 + 1)] w o _ hrm (by show o + 3 ≤ N; omega)
  have hrm5 : Rmy w5 B N := (Rmy.setCells _ hrm).ext x5
  have c6 : ∀ q, q ≠ o + 3 → w6.cell? ⟨B, q, none⟩ = w5.cell? ⟨B, q, none⟩ := fun q hq => by
    rw [← hw6]; exact World.cell?_setCell_other _ _ _ _ (fun e => hq (congrArg Addr.off e).symm)
  have cold : ∀ q, (q < o ∨ o + 4 ≤ q) → w6.cell? ⟨B, q, none⟩ = w.cell? ⟨B, q, none⟩ := fun q hq => by
    rw [c6 q (by omega), Below.cell x5 (p := ⟨B, q, none⟩) (by rw [setCells_size]; exact hBW), setCells_other _ _ _ _ (fun _ => by show q < o ∨ o + 3 ≤ q; omega)]
  refine ⟨hrm5 (o + 3) (by omega), by rw [← hw6]; exact hrm5.setCell, ⟨(c6 o (by omega)).trans (x5.cell hc3.1), (c6 (o + 1) (by omega)).trans (x5.cell hc3.2.1), ?_, ?_, (cold (o + 4) (by omega)).trans hs4, trivial⟩, ?_, cold⟩
  · rw [c6 (o + 1 + 1) (by omega), x5.cell hc3.2.2.1, show k + 1 + 1 = k + 2 from by omega]; rfl
  · rw [← hw6, show o + 1 + 1 + 1 = o + 3 from rfl, show k + 1 + 1 + 1 = k + 3 from by omega]
    exact World.cell?_setCell_same _ _ _ (hrm5 (o + 3) (by omega)).1.choose_spec
  · rw [← hw6]
    exact ((Chg.setCells (S := fun b => b = B) rfl _ w o).trans (.of x5)).trans (Chg.setCell (S := fun b => b = B) _ rfl _)

set_option maxHeartbeats 4000000 in
theorem markTermS_all : ∀ (n : Nat) (f : TF), f.size < n → MkS f := by
  intro n
  induction n with
  | zero => intro f hf; omega
  | succ n ih =>
    intro f hf s lo hi k W hs hhi h0 h1
    obtain ⟨a, c, rfl, hl, hat⟩ := hs
    have hlm : (maxLen : Int) ≤ 9223372036854775807 := by decide
    have hfl := f.len_le
    refine ret_of_vc ties mixed Try.func49 rfl (by kernel_rfl) rfl rfl ?_
    by_cases hlen : f.len = 0
    · have := Fo.len_zero hlen
      subst this
      refine loop_rule (σ := Unit) [1, 5] 6 48 (fun _ => [.int .i64 k, .int .i64 0]) (fun _ w' => w' = W) (fun _ => 0) () rfl rfl ?_
      rintro _ w junk rfl K hK
      exact ⟨vint (by simp [Fo.size]), ⟨a, c, rfl, hl, .inl rfl⟩, Chg.refl _ _⟩
    obtain ⟨B, rfl, hB1, hB2, hrm, hsep⟩ := hat.resolve_left hlen
    clear hat
    refine loop_rule (σ := Nat × Int × TF × TF × Nat) [1, 5] 6 48 (fun q => [.int .i64 q.2.1, .int .i64 q.1])
      (fun q w' => Chg (fun b => lo ≤ b ∧ b < hi) W w' ∧ q.1 + q.2.2.2.1.len = f.len ∧ q.2.2.1.len = q.1 ∧ q.2.2.2.1.size ≤ f.size ∧ q.2.1 + 4 * (q.2.2.2.1.size : Int) = k + 4 * (f.size : Int) ∧ k ≤ q.2.1 ∧
        q.2.2.1.app (mkF q.2.2.2.1 q.2.1) = mkF f k ∧ lo ≤ q.2.2.2.2 ∧ q.2.2.2.2 ≤ hi ∧ Rmy w' B (5 * f.len) ∧ q.2.2.1.SepAt tlc 5 w' B 0 lo q.2.2.2.2 ∧ q.2.2.2.1.SepAt tlc 5 w' B (q.1 * 5) q.2.2.2.2 hi)
      (fun q => q.2.2.2.1.len) (0, k, .nil, f, lo) rfl ⟨Chg.refl _ _, by simp, rfl, Nat.le_refl _, rfl, Int.le_refl _, rfl, Nat.le_refl _, by simp only; omega, hrm, trivial, by simpa using hsep⟩ ?_
    rintro ⟨i, kk, d, g, mid⟩ w junk ⟨hch, hi1, hd, hg, hk, hk0, happ, hm1, hm2, hrm, hda, hga⟩ K hK
    simp only at hi1 hd hg hk hk0 happ hm1 hm2 hda hga
    show vc _ _ _ _ (over [1, 5] [.int .i64 kk, .int .i64 i] _) _
    refine br_dec (fun h3 => ?_) (fun h3 => ?_)
    · match g with
      | .nil => simp only [Fo.len] at hi1; omega
      | .cons x ks r =>
        obtain ⟨s', l, h, hc, g2, g3, g4, g4', g5, g6⟩ := hga
        change TSep w s' ks l h at g5
        simp only [Fo.size, Fo.len] at hi1 hg hk
        have hsz := hch.size
        have hBW : B < w.heap.size := Nat.lt_of_lt_of_le (Nat.lt_of_lt_of_le hB2 hhi) hch.size
        have hin : ∀ j, j < 5 → i * 5 + j < 5 * f.len := fun j hj => by omega
        have ho' : (0 + (i : Int).toNat * 5) = i * 5 := by omega
        rw [← ho'] at hc
        have hs4 : w.cell? ⟨B, (0 + (i : Int).toNat * 5) + 4, none⟩ = some s' := hc.2.2.2.2.1
        have hS : lo ≤ B ∧ B < hi := ⟨hB1, hB2⟩
        have hixs : ∀ (q : Int), (i : Int) < f.len → 0 ≤ (i : Int) ∧ (i : Int) < f.len := fun _ h => ⟨by omega, h⟩
        have f0 : Free w ⟨B, (0 + (i : Int).toNat * 5), none⟩ := hrm (0 + (i : Int).toNat * 5) (by omega)
        have f1 : ∀ p u, Free (w.setCell p u) ⟨B, (0 + (i : Int).toNat * 5) + 1, none⟩ := fun p u => hrm.setCell ((0 + (i : Int).toNat * 5) + 1) (by omega)
        have f2 : ∀ p u p' u', Free ((w.setCell p u).setCell p' u') ⟨B, (0 + (i : Int).toNat * 5) + 2, none⟩ := fun p u p' u' => (hrm.setCell (p := p) (u := u)).setCell ((0 + (i : Int).toNat * 5) + 2) (by omega)
        refine ⟨⟨by omega, h3⟩, ?_⟩
        refine ⟨f0, _, IntWalk.i64_in _ (by omega), ⟨by omega, h3⟩, f1 _ _, _, IntWalk.i64_in _ (by omega), ⟨by omega, h3⟩, f2 _ _ _ _, _, IntWalk.i64_in _ (by omega), ?_⟩
        refine Or.inl ((markText_ret _ _ (by omega)).mono ?_)
        rintro _ w5 ⟨rfl, x5⟩
        obtain ⟨f3, hrm6, hlab, hch6, hk6⟩ := mark_mem (k := kk) hrm (show (0 + (i : Int).toNat * 5) + 5 ≤ 5 * f.len by omega) hs4 x5 hBW _ rfl
        have hcs4 := hlab.2.2.2.2.1
        have hb6 := fun b (hb : b < hi) (hne : b ≠ B) => hch6.block b (by omega) hne
        have hsep6 := Fo.Sep.keep tlc_len (fun b hb1 hb2 => hb6 b (by omega) (by omega)) g5
        refine ⟨⟨by omega, h3⟩, f3, _, IntWalk.i64_in _ (by omega), ⟨by omega, h3⟩, s', hcs4, ?_⟩
        refine Or.inl ((ih ks (by omega) s' l h (kk + 1 + 1 + 1 + 1) _ hsep6 (Nat.le_trans (by omega) hch6.size) (by omega) (by omega)).mono ?_)
        rintro _ w7 ⟨rfl, hsep7, hch7⟩
        refine ⟨_, IntWalk.i64_in _ (by omega), ?_⟩
        have hB7 : ¬ (l ≤ B ∧ B < h) := by omega
        have hbB := hch7.block B (Nat.lt_of_lt_of_le hBW hch6.size) hB7
        have hb7 : ∀ b, b < hi → b ≠ B → (b < l ∨ h ≤ b) → w7.heap[b]? = w.heap[b]? := fun b hb hne hor => (hch7.block b (Nat.lt_of_lt_of_le (by omega) hch6.size) (by omega)).trans (hb6 b hb hne)
        have hkeepB : ∀ q, (q < (0 + (i : Int).toNat * 5) ∨ (0 + (i : Int).toNat * 5) + 4 ≤ q) → w7.cell? ⟨B, q, none⟩ = w.cell? ⟨B, q, none⟩ := fun q hq =>
          (World.cell?_of_block (a := ⟨B, q, none⟩) hbB).trans (hk6 q hq)
        have e4 : kk + 1 + 1 + 1 + 1 = kk + 4 := by omega
        rw [e4] at hsep7
        refine hK (i + 1, kk + 4 + 4 * (ks.size : Int), d.app (.cons (mkL kk) (mkF ks (kk + 4)) .nil), r, h) _ _ (vs2 (vint (by show kk + 1 + 1 + 1 + 1 + 4 * (ks.size : Int) = kk + 4 + 4 * (ks.size : Int); omega)) (vint (by show (i : Int) + 1 = ((i + 1 : Nat) : Int); omega)))
          ⟨(hch.trans (hch6.mono fun b _ hb => by subst hb; exact hS)).trans (hch7.mono fun b _ hb => by omega), by show i + 1 + r.len = f.len; omega, ?_, by show r.size ≤ f.size; omega, by show kk + 4 + 4 * (ks.size : Int) + 4 * (r.size : Int) = _; omega, by show k ≤ kk + 4 + 4 * (ks.size : Int); omega, ?_, by show lo ≤ h; omega, by show h ≤ hi; omega, rmy_block hbB hrm6, ?_, ?_⟩ (by show r.len < r.len + 1; omega) ?_
        · show (d.app _).len = i + 1
          rw [Fo.len_app, hd]; rfl
        · show (d.app (.cons (mkL kk) (mkF ks (kk + 4)) .nil)).app (mkF r (kk + 4 + 4 * (ks.size : Int))) = mkF f k
          rw [Fo.app_assoc]; exact happ
        · refine Fo.SepAt.app (mid := l) g3 (by omega) ((Fo.SepAt.keep tlc_len (fun q _ hq2 => hkeepB q (.inl (by omega))) (fun b hb1 hb2 hne => hb7 b (by omega) hne (.inl (by omega))) hda).wide (Nat.le_refl _) g2) ?_
          rw [hd, show 0 + 5 * i = (0 + (i : Int).toNat * 5) from by omega]
          refine Fo.SepAt.one g4' g3 ?_ hsep7
          exact CellsAt.keep (fun q _ _ => World.cell?_of_block (a := ⟨B, q, none⟩) hbB) hlab
        · show Fo.SepAt tlc 5 w7 r B ((i + 1) * 5) h hi
          rw [show (i + 1) * 5 = i * 5 + 5 from by omega]
          exact Fo.SepAt.keep tlc_len (fun q hq1 _ => hkeepB q (.inr (by omega))) (fun b hb1 hb2 hne => hb7 b hb2 hne (.inr hb1)) g6
        · ((repeat (first | (with_reducible exact Only.refl) | (with_reducible refine Only.skip ?_) | ((with_reducible refine Only.upd ?_ ?_); rfl) | ((with_reducible refine Only.over ?_ ?_ _); rfl) | ((with_reducible refine Only.hav ?_ ?_ ?_); rfl; rfl))))
    · have := Fo.len_zero (f := g) (by omega)
      subst this
      rw [show mkF .nil kk = .nil from rfl, Fo.app_nil] at happ
      subst happ
      have hk' : kk = k + 4 * (f.size : Int) := by simpa [Fo.size] using hk
      exact ⟨vint hk', ⟨_, c, by rw [mkF_len], by rw [mkF_len]; exact hl, .inr ⟨B, rfl, hB1, hB2, by rw [mkF_len]; exact hrm, hda.wide (Nat.le_refl _) hm2⟩⟩, hch⟩

def HeS (f : TF) : Prop := ∀ (s : Value) (k : Int) (W : World), TSl anyB W s (mkF f k) → 0 ≤ k → k + 4 * (f.size : Int) ≤ 1099511627776 →
  Ret Try.prog 91 #[s, .int .i64 k] W (fun v w' => v = .int .i64 (k + 4 * (f.size : Int)) ∧ Ext W w')

set_option maxHeartbeats 4000000 in
theorem heldTermS_all : ∀ (n : Nat) (f : TF), f.size < n → HeS f := by
  intro n
  induction n with
  | zero => intro f hf; omega
  | succ n ih =>
    intro f hf s k W hs h0 h1
    obtain ⟨a, c, rfl, hl, hat⟩ := hs
    rw [mkF_len] at hl
    have hlm : (maxLen : Int) ≤ 9223372036854775807 := by decide
    have hfl := f.len_le
    have hml := mkF_len f k
    have hst : (mkF f k).len = 0 ∨ ∃ b o, a = some ⟨b, o, none⟩ ∧ TAt anyB W (mkF f k) b (o + 0 * 5) := by
      rcases hat with h | ⟨b, o, h1, _, h2⟩
      · exact .inl h
      · exact .inr ⟨b, o, h1, by simpa using h2⟩
    clear hat
    refine ret_of_vc ties mixed Try.func91 rfl (by kernel_rfl) rfl rfl ?_
    refine loop_rule (σ := Nat × Int × TF) [1, 5] 6 58 (fun q => [.int .i64 q.2.1, .int .i64 q.1])
      (fun q w' => Ext W w' ∧ q.1 + q.2.2.len = f.len ∧ q.2.2.size ≤ f.size ∧ q.2.1 + 4 * (q.2.2.size : Int) = k + 4 * (f.size : Int) ∧ k ≤ q.2.1 ∧ ((mkF q.2.2 q.2.1).len = 0 ∨ ∃ b o, a = some ⟨b, o, none⟩ ∧ TAt anyB W (mkF q.2.2 q.2.1) b (o + q.1 * 5)))
      (fun q => q.2.2.len) (0, k, f) rfl ⟨Ext.refl _, by simp, Nat.le_refl _, rfl, Int.le_refl _, hst⟩ ?_
    clear hst
    rintro ⟨i, kk, g⟩ w junk ⟨hx, hi1, hg, hk, hk0, hga⟩ K hK
    simp only at hi1 hg hk hk0 hga
    show vc _ _ _ _ (over [1, 5] [.int .i64 kk, .int .i64 i] _) _
    refine br_dec (fun h3 => ?_) (fun h3 => ?_) <;> rw [mkF_len] at h3
    · match g with
      | .nil => simp only [Fo.len] at hi1; omega
      | .cons x ks r =>
        obtain ⟨b, o, rfl, hga'⟩ := hga.resolve_left (by simp [mkF, Fo.len])
        obtain ⟨⟨s', hc, hs'⟩, hr⟩ := hga'.sl
        clear hga hga'
        simp only [Fo.size, Fo.len] at hi1 hg hk
        have hc := hc.ext hx
        have hix : 0 ≤ (i : Int) ∧ (i : Int) < ((mkF f k).len : Int) := by rw [mkF_len]; exact ⟨by omega, h3⟩
        refine ⟨hix, _, hc.1, ?_⟩
        refine br_dec (fun h => absurd rfl h) (fun _ => ?_)
        refine ⟨_, IntWalk.i64_in _ (by omega), hix, _, hc.2.1, ?_⟩
        refine br_dec (fun h => absurd rfl h) (fun _ => ?_)
        refine ⟨_, IntWalk.i64_in _ (by omega), hix, _, hc.2.2.1, ?_⟩
        refine br_dec (fun h => absurd (show kk + 2 = kk + 1 + 1 by omega) h) (fun _ => ?_)
        refine ⟨_, IntWalk.i64_in _ (by omega), ?_⟩
        refine .inl ⟨by kernel_rfl, hix, _, hc.2.2.2.1, .string (mkT (kk + 3)), fun w' _ => (markText_ret _ w' (by omega)).mono ?_, ?_⟩
        · rintro _ w'' ⟨rfl, h⟩
          exact ⟨by rw [show kk + 1 + 1 + 1 = kk + 3 from by omega], h⟩
        intro w4 hx4
        refine br_dec (fun h => absurd rfl h) (fun _ => ?_)
        refine ⟨_, IntWalk.i64_in _ (by omega), hix, s', hx4.cell hc.2.2.2.2.1, ?_⟩
        have e4 : kk + 1 + 1 + 1 + 1 = kk + 4 := by omega
        refine Or.inl ((ih ks (by omega) s' (kk + 1 + 1 + 1 + 1) w4 (by rw [e4]; exact hs'.ext (hx.trans hx4)) (by omega) (by omega)).mono ?_)
        rintro _ w5 ⟨rfl, hx5⟩
        refine br_dec_false (by omega) ?_
        refine ⟨_, IntWalk.i64_in _ (by omega), ?_⟩
        refine hK (i + 1, kk + 4 + 4 * (ks.size : Int), r) _ _ (vs2 (vint (by show kk + 1 + 1 + 1 + 1 + 4 * (ks.size : Int) = kk + 4 + 4 * (ks.size : Int); omega)) (vint (by show (i : Int) + 1 = ((i + 1 : Nat) : Int); omega)))
          ⟨(hx.trans hx4).trans hx5, by show i + 1 + r.len = f.len; omega, by show r.size ≤ f.size; omega, by show kk + 4 + 4 * (ks.size : Int) + 4 * (r.size : Int) = _; omega, by show k ≤ kk + 4 + 4 * (ks.size : Int); omega, .inr ⟨b, o, rfl, ?_⟩⟩ (by show r.len < r.len + 1; omega) ?_
        · show TAt anyB W (mkF r (kk + 4 + 4 * (ks.size : Int))) b (o + (i + 1) * 5)
          rw [show o + (i + 1) * 5 = o + i * 5 + 5 from by omega]
          exact hr
        · ((repeat (first | (with_reducible exact Only.refl) | (with_reducible refine Only.skip ?_) | ((with_reducible refine Only.upd ?_ ?_); rfl) | ((with_reducible refine Only.over ?_ ?_ _); rfl) | ((with_reducible refine Only.hav ?_ ?_ ?_); rfl; rfl))))
    · have := Fo.len_zero (f := g) (by omega)
      subst this
      have hk' : kk = k + 4 * (f.size : Int) := by simpa [Fo.size] using hk
      exact ⟨vint hk', hx⟩

/-! a term alone -/
abbrev tv (v : Lab) (s : Value) : Value := .agg #[.int .i64 v.op, .int .i64 v.w, .int .i64 v.n, .string v.name, s]
theorem markTerm_ret (f : TF) (v : Lab) (s : Value) (lo hi : Nat) (k : Int) (W : World) (hs : TSep W s f lo hi) (hh : hi ≤ W.heap.size) (h0 : 0 ≤ k) (h1 : k + 4 * (f.size : Int) ≤ 1099511627776) :
    Ret Try.prog 37 #[tv v s, .int .i64 k] W (fun u w' => u = .int .i64 (k + 4 * (f.size : Int)) ∧ TSep w' s (mkF f k) lo hi ∧ Chg (fun b => lo ≤ b ∧ b < hi) W w') := by
  refine ret_of_vc ties mixed Try.func37 rfl (by kernel_rfl) rfl rfl ?_
  refine ⟨s, boxed _ _ _ _ _ rfl, ?_⟩
  refine Or.inl ((markTermS_all _ f (Nat.lt_succ_self _) s lo hi k _ (hs.keep tlc_len fun b _ hb => (Ext.new _ _).block b (by omega)) (Nat.le_trans hh (Ext.new _ _).size) h0 h1).mono ?_)
  rintro _ w' ⟨rfl, hs', hch⟩
  exact ⟨rfl, hs', (Chg.alloc _ _).trans hch⟩
theorem heldTerm_ret (f : TF) (v : Lab) (s : Value) (k : Int) (W : World) (hs : TSl anyB W s (mkF f k)) (h0 : 0 ≤ k) (h1 : k + 4 * (f.size : Int) ≤ 1099511627776) :
    Ret Try.prog 42 #[tv v s, .int .i64 k] W (fun u w' => u = .int .i64 (k + 4 * (f.size : Int)) ∧ Ext W w') := by
  refine ret_of_vc ties mixed Try.func42 rfl (by kernel_rfl) rfl rfl ?_
  refine ⟨s, boxed _ _ _ _ _ rfl, ?_⟩
  refine Or.inl ((heldTermS_all _ f (Nat.lt_succ_self _) s k _ (hs.ext (Ext.new _ _)) h0 h1).mono ?_)
  rintro _ w' ⟨rfl, hx⟩
  refine br_dec_false (by omega) ?_
  exact ⟨rfl, (Ext.new _ _).trans hx⟩

end Go.Proofs.Ytkoaicjcanplaaa
