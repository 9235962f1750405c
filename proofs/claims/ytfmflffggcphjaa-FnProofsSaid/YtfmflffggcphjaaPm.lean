/- Marks on proofs: contracts of markProofS, heldProofS, markProof, heldProof. -/
import Derived.Test.YtfmflffggcphjaaPa
import Derived.Test.YtfmflffggcphjaaSp
namespace Go.Proofs.Ytfmflffggcphjaa
open Go Go.Vc Go.RowKit
set_option linter.unusedVariables false

def mkP : PF → Int → PF
  | .nil, _ => .nil
  | .cons _ kk r, k => .cons k (mkP kk (k + 1)) (mkP r (k + 1 + (kk.size : Int)))
theorem mkP_len : ∀ (f : PF) (k : Int), (mkP f k).len = f.len := by
  intro f
  induction f with
  | nil => intro k; rfl
  | cons x kk r _ ihr => intro k; simp only [mkP, Fo.len, ihr]
theorem mkP_size : ∀ (f : PF) (k : Int), (mkP f k).size = f.size := by
  intro f
  induction f with
  | nil => intro k; rfl
  | cons x kk r ihk ihr => intro k; simp only [mkP, Fo.size, ihk, ihr]
abbrev PSep (w : World) (s : Value) (f : PF) (lo hi : Nat) : Prop := Fo.Sep plc 2 w s f lo hi
def MkS (f : PF) : Prop := ∀ (s : Value) (lo hi : Nat) (k : Int) (W : World), PSep W s f lo hi → hi ≤ W.heap.size → 0 ≤ k → k + (f.size : Int) ≤ 1099511627776 →
  Ret Try.prog 100 #[s, .int .i64 k] W (fun v w' => v = .int .i64 (k + (f.size : Int)) ∧ PSep w' s (mkP f k) lo hi ∧ Chg (fun b => lo ≤ b ∧ b < hi) W w')

set_option maxHeartbeats 4000000 in
theorem markProofS_all : ∀ (n : Nat) (f : PF), f.size < n → MkS f := by
  intro n
  induction n with
  | zero => intro f hf; omega
  | succ n ih =>
    intro f hf s lo hi k W hs hhi h0 h1
    obtain ⟨a, c, rfl, hl, hat⟩ := hs
    have hlm : (maxLen : Int) ≤ 9223372036854775807 := by decide
    have hfl := f.len_le
    refine ret_of_vc ties mixed Try.func100 rfl (by kernel_rfl) rfl rfl ?_
    by_cases hlen : f.len = 0
    · have := Fo.len_zero hlen
      subst this
      refine loop_rule (σ := Unit) [1, 5] 6 26 (fun _ => [.int .i64 k, .int .i64 0]) (fun _ w' => w' = W) (fun _ => 0) () rfl rfl ?_
      rintro _ w junk rfl K hK
      exact ⟨vint (by simp [Fo.size]), ⟨a, c, rfl, hl, .inl rfl⟩, Chg.refl _ _⟩
    obtain ⟨B, rfl, hB1, hB2, hrm, hsep⟩ := hat.resolve_left hlen
    clear hat
    refine loop_rule (σ := Nat × Int × PF × PF × Nat) [1, 5] 6 26 (fun q => [.int .i64 q.2.1, .int .i64 q.1])
      (fun q w' => Chg (fun b => lo ≤ b ∧ b < hi) W w' ∧ q.1 + q.2.2.2.1.len = f.len ∧ q.2.2.1.len = q.1 ∧ q.2.2.2.1.size ≤ f.size ∧ q.2.1 + (q.2.2.2.1.size : Int) = k + (f.size : Int) ∧ k ≤ q.2.1 ∧
        q.2.2.1.app (mkP q.2.2.2.1 q.2.1) = mkP f k ∧ lo ≤ q.2.2.2.2 ∧ q.2.2.2.2 ≤ hi ∧ Rmy w' B (2 * f.len) ∧ q.2.2.1.SepAt plc 2 w' B 0 lo q.2.2.2.2 ∧ q.2.2.2.1.SepAt plc 2 w' B (q.1 * 2) q.2.2.2.2 hi)
      (fun q => q.2.2.2.1.len) (0, k, .nil, f, lo) rfl ⟨Chg.refl _ _, by simp, rfl, Nat.le_refl _, rfl, Int.le_refl _, rfl, Nat.le_refl _, by simp only; omega, hrm, trivial, by simpa using hsep⟩ ?_
    rintro ⟨i, kk, d, g, mid⟩ w junk ⟨hch, hi1, hd, hg, hk, hk0, happ, hm1, hm2, hrm, hda, hga⟩ K hK
    simp only at hi1 hd hg hk hk0 happ hm1 hm2 hda hga
    show vc _ _ _ _ (over [1, 5] [.int .i64 kk, .int .i64 i] _) _
    refine br_dec (fun h3 => ?_) (fun h3 => ?_)
    · match g with
      | .nil => simp only [Fo.len] at hi1; omega
      | .cons x ks r =>
        obtain ⟨s', l, h, hc, g2, g3, g4, g4', g5, g6⟩ := hga
        change PSep w s' ks l h at g5
        simp only [Fo.size, Fo.len] at hi1 hg hk
        have hsz := hch.size
        have hBW : B < w.heap.size := Nat.lt_of_lt_of_le (Nat.lt_of_lt_of_le hB2 hhi) hch.size
        have ho' : (0 + (i : Int).toNat * 2) = i * 2 := by omega
        rw [← ho'] at hc
        have hs1 : w.cell? ⟨B, (0 + (i : Int).toNat * 2) + 1, none⟩ = some s' := hc.2.1
        have hS : lo ≤ B ∧ B < hi := ⟨hB1, hB2⟩
        have f0 : Free w ⟨B, (0 + (i : Int).toNat * 2), none⟩ := hrm (0 + (i : Int).toNat * 2) (by omega)
        have hch6 : Chg (fun b => b = B) w (w.setCell ⟨B, (0 + (i : Int).toNat * 2), none⟩ (.int .i64 kk)) := Chg.setCell (S := fun b => b = B) _ rfl _
        have hk6 : ∀ q, q ≠ (0 + (i : Int).toNat * 2) → (w.setCell ⟨B, (0 + (i : Int).toNat * 2), none⟩ (.int .i64 kk)).cell? ⟨B, q, none⟩ = w.cell? ⟨B, q, none⟩ := fun q hq =>
          World.cell?_setCell_other _ _ _ _ (fun e => hq (congrArg Addr.off e).symm)
        have hlab : CellsAt (w.setCell ⟨B, (0 + (i : Int).toNat * 2), none⟩ (.int .i64 kk)) B (0 + (i : Int).toNat * 2) (plc kk ++ [s']) :=
          ⟨World.cell?_setCell_same _ _ _ hc.1, (hk6 _ (by omega)).trans hs1, trivial⟩
        have hb6 := fun b (hb : b < hi) (hne : b ≠ B) => hch6.block b (by omega) hne
        have hsep6 := Fo.Sep.keep plc_len (fun b hb1 hb2 => hb6 b (by omega) (by omega)) g5
        have hsz6 := hch6.size
        refine ⟨⟨by omega, h3⟩, f0, _, IntWalk.i64_in _ (by omega), ⟨by omega, h3⟩, s', hlab.2.1, ?_⟩
        refine Or.inl ((ih ks (by omega) s' l h (kk + 1) _ hsep6 (Nat.le_trans (by omega) hch6.size) (by omega) (by omega)).mono ?_)
        rintro _ w7 ⟨rfl, hsep7, hch7⟩
        refine ⟨_, IntWalk.i64_in _ (by omega), ?_⟩
        have hB7 : ¬ (l ≤ B ∧ B < h) := by omega
        have hbB := hch7.block B (Nat.lt_of_lt_of_le hBW hch6.size) hB7
        have hb7 : ∀ b, b < hi → b ≠ B → (b < l ∨ h ≤ b) → w7.heap[b]? = w.heap[b]? := fun b hb hne hor => (hch7.block b (Nat.lt_of_lt_of_le (by omega) hch6.size) (by omega)).trans (hb6 b hb hne)
        have hkeepB : ∀ q, q ≠ (0 + (i : Int).toNat * 2) → w7.cell? ⟨B, q, none⟩ = w.cell? ⟨B, q, none⟩ := fun q hq =>
          (World.cell?_of_block (a := ⟨B, q, none⟩) hbB).trans (hk6 q hq)
        refine hK (i + 1, kk + 1 + (ks.size : Int), d.app (.cons kk (mkP ks (kk + 1)) .nil), r, h) _ _ (vs2 rfl (vint (by show (i : Int) + 1 = ((i + 1 : Nat) : Int); omega)))
          ⟨(hch.trans (hch6.mono fun b _ hb => by subst hb; exact hS)).trans (hch7.mono fun b _ hb => by omega), by show i + 1 + r.len = f.len; omega, ?_, by show r.size ≤ f.size; omega, by show kk + 1 + (ks.size : Int) + (r.size : Int) = _; omega, by show k ≤ kk + 1 + (ks.size : Int); omega, ?_, by show lo ≤ h; omega, by show h ≤ hi; omega, rmy_block hbB hrm.setCell, ?_, ?_⟩ (by show r.len < r.len + 1; omega) ?_
        · show (d.app _).len = i + 1
          rw [Fo.len_app, hd]; rfl
        · show (d.app (.cons kk (mkP ks (kk + 1)) .nil)).app (mkP r (kk + 1 + (ks.size : Int))) = mkP f k
          rw [Fo.app_assoc]; exact happ
        · refine Fo.SepAt.app (mid := l) g3 (by omega) ((Fo.SepAt.keep plc_len (fun q _ hq2 => hkeepB q (by omega)) (fun b hb1 hb2 hne => hb7 b (by omega) hne (.inl (by omega))) hda).wide (Nat.le_refl _) g2) ?_
          rw [hd, show 0 + 2 * i = (0 + (i : Int).toNat * 2) from by omega]
          refine Fo.SepAt.one g4' g3 ?_ hsep7
          exact CellsAt.keep (fun q _ _ => World.cell?_of_block (a := ⟨B, q, none⟩) hbB) hlab
        · show Fo.SepAt plc 2 w7 r B ((i + 1) * 2) h hi
          rw [show (i + 1) * 2 = i * 2 + 2 from by omega]
          exact Fo.SepAt.keep plc_len (fun q hq1 _ => hkeepB q (by omega)) (fun b hb1 hb2 hne => hb7 b hb2 hne (.inr hb1)) g6
        · ((repeat (first | (with_reducible exact Only.refl) | (with_reducible refine Only.skip ?_) | ((with_reducible refine Only.upd ?_ ?_); rfl) | ((with_reducible refine Only.over ?_ ?_ _); rfl) | ((with_reducible refine Only.hav ?_ ?_ ?_); rfl; rfl))))
    · have := Fo.len_zero (f := g) (by omega)
      subst this
      rw [show mkP .nil kk = .nil from rfl, Fo.app_nil] at happ
      subst happ
      have hk' : kk = k + (f.size : Int) := by simpa [Fo.size] using hk
      exact ⟨vint hk', ⟨_, c, by rw [mkP_len], by rw [mkP_len]; exact hl, .inr ⟨B, rfl, hB1, hB2, by rw [mkP_len]; exact hrm, hda.wide (Nat.le_refl _) hm2⟩⟩, hch⟩

def HeS (f : PF) : Prop := ∀ (s : Value) (k : Int) (W : World), PSl anyB W s (mkP f k) → 0 ≤ k → k + (f.size : Int) ≤ 1099511627776 →
  Ret Try.prog 101 #[s, .int .i64 k] W (fun v w' => v = .int .i64 (k + (f.size : Int)) ∧ Ext W w')

set_option maxHeartbeats 4000000 in
theorem heldProofS_all : ∀ (n : Nat) (f : PF), f.size < n → HeS f := by
  intro n
  induction n with
  | zero => intro f hf; omega
  | succ n ih =>
    intro f hf s k W hs h0 h1
    obtain ⟨a, c, rfl, hl, hat⟩ := hs
    rw [mkP_len] at hl
    have hlm : (maxLen : Int) ≤ 9223372036854775807 := by decide
    have hfl := f.len_le
    have hml := mkP_len f k
    have hst : (mkP f k).len = 0 ∨ ∃ b o, a = some ⟨b, o, none⟩ ∧ PAt anyB W (mkP f k) b (o + 0 * 2) := by
      rcases hat with h | ⟨b, o, h1, _, h2⟩
      · exact .inl h
      · exact .inr ⟨b, o, h1, by simpa using h2⟩
    clear hat
    refine ret_of_vc ties mixed Try.func101 rfl (by kernel_rfl) rfl rfl ?_
    refine loop_rule (σ := Nat × Int × PF) [1, 5] 6 30 (fun q => [.int .i64 q.2.1, .int .i64 q.1])
      (fun q w' => Ext W w' ∧ q.1 + q.2.2.len = f.len ∧ q.2.2.size ≤ f.size ∧ q.2.1 + (q.2.2.size : Int) = k + (f.size : Int) ∧ k ≤ q.2.1 ∧ ((mkP q.2.2 q.2.1).len = 0 ∨ ∃ b o, a = some ⟨b, o, none⟩ ∧ PAt anyB W (mkP q.2.2 q.2.1) b (o + q.1 * 2)))
      (fun q => q.2.2.len) (0, k, f) rfl ⟨Ext.refl _, by simp, Nat.le_refl _, rfl, Int.le_refl _, hst⟩ ?_
    clear hst
    rintro ⟨i, kk, g⟩ w junk ⟨hx, hi1, hg, hk, hk0, hga⟩ K hK
    simp only at hi1 hg hk hk0 hga
    show vc _ _ _ _ (over [1, 5] [.int .i64 kk, .int .i64 i] _) _
    refine br_dec (fun h3 => ?_) (fun h3 => ?_) <;> rw [mkP_len] at h3
    · match g with
      | .nil => simp only [Fo.len] at hi1; omega
      | .cons x ks r =>
        obtain ⟨b, o, rfl, hga'⟩ := hga.resolve_left (by simp [mkP, Fo.len])
        obtain ⟨⟨s', hc, hs'⟩, hr⟩ := hga'.sl
        clear hga hga'
        simp only [Fo.size, Fo.len] at hi1 hg hk
        have hc := hc.ext hx
        have hix : 0 ≤ (i : Int) ∧ (i : Int) < ((mkP f k).len : Int) := by rw [mkP_len]; exact ⟨by omega, h3⟩
        refine ⟨hix, _, hc.1, ?_⟩
        refine br_dec (fun h => absurd rfl h) (fun _ => ?_)
        refine ⟨_, IntWalk.i64_in _ (by omega), hix, s', hc.2.1, ?_⟩
        refine Or.inl ((ih ks (by omega) s' (kk + 1) w (hs'.ext hx) (by omega) (by omega)).mono ?_)
        rintro _ w5 ⟨rfl, hx5⟩
        refine br_dec_false (by omega) ?_
        refine ⟨_, IntWalk.i64_in _ (by omega), ?_⟩
        refine hK (i + 1, kk + 1 + (ks.size : Int), r) _ _ (vs2 rfl (vint (by show (i : Int) + 1 = ((i + 1 : Nat) : Int); omega)))
          ⟨hx.trans hx5, by show i + 1 + r.len = f.len; omega, by show r.size ≤ f.size; omega, by show kk + 1 + (ks.size : Int) + (r.size : Int) = _; omega, by show k ≤ kk + 1 + (ks.size : Int); omega, .inr ⟨b, o, rfl, ?_⟩⟩ (by show r.len < r.len + 1; omega) ?_
        · show PAt anyB W (mkP r (kk + 1 + (ks.size : Int))) b (o + (i + 1) * 2)
          rw [show o + (i + 1) * 2 = o + i * 2 + 2 from by omega]
          exact hr
        · ((repeat (first | (with_reducible exact Only.refl) | (with_reducible refine Only.skip ?_) | ((with_reducible refine Only.upd ?_ ?_); rfl) | ((with_reducible refine Only.over ?_ ?_ _); rfl) | ((with_reducible refine Only.hav ?_ ?_ ?_); rfl; rfl))))
    · have := Fo.len_zero (f := g) (by omega)
      subst this
      have hk' : kk = k + (f.size : Int) := by simpa [Fo.size] using hk
      exact ⟨vint hk', hx⟩

theorem markProof_ret (f : PF) (v : Int) (s : Value) (lo hi : Nat) (k : Int) (W : World) (hs : PSep W s f lo hi) (hh : hi ≤ W.heap.size) (h0 : 0 ≤ k) (h1 : k + (f.size : Int) ≤ 1099511627776) :
    Ret Try.prog 61 #[.agg #[.int .i64 v, s], .int .i64 k] W (fun u w' => u = .int .i64 (k + (f.size : Int)) ∧ PSep w' s (mkP f k) lo hi ∧ Chg (fun b => lo ≤ b ∧ b < hi) W w') := by
  refine ret_of_vc ties mixed Try.func61 rfl (by kernel_rfl) rfl rfl ?_
  refine ⟨s, boxed _ _ _ _ _ rfl, ?_⟩
  refine Or.inl ((markProofS_all _ f (Nat.lt_succ_self _) s lo hi k _ (hs.keep plc_len fun b _ hb => (Ext.new _ _).block b (by omega)) (Nat.le_trans hh (Ext.new _ _).size) h0 h1).mono ?_)
  rintro _ w' ⟨rfl, hs', hch⟩
  exact ⟨rfl, hs', (Chg.alloc _ _).trans hch⟩
theorem heldProof_ret (f : PF) (v : Int) (s : Value) (k : Int) (W : World) (hs : PSl anyB W s (mkP f k)) (h0 : 0 ≤ k) (h1 : k + (f.size : Int) ≤ 1099511627776) :
    Ret Try.prog 62 #[.agg #[.int .i64 v, s], .int .i64 k] W (fun u w' => u = .int .i64 (k + (f.size : Int)) ∧ Ext W w') := by
  refine ret_of_vc ties mixed Try.func62 rfl (by kernel_rfl) rfl rfl ?_
  refine ⟨s, boxed _ _ _ _ _ rfl, ?_⟩
  refine Or.inl ((heldProofS_all _ f (Nat.lt_succ_self _) s k _ (hs.ext (Ext.new _ _)) h0 h1).mono ?_)
  rintro _ w' ⟨rfl, hx⟩
  refine br_dec_false (by omega) ?_
  exact ⟨rfl, (Ext.new _ _).trans hx⟩

end Go.Proofs.Ytfmflffggcphjaa
