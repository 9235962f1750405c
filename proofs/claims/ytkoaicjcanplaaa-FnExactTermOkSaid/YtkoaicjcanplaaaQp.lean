/- TermOk of the reference: the count of nodes, the check of nodes. -/
import Derived.Test.YtkoaicjcanplaaaQo
namespace Go.Proofs.Ytkoaicjcanplaaa
open Go Go.Vc Go.RowKit
set_option linter.unusedVariables false

/-! the count -/
def FewR (L : Nat) (size : Nat) (left : Int) (W : World) (v : Value) (w' : World) : Prop :=
  ∃ l' : Int, v = .bool (decide (0 ≤ l')) ∧ w'.cell? ⟨L, 0, none⟩ = some (.int .i64 l') ∧ Rmy w' L 1 ∧ Chg (fun i => i = L) W w' ∧ (((size : Int) ≤ left ∧ l' = left - size) ∨ (left < size ∧ l' = -1))
theorem few_step {fs ks rs : Nat} {lc left l' : Int} (hi : lc + fs + 1 = left + ((ks + rs + 1 : Nat) : Int) ∨ (lc = -1 ∧ left < fs + 1)) (h0 : 0 ≤ lc) (hg : ks + rs + 1 ≤ fs) (hr : (((ks + 1 : Nat) : Int) ≤ lc ∧ l' = lc - ((ks + 1 : Nat) : Int)) ∨ (lc < ((ks + 1 : Nat) : Int) ∧ l' = -1)) :
    l' + fs + 1 = left + rs ∨ (l' = -1 ∧ left < fs + 1) := by omega
theorem few_res {lc l' : Int} {ks : Nat} (hr : (((ks + 1 : Nat) : Int) ≤ lc ∧ l' = lc - ((ks + 1 : Nat) : Int)) ∨ (lc < ((ks + 1 : Nat) : Int) ∧ l' = -1)) (h1 : lc ≤ 240) : -1 ≤ l' ∧ l' ≤ 240 := by omega
theorem few_end {fs gs : Nat} {lc left : Int} (hi : lc + fs + 1 = left + gs ∨ (lc = -1 ∧ left < fs + 1)) (hlo : -1 ≤ lc) (hg : gs ≤ fs) (h : gs = 0 ∨ ¬ 0 ≤ lc) : (((fs + 1 : Nat) : Int) ≤ left ∧ lc = left - ((fs + 1 : Nat) : Int)) ∨ (left < ((fs + 1 : Nat) : Int) ∧ lc = -1) := by omega
def FewS (f : TF) : Prop := ∀ (x : Lab) (s : Value) (L : Nat) (left : Int) (W : World), TSl (fun b => b ≠ L) W s f → Rmy W L 1 → W.cell? ⟨L, 0, none⟩ = some (.int .i64 left) → 0 ≤ left → left ≤ 240 →
  Ret Try.prog 65 #[tv x s, .pointer (some ⟨L, 0, none⟩)] W (FewR L (f.size + 1) left W)
set_option maxHeartbeats 4000000 in
theorem few_all : ∀ (n : Nat) (f : TF), f.size < n → FewS f := by
  intro n
  induction n with
  | zero => intro f hf; omega
  | succ n ih =>
    intro f hf x s L left W hs hrm hcell h0 h240
    obtain ⟨a, c, rfl, hl, hat⟩ := id hs
    have hlm : (maxLen : Int) ≤ 9223372036854775807 := by decide
    have hLW : L < W.heap.size := World.block_lt_of_cell? _ _ hcell
    have x1 : Ext W (W.alloc (.cells (tc x (.slice a f.len c)).toArray 25)) := Ext.new _ _
    have hb := boxedAll W (tc x (.slice a f.len c)) 25
    have ch2 : Chg (fun i => i = L) (W.alloc (.cells (tc x (.slice a f.len c)).toArray 25)) ((W.alloc (.cells (tc x (.slice a f.len c)).toArray 25)).setCell ⟨L, 0, none⟩ (.int .i64 (left - 1))) := Chg.setCell (S := fun i => i = L) (p := ⟨L, 0, none⟩) _ rfl _
    have hcc := World.cell?_setCell_same (W.alloc (.cells (tc x (.slice a f.len c)).toArray 25)) ⟨L, 0, none⟩ (.int .i64 (left - 1)) (x1.cell hcell)
    have hb2 := ch2.cells (S := fun i => i = L) (b := W.heap.size) (by omega) hb
    have hr2 : Rmy ((W.alloc (.cells (tc x (.slice a f.len c)).toArray 25)).setCell ⟨L, 0, none⟩ (.int .i64 (left - 1))) L 1 := (hrm.ext x1).setCell
    have ch2 := (Chg.of (S := fun i => i = L) x1).trans ch2
    refine ret_of_vc ties mixed Try.func65 rfl (by kernel_rfl) rfl rfl ?_
    refine ⟨_, x1.cell hcell, _, IntWalk.i64_in _ (by omega), (hrm.ext x1) 0 (by decide), ?_⟩
    refine loop_rule (σ := Nat × TF × Int) [5] 12 32 (fun q => [.int .i64 q.1])
      (fun q w' => Chg (fun i => i = L) W w' ∧ w'.cell? ⟨L, 0, none⟩ = some (.int .i64 q.2.2) ∧ Rmy w' L 1 ∧ CellsAt w' W.heap.size 0 (tc x (.slice a f.len c)) ∧ q.1 + q.2.1.len = f.len ∧ q.2.1.size ≤ f.size ∧ -1 ≤ q.2.2 ∧ q.2.2 ≤ 240 ∧
        (q.2.2 + f.size + 1 = left + q.2.1.size ∨ (q.2.2 = -1 ∧ left < f.size + 1)) ∧ (q.2.1.len = 0 ∨ ∃ b o, a = some ⟨b, o, none⟩ ∧ TAt (fun b => b ≠ L) W q.2.1 b (o + q.1 * 5) ∧ b ≠ L))
      (fun q => q.2.1.len) (0, f, left - 1) rfl ⟨ch2, hcc, hr2, hb2, by simp, Nat.le_refl _, by simp only; omega, by simp only; omega, .inl (by simp only; omega), ?_⟩ ?_
    · rcases hat with hat | ⟨b, o, ha, hbn, hat⟩
      · exact .inl hat
      · exact .inr ⟨b, o, ha, by simpa using hat, hbn⟩
    rintro ⟨i, g, lc⟩ w junk ⟨hch, hcl, hrw, hbw, hi, hg, hlo, hhi, hinv, hga⟩ K hK
    simp only at hcl hi hg hlo hhi hinv hga
    show vc _ _ _ _ (over [5] [.int .i64 i] _) _
    refine ⟨_, hbw.2.2.2.2.1, ?_⟩
    refine br_dec (fun h => ?_) (fun h => ?_)
    · refine ⟨_, hcl, ?_⟩
      refine br_dec (fun hl0 => ?_) (fun hl0 => ?_)
      · match g with
        | .nil => simp only [Fo.len] at hi; omega
        | .cons x' kk r =>
          obtain ⟨b, o, rfl, hga', hbn⟩ := hga.resolve_left (by simp [Fo.len])
          have hgw := Fo.At.chg (S := fun i => i = L) (fun b hb e => hb e) hch hbn hga'
          obtain ⟨⟨s', hc, hs'⟩, hr⟩ := hgw.sl
          simp only [Fo.len, Fo.size] at hi hg hinv
          have ei : o + (i : Int).toNat * 5 = o + i * 5 := by omega
          refine ⟨_, hbw.2.2.2.2.1, ⟨by omega, by omega⟩, [.int .i64 x'.op, .int .i64 x'.w, .int .i64 x'.n, .string x'.name, s'], rfl, by rw [ei]; exact hc, ?_⟩
          refine Or.inl ((ih kk (by omega) x' s' L lc w hs' hrw hcl hl0 hhi).mono ?_)
          rintro _ w1 ⟨l', rfl, hc1, hr1, ch1, hres⟩
          have hLw : L < w.heap.size := World.block_lt_of_cell? _ _ hcl
          refine ⟨_, IntWalk.i64_in _ (by omega), ?_⟩
          refine hK (i + 1, r, l') _ _ (vs1 (vint (by show (i : Int) + 1 = ((i + 1 : Nat) : Int); omega))) ⟨hch.trans ch1, hc1, hr1, ch1.cells (S := fun i => i = L) (by omega) hbw, by show i + 1 + r.len = f.len; omega, by show r.size ≤ f.size; omega, (few_res hres hhi).1, (few_res hres hhi).2, few_step hinv hl0 hg hres, .inr ⟨b, o, rfl, ?_, hbn⟩⟩ (by show r.len < r.len + 1; omega) ?_
          · show TAt _ W r b (o + (i + 1) * 5)
            rw [show o + (i + 1) * 5 = o + i * 5 + 5 from by omega]
            exact hga'.sl.2
          · ((repeat (first | (with_reducible exact Only.refl) | (with_reducible refine Only.skip ?_) | ((with_reducible refine Only.upd ?_ ?_); rfl) | ((with_reducible refine Only.over ?_ ?_ _); rfl) | ((with_reducible refine Only.hav ?_ ?_ ?_); rfl; rfl))))
      · refine ⟨_, hcl, ?_⟩
        exact ⟨lc, rfl, hcl, hrw, hch, few_end hinv hlo hg (.inr hl0)⟩
    · have := Fo.len_zero (f := g) (by omega)
      subst this
      refine ⟨_, hcl, ?_⟩
      exact ⟨lc, rfl, hcl, hrw, hch, few_end hinv hlo hg (.inl rfl)⟩
end Go.Proofs.Ytkoaicjcanplaaa
