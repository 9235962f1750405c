/- Draws: contract of l03Draw (a formula with few variables). Draws: contract of l03Hard. -/
import Derived.Test.YtfmflffggcphjaaDr
import Derived.Test.YtfmflffggcphjaaCi
import Derived.Test.YtfmflffggcphjaaMs
namespace Go.Proofs.Ytfmflffggcphjaa.Dr
open Go Go.Vc Go.RowKit Go.Sat
set_option linter.unusedVariables false

/-- A formula that is being made in memory. -/
structure Frm (G lo : Nat) (w : World) (n : Nat) (gv : Value) (F : Cnf) : Prop where
  rG : Rmy w G 2
  cG : CellsAt w G 0 [.int .i64 n, gv]
  own : OwnR eL (fun b => lo ≤ b ∧ b < w.heap.size ∧ ¬ blk gv b ∧ b ≠ G) w gv F
  gb : ∀ b, blk gv b → lo ≤ b ∧ b < w.heap.size ∧ b ≠ G
  lt : lo ≤ w.heap.size
section
variable {G lo n : Nat} {w w' : World} {gv : Value} {F : Cnf}
theorem Frm.chg {S : Nat → Prop} (hS : ∀ b, (b = G ∨ lo ≤ b ∧ b < w.heap.size) → ¬ S b) (hc : Chg S w w') (h : Frm G lo w n gv F) : Frm G lo w' n gv F where
  rG := hc.rmy (hS G (.inl rfl)) h.rG
  cG := hc.cells (hS G (.inl rfl)) h.cG
  own := (h.own.chg (fun b hb => hS b (.inr ⟨hb.1, hb.2.1⟩)) (fun b hb => hS b (.inr ⟨(h.gb b hb).1, (h.gb b hb).2.1⟩)) hc).mono fun b hb => ⟨hb.1, Nat.lt_of_lt_of_le hb.2.1 hc.size, hb.2.2⟩
  gb := fun b hb => ⟨(h.gb b hb).1, Nat.lt_of_lt_of_le (h.gb b hb).2.1 hc.size, (h.gb b hb).2.2⟩
  lt := Nat.le_trans h.lt hc.size
theorem Frm.ext (hx : Ext w w') (h : Frm G lo w n gv F) : Frm G lo w' n gv F := h.chg (S := fun _ => False) (fun _ _ h => h) (.of hx)
theorem Frm.push {v : Value} {c : Cl} (h : Frm G lo w n gv F) (ho : OwnR eL (fun b => lo ≤ b ∧ b < w.heap.size ∧ ¬ blk gv b ∧ b ≠ G) w' v (F ++ [c])) (hc : Chg (blk gv) w w') (hv : ∀ b, blk v b → blk gv b ∨ w.heap.size < b ∧ b < w'.heap.size) :
    Free w' ⟨G, 0 + 1, none⟩ ∧ Frm G lo (w'.setCell ⟨G, 0 + 1, none⟩ v) n v (F ++ [c]) := by
  have hGw : G < w.heap.size := World.block_lt_of_cell? _ _ h.cG.1
  have hng : ¬ blk gv G := fun e => (h.gb G e).2.2 rfl
  have hr := hc.rmy hng h.rG
  have hcl := hc.cells hng h.cG
  have hone : Chg (fun b => b = G) w' (w'.setCell ⟨G, 0 + 1, none⟩ v) := Chg.setCell (S := fun b => b = G) _ rfl _
  have hz := hc.size
  have hz2 := hone.size
  have hlt := h.lt
  have hvb : ∀ b, blk v b → lo ≤ b ∧ b < w'.heap.size ∧ b ≠ G := fun b hb => by
    rcases hv b hb with g | g
    · have := h.gb b g; omega
    · omega
  refine ⟨hr 1 (by decide), hr.setCell, ⟨(World.cell?_setCell_other _ _ _ _ (by simp)).trans hcl.1, World.cell?_setCell_same _ _ _ hcl.2.1, trivial⟩, ?_, fun b hb => by have := hvb b hb; omega, by omega⟩
  refine OwnR.chg (S := fun b => b = G) (fun b hb e => hb.2.2.2 e) (fun b hb e => by have := hvb b hb; omega) hone (ho.mono fun b hb => ⟨hb.1, by omega, fun e => ?_, hb.2.2.2⟩)
  rcases hv b e with g | g
  · exact hb.2.2.1 g
  · omega
end

def DrfR (C : Nat) (l : List Int) (most : Int) (W : World) (r : Value) (w' : World) : Prop := Chg (fun b => b = C) W w' ∧ Cur C w' l ∧ ∃ (n : Nat) (gv : Value) (F : Cnf), r = .agg #[.int .i64 n, gv] ∧ oneB gv = true ∧ 1 ≤ n ∧ (n : Int) ≤ most ∧ (∀ c ∈ F, clOk n c = true) ∧ F.length ≤ 3 * n + 1 ∧ OwnR eL (fun b => W.heap.size < b ∧ b < w'.heap.size ∧ ¬ blk gv b) w' gv F ∧ ∀ b, blk gv b → W.heap.size < b ∧ b < w'.heap.size

set_option maxRecDepth 200000 in
set_option maxHeartbeats 2000000 in
theorem draw_ret (C : Nat) (l : List Int) (most : Int) (hmost : 1 ≤ most ∧ most ≤ 20) (W : World) (hC : Cur C W l) (hCW : C < W.heap.size) : Ret Try.prog 72 #[.pointer (some ⟨C, 0, none⟩), .int .i64 most] W (DrfR C l most W) := by
  have hlm : (maxLen : Int) ≤ 9223372036854775807 := by decide
  have x1 : Ext W (W.alloc (.cells #[.int .i64 0, .slice none 0 0] 25)) := Ext.new _ _
  have r1 := Rmy.new W [.int .i64 0, .slice none 0 0] 25
  have e1 : (W.alloc (.cells #[.int .i64 0, .slice none 0 0] 25)).heap.size = W.heap.size + 1 := by simp
  refine ret_of_vc ties mixed Try.func72 rfl (by kernel_rfl) rfl rfl ?_
  refine Or.inl ((below_ret C l most _ (hC.ext x1)).mono ?_)
  rintro _ w2 ⟨⟨x, rfl, hx0, -, hxm⟩, hch2, hcu2⟩
  have hxm := hxm hmost.1
  obtain ⟨N, hN⟩ : ∃ N : Nat, 1 + x = N := ⟨(1 + x).toNat, by omega⟩
  have hch12 : Chg (fun b => b = C) W w2 := (Chg.of x1).trans hch2
  have r12 := hch2.rmy (show ¬ W.heap.size = C by omega) r1
  have z2 := hch2.size
  rw [e1] at z2
  refine ⟨N, (congrArg _ hN).trans (IntWalk.i64_in _ (by omega)), ?_⟩
  have rG := Rmy.new w2 [.int .i64 0, .slice none 0 0] 25
  have x3 : Ext w2 (Vc.setCells (w2.alloc (.cells #[.int .i64 0, .slice none 0 0] 25)) w2.heap.size 0 [.int .i64 N, .slice none 0 0]) := Ext.setCells _ (Ext.new _ _) (Nat.le_refl _)
  have hc3 := setCells_at [.int .i64 N, .slice none 0 0] _ 0 2 rG (Nat.le_refl 2)
  have hr3 := Rmy.setCells (b := w2.heap.size) (o := 0) [.int .i64 N, .slice none 0 0] rG
  refine ⟨rG.all [.int .i64 N, .slice none 0 0] 0 (Nat.le_refl 2) rfl, ?_⟩
  refine ⟨_, hc3.1, _, IntWalk.i64_in _ (by omega), _, IntWalk.i64_in _ (by omega), ?_⟩
  refine Or.inl ((below_ret C l _ _ (hcu2.ext x3)).mono ?_)
  rintro _ w4 ⟨⟨k0, rfl, hk0, -, hk3⟩, hch4, hcu4⟩
  have hk3 := hk3 (by omega)
  obtain ⟨K0, rfl⟩ : ∃ K0 : Nat, k0 = K0 := ⟨k0.toNat, by omega⟩
  have hlt3 : w2.heap.size < (Vc.setCells (w2.alloc (.cells #[.int .i64 0, .slice none 0 0] 25)) w2.heap.size 0 [.int .i64 N, .slice none 0 0]).heap.size := World.block_lt_of_cell? _ _ hc3.1
  have hF3 : Frm w2.heap.size (w2.heap.size + 1) (Vc.setCells (w2.alloc (.cells #[.int .i64 0, .slice none 0 0] 25)) w2.heap.size 0 [.int .i64 N, .slice none 0 0]) N (.slice none 0 0) [] := ⟨hr3, hc3, OwnR.nil _ _ _ _, fun b hb => hb.elim, hlt3⟩
  have hF4 := hF3.chg (S := fun b => b = C) (fun b hb e => by omega) hch4
  refine loop_rule (σ := Nat × Cnf × Value × Value) [6, 7] 19 40 (fun q => [.int .i64 q.1, q.2.2.2])
    (fun q w' => Chg (fun b => b = C) W w' ∧ Cur C w' l ∧ Frm w2.heap.size (w2.heap.size + 1) w' N q.2.2.1 q.2.1 ∧ q.1 + q.2.1.length ≤ 3 * N + 1 ∧ (∀ c ∈ q.2.1, clOk N c = true) ∧ Rmy w' W.heap.size 2)
    (fun q => q.1) (K0, [], .slice none 0 0, undef) rfl ⟨(hch12.trans (.of x3)).trans hch4, hcu4, hF4, by simp only [List.length_nil]; omega, fun c hc => (by cases hc), hch4.rmy (by omega) (r12.ext x3)⟩ ?_
  clear hF3 hF4 hch4 hcu4 hc3 hr3 rG hch12 hcu2 r12
  rintro ⟨k, F, gv, j7⟩ w junk ⟨hch, hcu, hfr, hkF, hcl, hrr⟩ K hK
  simp only at hcu hfr hkF hcl hrr
  show vc _ _ _ _ (over [6, 7] [.int .i64 k, j7] _) _
  refine br_dec (fun h3 => ?_) (fun h3 => ?_)
  · refine ⟨_, hfr.cG.1, ?_⟩
    refine Or.inl ((row_ret C l N (by omega) w hcu (by have := hch.size; omega)).mono ?_)
    rintro s w5 ⟨⟨c, hown, hcok, hsb⟩, hch5, hcu5⟩
    refine Exists.elim hown fun sa h => Exists.elim h fun scp hss => ?_
    have hse := hss.1
    subst hse
    have hfr5 := hfr.chg (S := fun b => b = C) (fun b hb e => by omega) hch5
    have hgb := hfr.gb
    have hlo := hfr.lt
    have z5 := hch5.size
    have hchW := hch.trans hch5
    have hrr5 := hch5.rmy (show ¬ W.heap.size = C by omega) hrr
    have hclen := cl_len hcok
    have hrow : eL.R (fun b => w2.heap.size + 1 ≤ b ∧ b < w5.heap.size ∧ ¬ blk gv b ∧ b ≠ w2.heap.size) w5 c [.slice sa c.length scp] := by
      refine ⟨_, rfl, ?_⟩
      by_cases h0 : c.length = 0
      · exact ⟨sa, scp, rfl, hss.2.1, hss.2.2.1, .inl h0⟩
      · have hlt := hown.blk_lt h0
        exact hown.sl (fun _ h => h.elim) (fun b hb => ⟨by have := hsb b hb; omega, hlt b hb, fun e => by have := hsb b hb; have := hgb b e; omega, by have := hsb b hb; omega⟩)
    refine br_dec (fun h4 => ?_) (fun h4 => ?_)
    · skip
      refine ⟨_, hfr5.cG.2.1, ?_⟩
      refine raw_push (E := eL) (x := c) (cs := [.slice sa c.length scp]) ties rfl rfl rfl rfl rfl rfl rfl rfl rfl rfl rfl hfr5.own hrow (fun b hb => hb.2.2.1) (by show (F.length + 1) * 24 ≤ _; omega) (by omega) ?_
      intro v8 w8 hv8 hch8 hsz8 hvb8
      refine Exists.elim (own_ptr hv8 (by rw [List.length_append]; exact Nat.succ_ne_zero _)) fun B8 h => Exists.elim h fun cp8 he8 => ?_
      subst he8
      have hpu := Frm.push hfr5 hv8 hch8 hvb8
      have hgbx := hfr5.gb
      have hone : Chg (fun b => b = w2.heap.size) w8 (w8.setCell ⟨w2.heap.size, 0 + 1, none⟩ (.slice (some ⟨B8, 0, none⟩) (F ++ [c]).length cp8)) := Chg.setCell (S := fun b => b = w2.heap.size) _ rfl _
      refine ⟨hpu.1, _, IntWalk.i64_in _ (by omega), ?_⟩
      refine hK (k - 1, F ++ [c], _, _) _ _ (vs2 (vint (by show (k : Int) - 1 = ((k - 1 : Nat) : Int); omega)) rfl) ⟨((hchW).fresh hch8 fun b hb => by have := hgbx b hb; omega).fresh hone fun b hb => by omega, (hcu5.chg (S := blk gv) (fun b hb e => by have := hgbx b e; omega) hch8).chg (S := fun b => b = w2.heap.size) (fun b hb e => by omega) hone, hpu.2, by show k - 1 + (F ++ [c]).length ≤ _; rw [List.length_append, List.length_singleton]; omega, fun d hd => ?_, hone.rmy (by omega) (hch8.rmy (fun e => by have := hgbx _ e; omega) hrr5)⟩ (by show k - 1 < k; omega) ?_
      · rcases List.mem_append.1 hd with hd | hd
        · exact hcl d hd
        · rw [List.mem_singleton.1 hd]; exact hcok
      · ((repeat (first | (with_reducible exact Only.refl) | (with_reducible refine Only.skip ?_) | ((with_reducible refine Only.upd ?_ ?_); rfl) | ((with_reducible refine Only.over ?_ ?_ _); rfl) | ((with_reducible refine Only.hav ?_ ?_ ?_); rfl; rfl))))
    refine Or.inl ((once_ret C l 12 w5 hcu5).mono ?_)
    rintro _ w6 ⟨⟨bb, rfl⟩, hch6, hcu6⟩
    have hfr6 := hfr5.chg (S := fun b => b = C) (fun b hb e => by omega) hch6
    have hchW6 := hchW.trans hch6
    have hrr6 := hch6.rmy (show ¬ W.heap.size = C by omega) hrr5
    have z6 := hch6.size
    cases bb with
    | true =>
      have hrow6 : eL.R (fun b => w2.heap.size + 1 ≤ b ∧ b < w6.heap.size ∧ ¬ blk gv b ∧ b ≠ w2.heap.size) w6 c [.slice sa c.length scp] := eL.mono (fun b hb => ⟨hb.1, by omega, hb.2.2⟩) (eL.chg (S := fun b => b = C) (fun b hb e => by omega) hch6 hrow)
      refine ⟨_, hfr6.cG.2.1, ?_⟩
      refine raw_push (E := eL) (x := c) (cs := [.slice sa c.length scp]) ties rfl rfl rfl rfl rfl rfl rfl rfl rfl rfl rfl hfr6.own hrow6 (fun b hb => hb.2.2.1) (by show (F.length + 1) * 24 ≤ _; omega) (by omega) ?_
      intro v8 w8 hv8 hch8 hsz8 hvb8
      refine Exists.elim (own_ptr hv8 (by rw [List.length_append]; exact Nat.succ_ne_zero _)) fun B8 h => Exists.elim h fun cp8 he8 => ?_
      subst he8
      have hpu := Frm.push hfr6 hv8 hch8 hvb8
      have hgbx := hfr6.gb
      have hone : Chg (fun b => b = w2.heap.size) w8 (w8.setCell ⟨w2.heap.size, 0 + 1, none⟩ (.slice (some ⟨B8, 0, none⟩) (F ++ [c]).length cp8)) := Chg.setCell (S := fun b => b = w2.heap.size) _ rfl _
      refine ⟨hpu.1, _, IntWalk.i64_in _ (by omega), ?_⟩
      refine hK (k - 1, F ++ [c], _, _) _ _ (vs2 (vint (by show (k : Int) - 1 = ((k - 1 : Nat) : Int); omega)) rfl) ⟨((hchW6).fresh hch8 fun b hb => by have := hgbx b hb; omega).fresh hone fun b hb => by omega, (hcu6.chg (S := blk gv) (fun b hb e => by have := hgbx b e; omega) hch8).chg (S := fun b => b = w2.heap.size) (fun b hb e => by omega) hone, hpu.2, by show k - 1 + (F ++ [c]).length ≤ _; rw [List.length_append, List.length_singleton]; omega, fun d hd => ?_, hone.rmy (by omega) (hch8.rmy (fun e => by have := hgbx _ e; omega) hrr6)⟩ (by show k - 1 < k; omega) ?_
      · rcases List.mem_append.1 hd with hd | hd
        · exact hcl d hd
        · rw [List.mem_singleton.1 hd]; exact hcok
      · ((repeat (first | (with_reducible exact Only.refl) | (with_reducible refine Only.skip ?_) | ((with_reducible refine Only.upd ?_ ?_); rfl) | ((with_reducible refine Only.over ?_ ?_ _); rfl) | ((with_reducible refine Only.hav ?_ ?_ ?_); rfl; rfl))))
    | false =>
      refine ⟨_, IntWalk.i64_in _ (by omega), ?_⟩
      refine hK (k - 1, F, gv, _) _ _ (vs2 (vint (by show (k : Int) - 1 = ((k - 1 : Nat) : Int); omega)) rfl) ⟨hchW6, hcu6, hfr6, by show k - 1 + F.length ≤ _; omega, hcl, hrr6⟩ (by show k - 1 < k; omega) ?_
      ((repeat (first | (with_reducible exact Only.refl) | (with_reducible refine Only.skip ?_) | ((with_reducible refine Only.upd ?_ ?_); rfl) | ((with_reducible refine Only.over ?_ ?_ _); rfl) | ((with_reducible refine Only.hav ?_ ?_ ?_); rfl; rfl))))
  · have hone : oneB gv = true := by refine Exists.elim hfr.own fun _ h => Exists.elim h fun _ h => ?_; rw [h.1]; rfl
    refine ⟨[.int .i64 N, gv], rfl, hfr.cG, ?_⟩
    refine ⟨hrr.all [.int .i64 N, gv] 0 (Nat.le_refl 2) (by simp only [List.all_cons, hone]; rfl), ?_⟩
    refine ⟨[.int .i64 N, gv], rfl, setCells_at [.int .i64 N, gv] _ 0 2 hrr (Nat.le_refl 2), ?_⟩
    have hS : Chg (fun b => b = W.heap.size) w (Vc.setCells w W.heap.size 0 [.int .i64 N, gv]) := Chg.setCells (S := fun b => b = W.heap.size) rfl _ _ _
    have hzS := hS.size
    have hgb := hfr.gb
    exact ⟨hch.fresh hS (fun b hb => .inl (by omega)), hcu.chg (S := fun b => b = W.heap.size) (fun b hb e => by omega) hS, N, gv, F, rfl, hone, by omega, by omega, hcl, by omega, (hfr.own.chg (S := fun b => b = W.heap.size) (fun b hb e => by omega) (fun b hb e => by have := hgb b hb; omega) hS).mono fun b hb => ⟨by omega, Nat.lt_of_lt_of_le hb.2.1 hzS, hb.2.2.1⟩, fun b hb => ⟨by have := hgb b hb; omega, Nat.lt_of_lt_of_le (hgb b hb).2.1 hzS⟩⟩

end Go.Proofs.Ytfmflffggcphjaa.Dr
namespace Go.Proofs.Ytfmflffggcphjaa.Dr
open Go Go.Vc Go.RowKit Go.Sat
set_option linter.unusedVariables false

theorem two_sl (w : World) (a b : Int) (t : Nat) : SlR eI allB (w.alloc (.cells [.int .i64 a, .int .i64 b].toArray t)) (.slice (some ⟨w.heap.size, 0, none⟩) 2 2) [a, b] := by
  have hb := boxedAll w [.int .i64 a, .int .i64 b] t
  exact ⟨_, 2, rfl, Nat.le_refl _, by decide, .inr ⟨_, _, rfl, trivial, ⟨[.int .i64 a], ⟨hb.1, trivial⟩, rfl⟩, ⟨[.int .i64 b], ⟨hb.2.1, trivial⟩, rfl⟩, trivial⟩⟩
theorem two_ok {n a b : Int} {c : List Int} (h : mkcO [a, b] = some c) (ha : litOk n a = true) (hb : litOk n b = true) : clOk n c = true := by
  obtain ⟨h1, h2⟩ := mkcO_some h
  refine clOk_iff.2 ⟨fun x hx => ?_, (clOk_iff.1 h1).2⟩
  have := (h2 x).1 hx
  simp only [List.mem_cons, List.not_mem_nil, or_false] at this
  rcases this with rfl | rfl
  · exact ha
  · exact hb
theorem row_in {G lo n : Nat} {w w9 : World} {gv : Value} {F : Cnf} {sa : Option Addr} {scp m : Nat} {c : List Int} (hown : OwnR eI noB w9 (.slice sa m scp) c) (hsb : ∀ b, blk (.slice sa m scp) b → w.heap.size ≤ b) (hfr : Frm G lo w n gv F) : eL.R (fun b => lo ≤ b ∧ b < w9.heap.size ∧ ¬ blk gv b ∧ b ≠ G) w9 c [.slice sa m scp] := by
  refine ⟨_, rfl, ?_⟩
  have hG : G < w.heap.size := World.block_lt_of_cell? _ _ hfr.cG.1
  have hlo := hfr.lt
  by_cases h0 : c.length = 0
  · obtain ⟨a', c', he, h1, h2, h3⟩ := hown
    exact ⟨a', c', he, h1, h2, .inl h0⟩
  · have hlt := hown.blk_lt h0
    exact hown.sl (fun _ h => h.elim) (fun b hb => ⟨by have := hsb b hb; omega, hlt b hb, fun e => by have := hsb b hb; have := hfr.gb b e; omega, by have := hsb b hb; omega⟩)
def HrdR (C : Nat) (l : List Int) (W : World) (r : Value) (w' : World) : Prop := Chg (fun b => b = C) W w' ∧ Cur C w' l ∧ ∃ (n : Nat) (gv : Value) (F : Cnf), r = .agg #[.int .i64 n, gv] ∧ oneB gv = true ∧ 1 ≤ n ∧ n ≤ 5 ∧ (∀ c ∈ F, clOk n c = true) ∧ F.length ≤ 5 * n + 1 ∧ OwnR eL (fun b => W.heap.size < b ∧ b < w'.heap.size ∧ ¬ blk gv b) w' gv F ∧ ∀ b, blk gv b → W.heap.size < b ∧ b < w'.heap.size

set_option maxRecDepth 200000 in
set_option maxHeartbeats 4000000 in
theorem hard_ret (C : Nat) (l : List Int) (W : World) (hC : Cur C W l) (hCW : C < W.heap.size) : Ret Try.prog 71 #[.pointer (some ⟨C, 0, none⟩)] W (HrdR C l W) := by
  have hlm : (maxLen : Int) ≤ 9223372036854775807 := by decide
  have x1 : Ext W (W.alloc (.cells #[.int .i64 0, .slice none 0 0] 25)) := Ext.new _ _
  have r1 := Rmy.new W [.int .i64 0, .slice none 0 0] 25
  have e1 : (W.alloc (.cells #[.int .i64 0, .slice none 0 0] 25)).heap.size = W.heap.size + 1 := by simp
  refine ret_of_vc ties mixed Try.func71 rfl (by kernel_rfl) rfl rfl ?_
  refine Or.inl ((draw_ret C l 5 (by decide) _ (hC.ext x1) (by omega)).mono ?_)
  rintro _ w2 ⟨hch2, hcu2, N, gv0, F0, rfl, hone0, hN1, hN5, hcl0, hF0, hown0, hgb0⟩
  have z2 := hch2.size
  rw [e1] at z2
  rw [e1] at hown0 hgb0
  have hch12 : Chg (fun b => b = C) W w2 := (Chg.of x1).trans hch2
  have r12 := hch2.rmy (show ¬ W.heap.size = C by omega) r1
  have rG := Rmy.new w2 [.int .i64 0, .slice none 0 0] 25
  have x3 : Ext w2 (Vc.setCells (w2.alloc (.cells #[.int .i64 0, .slice none 0 0] 25)) w2.heap.size 0 [.int .i64 N, gv0]) := Ext.setCells _ (Ext.new _ _) (Nat.le_refl _)
  have hc3 := setCells_at [.int .i64 N, gv0] _ 0 2 rG (Nat.le_refl 2)
  have hr3 := Rmy.setCells (b := w2.heap.size) (o := 0) [.int .i64 N, gv0] rG
  have hlt3 : w2.heap.size < (Vc.setCells (w2.alloc (.cells #[.int .i64 0, .slice none 0 0] 25)) w2.heap.size 0 [.int .i64 N, gv0]).heap.size := World.block_lt_of_cell? _ _ hc3.1
  have hF3 : Frm w2.heap.size (W.heap.size + 2) (Vc.setCells (w2.alloc (.cells #[.int .i64 0, .slice none 0 0] 25)) w2.heap.size 0 [.int .i64 N, gv0]) N gv0 F0 :=
    ⟨hr3, hc3, (hown0.ext x3).mono fun b hb => ⟨by omega, by omega, hb.2.2, by omega⟩, fun b hb => by have := hgb0 b hb; omega, by omega⟩
  refine ⟨rG.all [.int .i64 N, gv0] 0 (Nat.le_refl 2) (by simp only [List.all_cons, hone0]; rfl), ?_⟩
  refine ⟨_, hc3.1, _, IntWalk.i64_in _ (by omega), ?_⟩
  refine loop_rule (σ := Nat × Cnf × Value × Value × Value × Value × Value) [4, 5, 6, 7, 8] 14 50 (fun q => [.int .i64 q.1, q.2.2.2.1, q.2.2.2.2.1, q.2.2.2.2.2.1, q.2.2.2.2.2.2])
    (fun q w' => Chg (fun b => b = C) W w' ∧ Cur C w' l ∧ Frm w2.heap.size (W.heap.size + 2) w' N q.2.2.1 q.2.1 ∧ q.1 + q.2.1.length ≤ 5 * N + 1 ∧ (∀ c ∈ q.2.1, clOk N c = true) ∧ Rmy w' W.heap.size 2)
    (fun q => q.1) (2 * N, F0, gv0, undef, undef, undef, undef) (by show [_, _, _, _, _] = [_, _, _, _, _]; exact vs5 (vint (by show 2 * (N : Int) = ((2 * N : Nat) : Int); omega)) rfl rfl rfl rfl) ⟨hch12.trans (.of x3), hcu2.ext x3, hF3, by show 2 * N + F0.length ≤ _; omega, hcl0, r12.ext x3⟩ ?_
  clear hF3 hc3 hr3 rG hch12 hcu2 r12 hown0 hgb0
  rintro ⟨k, F, gv, j5, j6, j7, j8⟩ w junk ⟨hch, hcu, hfr, hkF, hcl, hrr⟩ K hK
  simp only at hcu hfr hkF hcl hrr
  show vc _ _ _ _ (over [4, 5, 6, 7, 8] [.int .i64 k, j5, j6, j7, j8] _) _
  refine br_dec (fun h3 => ?_) (fun h3 => ?_)
  · refine ⟨_, hfr.cG.1, ?_⟩
    refine Or.inl ((below_ret C l N w hcu).mono ?_)
    rintro _ w4 ⟨⟨x, rfl, hx0, -, hxn⟩, hch4, hcu4⟩
    have hxn := hxn (by omega)
    have hfr4 := hfr.chg (S := fun b => b = C) (fun b hb e => by omega) hch4
    refine ⟨_, IntWalk.i64_in _ (by omega), _, hfr4.cG.1, ?_⟩
    refine Or.inl ((below_ret C l N w4 hcu4).mono ?_)
    rintro _ w5 ⟨⟨y, rfl, hy0, -, hyn⟩, hch5, hcu5⟩
    have hyn := hyn (by omega)
    have hfr5 := hfr4.chg (S := fun b => b = C) (fun b hb e => by omega) hch5
    refine ⟨_, IntWalk.i64_in _ (by omega), ?_⟩
    refine Or.inl ((once_ret C l 2 w5 hcu5).mono ?_)
    rintro _ w6 ⟨⟨bb, rfl⟩, hch6, hcu6⟩
    have hfr6 := hfr5.chg (S := fun b => b = C) (fun b hb e => by omega) hch6
    have hrr6 := hch6.rmy (show ¬ W.heap.size = C by omega) (hch5.rmy (show ¬ W.heap.size = C by omega) (hch4.rmy (show ¬ W.heap.size = C by omega) hrr))
    have hchA := ((hch.trans hch4).trans hch5).trans hch6
    cases bb with
    | true =>
      refine ⟨-(1 + x), (congrArg _ (Int.zero_sub _)).trans (IntWalk.i64_in _ (by omega)), ?_⟩
      refine Or.inl ((once_ret C l 2 w6 hcu6).mono ?_)
      rintro _ w7 ⟨⟨cc, rfl⟩, hchB, hcu7⟩
      have hfr7 := hfr6.chg (S := fun b => b = C) (fun b hb e => by omega) hchB
      have hrr7 := hchB.rmy (show ¬ W.heap.size = C by omega) hrr6
      have hch7 := hchA.trans hchB
      have hz7 := hch7.size
      cases cc with
      | true =>
        refine ⟨-(1 + y), (congrArg _ (Int.zero_sub _)).trans (IntWalk.i64_in _ (by omega)), ?_⟩
        have hmk := spec_MakeClause [-(1 + x), -(1 + y)] (.slice (some ⟨w7.heap.size, 0, none⟩) 2 2) (w7.alloc (.cells [.int .i64 (-(1 + x)), .int .i64 (-(1 + y))].toArray 3)) (two_sl w7 _ _ _)
        unfold MkR at hmk
        have xA : Ext w7 (w7.alloc (.cells [.int .i64 (-(1 + x)), .int .i64 (-(1 + y))].toArray 3)) := Ext.new _ _
        cases hq : mkcO [-(1 + x), -(1 + y)] with
        | none =>
          rw [hq] at hmk
          refine Or.inl ((hmk).mono ?_)
          rintro _ w9 ⟨x9, sv, rfl, -, -⟩
          refine ⟨_, IntWalk.i64_in _ (by omega), ?_⟩
          refine hK (k - 1, F, gv, _, _, _, _) _ _ (by show [_, _, _, _, _] = [_, _, _, _, _]; exact vs5 (vint (by show (k : Int) - 1 = ((k - 1 : Nat) : Int); omega)) rfl rfl rfl rfl) ⟨hch7.trans (.of (xA.trans x9)), hcu7.ext (xA.trans x9), hfr7.ext (xA.trans x9), by show k - 1 + F.length ≤ _; omega, hcl, hrr7.ext (xA.trans x9)⟩ (by show k - 1 < k; omega) ?_
          ((repeat (first | (with_reducible exact Only.refl) | (with_reducible refine Only.skip ?_) | ((with_reducible refine Only.upd ?_ ?_); rfl) | ((with_reducible refine Only.over ?_ ?_ _); rfl) | ((with_reducible refine Only.hav ?_ ?_ ?_); rfl; rfl))))
        | some c =>
          rw [hq] at hmk
          refine Or.inl ((hmk).mono ?_)
          rintro _ w9 ⟨x9, sv, rfl, hown, hsb⟩
          have hown : OwnR eI noB w9 sv c := hown
          have hcok := two_ok hq (litOk_iff.2 (show (-(1 + x) : Int) ≠ 0 ∧ -(N : Int) ≤ -(1 + x) ∧ -(1 + x) ≤ (N : Int) by omega)) (litOk_iff.2 (show (-(1 + y) : Int) ≠ 0 ∧ -(N : Int) ≤ -(1 + y) ∧ -(1 + y) ≤ (N : Int) by omega))
          refine Exists.elim hown fun sa h => Exists.elim h fun scp hss => ?_
          have hse := hss.1
          subst hse
          have x79 := xA.trans x9
          have hfr9 := hfr7.ext x79
          have hcu9 := hcu7.ext x79
          have hchW := hch7.trans (.of x79)
          have hrr9 := hrr7.ext x79
          have hrow := row_in hown (fun b hb => Nat.le_trans xA.size (hsb b hb)) hfr7
          have hclen := cl_len hcok
          refine ⟨_, hfr9.cG.2.1, ?_⟩
          refine raw_push (E := eL) (x := c) (cs := [.slice sa c.length scp]) ties rfl rfl rfl rfl rfl rfl rfl rfl rfl rfl rfl hfr9.own hrow (fun b hb => hb.2.2.1) (by show (F.length + 1) * 24 ≤ _; omega) (by omega) ?_
          intro v8 w10 hv8 hch10 hsz8 hvb8
          refine Exists.elim (own_ptr hv8 (by rw [List.length_append]; exact Nat.succ_ne_zero _)) fun B8 h => Exists.elim h fun cp8 he8 => ?_
          subst he8
          have hpu := Frm.push hfr9 hv8 hch10 hvb8
          have hgbx := hfr9.gb
          have hone : Chg (fun b => b = w2.heap.size) w10 (w10.setCell ⟨w2.heap.size, 0 + 1, none⟩ (.slice (some ⟨B8, 0, none⟩) (F ++ [c]).length cp8)) := Chg.setCell (S := fun b => b = w2.heap.size) _ rfl _
          refine ⟨hpu.1, _, IntWalk.i64_in _ (by omega), ?_⟩
          refine hK (k - 1, F ++ [c], _, _, _, _, _) _ _ (by show [_, _, _, _, _] = [_, _, _, _, _]; exact vs5 (vint (by show (k : Int) - 1 = ((k - 1 : Nat) : Int); omega)) rfl rfl rfl rfl) ⟨(hchW.fresh hch10 fun b hb => by have := hgbx b hb; omega).fresh hone fun b hb => by omega, (hcu9.chg (S := blk gv) (fun b hb e => by have := hgbx b e; omega) hch10).chg (S := fun b => b = w2.heap.size) (fun b hb e => by omega) hone, hpu.2, by show k - 1 + (F ++ [c]).length ≤ _; rw [List.length_append, List.length_singleton]; omega, fun d hd => ?_, hone.rmy (by omega) (hch10.rmy (fun e => by have := hgbx _ e; omega) hrr9)⟩ (by show k - 1 < k; omega) ?_
          · rcases List.mem_append.1 hd with hd | hd
            · exact hcl d hd
            · rw [List.mem_singleton.1 hd]; exact hcok
          · ((repeat (first | (with_reducible exact Only.refl) | (with_reducible refine Only.skip ?_) | ((with_reducible refine Only.upd ?_ ?_); rfl) | ((with_reducible refine Only.over ?_ ?_ _); rfl) | ((with_reducible refine Only.hav ?_ ?_ ?_); rfl; rfl))))
      | false =>
        have hmk := spec_MakeClause [-(1 + x), 1 + y] (.slice (some ⟨w7.heap.size, 0, none⟩) 2 2) (w7.alloc (.cells [.int .i64 (-(1 + x)), .int .i64 (1 + y)].toArray 3)) (two_sl w7 _ _ _)
        unfold MkR at hmk
        have xA : Ext w7 (w7.alloc (.cells [.int .i64 (-(1 + x)), .int .i64 (1 + y)].toArray 3)) := Ext.new _ _
        cases hq : mkcO [-(1 + x), 1 + y] with
        | none =>
          rw [hq] at hmk
          refine Or.inl ((hmk).mono ?_)
          rintro _ w9 ⟨x9, sv, rfl, -, -⟩
          refine ⟨_, IntWalk.i64_in _ (by omega), ?_⟩
          refine hK (k - 1, F, gv, _, _, _, _) _ _ (by show [_, _, _, _, _] = [_, _, _, _, _]; exact vs5 (vint (by show (k : Int) - 1 = ((k - 1 : Nat) : Int); omega)) rfl rfl rfl rfl) ⟨hch7.trans (.of (xA.trans x9)), hcu7.ext (xA.trans x9), hfr7.ext (xA.trans x9), by show k - 1 + F.length ≤ _; omega, hcl, hrr7.ext (xA.trans x9)⟩ (by show k - 1 < k; omega) ?_
          ((repeat (first | (with_reducible exact Only.refl) | (with_reducible refine Only.skip ?_) | ((with_reducible refine Only.upd ?_ ?_); rfl) | ((with_reducible refine Only.over ?_ ?_ _); rfl) | ((with_reducible refine Only.hav ?_ ?_ ?_); rfl; rfl))))
        | some c =>
          rw [hq] at hmk
          refine Or.inl ((hmk).mono ?_)
          rintro _ w9 ⟨x9, sv, rfl, hown, hsb⟩
          have hown : OwnR eI noB w9 sv c := hown
          have hcok := two_ok hq (litOk_iff.2 (show (-(1 + x) : Int) ≠ 0 ∧ -(N : Int) ≤ -(1 + x) ∧ -(1 + x) ≤ (N : Int) by omega)) (litOk_iff.2 (show (1 + y : Int) ≠ 0 ∧ -(N : Int) ≤ 1 + y ∧ 1 + y ≤ (N : Int) by omega))
          refine Exists.elim hown fun sa h => Exists.elim h fun scp hss => ?_
          have hse := hss.1
          subst hse
          have x79 := xA.trans x9
          have hfr9 := hfr7.ext x79
          have hcu9 := hcu7.ext x79
          have hchW := hch7.trans (.of x79)
          have hrr9 := hrr7.ext x79
          have hrow := row_in hown (fun b hb => Nat.le_trans xA.size (hsb b hb)) hfr7
          have hclen := cl_len hcok
          refine ⟨_, hfr9.cG.2.1, ?_⟩
          refine raw_push (E := eL) (x := c) (cs := [.slice sa c.length scp]) ties rfl rfl rfl rfl rfl rfl rfl rfl rfl rfl rfl hfr9.own hrow (fun b hb => hb.2.2.1) (by show (F.length + 1) * 24 ≤ _; omega) (by omega) ?_
          intro v8 w10 hv8 hch10 hsz8 hvb8
          refine Exists.elim (own_ptr hv8 (by rw [List.length_append]; exact Nat.succ_ne_zero _)) fun B8 h => Exists.elim h fun cp8 he8 => ?_
          subst he8
          have hpu := Frm.push hfr9 hv8 hch10 hvb8
          have hgbx := hfr9.gb
          have hone : Chg (fun b => b = w2.heap.size) w10 (w10.setCell ⟨w2.heap.size, 0 + 1, none⟩ (.slice (some ⟨B8, 0, none⟩) (F ++ [c]).length cp8)) := Chg.setCell (S := fun b => b = w2.heap.size) _ rfl _
          refine ⟨hpu.1, _, IntWalk.i64_in _ (by omega), ?_⟩
          refine hK (k - 1, F ++ [c], _, _, _, _, _) _ _ (by show [_, _, _, _, _] = [_, _, _, _, _]; exact vs5 (vint (by show (k : Int) - 1 = ((k - 1 : Nat) : Int); omega)) rfl rfl rfl rfl) ⟨(hchW.fresh hch10 fun b hb => by have := hgbx b hb; omega).fresh hone fun b hb => by omega, (hcu9.chg (S := blk gv) (fun b hb e => by have := hgbx b e; omega) hch10).chg (S := fun b => b = w2.heap.size) (fun b hb e => by omega) hone, hpu.2, by show k - 1 + (F ++ [c]).length ≤ _; rw [List.length_append, List.length_singleton]; omega, fun d hd => ?_, hone.rmy (by omega) (hch10.rmy (fun e => by have := hgbx _ e; omega) hrr9)⟩ (by show k - 1 < k; omega) ?_
          · rcases List.mem_append.1 hd with hd | hd
            · exact hcl d hd
            · rw [List.mem_singleton.1 hd]; exact hcok
          · ((repeat (first | (with_reducible exact Only.refl) | (with_reducible refine Only.skip ?_) | ((with_reducible refine Only.upd ?_ ?_); rfl) | ((with_reducible refine Only.over ?_ ?_ _); rfl) | ((with_reducible refine Only.hav ?_ ?_ ?_); rfl; rfl))))
    | false =>
      refine Or.inl ((once_ret C l 2 w6 hcu6).mono ?_)
      rintro _ w7 ⟨⟨cc, rfl⟩, hchB, hcu7⟩
      have hfr7 := hfr6.chg (S := fun b => b = C) (fun b hb e => by omega) hchB
      have hrr7 := hchB.rmy (show ¬ W.heap.size = C by omega) hrr6
      have hch7 := hchA.trans hchB
      have hz7 := hch7.size
      cases cc with
      | true =>
        refine ⟨-(1 + y), (congrArg _ (Int.zero_sub _)).trans (IntWalk.i64_in _ (by omega)), ?_⟩
        have hmk := spec_MakeClause [1 + x, -(1 + y)] (.slice (some ⟨w7.heap.size, 0, none⟩) 2 2) (w7.alloc (.cells [.int .i64 (1 + x), .int .i64 (-(1 + y))].toArray 3)) (two_sl w7 _ _ _)
        unfold MkR at hmk
        have xA : Ext w7 (w7.alloc (.cells [.int .i64 (1 + x), .int .i64 (-(1 + y))].toArray 3)) := Ext.new _ _
        cases hq : mkcO [1 + x, -(1 + y)] with
        | none =>
          rw [hq] at hmk
          refine Or.inl ((hmk).mono ?_)
          rintro _ w9 ⟨x9, sv, rfl, -, -⟩
          refine ⟨_, IntWalk.i64_in _ (by omega), ?_⟩
          refine hK (k - 1, F, gv, _, _, _, _) _ _ (by show [_, _, _, _, _] = [_, _, _, _, _]; exact vs5 (vint (by show (k : Int) - 1 = ((k - 1 : Nat) : Int); omega)) rfl rfl rfl rfl) ⟨hch7.trans (.of (xA.trans x9)), hcu7.ext (xA.trans x9), hfr7.ext (xA.trans x9), by show k - 1 + F.length ≤ _; omega, hcl, hrr7.ext (xA.trans x9)⟩ (by show k - 1 < k; omega) ?_
          ((repeat (first | (with_reducible exact Only.refl) | (with_reducible refine Only.skip ?_) | ((with_reducible refine Only.upd ?_ ?_); rfl) | ((with_reducible refine Only.over ?_ ?_ _); rfl) | ((with_reducible refine Only.hav ?_ ?_ ?_); rfl; rfl))))
        | some c =>
          rw [hq] at hmk
          refine Or.inl ((hmk).mono ?_)
          rintro _ w9 ⟨x9, sv, rfl, hown, hsb⟩
          have hown : OwnR eI noB w9 sv c := hown
          have hcok := two_ok hq (litOk_iff.2 (show (1 + x : Int) ≠ 0 ∧ -(N : Int) ≤ 1 + x ∧ 1 + x ≤ (N : Int) by omega)) (litOk_iff.2 (show (-(1 + y) : Int) ≠ 0 ∧ -(N : Int) ≤ -(1 + y) ∧ -(1 + y) ≤ (N : Int) by omega))
          refine Exists.elim hown fun sa h => Exists.elim h fun scp hss => ?_
          have hse := hss.1
          subst hse
          have x79 := xA.trans x9
          have hfr9 := hfr7.ext x79
          have hcu9 := hcu7.ext x79
          have hchW := hch7.trans (.of x79)
          have hrr9 := hrr7.ext x79
          have hrow := row_in hown (fun b hb => Nat.le_trans xA.size (hsb b hb)) hfr7
          have hclen := cl_len hcok
          refine ⟨_, hfr9.cG.2.1, ?_⟩
          refine raw_push (E := eL) (x := c) (cs := [.slice sa c.length scp]) ties rfl rfl rfl rfl rfl rfl rfl rfl rfl rfl rfl hfr9.own hrow (fun b hb => hb.2.2.1) (by show (F.length + 1) * 24 ≤ _; omega) (by omega) ?_
          intro v8 w10 hv8 hch10 hsz8 hvb8
          refine Exists.elim (own_ptr hv8 (by rw [List.length_append]; exact Nat.succ_ne_zero _)) fun B8 h => Exists.elim h fun cp8 he8 => ?_
          subst he8
          have hpu := Frm.push hfr9 hv8 hch10 hvb8
          have hgbx := hfr9.gb
          have hone : Chg (fun b => b = w2.heap.size) w10 (w10.setCell ⟨w2.heap.size, 0 + 1, none⟩ (.slice (some ⟨B8, 0, none⟩) (F ++ [c]).length cp8)) := Chg.setCell (S := fun b => b = w2.heap.size) _ rfl _
          refine ⟨hpu.1, _, IntWalk.i64_in _ (by omega), ?_⟩
          refine hK (k - 1, F ++ [c], _, _, _, _, _) _ _ (by show [_, _, _, _, _] = [_, _, _, _, _]; exact vs5 (vint (by show (k : Int) - 1 = ((k - 1 : Nat) : Int); omega)) rfl rfl rfl rfl) ⟨(hchW.fresh hch10 fun b hb => by have := hgbx b hb; omega).fresh hone fun b hb => by omega, (hcu9.chg (S := blk gv) (fun b hb e => by have := hgbx b e; omega) hch10).chg (S := fun b => b = w2.heap.size) (fun b hb e => by omega) hone, hpu.2, by show k - 1 + (F ++ [c]).length ≤ _; rw [List.length_append, List.length_singleton]; omega, fun d hd => ?_, hone.rmy (by omega) (hch10.rmy (fun e => by have := hgbx _ e; omega) hrr9)⟩ (by show k - 1 < k; omega) ?_
          · rcases List.mem_append.1 hd with hd | hd
            · exact hcl d hd
            · rw [List.mem_singleton.1 hd]; exact hcok
          · ((repeat (first | (with_reducible exact Only.refl) | (with_reducible refine Only.skip ?_) | ((with_reducible refine Only.upd ?_ ?_); rfl) | ((with_reducible refine Only.over ?_ ?_ _); rfl) | ((with_reducible refine Only.hav ?_ ?_ ?_); rfl; rfl))))
      | false =>
        have hmk := spec_MakeClause [1 + x, 1 + y] (.slice (some ⟨w7.heap.size, 0, none⟩) 2 2) (w7.alloc (.cells [.int .i64 (1 + x), .int .i64 (1 + y)].toArray 3)) (two_sl w7 _ _ _)
        unfold MkR at hmk
        have xA : Ext w7 (w7.alloc (.cells [.int .i64 (1 + x), .int .i64 (1 + y)].toArray 3)) := Ext.new _ _
        cases hq : mkcO [1 + x, 1 + y] with
        | none =>
          rw [hq] at hmk
          refine Or.inl ((hmk).mono ?_)
          rintro _ w9 ⟨x9, sv, rfl, -, -⟩
          refine ⟨_, IntWalk.i64_in _ (by omega), ?_⟩
          refine hK (k - 1, F, gv, _, _, _, _) _ _ (by show [_, _, _, _, _] = [_, _, _, _, _]; exact vs5 (vint (by show (k : Int) - 1 = ((k - 1 : Nat) : Int); omega)) rfl rfl rfl rfl) ⟨hch7.trans (.of (xA.trans x9)), hcu7.ext (xA.trans x9), hfr7.ext (xA.trans x9), by show k - 1 + F.length ≤ _; omega, hcl, hrr7.ext (xA.trans x9)⟩ (by show k - 1 < k; omega) ?_
          ((repeat (first | (with_reducible exact Only.refl) | (with_reducible refine Only.skip ?_) | ((with_reducible refine Only.upd ?_ ?_); rfl) | ((with_reducible refine Only.over ?_ ?_ _); rfl) | ((with_reducible refine Only.hav ?_ ?_ ?_); rfl; rfl))))
        | some c =>
          rw [hq] at hmk
          refine Or.inl ((hmk).mono ?_)
          rintro _ w9 ⟨x9, sv, rfl, hown, hsb⟩
          have hown : OwnR eI noB w9 sv c := hown
          have hcok := two_ok hq (litOk_iff.2 (show (1 + x : Int) ≠ 0 ∧ -(N : Int) ≤ 1 + x ∧ 1 + x ≤ (N : Int) by omega)) (litOk_iff.2 (show (1 + y : Int) ≠ 0 ∧ -(N : Int) ≤ 1 + y ∧ 1 + y ≤ (N : Int) by omega))
          refine Exists.elim hown fun sa h => Exists.elim h fun scp hss => ?_
          have hse := hss.1
          subst hse
          have x79 := xA.trans x9
          have hfr9 := hfr7.ext x79
          have hcu9 := hcu7.ext x79
          have hchW := hch7.trans (.of x79)
          have hrr9 := hrr7.ext x79
          have hrow := row_in hown (fun b hb => Nat.le_trans xA.size (hsb b hb)) hfr7
          have hclen := cl_len hcok
          refine ⟨_, hfr9.cG.2.1, ?_⟩
          refine raw_push (E := eL) (x := c) (cs := [.slice sa c.length scp]) ties rfl rfl rfl rfl rfl rfl rfl rfl rfl rfl rfl hfr9.own hrow (fun b hb => hb.2.2.1) (by show (F.length + 1) * 24 ≤ _; omega) (by omega) ?_
          intro v8 w10 hv8 hch10 hsz8 hvb8
          refine Exists.elim (own_ptr hv8 (by rw [List.length_append]; exact Nat.succ_ne_zero _)) fun B8 h => Exists.elim h fun cp8 he8 => ?_
          subst he8
          have hpu := Frm.push hfr9 hv8 hch10 hvb8
          have hgbx := hfr9.gb
          have hone : Chg (fun b => b = w2.heap.size) w10 (w10.setCell ⟨w2.heap.size, 0 + 1, none⟩ (.slice (some ⟨B8, 0, none⟩) (F ++ [c]).length cp8)) := Chg.setCell (S := fun b => b = w2.heap.size) _ rfl _
          refine ⟨hpu.1, _, IntWalk.i64_in _ (by omega), ?_⟩
          refine hK (k - 1, F ++ [c], _, _, _, _, _) _ _ (by show [_, _, _, _, _] = [_, _, _, _, _]; exact vs5 (vint (by show (k : Int) - 1 = ((k - 1 : Nat) : Int); omega)) rfl rfl rfl rfl) ⟨(hchW.fresh hch10 fun b hb => by have := hgbx b hb; omega).fresh hone fun b hb => by omega, (hcu9.chg (S := blk gv) (fun b hb e => by have := hgbx b e; omega) hch10).chg (S := fun b => b = w2.heap.size) (fun b hb e => by omega) hone, hpu.2, by show k - 1 + (F ++ [c]).length ≤ _; rw [List.length_append, List.length_singleton]; omega, fun d hd => ?_, hone.rmy (by omega) (hch10.rmy (fun e => by have := hgbx _ e; omega) hrr9)⟩ (by show k - 1 < k; omega) ?_
          · rcases List.mem_append.1 hd with hd | hd
            · exact hcl d hd
            · rw [List.mem_singleton.1 hd]; exact hcok
          · ((repeat (first | (with_reducible exact Only.refl) | (with_reducible refine Only.skip ?_) | ((with_reducible refine Only.upd ?_ ?_); rfl) | ((with_reducible refine Only.over ?_ ?_ _); rfl) | ((with_reducible refine Only.hav ?_ ?_ ?_); rfl; rfl))))
  · have hone : oneB gv = true := by refine Exists.elim hfr.own fun _ h => Exists.elim h fun _ h => ?_; rw [h.1]; rfl
    refine ⟨[.int .i64 N, gv], rfl, hfr.cG, ?_⟩
    refine ⟨hrr.all [.int .i64 N, gv] 0 (Nat.le_refl 2) (by simp only [List.all_cons, hone]; rfl), ?_⟩
    refine ⟨[.int .i64 N, gv], rfl, setCells_at [.int .i64 N, gv] _ 0 2 hrr (Nat.le_refl 2), ?_⟩
    have hS : Chg (fun b => b = W.heap.size) w (Vc.setCells w W.heap.size 0 [.int .i64 N, gv]) := Chg.setCells (S := fun b => b = W.heap.size) rfl _ _ _
    have hzS := hS.size
    have hgb := hfr.gb
    exact ⟨hch.fresh hS (fun b hb => .inl (by omega)), hcu.chg (S := fun b => b = W.heap.size) (fun b hb e => by omega) hS, N, gv, F, rfl, hone, by omega, by omega, hcl, by omega, (hfr.own.chg (S := fun b => b = W.heap.size) (fun b hb e => by omega) (fun b hb e => by have := hgb b hb; omega) hS).mono fun b hb => ⟨by omega, Nat.lt_of_lt_of_le hb.2.1 hzS, hb.2.2.1⟩, fun b hb => ⟨by have := hgb b hb; omega, Nat.lt_of_lt_of_le (hgb b hb).2.1 hzS⟩⟩

def GivF (W : World) (r : Value) (w' : World) : Prop := Ext W w' ∧ ∃ (n : Nat) (gv : Value) (F : Cnf), r = .agg #[.int .i64 n, gv] ∧ 1 ≤ n ∧ n ≤ 6 ∧ fOk n F = true ∧ F.length ≤ 26 ∧ SlR eL (fun b => W.heap.size ≤ b) w' gv F
set_option maxRecDepth 200000 in
set_option maxHeartbeats 2000000 in
theorem giveFormula_ret (l : List Int) (m : Int) (hm : 0 ≤ m ∧ m ≤ 1000000) (s : Value) (W : World) (hs : SlR eU allB W s l) : Ret Try.prog 21 #[s, .int .i64 m] W (GivF W) := by
  have x1 : Ext W (W.alloc (.cells #[.int .i64 0, .slice none 0 0] 25)) := Ext.new _ _
  have r1 := Rmy.new W [.int .i64 0, .slice none 0 0] 25
  have e1 : (W.alloc (.cells #[.int .i64 0, .slice none 0 0] 25)).heap.size = W.heap.size + 1 := by simp
  refine ret_of_vc ties mixed Try.func21 rfl (by kernel_rfl) rfl rfl ?_
  refine Or.inl ((at_ret l m hm s _ (hs.ext x1)).mono ?_)
  rintro _ w2 ⟨x2, C, rfl, hCW, hC2, hcu⟩
  rw [e1] at hCW
  refine Or.inl ((once_ret C l 2 w2 hcu).mono ?_)
  rintro _ w3 ⟨⟨bb, rfl⟩, hch3, hcu3⟩
  have hz3' := hch3.size
  cases bb with
  | true =>
    refine Or.inl ((hard_ret C l w3 hcu3 (by omega)).mono ?_)
    rintro _ w4 ⟨hch4, hcu4, N, gv, F, rfl, hone, hN1, hN5, hcl, hF, hown, hgb⟩
    have r5 := hch4.rmy (show ¬ W.heap.size = C by omega) (hch3.rmy (show ¬ W.heap.size = C by omega) (r1.ext x2))
    refine ⟨r5.all [.int .i64 N, gv] 0 (Nat.le_refl 2) (by simp only [List.all_cons, hone]; rfl), ?_⟩
    refine ⟨[.int .i64 N, gv], rfl, setCells_at [.int .i64 N, gv] _ 0 2 r5 (Nat.le_refl 2), ?_⟩
    have hS : Chg (fun b => b = W.heap.size) w4 (Vc.setCells w4 W.heap.size 0 [.int .i64 N, gv]) := Chg.setCells (S := fun b => b = W.heap.size) rfl _ _ _
    have hz2 := x2.size
    have hz3 := hch3.size
    have hfok : fOk N F = true := by
      simp only [fOk, Bool.and_eq_true, decide_eq_true_eq, List.all_eq_true]
      exact ⟨by omega, hcl⟩
    refine ⟨(((x1.trans x2).chg hch3 fun b hb => by omega).chg hch4 fun b hb => by omega).chg hS fun b hb => by omega, N, gv, F, rfl, by omega, by omega, hfok, by omega, ?_⟩
    exact (hown.chg (S := fun b => b = W.heap.size) (fun b hb e => by omega) (fun b hb e => by have := hgb b hb; omega) hS).sl (fun b hb => by show W.heap.size ≤ b; omega) (fun b hb => by have := hgb b hb; show W.heap.size ≤ b; omega)
  | false =>
    refine Or.inl ((draw_ret C l 6 (by decide) w3 hcu3 (by omega)).mono ?_)
    rintro _ w4 ⟨hch4, hcu4, N, gv, F, rfl, hone, hN1, hN5, hcl, hF, hown, hgb⟩
    have r5 := hch4.rmy (show ¬ W.heap.size = C by omega) (hch3.rmy (show ¬ W.heap.size = C by omega) (r1.ext x2))
    refine ⟨r5.all [.int .i64 N, gv] 0 (Nat.le_refl 2) (by simp only [List.all_cons, hone]; rfl), ?_⟩
    refine ⟨[.int .i64 N, gv], rfl, setCells_at [.int .i64 N, gv] _ 0 2 r5 (Nat.le_refl 2), ?_⟩
    have hS : Chg (fun b => b = W.heap.size) w4 (Vc.setCells w4 W.heap.size 0 [.int .i64 N, gv]) := Chg.setCells (S := fun b => b = W.heap.size) rfl _ _ _
    have hz2 := x2.size
    have hz3 := hch3.size
    have hfok : fOk N F = true := by
      simp only [fOk, Bool.and_eq_true, decide_eq_true_eq, List.all_eq_true]
      exact ⟨by omega, hcl⟩
    refine ⟨(((x1.trans x2).chg hch3 fun b hb => by omega).chg hch4 fun b hb => by omega).chg hS fun b hb => by omega, N, gv, F, rfl, by omega, by omega, hfok, by omega, ?_⟩
    exact (hown.chg (S := fun b => b = W.heap.size) (fun b hb e => by omega) (fun b hb e => by have := hgb b hb; omega) hS).sl (fun b hb => by show W.heap.size ≤ b; omega) (fun b hb => by have := hgb b hb; show W.heap.size ≤ b; omega)

end Go.Proofs.Ytfmflffggcphjaa.Dr
