/- Trimmed proofs: contract of the program's trim. -/
import Derived.Test.YtfmflffggcphjaaPv
import Derived.Test.YtfmflffggcphjaaCk
namespace Go.Sat
open Go.Vc
noncomputable def pickT (F : Cnf) (n : Nat) (lits : List Int) (x : Int) (a b : Int × Fo Int) : Int × Fo Int :=
  if chk F n (a.2.size + 1) a.1 a.2 lits = true then a else if chk F n (b.2.size + 1) b.1 b.2 lits = true then b else (x, .cons a.1 a.2 (.cons b.1 b.2 .nil))
noncomputable def trm (F : Cnf) (n : Nat) : Nat → Int → Fo Int → List Int → Int × Fo Int
  | 0, _, _, _ => (0, .nil)
  | k + 1, x, f, lits => if conf F lits = true then (0, .nil) else match f with
    | .cons x1 k1 (.cons x2 k2 .nil) => pickT F n lits x (trm F n k x1 k1 (lits ++ [-x])) (trm F n k x2 k2 (lits ++ [x]))
    | _ => (0, .nil)
theorem trm_conf {F : Cnf} {n k : Nat} {x : Int} {f : Fo Int} {lits : List Int} (h : conf F lits = true) : trm F n (k + 1) x f lits = (0, .nil) := by simp [trm, h]
theorem trm_two {F : Cnf} {n k : Nat} {x x1 x2 : Int} {k1 k2 : Fo Int} {lits : List Int} (h : conf F lits = false) : trm F n (k + 1) x (.cons x1 k1 (.cons x2 k2 .nil)) lits = pickT F n lits x (trm F n k x1 k1 (lits ++ [-x])) (trm F n k x2 k2 (lits ++ [x])) := by simp [trm, h]
theorem pickT_size {F : Cnf} {n : Nat} {lits : List Int} {x : Int} {a b : Int × Fo Int} : (pickT F n lits x a b).2.size ≤ 2 + a.2.size + b.2.size := by
  unfold pickT
  split
  · omega
  · split
    · omega
    · simp only [Fo.size]; omega
theorem trm_size {F : Cnf} {n : Nat} : ∀ (k : Nat) (x : Int) (f : Fo Int) (lits : List Int), (trm F n k x f lits).2.size ≤ f.size := by
  intro k
  induction k with
  | zero => intro x f lits; simp [trm, Fo.size]
  | succ k ih =>
    intro x f lits
    by_cases h : conf F lits = true
    · rw [trm_conf h]; simp [Fo.size]
    · by_cases h2 : f.len = 2
      · match f, h2 with
        | .cons x1 k1 (.cons x2 k2 .nil), _ =>
          rw [trm_two (by simpa using h)]
          refine Nat.le_trans pickT_size ?_
          have h1 := ih x1 k1 (lits ++ [-x])
          have h2 := ih x2 k2 (lits ++ [x])
          simp only [Fo.size]
          omega
        | .cons x1 k1 .nil, h2 => simp [Fo.len] at h2
        | .cons x1 k1 (.cons x2 k2 (.cons x3 k3 r)), h2 => simp [Fo.len] at h2
      · match f, h2 with
        | .nil, _ => simp [trm, h, Fo.size]
        | .cons x1 k1 .nil, _ => simp [trm, h, Fo.size]
        | .cons x1 k1 (.cons x2 k2 .nil), h2 => exact absurd rfl h2
        | .cons x1 k1 (.cons x2 k2 (.cons x3 k3 r)), _ => simp [trm, h, Fo.size]
theorem chk_split {F : Cnf} {n k : Nat} {x : Int} {f : Fo Int} {lits : List Int} (h : chk F n (k + 1) x f lits = true) (hc : conf F lits = false) :
    1 ≤ x ∧ x ≤ (n : Int) ∧ ∃ x1 k1 x2 k2, f = .cons x1 k1 (.cons x2 k2 .nil) ∧ chk F n k x1 k1 (lits ++ [-x]) = true ∧ chk F n k x2 k2 (lits ++ [x]) = true := by
  by_cases h0 : x = 0
  · subst h0
    cases f with
    | nil => rw [chk_leaf, hc] at h; cases h
    | cons y a b => rw [chk_leaf_no (by simp [Fo.len])] at h; cases h
  · by_cases h2 : f.len = 2
    · match f, h2 with
      | .cons x1 k1 (.cons x2 k2 .nil), _ =>
        rw [chk_node h0] at h
        simp only [Bool.and_eq_true, decide_eq_true_eq] at h
        exact ⟨h.1.1, h.1.2, x1, k1, x2, k2, rfl, h.2.1, h.2.2⟩
      | .cons x1 k1 .nil, h2 => simp [Fo.len] at h2
      | .cons x1 k1 (.cons x2 k2 (.cons x3 k3 r)), h2 => simp [Fo.len] at h2
    · rw [chk_two h0 h2] at h; cases h
end Go.Sat
namespace Go.Proofs.Ytfmflffggcphjaa
open Go Go.Vc Go.RowKit Go.Sat
set_option linter.unusedVariables false

set_option maxHeartbeats 4000000 in
theorem trim_ret (n : Nat) (F : Cnf) (hF : fOk n F = true) : ∀ (fuel : Nat) (x : Int) (f : PF) (lits : List Int) (sp s t : Value) (W : World), f.size < fuel → Sol W.heap.size W sp n F → SlR eI allB W s lits → PSl anyB W t f → (∀ l ∈ lits, litOk n l = true) → lits.length + f.size ≤ 10000000 → chk F n fuel x f lits = true →
    Ret Try.prog 83 #[sp, s, .agg #[.int .i64 x, t]] W (TreR (trm F n fuel x f lits) W) := by
  intro fuel
  induction fuel with
  | zero => intro x f lits sp s t W h; omega
  | succ k ih =>
    intro x f lits sp s t W hsz hS hs ht hl hll hck
    have hn : n ≤ 400 := by simp only [fOk, Bool.and_eq_true, decide_eq_true_eq] at hF; omega
    obtain ⟨S, rfl⟩ := hS.ptr
    have x0 : Ext W (W.alloc (.cells #[.int .i64 x, t] 39)) := Ext.new _ _
    have hb0 := boxedAll W [.int .i64 x, t] 39
    have x01 : Ext (W.alloc (.cells #[.int .i64 x, t] 39)) ((W.alloc (.cells #[.int .i64 x, t] 39)).alloc (.cells #[.int .i64 0, .slice none 0 0] 39)) := Ext.new _ _
    have rP := Rmy.new (W.alloc (.cells #[.int .i64 x, t] 39)) [.int .i64 0, .slice none 0 0] 39
    have e1 : (W.alloc (.cells #[.int .i64 x, t] 39)).heap.size = W.heap.size + 1 := by simp
    have e2 : ((W.alloc (.cells #[.int .i64 x, t] 39)).alloc (.cells #[.int .i64 0, .slice none 0 0] 39)).heap.size = W.heap.size + 2 := by simp
    have x1 := x0.trans x01
    have hb := hb0.ext x01
    -- a result is stored
    have fin : ∀ (y : Int × PF) (ps : Value) (w : World), Ext ((W.alloc (.cells #[.int .i64 x, t] 39)).alloc (.cells #[.int .i64 0, .slice none 0 0] 39)) w → oneB ps = true → PSep w ps y.2 (W.heap.size + 2) w.heap.size →
        TreR y W (.agg #[.int .i64 y.1, ps]) (Vc.setCells w (W.alloc (.cells #[.int .i64 x, t] 39)).heap.size 0 [.int .i64 y.1, ps]) := by
      intro y ps w hx hone hsep
      have hch : Chg (fun b => b = (W.alloc (.cells #[.int .i64 x, t] 39)).heap.size) w (Vc.setCells w (W.alloc (.cells #[.int .i64 x, t] 39)).heap.size 0 [.int .i64 y.1, ps]) := Chg.setCells (S := fun b => b = (W.alloc (.cells #[.int .i64 x, t] 39)).heap.size) rfl _ _ _
      have h3 := hch.size
      refine ⟨(x1.trans hx).chg hch (fun b hb => by rw [hb, e1]; omega), ps, rfl, hone, ?_⟩
      exact (hsep.keep plc_len fun b g1 g2 => hch.block b g2 (fun e => by rw [e1] at e; omega)).wide (by omega) h3
    have hS1 : Sol ((W.alloc (.cells #[.int .i64 x, t] 39)).alloc (.cells #[.int .i64 0, .slice none 0 0] 39)).heap.size _ (.pointer (some ⟨S, 0, none⟩)) n F := (hS.below x1).mono x1.size
    refine ret_of_vc ties mixed Try.func83 rfl (by kernel_rfl) rfl rfl ?_
    refine Or.inl ((start_ret (.pointer (some ⟨S, 0, none⟩)) n F lits s _ hS1 (hs.ext x1) hF hl (by omega)).mono ?_)
    rintro r w3 ⟨x3, o, hup, ⟨rfl, rfl⟩ | ⟨u, p, rfl, rfl, -⟩⟩
    · have ht0 := trm_conf (F := F) (n := n) (k := k) (x := x) (f := f) (conf_none hup)
      rw [ht0]
      refine ⟨(rP.ext x3).all [.int .i64 0, .slice none 0 0] 0 (Nat.le_refl 2) rfl, ?_⟩
      refine ⟨[.int .i64 0, .slice none 0 0], rfl, setCells_at [.int .i64 0, .slice none 0 0] _ 0 2 (rP.ext x3) (Nat.le_refl 2), ?_⟩
      exact fin (0, .nil) (.slice none 0 0) w3 x3 rfl (PSep.nil _ _ _)
    have hcf := conf_some hup
    obtain ⟨hx1, hxn, y1, k1, y2, k2, rfl, hck1, hck2⟩ := chk_split hck hcf
    obtain ⟨pa, pc, rfl, hpl, hpat⟩ := id ht
    obtain ⟨b, o, rfl, -, hat⟩ := hpat.resolve_left (by simp [Fo.len])
    obtain ⟨⟨s1, hc1, hs1⟩, hr⟩ := hat.sl
    obtain ⟨⟨s2, hc2, hs2⟩, -⟩ := hr.sl
    have htr := trm_two (n := n) (k := k) (x := x) (x1 := y1) (x2 := y2) (k1 := k1) (k2 := k2) hcf
    have hz1 := trm_size (F := F) (n := n) k y1 k1 (lits ++ [-x])
    have hz2 := trm_size (F := F) (n := n) k y2 k2 (lits ++ [x])
    obtain ⟨ta, hta⟩ : ∃ ta, trm F n k y1 k1 (lits ++ [-x]) = ta := ⟨_, rfl⟩
    obtain ⟨tb, htb⟩ : ∃ tb, trm F n k y2 k2 (lits ++ [x]) = tb := ⟨_, rfl⟩
    rw [hta] at hz1 htr
    rw [htb] at hz2 htr
    rw [htr]
    simp only [Fo.size] at hsz hll
    have hlx : litOk n x = true := litOk_iff.2 (by omega)
    have hlnx : litOk n (-x) = true := litOk_iff.2 (by omega)
    have hsnoc : ∀ y, litOk n y = true → ∀ l ∈ lits ++ [y], litOk n l = true := fun y hy l hm => by
      rcases List.mem_append.1 hm with hm | hm
      · exact hl l hm
      · rw [List.mem_singleton.1 hm]; exact hy
    have hb3 := hb.ext x3
    have x13 := x1.trans x3
    refine .inr (.inr (hyb_rule ties mixed [(0, .quiet), (1, .quiet), (2, .quiet), (3, .quiet), (4, .quiet), (6, .quiet), (7, .quiet), (8, .quiet), (9, .quiet), (11, .quiet), (12, .quiet), (13, .quiet), (14, .quiet), (16, .quiet), (17, .quiet), (18, .quiet), (19, .quiet), (5, .loud), (10, .loud), (15, .loud), (20, .loud), (21, .loud), (22, .quiet)] (by kernel_rfl) ?_))
    refine ⟨_, hb3.1, -x, (congrArg _ (Int.zero_sub _)).trans (IntWalk.i64_in _ (by omega)), _, hb3.2.1, ⟨by decide, by simp [Fo.len]⟩, [.int .i64 y1, s1], rfl, hc1.ext x13, _, hb3.1, _, hb3.2.1, ⟨by decide, by simp [Fo.len]⟩, [.int .i64 y2, s2], rfl, hc2.ext x13, ?_⟩
    intro w4 hx4
    refine Or.inl ((with_ret lits (-x) s w4 (hs.ext (x13.trans hx4)) (by omega)).mono ?_)
    intro v5 w5 hv5
    refine ⟨hv5.1, ?_⟩
    intro w6 hx6
    have x36 := (hx4.trans hv5.1).trans hx6
    have hrun1 := ih y1 k1 (lits ++ [-x]) (.pointer (some ⟨S, 0, none⟩)) v5 s1 w6 (by omega) ((hS1.below (x3.trans x36)).mono (x3.trans x36).size) (hv5.sl.ext hx6) (hs1.ext (x13.trans x36)) (hsnoc _ hlnx) (by simp only [List.length_append, List.length_singleton]; omega) hck1
    rw [hta] at hrun1
    refine Or.inl ((hrun1).mono ?_)
    rintro r w7 ⟨x7, ps1, rfl, hone1, hsep1⟩
    refine ⟨x7, ?_⟩
    intro w8 hx8
    have x38 := (x36.trans x7).trans hx8
    refine Or.inl ((with_ret lits x s w8 (hs.ext (x13.trans x38)) (by omega)).mono ?_)
    intro v9 w9 hv9
    refine ⟨hv9.1, ?_⟩
    intro w10 hx10
    have x310 := (x38.trans hv9.1).trans hx10
    have hrun2 := ih y2 k2 (lits ++ [x]) (.pointer (some ⟨S, 0, none⟩)) v9 s2 w10 (by omega) ((hS1.below (x3.trans x310)).mono (x3.trans x310).size) (hv9.sl.ext hx10) (hs2.ext (x13.trans x310)) (hsnoc _ hlx) (by simp only [List.length_append, List.length_singleton]; omega) hck2
    rw [htb] at hrun2
    refine Or.inl ((hrun2).mono ?_)
    rintro r w11 ⟨x11, ps2, rfl, hone2, hsep2⟩
    refine ⟨x11, ?_⟩
    intro w12 hx12
    refine ⟨Ext.new _ _, ?_⟩
    intro w13 hx13
    have x713 : Ext w7 w13 := hx8.trans (hv9.1.trans (hx10.trans (x11.trans (hx12.trans ((Ext.new _ _).trans hx13)))))
    have x1113 : Ext w11 w13 := hx12.trans ((Ext.new _ _).trans hx13)
    have x1213 : Ext w12 w13 := (Ext.new _ _).trans hx13
    have x313 := (x36.trans x7).trans x713
    have hrow : CellsAt w13 w12.heap.size 0 [.int .i64 ta.1, ps1, .int .i64 tb.1, ps2] := (boxedAll w12 [.int .i64 ta.1, ps1, .int .i64 tb.1, ps2] 39).ext hx13
    have hRm : Rmy w13 w12.heap.size 4 := (Rmy.new w12 [.int .i64 ta.1, ps1, .int .i64 tb.1, ps2] 39).ext hx13
    have hs1' : PSep w13 ps1 ta.2 w6.heap.size w7.heap.size := hsep1.keep plc_len fun b _ g2 => x713.block b g2
    have hs2' : PSep w13 ps2 tb.2 w10.heap.size w11.heap.size := hsep2.keep plc_len fun b _ g2 => x1113.block b g2
    have z6 := (x3.trans x36).size
    have z7 := x7.size
    have z10 := (hx8.trans (hv9.1.trans hx10)).size
    have z11 := x11.size
    have z12 := hx12.size
    have z13 : w12.heap.size < w13.heap.size := World.block_lt_of_cell? _ _ hrow.1
    have hsel : ∀ i : Nat, i < 2 → (1 ≤ i → chk F n (ta.2.size + 1) ta.1 ta.2 lits = false) → ∃ (y : Int × PF) (psy : Value), CellsAt w13 w12.heap.size (0 + (i : Int).toNat * 2) [.int .i64 y.1, psy] ∧ PSep w13 psy y.2 (W.heap.size + 2) w13.heap.size ∧ oneB psy = true ∧ lits.length + y.2.size ≤ 10000000 ∧
        (chk F n (y.2.size + 1) y.1 y.2 lits = true → pickT F n lits x ta tb = y) ∧ (chk F n (y.2.size + 1) y.1 y.2 lits = false → (1 ≤ i + 1 → chk F n (ta.2.size + 1) ta.1 ta.2 lits = false) ∧ (2 ≤ i + 1 → chk F n (tb.2.size + 1) tb.1 tb.2 lits = false)) := by
      intro i hi h1
      have hi' : i = 0 ∨ i = 1 := by omega
      rcases hi' with rfl | rfl
      · exact ⟨ta, ps1, ⟨hrow.1, hrow.2.1, trivial⟩, hs1'.wide (by omega) (by omega), hone1, by omega, fun h => by unfold pickT; rw [if_pos h], fun h => ⟨fun _ => h, fun h => by omega⟩⟩
      · have h1 := h1 (Nat.le_refl 1)
        exact ⟨tb, ps2, ⟨hrow.2.2.1, hrow.2.2.2.1, trivial⟩, hs2'.wide (by omega) (by omega), hone2, by omega, fun h => by unfold pickT; rw [if_neg (by rw [h1]; decide), if_pos h], fun h => ⟨fun _ => h1, fun _ => h⟩⟩
    have hnone : chk F n (ta.2.size + 1) ta.1 ta.2 lits = false → chk F n (tb.2.size + 1) tb.1 tb.2 lits = false → pickT F n lits x ta tb = (x, .cons ta.1 ta.2 (.cons tb.1 tb.2 .nil)) := fun h1 h2 => by
      unfold pickT; rw [if_neg (by rw [h1]; decide), if_neg (by rw [h2]; decide)]
    have hnode : PSep w13 (.slice (some ⟨w12.heap.size, 0, none⟩) 2 2) (.cons ta.1 ta.2 (.cons tb.1 tb.2 .nil)) (W.heap.size + 2) w13.heap.size :=
      ⟨_, 2, rfl, by show 2 ≤ maxLen; decide, .inr ⟨w12.heap.size, rfl, by omega, z13, hRm, ps1, w6.heap.size, w7.heap.size, ⟨hrow.1, hrow.2.1, trivial⟩, by omega, z7, by omega, .inr (by omega), hs1', ps2, w10.heap.size, w11.heap.size, ⟨hrow.2.2.1, hrow.2.2.2.1, trivial⟩, by omega, z11, by omega, .inr (by omega), hs2', trivial⟩⟩
    clear hrow hRm hs1' hs2' hsep1 hsep2
    obtain ⟨T0, hT0⟩ : ∃ T0, pickT F n lits x ta tb = T0 := ⟨_, rfl⟩
    rw [hT0] at hsel hnone
    have rP13 := rP.ext (x3.trans x313)
    have hb13 := hb.ext (x3.trans x313)
    refine loop_rule (σ := Nat × Value) [11, 45] 46 55 (fun q => [q.2, .int .i64 q.1])
      (fun q w' => Ext w13 w' ∧ q.1 ≤ 2 ∧ (1 ≤ q.1 → chk F n (ta.2.size + 1) ta.1 ta.2 lits = false) ∧ (2 ≤ q.1 → chk F n (tb.2.size + 1) tb.1 tb.2 lits = false))
      (fun q => 2 - q.1) (0, undef) rfl ⟨Ext.refl _, Nat.zero_le _, fun h => by omega, fun h => by omega⟩ ?_
    rintro ⟨i, j11⟩ w junk ⟨hx, hi, hca, hcb⟩ K hK
    simp only at hi hca hcb
    show vc _ _ _ _ (over [11, 45] [j11, .int .i64 i] _) _
    refine br_dec (fun h3 => ?_) (fun h3 => ?_)
    · have hi2 : i < 2 := by omega
      refine Exists.elim (hsel i hi2 hca) fun y h => Exists.elim h fun psy hh => ?_
      have r14 := Rmy.new w [.int .i64 0, .slice none 0 0] 39
      have x14 : Ext w (Vc.setCells (w.alloc (.cells #[.int .i64 0, .slice none 0 0] 39)) w.heap.size 0 [.int .i64 y.1, psy]) := Ext.setCells _ (Ext.new _ _) (Nat.le_refl _)
      have hc14 := setCells_at [.int .i64 y.1, psy] _ 0 2 r14 (Nat.le_refl 2)
      refine ⟨⟨by omega, by omega⟩, [.int .i64 y.1, psy], rfl, hh.1.ext hx, ?_⟩
      refine ⟨r14.all [.int .i64 y.1, psy] 0 (Nat.le_refl 2) (by simp only [List.all_cons, hh.2.2.1]; rfl), ?_⟩
      refine ⟨[.int .i64 y.1, psy], rfl, hc14, ?_⟩
      have x1314 := hx.trans x14
      have hsy := hh.2.1.keep plc_len fun b _ g2 => x1314.block b g2
      refine Or.inl ((refutes_ret n F hF (y.2.size + 1) y.1 y.2 lits (.pointer (some ⟨S, 0, none⟩)) s psy _ (Nat.lt_succ_self _) ((hS1.below ((x3.trans x313).trans x1314)).mono ((x3.trans x313).trans x1314).size) (hs.ext ((x13.trans x313).trans x1314)) (hsy.sl fun _ _ _ => trivial) hl hh.2.2.2.1).mono ?_)
      rintro _ w16 ⟨rfl, x16⟩
      refine br_split (fun h4 => ?_) (fun h4 => ?_)
      · have hy := hh.2.2.2.2.1 h4
        have x1316 := x1314.trans x16
        have rP16 := rP13.ext x1316
        refine ⟨[.int .i64 y.1, psy], rfl, hc14.ext x16, ?_⟩
        refine ⟨rP16.all [.int .i64 y.1, psy] 0 (Nat.le_refl 2) (by simp only [List.all_cons, hh.2.2.1]; rfl), ?_⟩
        refine ⟨[.int .i64 y.1, psy], rfl, setCells_at [.int .i64 y.1, psy] _ 0 2 rP16 (Nat.le_refl 2), ?_⟩
        rw [hT0, hy]
        exact fin y psy w16 ((x3.trans x313).trans x1316) hh.2.2.1 ((hh.2.1.keep plc_len fun b _ g2 => x1316.block b g2).wide (Nat.le_refl _) x1316.size)
      · have hn := hh.2.2.2.2.2 h4
        refine ⟨_, IntWalk.i64_in _ (by omega), ?_⟩
        refine hK (i + 1, _) _ _ (vs2 rfl (vint (by show (i : Int) + 1 = ((i + 1 : Nat) : Int); omega))) ⟨x1314.trans x16, by show i + 1 ≤ 2; omega, hn.1, hn.2⟩ (by show 2 - (i + 1) < 2 - i; omega) ?_
        ((repeat (first | (with_reducible exact Only.refl) | (with_reducible refine Only.skip ?_) | ((with_reducible refine Only.upd ?_ ?_); rfl) | ((with_reducible refine Only.over ?_ ?_ _); rfl) | ((with_reducible refine Only.hav ?_ ?_ ?_); rfl; rfl))))
    · have hTn := hnone (hca (by omega)) (hcb (by omega))
      have rPw := rP13.ext hx
      refine ⟨_, (hb13.ext hx).1, ?_⟩
      refine ⟨rPw.all [.int .i64 x, .slice (some ⟨w12.heap.size, 0, none⟩) 2 2] 0 (Nat.le_refl 2) rfl, ?_⟩
      refine ⟨[.int .i64 x, .slice (some ⟨w12.heap.size, 0, none⟩) 2 2], rfl, setCells_at [.int .i64 x, .slice (some ⟨w12.heap.size, 0, none⟩) 2 2] _ 0 2 rPw (Nat.le_refl 2), ?_⟩
      rw [hT0, hTn]
      exact fin (x, .cons ta.1 ta.2 (.cons tb.1 tb.2 .nil)) _ w ((x3.trans x313).trans hx) rfl ((hnode.keep plc_len fun b _ g2 => hx.block b g2).wide (Nat.le_refl _) hx.size)

end Go.Proofs.Ytfmflffggcphjaa
