/- Trimmed proofs: contract of the reference's l03Trim. -/
import Derived.Test.YtfmflffggcphjaaTm
import Derived.Test.YtfmflffggcphjaaVj
namespace Go.Proofs.Ytfmflffggcphjaa
open Go Go.Vc Go.RowKit Go.Sat
set_option linter.unusedVariables false

def TriS (t : Int × PF) (W : World) (r : Value) (w' : World) : Prop := Ext W w' ∧ ∃ ps, r = .agg #[.int .i64 t.1, ps] ∧ oneB ps = true ∧ PSl (freshB W) w' ps t.2
theorem tri_made {B lo : Nat} {w8 w9 wa wb : World} {ps : Value} {f : PF} {x : Int} {sp : List (Nat × Nat)} (hm : Made (.cells [.int .i64 0, .slice none 0 0].toArray 39) B w8) (hc : Clear B ((wa.heap.size, wb.heap.size) :: sp)) (hlo : lo ≤ B) (hs : PSl (freshB wa) wb ps f) (hx : Ext wb w8) (hx9 : Ext (Vc.setCells w8 B 0 [.int .i64 x, ps]) w9) :
    Chg (fun b => b = B) w8 w9 ∧ Rmy w8 B 2 ∧ CellsAt w9 B 0 [.int .i64 x, ps] ∧ PSl (fun b => wa.heap.size ≤ b ∧ b < wb.heap.size) w9 ps f := by
  have hr := hm.rmy
  have hch : Chg (fun b => b = B) w8 (Vc.setCells w8 B 0 [.int .i64 x, ps]) := Chg.setCells (S := fun b => b = B) rfl _ _ _
  have hcl := hc _ (List.mem_cons_self ..)
  refine ⟨hch.trans (.of hx9), hr, (setCells_at [.int .i64 x, ps] _ 0 2 hr (Nat.le_refl 2)).ext hx9, ?_⟩
  have h1 : PSl (fun b => wa.heap.size ≤ b ∧ b < wb.heap.size) wb ps f := (Fo.Sl.lt hs).mono fun b hb => hb
  exact Fo.Sl.ext hx9 (Fo.Sl.chg (S := fun b => b = B) (fun b hb e => by simp only at hcl; omega) hch (Fo.Sl.ext hx h1))

set_option maxHeartbeats 4000000 in
theorem l03Trim_ret (n : Nat) (F : Cnf) (hF : fOk n F = true) : ∀ (fuel : Nat) (x : Int) (f : PF) (lits : List Int) (fs s t : Value) (W : World), f.size < fuel → SlR eL allB W fs F → SlR eI allB W s lits → PSl anyB W t f → (∀ l ∈ lits, litOk n l = true) → lits.length + f.size ≤ 10000000 → chk F n fuel x f lits = true →
    Ret Try.prog 102 #[fv n fs, s, .agg #[.int .i64 x, t]] W (TriS (trm F n fuel x f lits) W) := by
  intro fuel
  induction fuel with
  | zero => intro x f lits fs s t W h; omega
  | succ k ih =>
    intro x f lits fs s t W hsz hfs hs ht hl hll hck
    have hn : n ≤ 400 := by simp only [fOk, Bool.and_eq_true, decide_eq_true_eq] at hF; omega
    have x0 : Ext W (W.alloc (.cells #[.int .i64 n, fs] 25)) := Ext.new _ _
    have x01 : Ext (W.alloc (.cells #[.int .i64 n, fs] 25)) ((W.alloc (.cells #[.int .i64 n, fs] 25)).alloc (.cells #[.int .i64 x, t] 39)) := Ext.new _ _
    have x02 : Ext ((W.alloc (.cells #[.int .i64 n, fs] 25)).alloc (.cells #[.int .i64 x, t] 39)) (((W.alloc (.cells #[.int .i64 n, fs] 25)).alloc (.cells #[.int .i64 x, t] 39)).alloc (.cells #[.int .i64 0, .slice none 0 0] 39)) := Ext.new _ _
    have hbf := (boxedAll W [.int .i64 n, fs] 25).ext (x01.trans x02)
    have hb := (boxedAll (W.alloc (.cells #[.int .i64 n, fs] 25)) [.int .i64 x, t] 39).ext x02
    have rP := Rmy.new ((W.alloc (.cells #[.int .i64 n, fs] 25)).alloc (.cells #[.int .i64 x, t] 39)) [.int .i64 0, .slice none 0 0] 39
    have e1 : (W.alloc (.cells #[.int .i64 n, fs] 25)).heap.size = W.heap.size + 1 := by simp
    have e2 : ((W.alloc (.cells #[.int .i64 n, fs] 25)).alloc (.cells #[.int .i64 x, t] 39)).heap.size = W.heap.size + 2 := by simp
    have e3 : (((W.alloc (.cells #[.int .i64 n, fs] 25)).alloc (.cells #[.int .i64 x, t] 39)).alloc (.cells #[.int .i64 0, .slice none 0 0] 39)).heap.size = W.heap.size + 3 := by simp
    have x1 := (x0.trans x01).trans x02
    -- a result is stored
    have fin : ∀ (y : Int × PF) (ps : Value) (w : World), Ext (((W.alloc (.cells #[.int .i64 n, fs] 25)).alloc (.cells #[.int .i64 x, t] 39)).alloc (.cells #[.int .i64 0, .slice none 0 0] 39)) w → oneB ps = true → PSl (fun b => W.heap.size + 3 ≤ b) w ps y.2 →
        TriS y W (.agg #[.int .i64 y.1, ps]) (Vc.setCells w ((W.alloc (.cells #[.int .i64 n, fs] 25)).alloc (.cells #[.int .i64 x, t] 39)).heap.size 0 [.int .i64 y.1, ps]) := by
      intro y ps w hx hone hsl
      have hch : Chg (fun b => b = ((W.alloc (.cells #[.int .i64 n, fs] 25)).alloc (.cells #[.int .i64 x, t] 39)).heap.size) w (Vc.setCells w ((W.alloc (.cells #[.int .i64 n, fs] 25)).alloc (.cells #[.int .i64 x, t] 39)).heap.size 0 [.int .i64 y.1, ps]) := Chg.setCells (S := fun b => b = ((W.alloc (.cells #[.int .i64 n, fs] 25)).alloc (.cells #[.int .i64 x, t] 39)).heap.size) rfl _ _ _
      refine ⟨(x1.trans hx).chg hch (fun b hb => by rw [hb, e2]; omega), ps, rfl, hone, ?_⟩
      exact (Fo.Sl.chg (S := fun b => b = ((W.alloc (.cells #[.int .i64 n, fs] 25)).alloc (.cells #[.int .i64 x, t] 39)).heap.size) (fun b hb e => by rw [e2] at e; omega) hch hsl).mono fun b hb => by unfold freshB; omega
    refine ret_of_vc ties mixed Try.func102 rfl (by kernel_rfl) rfl rfl ?_
    refine ⟨[.int .i64 n, fs], rfl, hbf, ?_⟩
    refine Or.inl ((spec_Propagate n F lits fs s _ (hfs.ext x1) (hs.ext x1)).mono ?_)
    rintro r w3 ⟨x3, o, ho, sv, rfl, -, -⟩
    have hpo := ho
    unfold PropO at hpo
    rw [if_pos ⟨hF, litsOk_iff.2 hl⟩, Int.toNat_natCast] at hpo
    obtain ⟨u, hup, rfl⟩ := hpo
    have rP3 := rP.ext x3
    cases u with
    | none =>
      have ht0 := trm_conf (F := F) (n := n) (k := k) (x := x) (f := f) (conf_none hup)
      rw [ht0]
      refine ⟨rP3.all [.int .i64 0, .slice none 0 0] 0 (Nat.le_refl 2) rfl, ?_⟩
      refine ⟨[.int .i64 0, .slice none 0 0], rfl, setCells_at [.int .i64 0, .slice none 0 0] _ 0 2 rP3 (Nat.le_refl 2), ?_⟩
      exact fin (0, .nil) (.slice none 0 0) w3 x3 rfl ⟨_, _, rfl, Nat.zero_le _, .inl rfl⟩
    | some u =>
    have hcf := conf_some hup
    obtain ⟨hx1, hxn, y1, k1, y2, k2, rfl, hck1, hck2⟩ := chk_split hck hcf
    obtain ⟨pa, pc, rfl, hpl, hpat⟩ := id ht
    obtain ⟨b, o, rfl, -, hat⟩ := hpat.resolve_left (by simp [Fo.len])
    obtain ⟨⟨s1, hc1, hs1⟩, hr⟩ := hat.sl
    obtain ⟨⟨s2, hc2, hs2⟩, -⟩ := hr.sl
    have htr := trm_two (n := n) (k := k) (x := x) (x1 := y1) (x2 := y2) (k1 := k1) (k2 := k2) hcf
    have hz1 := trm_size (F := F) (n := n) k y1 k1 (lits ++ [-x])
    have hz2 := trm_size (F := F) (n := n) k y2 k2 (lits ++ [x])
    obtain ⟨ta, hta⟩ : ∃ ta, trm F n k y1 k1 (lits ++ [-x]) = ta := ⟨_, rfl⟩
    obtain ⟨tb, htb⟩ : ∃ tb, trm F n k y2 k2 (lits ++ [x]) = tb := ⟨_, rfl⟩
    rw [hta] at hz1 htr
    rw [htb] at hz2 htr
    rw [htr]
    simp only [Fo.size] at hsz hll
    have hlx : litOk n x = true := litOk_iff.2 (by omega)
    have hlnx : litOk n (-x) = true := litOk_iff.2 (by omega)
    have hsnoc : ∀ y, litOk n y = true → ∀ l ∈ lits ++ [y], litOk n l = true := fun y hy l hm => by
      rcases List.mem_append.1 hm with hm | hm
      · exact hl l hm
      · rw [List.mem_singleton.1 hm]; exact hy
    have hb3 := hb.ext x3
    have hbf3 := hbf.ext x3
    have x13 := x1.trans x3
    refine .inr (.inr (hyb_ruleA ties mixed 11 9 39 [(0, .quiet), (1, .quiet), (2, .quiet), (3, .quiet), (4, .quiet), (6, .quiet), (7, .quiet), (8, .quiet), (9, .quiet), (5, .loud), (10, .loud), (12, .wild)] rfl rfl rfl rfl rfl (by kernel_rfl) ?_))
    refine ⟨[.int .i64 n, fs], rfl, hbf3, _, hb3.1, -x, (congrArg _ (Int.zero_sub _)).trans (IntWalk.i64_in _ (by omega)), _, hb3.2.1, ⟨by decide, by simp [Fo.len]⟩, [.int .i64 y1, s1], rfl, hc1.ext x13, ?_⟩
    intro w4 hx4
    refine Or.inl ((l03With_ret lits (-x) s w4 (hs.ext (x13.trans hx4)) (by omega)).mono ?_)
    intro v5 w5 hv5
    refine ⟨hv5.1, ?_⟩
    intro w6 hx6
    have x36 := (hx4.trans hv5.1).trans hx6
    have hrun1 := ih y1 k1 (lits ++ [-x]) fs v5 s1 w6 (by omega) (hfs.ext (x13.trans x36)) (hv5.sl.ext hx6) (hs1.ext (x13.trans x36)) (hsnoc _ hlnx) (by simp only [List.length_append, List.length_singleton]; omega) hck1
    rw [hta] at hrun1
    refine Or.inl ((hrun1).mono ?_)
    rintro r w7 ⟨x7, ps1, rfl, hone1, hsl1⟩
    refine ⟨x7, ?_⟩
    intro B1 w8 hm8 hcl8 hx8
    have x38 := (x36.trans x7).trans hx8
    have hB1 : w3.heap.size ≤ B1 := by
      have := hcl8 (0, w3.heap.size) (by simp)
      simp only at this
      omega
    refine ⟨(hm8.rmy (l := [.int .i64 0, .slice none 0 0])).all [.int .i64 ta.1, ps1] 0 (Nat.le_refl 2) (by simp only [List.all_cons, hone1]; rfl), Ext.setCells _ x38 hB1, ?_⟩
    intro w9 hx9
    obtain ⟨hch9, -, hcA, hslA⟩ := tri_made hm8 hcl8 hB1 hsl1 hx8 hx9
    have hB1lt : B1 < w9.heap.size := World.block_lt_of_cell? _ _ hcA.1
    have x39 : Ext w3 w9 := x38.chg hch9 (fun b hb => by rw [hb]; exact hB1)
    have z67 : w3.heap.size ≤ w6.heap.size := x36.size
    have z79 : w7.heap.size ≤ w9.heap.size := Nat.le_trans hx8.size hch9.size
    clear hm8 hcl8 hx8 hx9 hch9 x38 hsl1
    have x19 := x13.trans x39
    refine .inr (.inr (hyb_ruleA ties mixed 10 10 39 [(0, .quiet), (1, .quiet), (2, .quiet), (3, .quiet), (5, .quiet), (6, .quiet), (7, .quiet), (8, .quiet), (4, .loud), (9, .loud), (11, .wild)] rfl rfl rfl rfl rfl (by kernel_rfl) ?_))
    refine ⟨[.int .i64 n, fs], rfl, hbf3.ext x39, _, (hb3.ext x39).1, _, (hb3.ext x39).2.1, ⟨by decide, by simp [Fo.len]⟩, [.int .i64 y2, s2], rfl, hc2.ext x19, ?_⟩
    intro u4 hy4
    refine Or.inl ((l03With_ret lits x s u4 (hs.ext (x19.trans hy4)) (by omega)).mono ?_)
    intro q5 u5 hq5
    refine ⟨hq5.1, ?_⟩
    intro u6 hy6
    have y96 := (hy4.trans hq5.1).trans hy6
    have hrun2 := ih y2 k2 (lits ++ [x]) fs q5 s2 u6 (by omega) (hfs.ext (x19.trans y96)) (hq5.sl.ext hy6) (hs2.ext (x19.trans y96)) (hsnoc _ hlx) (by simp only [List.length_append, List.length_singleton]; omega) hck2
    rw [htb] at hrun2
    refine Or.inl ((hrun2).mono ?_)
    rintro r u7 ⟨y7, ps2, rfl, hone2, hsl2⟩
    refine ⟨y7, ?_⟩
    intro B2 u8 hm8 hcl8 hy8
    have y98 := (y96.trans y7).trans hy8
    have hB2 : w9.heap.size ≤ B2 := by
      have := hcl8 (0, w9.heap.size) (by simp)
      simp only at this
      omega
    refine ⟨(hm8.rmy (l := [.int .i64 0, .slice none 0 0])).all [.int .i64 tb.1, ps2] 0 (Nat.le_refl 2) (by simp only [List.all_cons, hone2]; rfl), Ext.setCells _ y98 hB2, ?_⟩
    intro w15 hy9
    obtain ⟨hch15, -, hcB, hslB⟩ := tri_made hm8 hcl8 hB2 hsl2 hy8 hy9
    have x915 : Ext w9 w15 := y98.chg hch15 (fun b hb => by rw [hb]; exact hB2)
    have z96 : w9.heap.size ≤ u6.heap.size := y96.size
    clear hm8 hcl8 hy8 hy9 hch15 y98 hsl2
    have hcA15 := hcA.ext x915
    have hslA15 := Fo.Sl.ext x915 hslA
    have x115 := x19.trans x915
    have x315 := x39.trans x915
    have hxr := x3.size
    refine ⟨[.int .i64 n, fs], rfl, hbf3.ext x315, [.int .i64 ta.1, ps1], rfl, hcA15, ?_⟩
    refine Or.inl ((l03Check_ret n F hF (ta.2.size + 1) ta.1 ta.2 lits fs s ps1 _ (Nat.lt_succ_self _) (hfs.ext x115) (hs.ext x115) (hslA15.mono fun _ _ => trivial) hl (by omega)).mono ?_)
    rintro _ w16 ⟨rfl, x16⟩
    have x316 := x315.trans x16
    have hslA16 := Fo.Sl.ext x16 hslA15
    refine br_split (fun h4 => ?_) (fun h4 => ?_)
    · have hy : pickT F n lits x ta tb = ta := by unfold pickT; rw [if_pos h4]
      have rP16 := rP3.ext x316
      refine ⟨[.int .i64 ta.1, ps1], rfl, hcA15.ext x16, ?_⟩
      refine ⟨rP16.all [.int .i64 ta.1, ps1] 0 (Nat.le_refl 2) (by simp only [List.all_cons, hone1]; rfl), ?_⟩
      refine ⟨[.int .i64 ta.1, ps1], rfl, setCells_at [.int .i64 ta.1, ps1] _ 0 2 rP16 (Nat.le_refl 2), ?_⟩
      rw [hy]
      exact fin ta ps1 w16 (x3.trans x316) hone1 (hslA16.mono fun b hb => by omega)
    refine ⟨[.int .i64 n, fs], rfl, hbf3.ext x316, [.int .i64 tb.1, ps2], rfl, hcB.ext x16, ?_⟩
    have x116 := x115.trans x16
    refine Or.inl ((l03Check_ret n F hF (tb.2.size + 1) tb.1 tb.2 lits fs s ps2 _ (Nat.lt_succ_self _) (hfs.ext x116) (hs.ext x116) ((Fo.Sl.ext x16 hslB).mono fun _ _ => trivial) hl (by omega)).mono ?_)
    rintro _ w17 ⟨rfl, x17⟩
    have x317 := x316.trans x17
    have hslA17 := Fo.Sl.ext x17 hslA16
    have hslB17 := Fo.Sl.ext (x16.trans x17) hslB
    have rP17 := rP3.ext x317
    refine br_split (fun h5 => ?_) (fun h5 => ?_)
    · have hy : pickT F n lits x ta tb = tb := by unfold pickT; rw [if_neg (by rw [h4]; decide), if_pos h5]
      refine ⟨[.int .i64 tb.1, ps2], rfl, hcB.ext (x16.trans x17), ?_⟩
      refine ⟨rP17.all [.int .i64 tb.1, ps2] 0 (Nat.le_refl 2) (by simp only [List.all_cons, hone2]; rfl), ?_⟩
      refine ⟨[.int .i64 tb.1, ps2], rfl, setCells_at [.int .i64 tb.1, ps2] _ 0 2 rP17 (Nat.le_refl 2), ?_⟩
      rw [hy]
      exact fin tb ps2 w17 (x3.trans x317) hone2 (hslB17.mono fun b hb => by omega)
    have hy : pickT F n lits x ta tb = (x, .cons ta.1 ta.2 (.cons tb.1 tb.2 .nil)) := by unfold pickT; rw [if_neg (by rw [h4]; decide), if_neg (by rw [h5]; decide)]
    have x18 : Ext w17 (w17.alloc (.cells [.int .i64 ta.1, ps1, .int .i64 tb.1, ps2].toArray 39)) := Ext.new _ _
    have hrow := boxedAll w17 [.int .i64 ta.1, ps1, .int .i64 tb.1, ps2] 39
    have rP18 := rP17.ext x18
    have hz17 := (x3.trans x317).size
    have hnode : PSl (fun b => W.heap.size + 3 ≤ b) (w17.alloc (.cells [.int .i64 ta.1, ps1, .int .i64 tb.1, ps2].toArray 39)) (.slice (some ⟨w17.heap.size, 0, none⟩) 2 2) (.cons ta.1 ta.2 (.cons tb.1 tb.2 .nil)) :=
      ⟨_, 2, rfl, by show 2 ≤ maxLen; decide, .inr ⟨w17.heap.size, 0, rfl, by omega, ⟨ps1, ⟨hrow.1, hrow.2.1, trivial⟩, (Fo.Sl.ext x18 hslA17).mono fun b hb => by omega⟩, ⟨ps2, ⟨hrow.2.2.1, hrow.2.2.2.1, trivial⟩, (Fo.Sl.ext x18 hslB17).mono fun b hb => by omega⟩, trivial⟩⟩
    refine ⟨_, (hb3.ext x317).1, [.int .i64 ta.1, ps1], rfl, hcA15.ext (x16.trans x17), [.int .i64 tb.1, ps2], rfl, hcB.ext (x16.trans x17), ?_⟩
    refine ⟨rP18.all [.int .i64 x, .slice (some ⟨w17.heap.size, 0, none⟩) 2 2] 0 (Nat.le_refl 2) rfl, ?_⟩
    refine ⟨[.int .i64 x, .slice (some ⟨w17.heap.size, 0, none⟩) 2 2], rfl, setCells_at [.int .i64 x, .slice (some ⟨w17.heap.size, 0, none⟩) 2 2] _ 0 2 rP18 (Nat.le_refl 2), ?_⟩
    rw [hy]
    exact fin (x, .cons ta.1 ta.2 (.cons tb.1 tb.2 .nil)) _ _ ((x3.trans x317).trans x18) rfl hnode

end Go.Proofs.Ytfmflffggcphjaa
