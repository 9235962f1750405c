/- The law FnExactPutTerm: whatever the arguments, it returns true; all that was there is as it was. No condition. -/
import Derived.Test.YtkoaicjcanplaaaEg
import Derived.Test.YtkoaicjcanplaaaMt
import Derived.Test.YtkoaicjcanplaaaTo
import Derived.Test.YtkoaicjcanplaaaZw
import Derived.WalkKit
import Derived.ProofKit
import Derived.OpenShut
import Derived.ShutString
import Derived.ChangeOld
import Derived.Below
import Derived.ChangeMaps5
namespace Go.Proofs.Ytkoaicjcanplaaa.lawFnExactPutTerm
open Go.ChangeMaps (open_string shut_string)
open Go Go.Vc Go.ChangeShapes Go.WideShapes Go.ChangeAt Go.RowKit
set_option linter.unusedVariables false

set_option maxRecDepth 100000 in
set_option maxHeartbeats 16000000 in
theorem walk (W : World) (x : Lab) (s : Value) (f : TF) (hs : TSl anyB W s f) (hp : f.All okL) (hx : okL x) (a1 : ByteArray) (w1 : a1.size ≤ maxLen) (y : Lab) (t : Value) (g : TF) (ht : TSl anyB W t g) (hpg : g.All okL) (hy : okL y) :
    Ret Try.prog 8 #[tv x s, .string a1, tv y t] W (fun v w' => v = .bool true ∧ Ext W w') := by
  have x0 : Ext W (W.alloc (.cells (tc x s).toArray 43)) := Ext.new _ _
  have x1 : Ext W ((W.alloc (.cells (tc x s).toArray 43)).alloc (.cells (tc y t).toArray 43)) := x0.trans (Ext.new _ _)
  have hb := (boxedAll W (tc x s) 43).ext (Ext.new _ (.cells (tc y t).toArray 43))
  have hb' := boxedAll (W.alloc (.cells (tc x s).toArray 43)) (tc y t) 43
  obtain ⟨om, hom⟩ : ∃ om, putP (x, f) (y, g) a1 = om := ⟨_, rfl⟩
  obtain ⟨o, ho⟩ : ∃ o, om.getD zeroT = o := ⟨_, rfl⟩
  obtain ⟨bb, hbb⟩ : ∃ bb, om.isSome = bb := ⟨_, rfl⟩
  have hsp : ∀ s t w, TSl anyB w s f → TSl anyB w t g → Ret Try.prog 40 #[tv x s, .string a1, tv y t] w (FirR noF bb o w) := fun s t w h h' => by rw [← ho, ← hbb, ← hom]; exact spec_PutTerm x y f g s t a1 w h h' hx hp hy hpg
  have him : ∀ s t w, TSl anyB w s f → TSl anyB w t g → Ret Try.prog 41 #[tv x s, .string a1, tv y t] w (CFir bb o w) := fun s t w h h' => by rw [← ho, ← hbb, ← hom]; exact impl_PutTerm x y f g s t a1 w h h' hx hp hy hpg
  have hosz : o.2.size ≤ 1048576 := by have := putP_sz (x, f) (y, g) a1; rw [hom, ho] at this; omega
  clear ho hbb hom
  refine ret_of_vc ties mixed Try.func8 rfl (by kernel_rfl) rfl rfl ?_
  refine br_dec (fun _ => ⟨rfl, x1⟩) (fun hn => ?_)
  refine ⟨tc x s, rfl, hb, ?_⟩
  refine Or.inl ((szTerm_ret f x s 1048576 _ (hs.ext x1) hx hp (by decide) (by decide)).mono ?_)
  rintro _ w2 ⟨x2, rfl | ⟨hsz, rfl⟩⟩
  · exact ⟨rfl, x1.trans x2⟩
  refine br_dec_false (by omega) ?_
  refine ⟨tc y t, rfl, hb'.ext x2, ?_⟩
  refine Or.inl ((szTerm_ret g y t _ _ (ht.ext (x1.trans x2)) hy hpg (by omega) (by omega)).mono ?_)
  rintro _ w3 ⟨x3, rfl | ⟨hsz', rfl⟩⟩
  · exact ⟨rfl, (x1.trans x2).trans x3⟩
  refine br_dec_false (by omega) ?_
  have hfw := size_wt f
  have hgw := size_wt g
  have hsz : f.size ≤ 1048576 := by omega
  have hsz' : g.size ≤ 1048576 := by omega
  have x13 := x2.trans x3
  have x03 := x1.trans x13
  replace hb := hb.ext x13
  replace hb' := hb'.ext x13
  replace hs := hs.ext x03
  replace ht := ht.ext x03
  -- what the reference gives
  refine .inr (.inr (hyb_ruleA ties mixed 9 8 25 [(0, .quiet), (2, .quiet), (3, .quiet), (1, .loud), (4, .loud), (5, .loud), (6, .quiet), (7, .quiet), (8, .pure), (10, .wild), (11, .quiet)] rfl rfl rfl rfl rfl (by kernel_rfl) ?_))
  refine ⟨tc x s, rfl, hb, tc y t, rfl, hb', ?_⟩
  intro w4 x4
  refine Or.inl ((toTerm_ret f x s w4 (hs.ext x4) hsz).mono ?_)
  rintro _ w5 ⟨x5, s5, rfl, hs5⟩
  refine ⟨x5, ?_⟩
  intro w6 x6
  have x36 := (x4.trans x5).trans x6
  refine Or.inl ((toTerm_ret g y t w6 (ht.ext x36) hsz').mono ?_)
  rintro _ w7 ⟨x7, s7, rfl, hs7⟩
  refine ⟨x7, ?_⟩
  intro w8 x8
  refine Or.inl ((hsp s5 s7 w8 ((hs5.ext ((x6.trans x7).trans x8)).mono fun _ _ => trivial) ((hs7.ext x8).mono fun _ _ => trivial)).mono ?_)
  rintro _ w9 ⟨v9, rfl, x9, ss, rfl, hss⟩
  refine ⟨x9, ?_⟩
  intro BS w10 hm10 hcl10 x10
  have h1 := hcl10 (0, w3.heap.size) (by simp)
  have h2 := hcl10 (w8.heap.size, w9.heap.size) (by simp)
  simp only at h1 h2
  have hBS : w3.heap.size ≤ BS := by omega
  have hss' : TSl (fun b => b ≠ BS) w9 ss o.2 := hss.lt.mono fun b hb => by
    have hb1 := hb.1
    have hb2 := hb.2
    rcases hb1 with hb1 | hb1
    · exact hb1.elim
    · omega
  have htm := term_made (t := o) hm10 hss' x10 (fun b hb => hb)
  have x310 := ((((x36.trans x7).trans x8).trans x9)).trans x10
  refine ⟨htm.1, Ext.setCells _ x310 hBS, ?_⟩
  intro w11 x11
  have hcS := (htm.2.2 w11 x11).1
  have x311 : Ext w3 w11 := (x310.chg htm.2.1 (fun b hb => by rw [hb]; exact hBS)).trans x11
  have zBS : BS < w11.heap.size := World.block_lt_of_cell? _ _ hcS.1
  have hS : TSl (fun b => b < w11.heap.size) w11 ss o.2 := (htm.2.2 w11 x11).2.lt.mono fun b hb => hb.2
  clear hm10 hcl10 htm x310 hss hss' x10 x11 hs5 hs7 x36
  -- what the program gives
  refine ⟨tc x s, rfl, hb.ext x311, ?_⟩
  refine Or.inl ((toTerm_sep f x s w11 (hs.ext x311) hsz).mono ?_)
  rintro _ w12 ⟨x12, s12, rfl, hsep⟩
  have k12 := keep5 (W := w12) (x := x) (tc_one hsep.any)
  have c12 := k12.2.1
  have x12b := k12.2.2
  have z12 : w12.heap.size < (setCells (w12.alloc (.cells #[.int .i64 0, .int .i64 0, .int .i64 0, .string ByteArray.empty, .slice none 0 0] 25)) w12.heap.size 0 (tc x s12)).heap.size := World.block_lt_of_cell? _ _ c12.1
  refine ⟨k12.1, ?_⟩
  have x1112 := x12.trans x12b
  have hsepx := hsep.ext (Nat.le_refl _) x12b
  refine ⟨tc y t, rfl, hb'.ext (x311.trans x1112), ?_⟩
  refine Or.inl ((toTerm_sep g y t (setCells (w12.alloc (.cells #[.int .i64 0, .int .i64 0, .int .i64 0, .string ByteArray.empty, .slice none 0 0] 25)) w12.heap.size 0 (tc x s12)) (ht.ext (x311.trans x1112)) hsz').mono ?_)
  rintro _ w14 ⟨x14, t14, rfl, hsepy⟩
  have k14 := keep5 (W := w14) (x := y) (tc_one hsepy.any)
  have c14 := k14.2.1
  have x14b := k14.2.2
  have z14 : w14.heap.size < (setCells (w14.alloc (.cells #[.int .i64 0, .int .i64 0, .int .i64 0, .string ByteArray.empty, .slice none 0 0] 25)) w14.heap.size 0 (tc y t14)).heap.size := World.block_lt_of_cell? _ _ c14.1
  refine ⟨k14.1, ?_⟩
  have x1214 := x14.trans x14b
  have hsepx14 := hsepx.ext (Nat.le_of_lt z12) x1214
  have hsepy14 := hsepy.ext (Nat.le_refl _) x14b
  refine ⟨tc x s12, rfl, c12.ext x1214, tc y t14, rfl, c14, ?_⟩
  refine Or.inl ((him s12 t14 (setCells (w14.alloc (.cells #[.int .i64 0, .int .i64 0, .int .i64 0, .string ByteArray.empty, .slice none 0 0] 25)) w14.heap.size 0 (tc y t14)) hsepx14.any hsepy14.any).mono ?_)
  rintro _ w16 ⟨v16, rfl, x16, si, rfl, hsi⟩
  have k16 := keep5 (W := w16) (x := o.1) (s := si) (tc_one hsi.any)
  have cI := k16.2.1
  have x16b := k16.2.2
  have z16 : w16.heap.size < (setCells (w16.alloc (.cells #[.int .i64 0, .int .i64 0, .int .i64 0, .string ByteArray.empty, .slice none 0 0] 25)) w16.heap.size 0 (tc o.1 si)).heap.size := World.block_lt_of_cell? _ _ cI.1
  refine ⟨k16.1, ?_⟩
  have x1416 := x16.trans x16b
  have x1216 := x1214.trans x1416
  have x1116 := x1112.trans x1216
  have zA := x12.size
  have zB := x14.size
  have zC := x16.size
  have hI := hsi.ext (Nat.le_refl _) x16b
  refine ⟨_, rfl, cI, _, rfl, hcS.ext x1116, ?_⟩
  refine Or.inl ((eqTerm_ret _ _ _ _ si ss _ hI.any ((hS.ext x1116).mono fun _ _ => trivial)).mono ?_)
  rintro _ w17 ⟨rfl, x17⟩
  refine br_ndec (fun h => absurd ⟨rfl, rfl⟩ h) (fun _ => ?_)
  refine br_false (by simp) ?_
  refine .inr (.inr (hyb_rule ties mixed [(0, .quiet), (1, .quiet), (2, .loud), (3, .quiet), (4, .quiet)] (by kernel_rfl) ?_))
  have x1117 := x1116.trans x17
  have x1217 := x1216.trans x17
  refine ⟨tc x s12, rfl, c12.ext x1217, tc x s, rfl, hb.ext (x311.trans x1117), ?_⟩
  intro w18 x18
  refine Or.inl ((toTerm_ret f x s w18 (hs.ext ((x311.trans x1117).trans x18)) hsz).mono ?_)
  rintro _ w19 ⟨x19, s19, rfl, hs19⟩
  have x1219 := (x1217.trans x18).trans x19
  refine ⟨x19, .bool true, fun w' hw' => (eqTerm_ret f f x x s12 s19 _ (hsepx.any.ext (x1219.trans hw')) ((hs19.ext hw').mono fun _ _ => trivial)).mono ?_, ?_⟩
  · rintro _ w'' ⟨rfl, h⟩
    exact ⟨by simp, h⟩
  intro w20 x20
  have x1720 := (x18.trans x19).trans x20
  have x1420 := (x1416.trans x17).trans x1720
  have x1120 := x1117.trans x1720
  refine .inr (.inr (hyb_rule ties mixed [(0, .quiet), (1, .quiet), (2, .loud), (3, .quiet), (4, .quiet)] (by kernel_rfl) ?_))
  refine ⟨tc y t14, rfl, c14.ext x1420, tc y t, rfl, hb'.ext (x311.trans x1120), ?_⟩
  intro w21 x21
  refine Or.inl ((toTerm_ret g y t w21 (ht.ext ((x311.trans x1120).trans x21)) hsz').mono ?_)
  rintro _ w22 ⟨x22, s22, rfl, hs22⟩
  have x1422 := (x1420.trans x21).trans x22
  refine ⟨x22, .bool true, fun w' hw' => (eqTerm_ret g g y y t14 s22 _ (hsepy14.any.ext (x1422.trans hw')) ((hs22.ext hw').mono fun _ _ => trivial)).mono ?_, ?_⟩
  · rintro _ w'' ⟨rfl, h⟩
    exact ⟨by simp, h⟩
  intro w23 x23
  have x1623 := (x17.trans x1720).trans ((x21.trans x22).trans x23)
  have x1423 := x1416.trans x1623
  have x1223 := x1214.trans x1423
  have x1123 := x1112.trans x1223
  have z23 := x1623.size
  have zD := x12b.size
  have zE := x14b.size
  have zF := x16b.size
  -- marks on the arguments
  refine ⟨tc x s12, rfl, c12.ext x1223, ?_⟩
  refine Or.inl ((markTerm_ret f x s12 w11.heap.size w12.heap.size 1 _ (hsepx.ext (Nat.le_of_lt z12) x1223) (by omega) (by decide) (by omega)).mono ?_)
  rintro _ w24 ⟨rfl, -, hch24⟩
  have z24 := hch24.size
  have c14m := hch24.cells (b := w14.heap.size) (fun e => by omega) (c14.ext x1423)
  have hsepy24 : TSep w24 t14 g (setCells (w12.alloc (.cells #[.int .i64 0, .int .i64 0, .int .i64 0, .string ByteArray.empty, .slice none 0 0] 25)) w12.heap.size 0 (tc x s12)).heap.size w14.heap.size := hsepy14.keep tlc_len fun b g1 g2 => (hch24.block b (by omega) (by omega)).trans (x1423.block b (by omega))
  refine ⟨tc y t14, rfl, c14m, ?_⟩
  refine Or.inl ((markTerm_ret g y t14 (setCells (w12.alloc (.cells #[.int .i64 0, .int .i64 0, .int .i64 0, .string ByteArray.empty, .slice none 0 0] 25)) w12.heap.size 0 (tc x s12)).heap.size w14.heap.size _ w24 hsepy24 (by omega) (by omega) (by omega)).mono ?_)
  rintro _ w25 ⟨rfl, -, hch25⟩
  have z25 := hch25.size
  have cI25 := hch25.cells (b := w16.heap.size) (fun e => by omega) (hch24.cells (b := w16.heap.size) (fun e => by omega) (cI.ext x1623))
  have cS25 := hch25.cells (b := BS) (fun e => by omega) (hch24.cells (b := BS) (fun e => by omega) (hcS.ext (x1123)))
  have hS25 := Fo.Sl.chg (fun b hb e => by omega) hch25 (Fo.Sl.chg (fun b hb e => by omega) hch24 (hS.ext x1123))
  have hI25 : TSep w25 si o.2 (setCells (w14.alloc (.cells #[.int .i64 0, .int .i64 0, .int .i64 0, .string ByteArray.empty, .slice none 0 0] 25)) w14.heap.size 0 (tc y t14)).heap.size w16.heap.size := hI.keep tlc_len fun b g1 g2 => (hch25.block b (by omega) (by omega)).trans ((hch24.block b (by omega) (by omega)).trans (x1623.block b (by omega)))
  refine ⟨_, rfl, cI25, _, rfl, cS25, ?_⟩
  refine Or.inl ((eqTerm_ret _ _ _ _ si ss _ hI25.any (hS25.mono fun _ _ => trivial)).mono ?_)
  rintro _ w26 ⟨rfl, x26⟩
  refine br_ndec (fun h => absurd ⟨rfl, rfl⟩ h) (fun _ => ?_)
  refine br_false (by simp) ?_
  -- marks on the result
  have z26 := x26.size
  refine ⟨_, rfl, cI25.ext x26, ?_⟩
  refine Or.inl ((markTerm_ret _ _ si (setCells (w14.alloc (.cells #[.int .i64 0, .int .i64 0, .int .i64 0, .string ByteArray.empty, .slice none 0 0] 25)) w14.heap.size 0 (tc y t14)).heap.size w16.heap.size 1 _ (hI25.ext (by omega) x26) (by omega) (by decide) (by omega)).mono ?_)
  rintro _ w27 ⟨rfl, hI27, hch27⟩
  have z27 := hch27.size
  have cI27 := hch27.cells (b := w16.heap.size) (fun e => by omega) (cI25.ext x26)
  have cS27 := hch27.cells (b := BS) (fun e => by omega) (cS25.ext x26)
  have hS27 := Fo.Sl.chg (fun b hb e => by omega) hch27 (hS25.ext x26)
  refine ⟨_, rfl, cI27, ?_⟩
  refine Or.inl ((heldTerm_ret _ _ si 1 _ hI27.any (by decide) (by omega)).mono ?_)
  rintro _ w28 ⟨rfl, x28⟩
  refine br_dec (fun h => absurd rfl h) (fun _ => ?_)
  -- once more
  have z311 := x311.size
  have x323 := x311.trans x1123
  have xa : Ext w3 w28 := ((((x323.chg hch24 fun b hb => by omega).chg hch25 fun b hb => by omega).trans x26).chg hch27 fun b hb => by omega).trans x28
  refine .inr (.inr (hyb_ruleA ties mixed 9 17 25 [(0, .quiet), (2, .quiet), (3, .quiet), (1, .loud), (4, .loud), (5, .loud), (6, .quiet), (7, .quiet), (8, .pure), (10, .wild), (11, .quiet)] rfl rfl rfl rfl rfl (by kernel_rfl) ?_))
  refine ⟨tc x s, rfl, hb.ext xa, tc y t, rfl, hb'.ext xa, ?_⟩
  intro w29 x29
  refine Or.inl ((toTerm_ret f x s w29 (hs.ext (xa.trans x29)) hsz).mono ?_)
  rintro _ w30 ⟨x30, s30, rfl, hs30⟩
  refine ⟨x30, ?_⟩
  intro w31 x31
  have x2831 := (x29.trans x30).trans x31
  refine Or.inl ((toTerm_ret g y t w31 (ht.ext (xa.trans x2831)) hsz').mono ?_)
  rintro _ w32 ⟨x32, s32, rfl, hs32⟩
  refine ⟨x32, ?_⟩
  intro w33 x33
  refine Or.inl ((him s30 s32 w33 ((hs30.ext ((x31.trans x32).trans x33)).mono fun _ _ => trivial) ((hs32.ext x33).mono fun _ _ => trivial)).mono ?_)
  rintro _ w34 ⟨v34, rfl, x34, sj, rfl, hsj⟩
  refine ⟨x34, ?_⟩
  intro BH w35 hm35 hcl35 x35
  have h3 := hcl35 (0, w28.heap.size) (by simp)
  have h4 := hcl35 (w33.heap.size, w34.heap.size) (by simp)
  simp only at h3 h4
  have hBH : w28.heap.size ≤ BH := by omega
  have hsj' : TSl (fun b => b ≠ BH) w34 sj o.2 := hsj.sl fun b g1 g2 => by omega
  have htm := term_made (t := o) hm35 hsj' x35 (fun b hb => hb)
  have x2835 := ((((x2831.trans x32).trans x33).trans x34)).trans x35
  refine ⟨htm.1, Ext.setCells _ x2835 hBH, ?_⟩
  intro w36 x36
  have cJ := (htm.2.2 w36 x36).1
  have hJ := (htm.2.2 w36 x36).2
  have x2836 : Ext w28 w36 := (x2835.chg htm.2.1 (fun b hb => by rw [hb]; exact hBH)).trans x36
  have x2736 := x28.trans x2836
  refine ⟨_, rfl, cJ, _, rfl, cS27.ext x2736, ?_⟩
  refine Or.inl ((eqTerm_ret _ _ _ _ sj ss _ (hJ.mono fun _ _ => trivial) ((hS27.ext x2736).mono fun _ _ => trivial)).mono ?_)
  rintro _ w37 ⟨rfl, x37⟩
  refine br_ndec (fun h => absurd ⟨rfl, rfl⟩ h) (fun _ => ?_)
  refine br_false (by simp) ?_
  refine ⟨_, rfl, cI27.ext (x2736.trans x37), ?_⟩
  refine Or.inl ((heldTerm_ret _ _ si 1 _ (hI27.any.ext (x2736.trans x37)) (by decide) (by omega)).mono ?_)
  rintro _ w38 ⟨rfl, x38⟩
  refine br_dec (fun h => absurd rfl h) (fun _ => ?_)
  exact ⟨rfl, x03.trans (xa.trans ((x2836.trans x37).trans x38))⟩
theorem own : ownKnob Try.prog.godebug = none := by kernel_rfl
theorem laidOut : laidOutB Try.prog = true := by kernel_rfl
set_option maxRecDepth 100000 in
theorem lifted (os : Os) (started : os.Started) (H : Type) (enc : TypeId × Value → H) :
    ReturnsInHanded {} Try.checked os 8 .any (Rows.fnExactPutTermSpec.pre6 enc Try.prog Try.f8 Rows.fnExactPutTermRow.domain false) (Rows.fnExactPutTermSpec.post enc Try.prog Try.f8 false true false false) := by
  refine returnsInHanded_of_change (C := Try.checked) own started (by kernel_rfl) Try.func8
    (ChangeSpec.witness6 (enc := enc) (C := Try.checked) false ⟨#[], #[.agg #[.int .i64 0, .int .i64 0, .int .i64 0, .string ByteArray.empty, .slice none 0 0], .string ByteArray.empty, .agg #[.int .i64 0, .int .i64 0, .int .i64 0, .string ByteArray.empty, .slice none 0 0]], []⟩ 8 (by kernel_rfl) (by kernel_rfl) (by kernel_rfl) (by kernel_rfl)) ?_
  intro W base args ds gs before hval0 hW hcnd _
  have hval : ∀ (j : Nat) t v, Try.f8.params[j]? = some t → args[j]? = some v → Value.okWide Try.prog W .any base t v := hval0
  have hW' := hW
  obtain ⟨p, q, hA0, hV, rfl, hfz, hnd⟩ := hW
  have hA : DataW.TrodAll enc Try.prog W 0 (fun _ => true) true Try.f8.params.toList args.toList ds p := hA0
  rw [Try.params8] at hA hval
  obtain ⟨v0, vs0, d0, ds0, p0, q0, hargs, rfl, rfl, h0, r0⟩ := trodAll_cons hA
  obtain ⟨v1, vs1, d1, ds1, p1, q1, rfl, rfl, rfl, h1, r1⟩ := trodAll_cons r0
  obtain ⟨v2, vs2, d2, ds2, p2, q2, rfl, rfl, rfl, h2, r2⟩ := trodAll_cons r1
  obtain ⟨rfl, rfl, rfl⟩ := trodAll_nil r2
  obtain rfl : args = #[v0, v1, v2] := by cases args; simp_all
  obtain ⟨rfl, rfl⟩ := trodVars_none hV
  have k0 := h0
  have lt0 : ∀ x ∈ p0, x.block < W.heap.size := by obtain ⟨m, hm⟩ := k0; exact DataW.trod_lt m _ _ _ hm
  obtain ⟨X0, S0, F0, rfl, HS0, HP0, HX0⟩ := open_Term (hval 0 43 v0 rfl rfl) h0
  have k1 := h1
  have lt1 : ∀ x ∈ p1, x.block < W.heap.size := by obtain ⟨m, hm⟩ := k1; exact DataW.trod_lt m _ _ _ hm
  obtain ⟨a1, rfl, rfl, rfl, w1⟩ := open_string Try.underlying9 (hval 1 9 v1 rfl rfl) h1
  have k2 := h2
  have lt2 : ∀ x ∈ p2, x.block < W.heap.size := by obtain ⟨m, hm⟩ := k2; exact DataW.trod_lt m _ _ _ hm
  obtain ⟨X2, S2, F2, rfl, HS2, HP2, HX2⟩ := open_Term (hval 2 43 v2 rfl rfl) h2
  clear hA0 hval0
  refine (walk W X0 S0 F0 HS0 HP0 HX0 a1 w1 X2 S2 F2 HS2 HP2 HX2).calls.mono fun e W' ⟨v, he, hv, bel⟩ => ?_
  subst hv
  subst he
  exact ⟨_, rfl, _, _, _, [], _, [], hW', trodAll_mk1 (shut_bool Try.underlying4 _), (trodAll_cons_mk (Below.trod laidOut (by kernel_rfl) (of_decide_eq_true (by kernel_rfl)) k0 bel lt0) (trodAll_cons_mk (Below.trod laidOut (by kernel_rfl) (of_decide_eq_true (by kernel_rfl)) k1 bel lt1) (trodAll_cons_mk (Below.trod laidOut (by kernel_rfl) (of_decide_eq_true (by kernel_rfl)) k2 bel lt2) trodAll_mk0))), rfl, bel.frame _, fun h => by cases h⟩
theorem band {a b : Bool} (h1 : a = true) (h2 : b = true) : (a && b) = true := by rw [h1, h2]; rfl
theorem lifted_ok : (Rows.fnExactPutTermRow.lifted == Try.pinned.checked.prog.liftsFinal) = true := by rw [head_final]; rfl
theorem make_ok : (Try.pinned.checked.prog.make == some Rows.fnExactPutTermRow.make) = true := by rw [head_make]; rfl
set_option maxHeartbeats 4000000 in
theorem closed : joinedFacts Try.pinned.checked.prog 8 Try.f8 Rows.fnExactPutTermSpec Rows.fnExactPutTermRow = true := by
  unfold joinedFacts
  repeat' (with_reducible refine band ?_ ?_)
  all_goals (first | with_reducible exact head_enter | with_reducible exact lifted_ok | with_reducible exact make_ok | (as_aux_lemma => kernel_rfl))
theorem holds : Rows.fnExactPutTermRow.holds Try.pinned (OpenSpec.ofChange Rows.fnExactPutTermSpec) :=
  OpenClaim.holds_of_wide 8 Try.f8 rfl rfl rfl rfl rfl rfl rfl ⟨rfl, rfl, rfl, rfl, rfl⟩ rfl rfl rfl rfl rfl (by as_aux_lemma => kernel_rfl) Try.func8 closed
    (of_decide_eq_true (by as_aux_lemma => kernel_rfl)) (by unfold Func.isWrapper; first | (rw [if_pos (by decide +kernel)]; kernel_rfl) | (rw [if_neg (by decide +kernel)]; exact ⟨rfl, rfl⟩))
    (fun os started H enc _ => lifted os started H enc)
/-- The statement. -/
theorem proved : Rows.FnExactPutTermSaid := holds
#print axioms proved
end Go.Proofs.Ytkoaicjcanplaaa.lawFnExactPutTerm
