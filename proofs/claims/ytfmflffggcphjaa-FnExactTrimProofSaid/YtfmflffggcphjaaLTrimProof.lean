/- The law FnExactTrimProof: whatever the arguments, it returns true; all that was there is as it was. No condition. -/
import Derived.Test.YtfmflffggcphjaaTq
import Derived.Test.YtfmflffggcphjaaMi
import Derived.Test.YtfmflffggcphjaaIo
import Derived.Test.YtfmflffggcphjaaPo
import Derived.Test.YtfmflffggcphjaaZw
import Derived.WalkKit
import Derived.ProofKit
import Derived.OpenShut
import Derived.ShutString
import Derived.ChangeOld
import Derived.Below
namespace Go.Proofs.Ytfmflffggcphjaa.lawFnExactTrimProof
open Go Go.Vc Go.ChangeShapes Go.WideShapes Go.ChangeAt Go.RowKit Go.Sat
set_option linter.unusedVariables false

set_option maxRecDepth 100000 in
set_option maxHeartbeats 4000000 in
theorem walk (W : World) (n : Int) (s : Value) (F : List (List Int)) (hs : SlR eL allB W s F) (hn : inI n) (x : Int) (p : Value) (f : PF) (hpf : PSl anyB W p f) (hpa : f.All inI) (hx : inI x) :
    Ret Try.prog 17 #[fv n s, .agg #[.int .i64 x, p]] W (fun v w' => v = .bool true ∧ Ext W w') := by
  have hlm : (maxLen : Int) ≤ 9223372036854775807 := by decide
  refine ret_of_vc ties mixed Try.func17 rfl (by kernel_rfl) rfl rfl ?_
  have x0 : Ext W (W.alloc (.cells [.int .i64 n, s].toArray 48)) := Ext.new _ _
  have x1 : Ext W ((W.alloc (.cells [.int .i64 n, s].toArray 48)).alloc (.cells [.int .i64 x, p].toArray 34)) := x0.trans (Ext.new _ _)
  have hb := (boxedAll W [.int .i64 n, s] 48).ext (Ext.new _ (.cells [.int .i64 x, p].toArray 34))
  have hbp := boxedAll (W.alloc (.cells [.int .i64 n, s].toArray 48)) [.int .i64 x, p] 34
  refine ⟨[.int .i64 n, s], rfl, hb, ?_⟩
  refine Or.inl ((szFormula_ret n F s 1048576 _ (hs.ext x1) (by decide) (by decide)).mono ?_)
  rintro _ w2 ⟨x2, rfl | ⟨hsz, rfl⟩⟩
  · exact ⟨rfl, x1.trans x2⟩
  refine br_dec_false (by omega) ?_
  have hsz : F.length + tot F ≤ 1048576 := by omega
  refine ⟨[.int .i64 x, p], rfl, hbp.ext x2, ?_⟩
  refine Or.inl ((szProof_ret f x p _ _ (hpf.ext (x1.trans x2)) (by omega) (by omega)).mono ?_)
  rintro _ w3 ⟨x3, rfl | ⟨hszp, rfl⟩⟩
  · exact ⟨rfl, (x1.trans x2).trans x3⟩
  refine br_dec_false (by omega) ?_
  have hszp : f.size ≤ 1048576 := by omega
  obtain ⟨o, ho⟩ : ∃ o, tri n F x f = o := ⟨_, rfl⟩
  have hol : (o.getD (0, .nil)).2.size ≤ 1048576 := by rw [← ho]; exact Nat.le_trans (tri_size n F x f) hszp
  have hsp : ∀ s p w, SlR eL allB w s F → PSl anyB w p f → Ret Try.prog 64 #[fv n s, .agg #[.int .i64 x, p]] w (TrmS o w) := fun s p w h1 h2 => by
    have := spec_TrimProof n F x f s p w h1 h2 hszp
    rwa [ho] at this
  have him : ∀ s p w, SlR eL allB w s F → PSl anyB w p f → Ret Try.prog 32 #[fv n s, .agg #[.int .i64 x, p]] w (TrmR o w) := fun s p w h1 h2 => by
    have := impl_TrimProof n F x f s p w h1 h2 hszp
    rwa [ho] at this
  clear ho
  have x13 := x2.trans x3
  -- what the reference gives
  refine .inr (.inr (hyb_ruleA ties mixed 8 6 39 [(0, .quiet), (2, .quiet), (1, .loud), (3, .loud), (4, .loud), (5, .quiet), (6, .quiet), (7, .pure), (9, .wild), (10, .quiet)] rfl rfl rfl rfl rfl (by kernel_rfl) ?_))
  refine ⟨[.int .i64 n, s], rfl, hb.ext x13, [.int .i64 x, p], rfl, hbp.ext x13, ?_⟩
  intro w4 x4
  refine Or.inl ((toFormula_ret n F s w4 (hs.ext ((x1.trans x13).trans x4)) hsz).mono ?_)
  rintro _ w5 ⟨x5, s5, rfl, hs5, _⟩
  refine ⟨x5, ?_⟩
  intro w6 x6
  have x16 := ((x13.trans x4).trans x5).trans x6
  refine Or.inl ((toProof_ret f x p w6 (hpf.ext (x1.trans x16)) hszp).mono ?_)
  rintro _ w7 ⟨x7, p7, rfl, hp7⟩
  refine ⟨x7, ?_⟩
  intro w8 x8
  refine Or.inl ((hsp s5 p7 w8 (hs5.all.ext ((x6.trans x7).trans x8)) ((hp7.ext x8).mono fun _ _ => trivial)).mono ?_)
  rintro _ w9 ⟨x9, psS, rfl, honeS, hslS⟩
  refine ⟨x9, ?_⟩
  intro BS w10 hm10 hcl10 x10
  have x310 := (((((x4.trans x5).trans x6).trans x7).trans x8).trans x9).trans x10
  have hBS : w3.heap.size ≤ BS := by
    have := hcl10 (0, w3.heap.size) (by simp)
    simp only at this
    omega
  refine ⟨(hm10.rmy (l := [.int .i64 0, .slice none 0 0])).all [.int .i64 (o.getD (0, .nil)).1, psS] 0 (Nat.le_refl 2) (by simp only [List.all_cons, honeS]; rfl), Ext.setCells _ x310 hBS, ?_⟩
  intro w11 x11
  obtain ⟨hch11, -, hcS, hslS11⟩ := tri_made hm10 hcl10 hBS hslS x10 x11
  have x311 : Ext w3 w11 := x310.chg hch11 (fun b hb => by rw [hb]; exact hBS)
  have z911 : w9.heap.size ≤ w11.heap.size := Nat.le_trans x10.size hch11.size
  have zBS : BS < w11.heap.size := World.block_lt_of_cell? _ _ hcS.1
  have hS11 : PSl (oldB w11.heap.size) w11 psS (o.getD (0, .nil)).2 := hslS11.mono fun b hb => by unfold oldB; omega
  clear hm10 hcl10 hch11 x310 hslS hslS11 x10 x11 hp7 hs5
  have x111 := x13.trans x311
  -- what the program gives
  refine ⟨[.int .i64 n, s], rfl, hb.ext x111, ?_⟩
  refine Or.inl ((toFormula_ret n F s w11 (hs.ext (x1.trans x111)) hsz).mono ?_)
  rintro _ w12 ⟨x12, s12, rfl, hs12, _, B12, hB12, hB12s, hs12B⟩
  have r12 := Rmy.new w12 [.int .i64 0, .slice none 0 0] 25
  refine ⟨r12.all [.int .i64 n, s12] 0 (Nat.le_refl 2) (by simp only [List.all_cons, hs12.all.oneB]; rfl), ?_⟩
  have x12b : Ext w12 (Vc.setCells (w12.alloc (.cells #[.int .i64 0, .slice none 0 0] 25)) w12.heap.size 0 [.int .i64 n, s12]) := Ext.setCells _ (Ext.new _ _) (Nat.le_refl _)
  have hc12 := setCells_at [.int .i64 n, s12] _ 0 2 r12 (Nat.le_refl 2)
  have x112 := (x111.trans x12).trans x12b
  refine ⟨[.int .i64 x, p], rfl, hbp.ext x112, ?_⟩
  refine Or.inl ((toProof_sep f x p (Vc.setCells (w12.alloc (.cells #[.int .i64 0, .slice none 0 0] 25)) w12.heap.size 0 [.int .i64 n, s12]) (hpf.ext (x1.trans x112)) hszp).mono ?_)
  rintro _ w14 ⟨x14, p14, rfl, hsep14⟩
  have hone14 : oneB p14 = true := (hsep14.sl (ok := anyB) fun _ _ _ => trivial).oneB
  have r14 := Rmy.new w14 [.int .i64 0, .slice none 0 0] 39
  refine ⟨r14.all [.int .i64 x, p14] 0 (Nat.le_refl 2) (by simp only [List.all_cons, hone14]; rfl), ?_⟩
  have x14b : Ext w14 (Vc.setCells (w14.alloc (.cells #[.int .i64 0, .slice none 0 0] 39)) w14.heap.size 0 [.int .i64 x, p14]) := Ext.setCells _ (Ext.new _ _) (Nat.le_refl _)
  have hc14 := setCells_at [.int .i64 x, p14] _ 0 2 r14 (Nat.le_refl 2)
  have x1214 := (x12b.trans x14).trans x14b
  refine ⟨[.int .i64 n, s12], rfl, hc12.ext (x14.trans x14b), [.int .i64 x, p14], rfl, hc14, ?_⟩
  refine Or.inl ((him s12 p14 (Vc.setCells (w14.alloc (.cells #[.int .i64 0, .slice none 0 0] 39)) w14.heap.size 0 [.int .i64 x, p14]) (hs12.all.ext x1214) (Fo.Sl.ext x14b (hsep14.sl fun _ _ _ => trivial))).mono ?_)
  rintro _ w16 ⟨x16', psI, rfl, honeI, hsI⟩
  have r16 := Rmy.new w16 [.int .i64 0, .slice none 0 0] 39
  refine ⟨r16.all [.int .i64 (o.getD (0, .nil)).1, psI] 0 (Nat.le_refl 2) (by simp only [List.all_cons, honeI]; rfl), ?_⟩
  have x16b : Ext w16 (Vc.setCells (w16.alloc (.cells #[.int .i64 0, .slice none 0 0] 39)) w16.heap.size 0 [.int .i64 (o.getD (0, .nil)).1, psI]) := Ext.setCells _ (Ext.new _ _) (Nat.le_refl _)
  have hc16 := setCells_at [.int .i64 (o.getD (0, .nil)).1, psI] _ 0 2 r16 (Nat.le_refl 2)
  have x1116 := ((x12.trans x1214).trans x16').trans x16b
  have x1a := x111.trans x1116
  refine ⟨[.int .i64 (o.getD (0, .nil)).1, psI], rfl, hc16, [.int .i64 (o.getD (0, .nil)).1, psS], rfl, hcS.ext x1116, ?_⟩
  have hI16 : PSl anyB w16 psI (o.getD (0, .nil)).2 := hsI.sl fun _ _ _ => trivial
  refine Or.inl ((eqProof_ret _ _ _ _ psI psS _ (Fo.Sl.ext x16b hI16) ((Fo.Sl.ext x1116 hS11).mono fun _ _ => trivial)).mono ?_)
  rintro _ w17 ⟨rfl, x17⟩
  refine br_ndec (fun h => absurd ⟨rfl, rfl⟩ h) (fun _ => ?_)
  refine br_false (by simp) ?_
  refine .inr (.inr (hyb_rule ties mixed [(0, .quiet), (1, .quiet), (2, .loud), (3, .quiet), (4, .quiet)] (by kernel_rfl) ?_))
  have xb17 := (x16'.trans x16b).trans x17
  refine ⟨[.int .i64 n, s12], rfl, hc12.ext ((x14.trans x14b).trans xb17), [.int .i64 n, s], rfl, hb.ext (x1a.trans x17), ?_⟩
  intro w18 x18
  refine Or.inl ((toFormula_ret n F s w18 (hs.ext ((x1.trans (x1a.trans x17)).trans x18)) hsz).mono ?_)
  rintro _ w19 ⟨x19, s19, rfl, hs19, _⟩
  have x1219 := ((x1214.trans xb17).trans x18).trans x19
  refine ⟨x19, .bool true, fun w' hw' => (eqFormula_ret n n F F s12 s19 _ (hs12.all.ext (x1219.trans hw')) (hs19.all.ext hw')).mono ?_, ?_⟩
  · rintro _ w'' ⟨rfl, h⟩
    exact ⟨by simp, h⟩
  intro w20 x20
  have x1720 := (x18.trans x19).trans x20
  have x1b := (x1a.trans x17).trans x1720
  refine .inr (.inr (hyb_rule ties mixed [(0, .quiet), (1, .quiet), (2, .loud), (3, .quiet), (4, .quiet)] (by kernel_rfl) ?_))
  have x1420 := xb17.trans x1720
  refine ⟨[.int .i64 x, p14], rfl, hc14.ext x1420, [.int .i64 x, p], rfl, hbp.ext x1b, ?_⟩
  intro w21 x21
  refine Or.inl ((toProof_ret f x p w21 (hpf.ext ((x1.trans x1b).trans x21)) hszp).mono ?_)
  rintro _ w22 ⟨x22, p22, rfl, hp22⟩
  have x1422 := ((x14b.trans x1420).trans x21).trans x22
  refine ⟨x22, .bool true, fun w' hw' => (eqProof_ret f f x x p14 p22 w' (Fo.Sl.ext (x1422.trans hw') (hsep14.sl fun _ _ _ => trivial)) ((Fo.Sl.ext hw' hp22).mono fun _ _ => trivial)).mono ?_, ?_⟩
  · rintro _ w'' ⟨rfl, h⟩
    exact ⟨by simp, h⟩
  intro w23 x23
  have x1723 := ((x17.trans x1720).trans x21).trans (x22.trans x23)
  have x1c : Ext ((W.alloc (.cells [.int .i64 n, s].toArray 48)).alloc (.cells [.int .i64 x, p].toArray 34)) w23 := x1a.trans x1723
  -- marks on the arguments
  refine ⟨[.int .i64 n, s12], rfl, hc12.ext ((x14.trans x14b).trans ((x16'.trans x16b).trans x1723)), ?_⟩
  refine Or.inl ((markFormula_ret (fun b => B12 < b ∧ b < w12.heap.size) n F s12 1 _ (hs12B.lt.ext (x1214.trans ((x16'.trans x16b).trans x1723))) (fun b hb e => by have := hB12s b e; omega) (by decide) (by omega)).mono ?_)
  rintro _ w24 ⟨rfl, hch24⟩
  have z12 := x12.size
  have z12b := x12b.size
  have z14 := x14.size
  have z14b := x14b.size
  have z16 := x16'.size
  have z16b := x16b.size
  have z23 := x1723.size
  have z24 := hch24.size
  have hch24' := hch24.mono (S' := fun b => w11.heap.size ≤ b ∧ b < w12.heap.size) fun b _ hb => by omega
  clear hch24
  have hlt12 : w12.heap.size < (Vc.setCells (w12.alloc (.cells #[.int .i64 0, .slice none 0 0] 25)) w12.heap.size 0 [.int .i64 n, s12]).heap.size := World.block_lt_of_cell? _ _ hc12.1
  have hlt14 : w14.heap.size < (Vc.setCells (w14.alloc (.cells #[.int .i64 0, .slice none 0 0] 39)) w14.heap.size 0 [.int .i64 x, p14]).heap.size := World.block_lt_of_cell? _ _ hc14.1
  have hlt16 : w16.heap.size < (Vc.setCells (w16.alloc (.cells #[.int .i64 0, .slice none 0 0] 39)) w16.heap.size 0 [.int .i64 (o.getD (0, .nil)).1, psI]).heap.size := World.block_lt_of_cell? _ _ hc16.1
  have x1423 := (x14b.trans (x16'.trans x16b)).trans x1723
  have hsep24 : PSep w24 p14 f (Vc.setCells (w12.alloc (.cells #[.int .i64 0, .slice none 0 0] 25)) w12.heap.size 0 [.int .i64 n, s12]).heap.size w14.heap.size := hsep14.keep plc_len fun b g1 g2 => (hch24'.block b (by omega) (by omega)).trans (x1423.block b g2)
  have hc14m := hch24'.cells (show ¬ (w11.heap.size ≤ w14.heap.size ∧ w14.heap.size < w12.heap.size) by omega) (hc14.ext ((x16'.trans x16b).trans x1723))
  refine ⟨[.int .i64 x, p14], rfl, hc14m, ?_⟩
  refine Or.inl ((markProof_ret f x p14 _ _ _ w24 hsep24 (by omega) (by omega) (by omega)).mono ?_)
  rintro _ w25 ⟨rfl, -, hch25⟩
  have z25 := hch25.size
  have hc16m := hch25.cells (show ¬ ((Vc.setCells (w12.alloc (.cells #[.int .i64 0, .slice none 0 0] 25)) w12.heap.size 0 [.int .i64 n, s12]).heap.size ≤ w16.heap.size ∧ w16.heap.size < w14.heap.size) by omega) (hch24'.cells (show ¬ (w11.heap.size ≤ w16.heap.size ∧ w16.heap.size < w12.heap.size) by omega) (hc16.ext x1723))
  have hcSm := hch25.cells (show ¬ ((Vc.setCells (w12.alloc (.cells #[.int .i64 0, .slice none 0 0] 25)) w12.heap.size 0 [.int .i64 n, s12]).heap.size ≤ BS ∧ BS < w14.heap.size) by omega) (hch24'.cells (show ¬ (w11.heap.size ≤ BS ∧ BS < w12.heap.size) by omega) (hcS.ext (x1116.trans x1723)))
  have hS25 := Fo.Sl.chg (S := fun b => (Vc.setCells (w12.alloc (.cells #[.int .i64 0, .slice none 0 0] 25)) w12.heap.size 0 [.int .i64 n, s12]).heap.size ≤ b ∧ b < w14.heap.size) (fun b hb e => by unfold oldB at hb; omega) hch25 (Fo.Sl.chg (S := fun b => w11.heap.size ≤ b ∧ b < w12.heap.size) (fun b hb e => by unfold oldB at hb; omega) hch24' (Fo.Sl.ext (x1116.trans x1723) hS11))
  have hI25 : PSep w25 psI (o.getD (0, .nil)).2 (Vc.setCells (w14.alloc (.cells #[.int .i64 0, .slice none 0 0] 39)) w14.heap.size 0 [.int .i64 x, p14]).heap.size w16.heap.size := hsI.keep plc_len fun b g1 g2 => (hch25.block b (by omega) (by omega)).trans ((hch24'.block b (by omega) (by omega)).trans ((x16b.trans x1723).block b g2))
  refine ⟨_, rfl, hc16m, _, rfl, hcSm, ?_⟩
  refine Or.inl ((eqProof_ret _ _ _ _ psI psS _ (hI25.sl fun _ _ _ => trivial) (hS25.mono fun _ _ => trivial)).mono ?_)
  rintro _ w26 ⟨rfl, x26⟩
  refine br_ndec (fun h => absurd ⟨rfl, rfl⟩ h) (fun _ => ?_)
  refine br_false (by simp) ?_
  -- marks on the result
  have z26 := x26.size
  refine ⟨_, rfl, hc16m.ext x26, ?_⟩
  have hI26 : PSep w26 psI (o.getD (0, .nil)).2 (Vc.setCells (w14.alloc (.cells #[.int .i64 0, .slice none 0 0] 39)) w14.heap.size 0 [.int .i64 x, p14]).heap.size w16.heap.size := hI25.keep plc_len fun b g1 g2 => x26.block b (by omega)
  refine Or.inl ((markProof_ret _ _ psI _ _ 1 _ hI26 (by omega) (by decide) (by omega)).mono ?_)
  rintro _ w27 ⟨rfl, hI27, hch27⟩
  have hc16n := hch27.cells (show ¬ ((Vc.setCells (w14.alloc (.cells #[.int .i64 0, .slice none 0 0] 39)) w14.heap.size 0 [.int .i64 x, p14]).heap.size ≤ w16.heap.size ∧ w16.heap.size < w16.heap.size) by omega) (hc16m.ext x26)
  have hcSn := hch27.cells (show ¬ ((Vc.setCells (w14.alloc (.cells #[.int .i64 0, .slice none 0 0] 39)) w14.heap.size 0 [.int .i64 x, p14]).heap.size ≤ BS ∧ BS < w16.heap.size) by omega) (hcSm.ext x26)
  have hS27 := Fo.Sl.chg (S := fun b => (Vc.setCells (w14.alloc (.cells #[.int .i64 0, .slice none 0 0] 39)) w14.heap.size 0 [.int .i64 x, p14]).heap.size ≤ b ∧ b < w16.heap.size) (fun b hb e => by unfold oldB at hb; omega) hch27 (Fo.Sl.ext x26 hS25)
  refine ⟨_, rfl, hc16n, ?_⟩
  refine Or.inl ((heldProof_ret _ _ psI 1 _ (hI27.sl fun _ _ _ => trivial) (by decide) (by omega)).mono ?_)
  rintro _ w28 ⟨rfl, x28⟩
  refine br_dec (fun h => absurd rfl h) (fun _ => ?_)
  -- once more
  have x112s := x112.size
  have x111s := x111.size
  have xa : Ext ((W.alloc (.cells [.int .i64 n, s].toArray 48)).alloc (.cells [.int .i64 x, p].toArray 34)) w28 := by
    refine ((((x1c.chg hch24' fun b hb => by omega).chg hch25 fun b hb => by omega).trans x26).chg hch27 fun b hb => by omega).trans x28
  refine .inr (.inr (hyb_ruleA ties mixed 8 15 39 [(0, .quiet), (2, .quiet), (1, .loud), (3, .loud), (4, .loud), (5, .quiet), (6, .quiet), (7, .pure), (9, .wild), (10, .quiet)] rfl rfl rfl rfl rfl (by kernel_rfl) ?_))
  refine ⟨[.int .i64 n, s], rfl, hb.ext xa, [.int .i64 x, p], rfl, hbp.ext xa, ?_⟩
  intro w29 x29
  refine Or.inl ((toFormula_ret n F s w29 (hs.ext ((x1.trans xa).trans x29)) hsz).mono ?_)
  rintro _ w30 ⟨x30, s30, rfl, hs30, _⟩
  refine ⟨x30, ?_⟩
  intro w31 x31
  have x2831 := (x29.trans x30).trans x31
  refine Or.inl ((toProof_ret f x p w31 (hpf.ext ((x1.trans xa).trans x2831)) hszp).mono ?_)
  rintro _ w32 ⟨x32, p32, rfl, hp32⟩
  refine ⟨x32, ?_⟩
  intro w33 x33
  refine Or.inl ((him s30 p32 w33 (hs30.all.ext ((x31.trans x32).trans x33)) ((hp32.ext x33).mono fun _ _ => trivial)).mono ?_)
  rintro _ w34 ⟨x34, psH, rfl, honeH, hsH⟩
  refine ⟨x34, ?_⟩
  intro BH w35 hm35 hcl35 x35
  have x2835 := (((x2831.trans x32).trans x33).trans x34).trans x35
  have hBH : w28.heap.size ≤ BH := by
    have := hcl35 (0, w28.heap.size) (by simp)
    simp only at this
    omega
  refine ⟨(hm35.rmy (l := [.int .i64 0, .slice none 0 0])).all [.int .i64 (o.getD (0, .nil)).1, psH] 0 (Nat.le_refl 2) (by simp only [List.all_cons, honeH]; rfl), Ext.setCells _ x2835 hBH, ?_⟩
  intro w36 x36
  have hsH' : PSl (freshB w33) w34 psH (o.getD (0, .nil)).2 := hsH.sl fun b h _ => h
  have htm := tri_made hm35 hcl35 hBH hsH' x35 x36
  have hcH := htm.2.2.1
  have hslH := htm.2.2.2
  have x2836 : Ext w28 w36 := x2835.chg htm.1 (fun b hb => by rw [hb]; exact hBH)
  have x2736 := x28.trans x2836
  refine ⟨_, rfl, hcH, _, rfl, hcSn.ext x2736, ?_⟩
  refine Or.inl ((eqProof_ret _ _ _ _ psH psS _ (hslH.mono fun _ _ => trivial) ((Fo.Sl.ext x2736 hS27).mono fun _ _ => trivial)).mono ?_)
  rintro _ w37 ⟨rfl, x37⟩
  refine br_ndec (fun h => absurd ⟨rfl, rfl⟩ h) (fun _ => ?_)
  refine br_false (by simp) ?_
  refine ⟨_, rfl, hc16n.ext (x2736.trans x37), ?_⟩
  refine Or.inl ((heldProof_ret _ _ psI 1 _ (Fo.Sl.ext (x2736.trans x37) (hI27.sl fun _ _ _ => trivial)) (by decide) (by omega)).mono ?_)
  rintro _ w38 ⟨rfl, x38⟩
  refine br_dec (fun h => absurd rfl h) (fun _ => ?_)
  exact ⟨rfl, (x1.trans xa).trans ((x2836.trans x37).trans x38)⟩
theorem own : ownKnob Try.prog.godebug = none := by kernel_rfl
theorem laidOut : laidOutB Try.prog = true := by kernel_rfl
set_option maxRecDepth 100000 in
theorem lifted (os : Os) (started : os.Started) (H : Type) (enc : TypeId × Value → H) :
    ReturnsInHanded {} Try.checked os 17 .any (Rows.fnExactTrimProofSpec.pre6 enc Try.prog Try.f17 Rows.fnExactTrimProofRow.domain false) (Rows.fnExactTrimProofSpec.post enc Try.prog Try.f17 false true false false) := by
  refine returnsInHanded_of_change (C := Try.checked) own started (by kernel_rfl) Try.func17
    (ChangeSpec.witness6 (enc := enc) (C := Try.checked) false ⟨#[], #[.agg #[.int .i64 0, .slice none 0 0], .agg #[.int .i64 0, .slice none 0 0]], []⟩ 8 (by kernel_rfl) (by kernel_rfl) (by kernel_rfl) (by kernel_rfl)) ?_
  intro W base args ds gs before hval0 hW hcnd _
  have hval : ∀ (j : Nat) t v, Try.f17.params[j]? = some t → args[j]? = some v → Value.okWide Try.prog W .any base t v := hval0
  have hW' := hW
  obtain ⟨p, q, hA0, hV, rfl, hfz, hnd⟩ := hW
  have hA : DataW.TrodAll enc Try.prog W 0 (fun _ => true) true Try.f17.params.toList args.toList ds p := hA0
  rw [Try.params17] at hA hval
  obtain ⟨v0, vs0, d0, ds0, p0, q0, hargs, rfl, rfl, h0, r0⟩ := trodAll_cons hA
  obtain ⟨v1, vs1, d1, ds1, p1, q1, rfl, rfl, rfl, h1, r1⟩ := trodAll_cons r0
  obtain ⟨rfl, rfl, rfl⟩ := trodAll_nil r1
  obtain rfl : args = #[v0, v1] := by cases args; simp_all
  obtain ⟨rfl, rfl⟩ := trodVars_none hV
  have k0 := h0
  have lt0 : ∀ x ∈ p0, x.block < W.heap.size := by obtain ⟨m, hm⟩ := k0; exact DataW.trod_lt m _ _ _ hm
  obtain ⟨N0, S0, F0, rfl, HS0, HN0⟩ := open_Formula (hval 0 48 v0 rfl rfl) h0
  have k1 := h1
  have lt1 : ∀ x ∈ p1, x.block < W.heap.size := by obtain ⟨m, hm⟩ := k1; exact DataW.trod_lt m _ _ _ hm
  obtain ⟨X1, S1, F1, rfl, HS1, HP1, HX1⟩ := open_Proof (hval 1 34 v1 rfl rfl) h1
  clear hA0 hval0
  refine (walk W N0 S0 F0 HS0 HN0 X1 S1 F1 HS1 HP1 HX1).calls.mono fun e W' ⟨v, he, hv, bel⟩ => ?_
  subst hv
  subst he
  exact ⟨_, rfl, _, _, _, [], _, [], hW', trodAll_mk1 (shut_bool Try.underlying4 _), (trodAll_cons_mk (Below.trod laidOut (by kernel_rfl) (of_decide_eq_true (by kernel_rfl)) k0 bel lt0) (trodAll_cons_mk (Below.trod laidOut (by kernel_rfl) (of_decide_eq_true (by kernel_rfl)) k1 bel lt1) trodAll_mk0)), rfl, bel.frame _, fun h => by cases h⟩
theorem band {a b : Bool} (h1 : a = true) (h2 : b = true) : (a && b) = true := by rw [h1, h2]; rfl
theorem lifted_ok : (Rows.fnExactTrimProofRow.lifted == Try.pinned.checked.prog.liftsFinal) = true := by rw [head_final]; rfl
theorem make_ok : (Try.pinned.checked.prog.make == some Rows.fnExactTrimProofRow.make) = true := by rw [head_make]; rfl
set_option maxHeartbeats 4000000 in
theorem closed : joinedFacts Try.pinned.checked.prog 17 Try.f17 Rows.fnExactTrimProofSpec Rows.fnExactTrimProofRow = true := by
  unfold joinedFacts
  repeat' (with_reducible refine band ?_ ?_)
  all_goals (first | with_reducible exact head_enter | with_reducible exact lifted_ok | with_reducible exact make_ok | (as_aux_lemma => kernel_rfl))
theorem holds : Rows.fnExactTrimProofRow.holds Try.pinned (OpenSpec.ofChange Rows.fnExactTrimProofSpec) :=
  OpenClaim.holds_of_wide 17 Try.f17 rfl rfl rfl rfl rfl rfl rfl ⟨rfl, rfl, rfl, rfl, rfl⟩ rfl rfl rfl rfl rfl (by as_aux_lemma => kernel_rfl) Try.func17 closed
    (of_decide_eq_true (by as_aux_lemma => kernel_rfl)) (by unfold Func.isWrapper; first | (rw [if_pos (by decide +kernel)]; kernel_rfl) | (rw [if_neg (by decide +kernel)]; exact ⟨rfl, rfl⟩))
    (fun os started H enc _ => lifted os started H enc)
/-- The statement. -/
theorem proved : Rows.FnExactTrimProofSaid := holds
#print axioms proved
end Go.Proofs.Ytfmflffggcphjaa.lawFnExactTrimProof
