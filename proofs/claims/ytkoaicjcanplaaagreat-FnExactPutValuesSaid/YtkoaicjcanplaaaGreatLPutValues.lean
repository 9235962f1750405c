/- The law FnExactPutValues: whatever the arguments, it returns true; all that was there is as it was. No condition. -/
import Derived.Test.YtkoaicjcanplaaaGreatEn
import Derived.Test.YtkoaicjcanplaaaGreatMt
import Derived.Test.YtkoaicjcanplaaaGreatTo
import Derived.Test.YtkoaicjcanplaaaGreatZw
import Derived.WalkKit
import Derived.ProofKit
import Derived.OpenShut
import Derived.ShutString
import Derived.ChangeOld
import Derived.Below
namespace Go.Proofs.YtkoaicjcanplaaaGreat.lawFnExactPutValues
open Go Go.Vc Go.ChangeShapes Go.WideShapes Go.ChangeAt Go.RowKit
set_option linter.unusedVariables false

set_option maxHeartbeats 4000000 in
theorem toValueS_own (f : List VLab) (s : Value) (W : World) (hs : VSl anyB W s f) (hsz : f.length ≤ 1048576) :
    Ret Tryz.prog 8 #[s] W (fun v w' => Ext W w' ∧ OwnR eV noB w' v f ∧ ∀ b, blk v b → W.heap.size ≤ b ∧ b < w'.heap.size) := by
  obtain ⟨a, c, rfl, hl, hc, hat⟩ := hs
  have hlm : (maxLen : Int) ≤ 9223372036854775807 := by decide
  refine ret_of_vc ties mixed Tryz.func8 rfl (by kernel_rfl) rfl rfl ?_
  refine ⟨⟨by omega, by omega, by omega, by show (32 : Int) * (f.length : Int) ≤ _; omega⟩, ?_⟩
  have room : Rmy (W.alloc (.cells (zs f.length [.string ByteArray.empty, .int .i64 0, .int .i64 0]).toArray 48)) W.heap.size (f.length * 3) := by
    have := Rmy.new W (zs f.length [.string ByteArray.empty, .int .i64 0, .int .i64 0]) 48
    rwa [zs_length] at this
  refine loop_rule (σ := Nat × List VLab × List VLab) [4] 8 23 (fun q => [.int .i64 q.1])
    (fun q w' => Ext W w' ∧ W.heap.size < w'.heap.size ∧ Rmy w' W.heap.size (f.length * 3) ∧ q.1 + q.2.2.length = f.length ∧ q.2.1.length = q.1 ∧ q.2.1 ++ q.2.2 = f ∧
      LsAt vlc 3 w' q.2.1 W.heap.size 0 ∧ (q.2.2.length = 0 ∨ ∃ b o, a = some ⟨b, o, none⟩ ∧ LsAt vlc 3 W q.2.2 b (o + q.1 * 3)))
    (fun q => q.2.2.length) (0, [], f) rfl ⟨Ext.new _ _, by simp, room, by simp, rfl, rfl, trivial, ?_⟩ ?_
  · rcases hat with hat | ⟨b, o, ha, _, hat⟩
    · exact .inl hat
    · exact .inr ⟨b, o, ha, by simpa using hat⟩
  · rintro ⟨k, d, g⟩ w junk ⟨hx, hB, hroom, hk, hd, happ, hda, hga⟩ K hK
    simp only at hk hd happ hda hga
    refine br_dec (fun h3 => ?_) (fun h3 => ?_)
    · match g with
      | [] => simp only [List.length_nil] at hk; omega
      | x :: r =>
        obtain ⟨b, o, rfl, hcx, hr⟩ := hga.resolve_left (by simp)
        simp only [List.length_cons] at hk
        refine ⟨⟨by omega, by omega⟩, vlc x, rfl, ?_, ?_⟩
        · simp only [Int.toNat_natCast]; exact hcx.ext hx
        refine Or.inl ((toValue_ret x _).mono ?_)
        rintro _ w5 ⟨hx5, rfl⟩
        refine ⟨⟨by omega, by omega⟩, ?_⟩
        have hr5 := hroom.ext hx5
        have hroomk : 0 + (k : Int).toNat * 3 + 3 ≤ f.length * 3 := by omega
        refine ⟨hr5.all _ _ hroomk rfl, ?_⟩
        refine ⟨_, IntWalk.i64_in _ (by omega), ?_⟩
        have hkeep : ∀ b i, b ≠ W.heap.size ∨ i < 0 + k * 3 → (setCells w5 W.heap.size (0 + (k : Int).toNat * 3) (vlc x)).cell? ⟨b, i, none⟩ = w5.cell? ⟨b, i, none⟩ := fun b i hb =>
          setCells_other _ _ _ _ fun e => by simp only at e ⊢; omega
        refine hK (k + 1, d ++ [x], r) _ _ (vs1 (vint (by show (k : Int) + 1 = ((k + 1 : Nat) : Int); omega)))
          ⟨Ext.setCells _ (hx.trans hx5) (Nat.le_refl _), by rw [setCells_size]; exact Nat.lt_of_lt_of_le hB hx5.size, Rmy.setCells _ hr5, by show k + 1 + r.length = f.length; omega, ?_, ?_, ?_, ?_⟩ (by show r.length < r.length + 1; omega) ?_
        · show (d ++ [x]).length = k + 1
          simp [hd]
        · show (d ++ [x]) ++ r = f
          simpa using happ
        · refine LsAt.app (LsAt.keep vlc_len hkeep (.inr (by omega)) (hda.ext hx5)) ⟨?_, trivial⟩
          have := setCells_at (vlc x) w5 (0 + (k : Int).toNat * 3) _ hr5 hroomk
          rw [hd]
          rwa [show 0 + 3 * k = 0 + (k : Int).toNat * 3 from by omega]
        · right
          refine ⟨b, o, rfl, ?_⟩
          show LsAt vlc 3 W r b (o + (k + 1) * 3)
          rw [show o + (k + 1) * 3 = o + k * 3 + 3 from by omega]
          exact hr
        · ((repeat (first | (with_reducible exact Only.refl) | (with_reducible refine Only.skip ?_) | ((with_reducible refine Only.upd ?_ ?_); rfl) | ((with_reducible refine Only.over ?_ ?_ _); rfl) | ((with_reducible refine Only.hav ?_ ?_ ?_); rfl; rfl))))
    · have h5 : g = [] := List.eq_nil_of_length_eq_zero (by omega)
      subst h5
      rw [List.append_nil] at happ
      subst happ
      exact ⟨hx, ⟨_, _, rfl, Nat.le_refl _, Nat.le_trans hl hc, .inr ⟨_, rfl, hroom, at_vr hda⟩⟩, fun b hb => by
        have hb : W.heap.size = b := hb
        omega⟩

set_option maxRecDepth 100000 in
set_option maxHeartbeats 16000000 in
theorem walk (W : World) (x : Lab) (s : Value) (f : TF) (hs : TSl anyB W s f) (hp : f.All okL) (hx : okL x) (l : List VLab) (sl : Value) (hl : VSl anyB W sl l) (hlp : ∀ v ∈ l, okV v) :
    Ret Tryz.prog 3 #[tv x s, sl] W (fun v w' => v = .bool true ∧ Ext W w') := by
  have x1 : Ext W (W.alloc (.cells (tc x s).toArray 24)) := Ext.new _ _
  have hb := boxedAll W (tc x s) 24
  obtain ⟨om, hom⟩ : ∃ om, pvO x f l = om := ⟨_, rfl⟩
  obtain ⟨o, ho⟩ : ∃ o, om.getD zeroT = o := ⟨_, rfl⟩
  obtain ⟨bb, hbb⟩ : ∃ bb, om.isSome = bb := ⟨_, rfl⟩
  have hsp : ∀ s sl w, TSl anyB w s f → VSl anyB w sl l → Ret Tryz.prog 6 #[tv x s, sl] w (FirR noF bb o w) := fun s sl w h h' => by rw [← ho, ← hbb, ← hom]; exact spec_PutValues x f l s sl w h hx hp h' hlp
  have him : ∀ s sl w, TSl anyB w s f → VSl anyB w sl l → Ret Tryz.prog 9 #[tv x s, sl] w (CFir bb o w) := fun s sl w h h' => by rw [← ho, ← hbb, ← hom]; exact impl_PutValues x f l s sl w h hx hp h' hlp
  have hosz : o.2.size ≤ 1048576 := by have := pvO_sz x f l; rw [hom, ho] at this; omega
  clear ho hbb hom
  refine ret_of_vc ties mixed Tryz.func3 rfl (by kernel_rfl) rfl rfl ?_
  refine ⟨tc x s, rfl, hb, ?_⟩
  refine Or.inl ((szTerm_ret f x s 1048576 _ (hs.ext x1) hx hp (by decide) (by decide)).mono ?_)
  rintro _ w2 ⟨x2, rfl | ⟨hsz, rfl⟩⟩
  · exact ⟨rfl, x1.trans x2⟩
  refine br_dec_false (by omega) ?_
  have x02 := x1.trans x2
  refine Or.inl ((szValueS_ret l sl _ _ (hl.ext x02) hlp (by omega) (by omega)).mono ?_)
  rintro _ w3 ⟨x3, rfl | ⟨hszl, rfl⟩⟩
  · exact ⟨rfl, x02.trans x3⟩
  refine br_dec_false (by omega) ?_
  have hfw := size_wt f
  have hlw := len_vwt l
  have hszf : f.size ≤ 1048576 := by omega
  have hll : l.length ≤ 1048576 := by omega
  have x03 := x02.trans x3
  have x13 := x2.trans x3
  replace hb := hb.ext x13
  replace hs := hs.ext x03
  replace hl := LsSl.ext x03 hl
  -- what the reference gives
  refine ⟨tc x s, rfl, hb, ?_⟩
  refine Or.inl ((toTerm_ret f x s w3 hs hszf).mono ?_)
  rintro _ w4 ⟨x4, s4, rfl, hs4⟩
  refine Or.inl ((toValueS_ret l sl w4 (LsSl.ext x4 hl) hll).mono ?_)
  rintro sl5 w5 ⟨x5, hl5, -⟩
  refine Or.inl ((hsp s4 sl5 w5 ((hs4.ext x5).mono fun _ _ => trivial) (LsSl.mono (fun _ _ => trivial) hl5)).mono ?_)
  rintro _ w6 ⟨v6, rfl, x6, ss, rfl, hss⟩
  have k7 := keep5 (W := w6) (x := o.1) (s := ss) (tc_one hss)
  have cS := k7.2.1
  have x7 := k7.2.2
  refine ⟨k7.1, ?_⟩
  have z7 : w6.heap.size < (setCells (w6.alloc (.cells #[.int .i64 0, .int .i64 0, .int .i64 0, .string ByteArray.empty, .slice none 0 0] 30)) w6.heap.size 0 (tc o.1 ss)).heap.size := World.block_lt_of_cell? _ _ cS.1
  have hS : TSl (fun b => b < w6.heap.size) w6 ss o.2 := hss.lt.mono fun b hb => hb.2
  replace hS := hS.ext x7
  have x37 := ((x4.trans x5).trans x6).trans x7
  -- what the program gives
  refine ⟨tc x s, rfl, hb.ext x37, ?_⟩
  refine Or.inl ((toTerm_sep f x s _ (hs.ext x37) hszf).mono ?_)
  rintro _ w8 ⟨x8, s8, rfl, hsep⟩
  have k9 := keep5 (W := w8) (x := x) (tc_one hsep.any)
  have c9 := k9.2.1
  have x9 := k9.2.2
  refine ⟨k9.1, ?_⟩
  have z9 : w8.heap.size < (setCells (w8.alloc (.cells #[.int .i64 0, .int .i64 0, .int .i64 0, .string ByteArray.empty, .slice none 0 0] 30)) w8.heap.size 0 (tc x s8)).heap.size := World.block_lt_of_cell? _ _ c9.1
  have x39 := x37.trans (x8.trans x9)
  have hsep9 := hsep.ext (Nat.le_refl _) x9
  refine Or.inl ((toValueS_own l sl _ (LsSl.ext x39 hl) hll).mono ?_)
  rintro sl10 w10 ⟨x10, ho10, hb10⟩
  refine ⟨tc x s8, rfl, c9.ext x10, ?_⟩
  refine Or.inl ((him s8 sl10 w10 (hsep9.any.ext x10) (SlR.vsl (ho10.sl (fun _ _ => trivial) (fun _ _ => trivial)))).mono ?_)
  rintro _ w11 ⟨v11, rfl, x11, si, rfl, hsi⟩
  have k12 := keep5 (W := w11) (x := o.1) (s := si) (tc_one hsi.any)
  have cI := k12.2.1
  have x12 := k12.2.2
  refine ⟨k12.1, ?_⟩
  have z12 : w11.heap.size < (setCells (w11.alloc (.cells #[.int .i64 0, .int .i64 0, .int .i64 0, .string ByteArray.empty, .slice none 0 0] 30)) w11.heap.size 0 (tc o.1 si)).heap.size := World.block_lt_of_cell? _ _ cI.1
  have x1012 := x11.trans x12
  have x912 := x10.trans x1012
  have x712 := (x8.trans x9).trans x912
  have zA := x8.size
  have zB := x10.size
  have zC := x11.size
  have hI := hsi.ext (Nat.le_refl _) x12
  refine ⟨_, rfl, cI, _, rfl, cS.ext x712, ?_⟩
  refine Or.inl ((eqTerm_ret _ _ _ _ si ss _ hI.any ((hS.ext x712).mono fun _ _ => trivial)).mono ?_)
  rintro _ w13 ⟨rfl, y13⟩
  refine br_ndec (fun h => absurd ⟨rfl, rfl⟩ h) (fun _ => ?_)
  refine br_false (by simp) ?_
  refine .inr (.inr (hyb_rule ties mixed [(0, .quiet), (1, .quiet), (2, .loud), (3, .quiet), (4, .quiet)] (by kernel_rfl) ?_))
  have x913 := x912.trans y13
  have x313 := x37.trans (x712.trans y13)
  refine ⟨tc x s8, rfl, c9.ext x913, tc x s, rfl, hb.ext x313, ?_⟩
  intro w14 x14
  refine Or.inl ((toTerm_ret f x s w14 (hs.ext (x313.trans x14)) hszf).mono ?_)
  rintro _ w15 ⟨x15, s15, rfl, hs15⟩
  have x915 := (x913.trans x14).trans x15
  refine ⟨x15, .bool true, fun w' hw' => (eqTerm_ret f f x x s8 s15 _ (hsep9.any.ext (x915.trans hw')) ((hs15.ext hw').mono fun _ _ => trivial)).mono ?_, ?_⟩
  · rintro _ w'' ⟨rfl, h⟩
    exact ⟨by simp, h⟩
  intro w16 x16
  have y16 := ((y13.trans x14).trans x15).trans x16
  have x316 := x37.trans (x712.trans y16)
  refine Or.inl ((toValueS_ret l sl _ (LsSl.ext x316 hl) hll).mono ?_)
  rintro sl17 w17 ⟨x17, hl17, -⟩
  have x1017 := (x1012.trans y16).trans x17
  refine Or.inl ((eqValueS_ret l l sl10 sl17 w17 (SlR.vsl ((ho10.ext x1017).sl (fun _ _ => trivial) (fun _ _ => trivial))) (LsSl.mono (fun _ _ => trivial) hl17)).mono ?_)
  rintro _ w18 ⟨rfl, x18⟩
  refine br_ndec (fun h => absurd rfl h) (fun _ => ?_)
  have y18 := (y16.trans x17).trans x18
  have x918 := x912.trans y18
  have x718 := x712.trans y18
  have x1018 := x1012.trans y18
  have z18 := y18.size
  -- marks on the arguments
  refine ⟨tc x s8, rfl, c9.ext x918, ?_⟩
  refine Or.inl ((markTerm_ret f x s8 (setCells (w6.alloc (.cells #[.int .i64 0, .int .i64 0, .int .i64 0, .string ByteArray.empty, .slice none 0 0] 30)) w6.heap.size 0 (tc o.1 ss)).heap.size w8.heap.size 1 _ (hsep9.ext (Nat.le_of_lt z9) x918) (by omega) (by decide) (by omega)).mono ?_)
  rintro _ w19 ⟨rfl, -, hch19⟩
  have z19 := hch19.size
  have hb10' : ∀ b, blk sl10 b → w8.heap.size < b ∧ b < w10.heap.size := fun b h => by have := hb10 b h; omega
  have ho19 := (ho10.ext x1018).chg (S := fun b => (setCells (w6.alloc (.cells #[.int .i64 0, .int .i64 0, .int .i64 0, .string ByteArray.empty, .slice none 0 0] 30)) w6.heap.size 0 (tc o.1 ss)).heap.size ≤ b ∧ b < w8.heap.size) (fun b hb => hb.elim) (fun b hb e => by have := hb10' b hb; omega) hch19
  refine Or.inl ((markValueS_ret l sl10 _ w19 ho19 (by omega) (by omega)).mono ?_)
  rintro _ w20 ⟨rfl, -, hch20⟩
  have z20 := hch20.size
  have cI20 := hch20.cells (b := w11.heap.size) (fun e => by have := hb10' _ e; omega) (hch19.cells (b := w11.heap.size) (fun e => by omega) (cI.ext y18))
  have cS20 := hch20.cells (b := w6.heap.size) (fun e => by have := hb10' _ e; omega) (hch19.cells (b := w6.heap.size) (fun e => by omega) (cS.ext x718))
  have hS20 := Fo.Sl.chg (fun b hb e => by have := hb10' b e; omega) hch20 (Fo.Sl.chg (fun b hb e => by omega) hch19 (hS.ext x718))
  have hI20 : TSep w20 si o.2 w10.heap.size w11.heap.size := hI.keep tlc_len fun b g1 g2 => (hch20.block b (by omega) (fun e => by have := hb10' b e; omega)).trans ((hch19.block b (by omega) (by omega)).trans (y18.block b (by omega)))
  refine ⟨_, rfl, cI20, _, rfl, cS20, ?_⟩
  refine Or.inl ((eqTerm_ret _ _ _ _ si ss _ hI20.any (hS20.mono fun _ _ => trivial)).mono ?_)
  rintro _ w21 ⟨rfl, x21⟩
  refine br_ndec (fun h => absurd ⟨rfl, rfl⟩ h) (fun _ => ?_)
  refine br_false (by simp) ?_
  -- marks on the result
  have z21 := x21.size
  refine ⟨_, rfl, cI20.ext x21, ?_⟩
  refine Or.inl ((markTerm_ret _ _ si w10.heap.size w11.heap.size 1 _ (hI20.ext (by omega) x21) (by omega) (by decide) (by omega)).mono ?_)
  rintro _ w22 ⟨rfl, hI22, hch22⟩
  have z22 := hch22.size
  have cI22 := hch22.cells (b := w11.heap.size) (fun e => by omega) (cI20.ext x21)
  have cS22 := hch22.cells (b := w6.heap.size) (fun e => by omega) (cS20.ext x21)
  have hS22 := Fo.Sl.chg (fun b hb e => by omega) hch22 (hS20.ext x21)
  refine ⟨_, rfl, cI22, ?_⟩
  refine Or.inl ((heldTerm_ret _ _ si 1 _ hI22.any (by decide) (by omega)).mono ?_)
  rintro _ w23 ⟨rfl, x23⟩
  refine br_dec (fun h => absurd rfl h) (fun _ => ?_)
  -- once more
  have z37 := x37.size
  have x318 := x37.trans x718
  have xa : Ext w3 w23 := ((((x318.chg hch19 fun b hb => by omega).chg hch20 fun b hb => by have := hb10' b hb; omega).trans x21).chg hch22 fun b hb => by omega).trans x23
  refine ⟨tc x s, rfl, hb.ext xa, ?_⟩
  refine Or.inl ((toTerm_ret f x s w23 (hs.ext xa) hszf).mono ?_)
  rintro _ w24 ⟨x24, s24, rfl, hs24⟩
  refine Or.inl ((toValueS_ret l sl w24 (LsSl.ext (xa.trans x24) hl) hll).mono ?_)
  rintro sl25 w25 ⟨x25, hl25, -⟩
  refine Or.inl ((him s24 sl25 w25 ((hs24.ext x25).mono fun _ _ => trivial) (LsSl.mono (fun _ _ => trivial) hl25)).mono ?_)
  rintro _ w26 ⟨v26, rfl, x26, sj, rfl, hsj⟩
  have k27 := keep5 (W := w26) (x := o.1) (s := sj) (tc_one hsj.any)
  have cJ := k27.2.1
  have x27 := k27.2.2
  refine ⟨k27.1, ?_⟩
  have x2327 := ((x24.trans x25).trans x26).trans x27
  have x2227 := x23.trans x2327
  refine ⟨_, rfl, cJ, _, rfl, cS22.ext x2227, ?_⟩
  refine Or.inl ((eqTerm_ret _ _ _ _ sj ss _ (hsj.any.ext x27) ((hS22.ext x2227).mono fun _ _ => trivial)).mono ?_)
  rintro _ w28 ⟨rfl, x28⟩
  refine br_ndec (fun h => absurd ⟨rfl, rfl⟩ h) (fun _ => ?_)
  refine br_false (by simp) ?_
  refine ⟨_, rfl, cI22.ext (x2227.trans x28), ?_⟩
  refine Or.inl ((heldTerm_ret _ _ si 1 _ (hI22.any.ext (x2227.trans x28)) (by decide) (by omega)).mono ?_)
  rintro _ w29 ⟨rfl, x29⟩
  refine br_dec (fun h => absurd rfl h) (fun _ => ?_)
  exact ⟨rfl, x03.trans (xa.trans ((x2327.trans x28).trans x29))⟩
theorem own : ownKnob Tryz.prog.godebug = none := by kernel_rfl
theorem laidOut : laidOutB Tryz.prog = true := by kernel_rfl
set_option maxRecDepth 100000 in
theorem lifted (os : Os) (started : os.Started) (H : Type) (enc : TypeId × Value → H) :
    ReturnsInHanded {} Tryz.checked os 3 .any (Rows.fnExactPutValuesSpec.pre6 enc Tryz.prog Tryz.f3 Rows.fnExactPutValuesRow.domain false) (Rows.fnExactPutValuesSpec.post enc Tryz.prog Tryz.f3 false true false false) := by
  refine returnsInHanded_of_change (C := Tryz.checked) own started (by kernel_rfl) Tryz.func3
    (ChangeSpec.witness6 (enc := enc) (C := Tryz.checked) false ⟨#[], #[.agg #[.int .i64 0, .int .i64 0, .int .i64 0, .string ByteArray.empty, .slice none 0 0], .slice none 0 0], []⟩ 8 (by kernel_rfl) (by kernel_rfl) (by kernel_rfl) (by kernel_rfl)) ?_
  intro W base args ds gs before hval0 hW hcnd _
  have hval : ∀ (j : Nat) t v, Tryz.f3.params[j]? = some t → args[j]? = some v → Value.okWide Tryz.prog W .any base t v := hval0
  have hW' := hW
  obtain ⟨p, q, hA0, hV, rfl, hfz, hnd⟩ := hW
  have hA : DataW.TrodAll enc Tryz.prog W 0 (fun _ => true) true Tryz.f3.params.toList args.toList ds p := hA0
  rw [Tryz.params3] at hA hval
  obtain ⟨v0, vs0, d0, ds0, p0, q0, hargs, rfl, rfl, h0, r0⟩ := trodAll_cons hA
  obtain ⟨v1, vs1, d1, ds1, p1, q1, rfl, rfl, rfl, h1, r1⟩ := trodAll_cons r0
  obtain ⟨rfl, rfl, rfl⟩ := trodAll_nil r1
  obtain rfl : args = #[v0, v1] := by cases args; simp_all
  obtain ⟨rfl, rfl⟩ := trodVars_none hV
  have k0 := h0
  have lt0 : ∀ x ∈ p0, x.block < W.heap.size := by obtain ⟨m, hm⟩ := k0; exact DataW.trod_lt m _ _ _ hm
  obtain ⟨X0, S0, F0, rfl, HS0, HP0, HX0⟩ := open_Term (hval 0 24 v0 rfl rfl) h0
  have k1 := h1
  have lt1 : ∀ x ∈ p1, x.block < W.heap.size := by obtain ⟨m, hm⟩ := k1; exact DataW.trod_lt m _ _ _ hm
  obtain ⟨L1, HS1, HP1⟩ := open_Values (hval 1 25 v1 rfl rfl) h1
  clear hA0 hval0
  refine (walk W X0 S0 F0 HS0 HP0 HX0 L1 v1 HS1 HP1).calls.mono fun e W' ⟨v, he, hv, bel⟩ => ?_
  subst hv
  subst he
  exact ⟨_, rfl, _, _, _, [], _, [], hW', trodAll_mk1 (shut_bool Tryz.underlying4 _), (trodAll_cons_mk (Below.trod laidOut (by kernel_rfl) (of_decide_eq_true (by kernel_rfl)) k0 bel lt0) (trodAll_cons_mk (Below.trod laidOut (by kernel_rfl) (of_decide_eq_true (by kernel_rfl)) k1 bel lt1) trodAll_mk0)), rfl, bel.frame _, fun h => by cases h⟩
theorem band {a b : Bool} (h1 : a = true) (h2 : b = true) : (a && b) = true := by rw [h1, h2]; rfl
theorem lifted_ok : (Rows.fnExactPutValuesRow.lifted == Tryz.pinned.checked.prog.liftsFinal) = true := by rw [head_final]; rfl
theorem make_ok : (Tryz.pinned.checked.prog.make == some Rows.fnExactPutValuesRow.make) = true := by rw [head_make]; rfl
set_option maxHeartbeats 4000000 in
theorem closed : joinedFacts Tryz.pinned.checked.prog 3 Tryz.f3 Rows.fnExactPutValuesSpec Rows.fnExactPutValuesRow = true := by
  unfold joinedFacts
  repeat' (with_reducible refine band ?_ ?_)
  all_goals (first | with_reducible exact head_enter | with_reducible exact lifted_ok | with_reducible exact make_ok | (as_aux_lemma => kernel_rfl))
theorem holds : Rows.fnExactPutValuesRow.holds Tryz.pinned (OpenSpec.ofChange Rows.fnExactPutValuesSpec) :=
  OpenClaim.holds_of_wide 3 Tryz.f3 rfl rfl rfl rfl rfl rfl rfl ⟨rfl, rfl, rfl, rfl, rfl⟩ rfl rfl rfl rfl rfl (by as_aux_lemma => kernel_rfl) Tryz.func3 closed
    (of_decide_eq_true (by as_aux_lemma => kernel_rfl)) (by unfold Func.isWrapper; first | (rw [if_pos (by decide +kernel)]; kernel_rfl) | (rw [if_neg (by decide +kernel)]; exact ⟨rfl, rfl⟩))
    (fun os started H enc _ => lifted os started H enc)
/-- The statement. -/
theorem proved : Rows.FnExactPutValuesSaid := holds
#print axioms proved
end Go.Proofs.YtkoaicjcanplaaaGreat.lawFnExactPutValues
