/- The law FnExactMakeTerm: whatever the arguments, it returns true; all that was there is as it was. No condition. -/
import Derived.Test.YtkoaicjcanplaaaN7
import Derived.Test.YtkoaicjcanplaaaOt
import Derived.Test.YtkoaicjcanplaaaMt
import Derived.Test.YtkoaicjcanplaaaTo
import Derived.Test.YtkoaicjcanplaaaZw
import Derived.WalkKit
import Derived.ProofKit
import Derived.OpenShut
import Derived.ShutString
import Derived.ChangeOld
import Derived.Below
namespace Go.Proofs.Ytkoaicjcanplaaa.lawFnExactMakeTerm
open Go Go.Vc Go.ChangeShapes Go.WideShapes Go.ChangeAt Go.RowKit
set_option linter.unusedVariables false

set_option maxRecDepth 100000 in
set_option maxHeartbeats 8000000 in
theorem walk (W : World) (a0 : Int) (w0 : (Lit.int .i64 a0).wf = true) (a1 : Int) (w1 : (Lit.int .i64 a1).wf = true) (a2 : Int) (w2 : (Lit.int .i64 a2).wf = true) (f : TF) (s : Value) (hs : TSl anyB W s f) (hp : f.All okL) :
    Ret Try.prog 10 #[.int .i64 a0, .int .i64 a1, .int .i64 a2, s] W (fun v w' => v = .bool true ∧ Ext W w') := by
  have x1 : Ext W W := Ext.refl W
  have hr := fun (a : Int) (h : (Lit.int .i64 a).wf = true) => (inI_wf h : inI a)
  obtain ⟨om, hom⟩ : ∃ om, mkO (mkn a0 a1 a2, f) = om := ⟨_, rfl⟩
  obtain ⟨o, ho⟩ : ∃ o, om.getD zeroT = o := ⟨_, rfl⟩
  obtain ⟨bb, hbb⟩ : ∃ bb, om.isSome = bb := ⟨_, rfl⟩
  have hsp : ∀ s w, TSl anyB w s f → Ret Try.prog 45 #[.int .i64 a0, .int .i64 a1, .int .i64 a2, s] w (FirR anyB bb o w) := fun s w h => by rw [← ho, ← hbb, ← hom]; exact (spec_MakeTerm a0 a1 a2 f s w ⟨hr _ w0, hr _ w1, hr _ w2⟩ hp h).mono fun v w' hh => hh.mono fun _ _ => trivial
  have him : ∀ s w, TSl anyB w s f → Ret Try.prog 47 #[.int .i64 a0, .int .i64 a1, .int .i64 a2, s] w (CFir bb o w) := fun s w h => by rw [← ho, ← hbb, ← hom]; exact impl_MakeTerm a0 a1 a2 f s w ⟨hr _ w0, hr _ w1, hr _ w2⟩ hp h
  have hosz : f.size ≤ 1048576 → o.2.size ≤ 1048576 := fun _ => by have := mkOd_sz (mkn a0 a1 a2, f); rw [hom, ho] at this; omega
  clear ho hbb hom
  refine ret_of_vc ties mixed Try.func10 rfl (by kernel_rfl) rfl rfl ?_
  refine Or.inl ((szTermS_all _ f (Nat.lt_succ_self _) s 1048576 _ (hs.ext x1) hp (by decide) (by decide)).mono ?_)
  rintro _ w2 ⟨x2, rfl | ⟨hsz, rfl⟩⟩
  · exact ⟨rfl, x2⟩
  refine br_dec_false (by omega) ?_
  have hfw := size_wt f
  have hsz : f.size ≤ 1048576 := by omega
  have hosz := hosz hsz
  replace hs := hs.ext (x1.trans x2)
  -- what the reference gives
  refine Or.inl ((toTermS_all _ f (Nat.lt_succ_self _) s w2 hs hsz).mono ?_)
  rintro s3 w3 ⟨x3, hs3⟩
  refine Or.inl ((hsp s3 w3 (hs3.mono fun _ _ => trivial)).mono ?_)
  rintro _ w4 ⟨v4, rfl, x4, ss, rfl, hss⟩
  have kx5 := keep5 (W := w4) (x := o.1) (s := ss) (tc_one hss)
  have cS := kx5.2.1
  have x5 := kx5.2.2
  refine ⟨kx5.1, ?_⟩
  have x25 := (x3.trans x4).trans x5
  have z5 : w4.heap.size < (setCells (w4.alloc (.cells #[.int .i64 0, .int .i64 0, .int .i64 0, .string ByteArray.empty, .slice none 0 0] 25)) w4.heap.size 0 (tc o.1 ss)).heap.size := World.block_lt_of_cell? _ _ cS.1
  have hS : TSl (fun b => b < w4.heap.size) w4 ss o.2 := hss.lt.mono fun b hb => hb.2
  replace hS := hS.ext x5
  -- what the program gives
  refine Or.inl ((toTermS_sep _ f (Nat.lt_succ_self _) s _ (hs.ext x25) hsz).mono ?_)
  rintro s6 w6 ⟨x6, hsep⟩
  have hsep7 := hsep
  have x57 := x6
  refine Or.inl ((him _ w6 (hsep7.any)).mono ?_)
  rintro _ w8 ⟨v8, rfl, x8, si, rfl, hsi⟩
  have kx9 := keep5 (W := w8) (x := o.1) (s := si) (tc_one hsi.any)
  have cI := kx9.2.1
  have x9 := kx9.2.2
  refine ⟨kx9.1, ?_⟩
  have z9 : w8.heap.size < (setCells (w8.alloc (.cells #[.int .i64 0, .int .i64 0, .int .i64 0, .string ByteArray.empty, .slice none 0 0] 25)) w8.heap.size 0 (tc o.1 si)).heap.size := World.block_lt_of_cell? _ _ cI.1
  have x59 := (x57.trans x8).trans x9
  have x79 := x8.trans x9
  have zA := x6.size
  have zB := x8.size
  have hI := hsi.ext (Nat.le_refl _) x9
  refine ⟨_, rfl, cI, _, rfl, cS.ext x59, ?_⟩
  refine Or.inl ((eqTerm_ret _ _ _ _ si ss _ hI.any ((hS.ext x59).mono fun _ _ => trivial)).mono ?_)
  rintro _ w10 ⟨rfl, x10⟩
  refine br_ndec (fun h => absurd ⟨rfl, rfl⟩ h) (fun _ => ?_)
  refine br_false (by simp) ?_
  have x510 := x59.trans x10
  have x710 := x79.trans x10
  refine Or.inl ((toTermS_all _ f (Nat.lt_succ_self _) s w10 (hs.ext (x25.trans x510)) hsz).mono ?_)
  rintro s12 w12 ⟨x12, hs12⟩
  have x712 := x710.trans x12
  refine Or.inl ((eqTermS_all _ f f (Nat.lt_succ_self _) _ s12 w12 (hsep7.any.ext x712) (hs12.mono fun _ _ => trivial)).mono ?_)
  rintro _ w13 ⟨rfl, x13⟩
  refine br_ndec (fun h => absurd rfl h) (fun _ => ?_)
  have x1013 := x12.trans x13
  have x913 := x10.trans x1013
  have x513 := x59.trans x913
  have x713 := x79.trans x913
  have z13 := x913.size
  -- marks on the arguments
  refine Or.inl ((markTermS_all _ f (Nat.lt_succ_self _) _ (setCells (w4.alloc (.cells #[.int .i64 0, .int .i64 0, .int .i64 0, .string ByteArray.empty, .slice none 0 0] 25)) w4.heap.size 0 (tc o.1 ss)).heap.size w6.heap.size 1 _ (hsep7.ext (Nat.le_refl _) x713) (by have := x713.size; omega) (by decide) (by omega)).mono ?_)
  rintro _ w14 ⟨rfl, -, hch14⟩
  have z14 := hch14.size
  have zW7 : w6.heap.size ≤ w6.heap.size := Nat.le_refl _
  have cI14 := hch14.cells (b := w8.heap.size) (fun e => by omega) (cI.ext x913)
  have cS14 := hch14.cells (b := w4.heap.size) (fun e => by omega) (cS.ext x513)
  have hS14 := Fo.Sl.chg (fun b hb e => by omega) hch14 (hS.ext x513)
  have hI14 : TSep w14 si o.2 w6.heap.size w8.heap.size := hI.keep tlc_len fun b g1 g2 => (hch14.block b (by omega) (by omega)).trans (x913.block b (by omega))
  refine ⟨_, rfl, cI14, _, rfl, cS14, ?_⟩
  refine Or.inl ((eqTerm_ret _ _ _ _ si ss _ hI14.any (hS14.mono fun _ _ => trivial)).mono ?_)
  rintro _ w15 ⟨rfl, x15⟩
  refine br_ndec (fun h => absurd ⟨rfl, rfl⟩ h) (fun _ => ?_)
  refine br_false (by simp) ?_
  -- marks on the result
  have z15 := x15.size
  refine ⟨_, rfl, cI14.ext x15, ?_⟩
  refine Or.inl ((markTerm_ret _ _ si w6.heap.size w8.heap.size 1 _ (hI14.ext (by omega) x15) (by omega) (by decide) (by omega)).mono ?_)
  rintro _ w16 ⟨rfl, hI16, hch16⟩
  have z16 := hch16.size
  have cI16 := hch16.cells (b := w8.heap.size) (fun e => by omega) (cI14.ext x15)
  have cS16 := hch16.cells (b := w4.heap.size) (fun e => by omega) (cS14.ext x15)
  have hS16 := Fo.Sl.chg (fun b hb e => by omega) hch16 (hS14.ext x15)
  refine ⟨_, rfl, cI16, ?_⟩
  refine Or.inl ((heldTerm_ret _ _ si 1 _ hI16.any (by decide) (by omega)).mono ?_)
  rintro _ w17 ⟨rfl, x17⟩
  refine br_dec (fun h => absurd rfl h) (fun _ => ?_)
  -- once more
  have xa : Ext w2 w17 := (((x25.trans x513).chg hch14 fun b hb => by have := x25.size; omega).trans x15).chg hch16 (fun b hb => by have := x25.size; omega) |>.trans x17
  refine Or.inl ((toTermS_all _ f (Nat.lt_succ_self _) s w17 (hs.ext xa) hsz).mono ?_)
  rintro s18 w18 ⟨x18, hs18⟩
  refine Or.inl ((him s18 w18 (hs18.mono fun _ _ => trivial)).mono ?_)
  rintro _ w19 ⟨v19, rfl, x19, sj, rfl, hsj⟩
  have kx20 := keep5 (W := w19) (x := o.1) (s := sj) (tc_one hsj.any)
  have cJ := kx20.2.1
  have x20 := kx20.2.2
  refine ⟨kx20.1, ?_⟩
  have x1720 := (x18.trans x19).trans x20
  have x1620 := x17.trans x1720
  refine ⟨_, rfl, cJ, _, rfl, cS16.ext x1620, ?_⟩
  refine Or.inl ((eqTerm_ret _ _ _ _ sj ss _ (hsj.any.ext x20) ((hS16.ext x1620).mono fun _ _ => trivial)).mono ?_)
  rintro _ w21 ⟨rfl, x21⟩
  refine br_ndec (fun h => absurd ⟨rfl, rfl⟩ h) (fun _ => ?_)
  refine br_false (by simp) ?_
  refine ⟨_, rfl, cI16.ext (x1620.trans x21), ?_⟩
  refine Or.inl ((heldTerm_ret _ _ si 1 _ (hI16.any.ext (x1620.trans x21)) (by decide) (by omega)).mono ?_)
  rintro _ w22 ⟨rfl, x22⟩
  refine br_dec (fun h => absurd rfl h) (fun _ => ?_)
  exact ⟨rfl, (x1.trans x2).trans (xa.trans ((x1720.trans x21).trans x22))⟩
theorem own : ownKnob Try.prog.godebug = none := by kernel_rfl
theorem laidOut : laidOutB Try.prog = true := by kernel_rfl
set_option maxRecDepth 100000 in
theorem lifted (os : Os) (started : os.Started) (H : Type) (enc : TypeId × Value → H) :
    ReturnsInHanded {} Try.checked os 10 .any (Rows.fnExactMakeTermSpec.pre6 enc Try.prog Try.f10 Rows.fnExactMakeTermRow.domain false) (Rows.fnExactMakeTermSpec.post enc Try.prog Try.f10 false true false false) := by
  refine returnsInHanded_of_change (C := Try.checked) own started (by kernel_rfl) Try.func10
    (ChangeSpec.witness6 (enc := enc) (C := Try.checked) false ⟨#[], #[.int .i64 0, .int .i64 0, .int .i64 0, .slice none 0 0], []⟩ 8 (by kernel_rfl) (by kernel_rfl) (by kernel_rfl) (by kernel_rfl)) ?_
  intro W base args ds gs before hval0 hW hcnd _
  have hval : ∀ (j : Nat) t v, Try.f10.params[j]? = some t → args[j]? = some v → Value.okWide Try.prog W .any base t v := hval0
  have hW' := hW
  obtain ⟨p, q, hA0, hV, rfl, hfz, hnd⟩ := hW
  have hA : DataW.TrodAll enc Try.prog W 0 (fun _ => true) true Try.f10.params.toList args.toList ds p := hA0
  rw [Try.params10] at hA hval
  obtain ⟨v0, vs0, d0, ds0, p0, q0, hargs, rfl, rfl, h0, r0⟩ := trodAll_cons hA
  obtain ⟨v1, vs1, d1, ds1, p1, q1, rfl, rfl, rfl, h1, r1⟩ := trodAll_cons r0
  obtain ⟨v2, vs2, d2, ds2, p2, q2, rfl, rfl, rfl, h2, r2⟩ := trodAll_cons r1
  obtain ⟨v3, vs3, d3, ds3, p3, q3, rfl, rfl, rfl, h3, r3⟩ := trodAll_cons r2
  obtain ⟨rfl, rfl, rfl⟩ := trodAll_nil r3
  obtain rfl : args = #[v0, v1, v2, v3] := by cases args; simp_all
  obtain ⟨rfl, rfl⟩ := trodVars_none hV
  have k0 := h0
  have lt0 : ∀ x ∈ p0, x.block < W.heap.size := by obtain ⟨m, hm⟩ := k0; exact DataW.trod_lt m _ _ _ hm
  obtain ⟨a0, rfl, rfl, rfl, w0⟩ := open_int Try.underlying3 (hval 0 3 v0 rfl rfl) h0
  have k1 := h1
  have lt1 : ∀ x ∈ p1, x.block < W.heap.size := by obtain ⟨m, hm⟩ := k1; exact DataW.trod_lt m _ _ _ hm
  obtain ⟨a1, rfl, rfl, rfl, w1⟩ := open_int Try.underlying3 (hval 1 3 v1 rfl rfl) h1
  have k2 := h2
  have lt2 : ∀ x ∈ p2, x.block < W.heap.size := by obtain ⟨m, hm⟩ := k2; exact DataW.trod_lt m _ _ _ hm
  obtain ⟨a2, rfl, rfl, rfl, w2⟩ := open_int Try.underlying3 (hval 2 3 v2 rfl rfl) h2
  have k3 := h3
  have lt3 : ∀ x ∈ p3, x.block < W.heap.size := by obtain ⟨m, hm⟩ := k3; exact DataW.trod_lt m _ _ _ hm
  obtain ⟨F3, HS3, HP3⟩ := open_Terms (hval 3 41 v3 rfl rfl) h3
  clear hA0 hval0
  refine (walk W a0 w0 a1 w1 a2 w2 F3 v3 HS3 HP3).calls.mono fun e W' ⟨v, he, hv, bel⟩ => ?_
  subst hv
  subst he
  exact ⟨_, rfl, _, _, _, [], _, [], hW', trodAll_mk1 (shut_bool Try.underlying4 _), (trodAll_cons_mk (Below.trod laidOut (by kernel_rfl) (of_decide_eq_true (by kernel_rfl)) k0 bel lt0) (trodAll_cons_mk (Below.trod laidOut (by kernel_rfl) (of_decide_eq_true (by kernel_rfl)) k1 bel lt1) (trodAll_cons_mk (Below.trod laidOut (by kernel_rfl) (of_decide_eq_true (by kernel_rfl)) k2 bel lt2) (trodAll_cons_mk (Below.trod laidOut (by kernel_rfl) (of_decide_eq_true (by kernel_rfl)) k3 bel lt3) trodAll_mk0)))), rfl, bel.frame _, fun h => by cases h⟩
theorem band {a b : Bool} (h1 : a = true) (h2 : b = true) : (a && b) = true := by rw [h1, h2]; rfl
theorem lifted_ok : (Rows.fnExactMakeTermRow.lifted == Try.pinned.checked.prog.liftsFinal) = true := by rw [head_final]; rfl
theorem make_ok : (Try.pinned.checked.prog.make == some Rows.fnExactMakeTermRow.make) = true := by rw [head_make]; rfl
set_option maxHeartbeats 4000000 in
theorem closed : joinedFacts Try.pinned.checked.prog 10 Try.f10 Rows.fnExactMakeTermSpec Rows.fnExactMakeTermRow = true := by
  unfold joinedFacts
  repeat' (with_reducible refine band ?_ ?_)
  all_goals (first | with_reducible exact head_enter | with_reducible exact lifted_ok | with_reducible exact make_ok | (as_aux_lemma => kernel_rfl))
theorem holds : Rows.fnExactMakeTermRow.holds Try.pinned (OpenSpec.ofChange Rows.fnExactMakeTermSpec) :=
  OpenClaim.holds_of_wide 10 Try.f10 rfl rfl rfl rfl rfl rfl rfl ⟨rfl, rfl, rfl, rfl, rfl⟩ rfl rfl rfl rfl rfl (by as_aux_lemma => kernel_rfl) Try.func10 closed
    (of_decide_eq_true (by as_aux_lemma => kernel_rfl)) (by unfold Func.isWrapper; first | (rw [if_pos (by decide +kernel)]; kernel_rfl) | (rw [if_neg (by decide +kernel)]; exact ⟨rfl, rfl⟩))
    (fun os started H enc _ => lifted os started H enc)
/-- The statement. -/
theorem proved : Rows.FnExactMakeTermSaid := holds
#print axioms proved
end Go.Proofs.Ytkoaicjcanplaaa.lawFnExactMakeTerm
