/- The law FnExactAllOf: whatever the arguments, it returns true; all that was there is as it was. No condition. -/
import Derived.Test.YtkoaicjcanplaaaN8
import Derived.Test.YtkoaicjcanplaaaOt
import Derived.Test.YtkoaicjcanplaaaMt
import Derived.Test.YtkoaicjcanplaaaTo
import Derived.Test.YtkoaicjcanplaaaZw
import Derived.WalkKit
import Derived.ProofKit
import Derived.OpenShut
import Derived.ShutString
import Derived.ChangeOld
import Derived.Below
namespace Go.Proofs.Ytkoaicjcanplaaa.lawFnExactAllOf
open Go Go.Vc Go.ChangeShapes Go.WideShapes Go.ChangeAt Go.RowKit
set_option linter.unusedVariables false

set_option maxRecDepth 100000 in
set_option maxHeartbeats 8000000 in
theorem walk (W : World) (f : TF) (s : Value) (hs : TSl anyB W s f) (hp : f.All okL) :
    Ret Try.prog 14 #[s] W (fun v w' => v = .bool true ∧ Ext W w') := by
  have x1 : Ext W W := Ext.refl W
  obtain ⟨om, hom⟩ : ∃ om, allO (tms f) = om := ⟨_, rfl⟩
  obtain ⟨o, ho⟩ : ∃ o, om.getD zeroT = o := ⟨_, rfl⟩
  obtain ⟨bb, hbb⟩ : ∃ bb, om.isSome = bb := ⟨_, rfl⟩
  have hsp : ∀ s w, TSl anyB w s f → Ret Try.prog 59 #[s] w (FirR anyB bb o w) := fun s w h => by rw [← ho, ← hbb, ← hom]; exact spec_AllOf f s w h hp
  have him : ∀ s w, TSl anyB w s f → Ret Try.prog 60 #[s] w (CFir bb o w) := fun s w h => by rw [← ho, ← hbb, ← hom]; exact impl_AllOf f s w h hp
  have hosz : f.size ≤ 1048576 → o.2.size ≤ 1048576 := fun _ => by have := allO_sz (tms f); rw [hom, ho] at this; omega
  clear ho hbb hom
  refine ret_of_vc ties mixed Try.func14 rfl (by kernel_rfl) rfl rfl ?_
  refine Or.inl ((szTermS_all _ f (Nat.lt_succ_self _) s 1048576 _ (hs.ext x1) hp (by decide) (by decide)).mono ?_)
  rintro _ w2 ⟨x2, rfl | ⟨hsz, rfl⟩⟩
  · exact ⟨rfl, x2⟩
  refine br_dec_false (by omega) ?_
  have hfw := size_wt f
  have hsz : f.size ≤ 1048576 := by omega
  have hosz := hosz hsz
  replace hs := hs.ext (x1.trans x2)
  -- what the reference gives
  refine Or.inl ((toTermS_all _ f (Nat.lt_succ_self _) s w2 hs hsz).mono ?_)
  rintro s3 w3 ⟨x3, hs3⟩
  refine Or.inl ((hsp s3 w3 (hs3.mono fun _ _ => trivial)).mono ?_)
  rintro _ w4 ⟨v4, rfl, x4, ss, rfl, hss⟩
  have kx5 := keep5 (W := w4) (x := o.1) (s := ss) (tc_one hss)
  have cS := kx5.2.1
  have x5 := kx5.2.2
  refine ⟨kx5.1, ?_⟩
  have x25 := (x3.trans x4).trans x5
  have z5 : w4.heap.size < (setCells (w4.alloc (.cells #[.int .i64 0, .int .i64 0, .int .i64 0, .string ByteArray.empty, .slice none 0 0] 25)) w4.heap.size 0 (tc o.1 ss)).heap.size := World.block_lt_of_cell? _ _ cS.1
  have hS : TSl (fun b => b < w4.heap.size) w4 ss o.2 := hss.lt.mono fun b hb => hb.2
  replace hS := hS.ext x5
  -- what the program gives
  refine Or.inl ((toTermS_sep _ f (Nat.lt_succ_self _) s _ (hs.ext x25) hsz).mono ?_)
  rintro s6 w6 ⟨x6, hsep⟩
  have hsep7 := hsep
  have x57 := x6
  refine Or.inl ((him _ w6 (hsep7.any)).mono ?_)
  rintro _ w8 ⟨v8, rfl, x8, si, rfl, hsi⟩
  have kx9 := keep5 (W := w8) (x := o.1) (s := si) (tc_one hsi.any)
  have cI := kx9.2.1
  have x9 := kx9.2.2
  refine ⟨kx9.1, ?_⟩
  have z9 : w8.heap.size < (setCells (w8.alloc (.cells #[.int .i64 0, .int .i64 0, .int .i64 0, .string ByteArray.empty, .slice none 0 0] 25)) w8.heap.size 0 (tc o.1 si)).heap.size := World.block_lt_of_cell? _ _ cI.1
  have x59 := (x57.trans x8).trans x9
  have x79 := x8.trans x9
  have zA := x6.size
  have zB := x8.size
  have hI := hsi.ext (Nat.le_refl _) x9
  refine ⟨_, rfl, cI, _, rfl, cS.ext x59, ?_⟩
  refine Or.inl ((eqTerm_ret _ _ _ _ si ss _ hI.any ((hS.ext x59).mono fun _ _ => trivial)).mono ?_)
  rintro _ w10 ⟨rfl, x10⟩
  refine br_ndec (fun h => absurd ⟨rfl, rfl⟩ h) (fun _ => ?_)
  refine br_false (by simp) ?_
  have x510 := x59.trans x10
  have x710 := x79.trans x10
  refine Or.inl ((toTermS_all _ f (Nat.lt_succ_self _) s w10 (hs.ext (x25.trans x510)) hsz).mono ?_)
  rintro s12 w12 ⟨x12, hs12⟩
  have x712 := x710.trans x12
  refine Or.inl ((eqTermS_all _ f f (Nat.lt_succ_self _) _ s12 w12 (hsep7.any.ext x712) (hs12.mono fun _ _ => trivial)).mono ?_)
  rintro _ w13 ⟨rfl, x13⟩
  refine br_ndec (fun h => absurd rfl h) (fun _ => ?_)
  have x1013 := x12.trans x13
  have x913 := x10.trans x1013
  have x513 := x59.trans x913
  have x713 := x79.trans x913
  have z13 := x913.size
  -- marks on the arguments
  refine Or.inl ((markTermS_all _ f (Nat.lt_succ_self _) _ (setCells (w4.alloc (.cells #[.int .i64 0, .int .i64 0, .int .i64 0, .string ByteArray.empty, .slice none 0 0] 25)) w4.heap.size 0 (tc o.1 ss)).heap.size w6.heap.size 1 _ (hsep7.ext (Nat.le_refl _) x713) (by have := x713.size; omega) (by decide) (by omega)).mono ?_)
  rintro _ w14 ⟨rfl, -, hch14⟩
  have z14 := hch14.size
  have zW7 : w6.heap.size ≤ w6.heap.size := Nat.le_refl _
  have cI14 := hch14.cells (b := w8.heap.size) (fun e => by omega) (cI.ext x913)
  have cS14 := hch14.cells (b := w4.heap.size) (fun e => by omega) (cS.ext x513)
  have hS14 := Fo.Sl.chg (fun b hb e => by omega) hch14 (hS.ext x513)
  have hI14 : TSep w14 si o.2 w6.heap.size w8.heap.size := hI.keep tlc_len fun b g1 g2 => (hch14.block b (by omega) (by omega)).trans (x913.block b (by omega))
  refine ⟨_, rfl, cI14, _, rfl, cS14, ?_⟩
  refine Or.inl ((eqTerm_ret _ _ _ _ si ss _ hI14.any (hS14.mono fun _ _ => trivial)).mono ?_)
  rintro _ w15 ⟨rfl, x15⟩
  refine br_ndec (fun h => absurd ⟨rfl, rfl⟩ h) (fun _ => ?_)
  refine br_false (by simp) ?_
  -- marks on the result
  have z15 := x15.size
  refine ⟨_, rfl, cI14.ext x15, ?_⟩
  refine Or.inl ((markTerm_ret _ _ si w6.heap.size w8.heap.size 1 _ (hI14.ext (by omega) x15) (by omega) (by decide) (by omega)).mono ?_)
  rintro _ w16 ⟨rfl, hI16, hch16⟩
  have z16 := hch16.size
  have cI16 := hch16.cells (b := w8.heap.size) (fun e => by omega) (cI14.ext x15)
  have cS16 := hch16.cells (b := w4.heap.size) (fun e => by omega) (cS14.ext x15)
  have hS16 := Fo.Sl.chg (fun b hb e => by omega) hch16 (hS14.ext x15)
  refine ⟨_, rfl, cI16, ?_⟩
  refine Or.inl ((heldTerm_ret _ _ si 1 _ hI16.any (by decide) (by omega)).mono ?_)
  rintro _ w17 ⟨rfl, x17⟩
  refine br_dec (fun h => absurd rfl h) (fun _ => ?_)
  -- once more
  have xa : Ext w2 w17 := (((x25.trans x513).chg hch14 fun b hb => by have := x25.size; omega).trans x15).chg hch16 (fun b hb => by have := x25.size; omega) |>.trans x17
  refine Or.inl ((toTermS_all _ f (Nat.lt_succ_self _) s w17 (hs.ext xa) hsz).mono ?_)
  rintro s18 w18 ⟨x18, hs18⟩
  refine Or.inl ((him s18 w18 (hs18.mono fun _ _ => trivial)).mono ?_)
  rintro _ w19 ⟨v19, rfl, x19, sj, rfl, hsj⟩
  have kx20 := keep5 (W := w19) (x := o.1) (s := sj) (tc_one hsj.any)
  have cJ := kx20.2.1
  have x20 := kx20.2.2
  refine ⟨kx20.1, ?_⟩
  have x1720 := (x18.trans x19).trans x20
  have x1620 := x17.trans x1720
  refine ⟨_, rfl, cJ, _, rfl, cS16.ext x1620, ?_⟩
  refine Or.inl ((eqTerm_ret _ _ _ _ sj ss _ (hsj.any.ext x20) ((hS16.ext x1620).mono fun _ _ => trivial)).mono ?_)
  rintro _ w21 ⟨rfl, x21⟩
  refine br_ndec (fun h => absurd ⟨rfl, rfl⟩ h) (fun _ => ?_)
  refine br_false (by simp) ?_
  refine ⟨_, rfl, cI16.ext (x1620.trans x21), ?_⟩
  refine Or.inl ((heldTerm_ret _ _ si 1 _ (hI16.any.ext (x1620.trans x21)) (by decide) (by omega)).mono ?_)
  rintro _ w22 ⟨rfl, x22⟩
  refine br_dec (fun h => absurd rfl h) (fun _ => ?_)
  exact ⟨rfl, (x1.trans x2).trans (xa.trans ((x1720.trans x21).trans x22))⟩
theorem own : ownKnob Try.prog.godebug = none := by kernel_rfl
theorem laidOut : laidOutB Try.prog = true := by kernel_rfl
set_option maxRecDepth 100000 in
theorem lifted (os : Os) (started : os.Started) (H : Type) (enc : TypeId × Value → H) :
    ReturnsInHanded {} Try.checked os 14 .any (Rows.fnExactAllOfSpec.pre6 enc Try.prog Try.f14 Rows.fnExactAllOfRow.domain false) (Rows.fnExactAllOfSpec.post enc Try.prog Try.f14 false true false false) := by
  refine returnsInHanded_of_change (C := Try.checked) own started (by kernel_rfl) Try.func14
    (ChangeSpec.witness6 (enc := enc) (C := Try.checked) false ⟨#[], #[.slice none 0 0], []⟩ 8 (by kernel_rfl) (by kernel_rfl) (by kernel_rfl) (by kernel_rfl)) ?_
  intro W base args ds gs before hval0 hW hcnd _
  have hval : ∀ (j : Nat) t v, Try.f14.params[j]? = some t → args[j]? = some v → Value.okWide Try.prog W .any base t v := hval0
  have hW' := hW
  obtain ⟨p, q, hA0, hV, rfl, hfz, hnd⟩ := hW
  have hA : DataW.TrodAll enc Try.prog W 0 (fun _ => true) true Try.f14.params.toList args.toList ds p := hA0
  rw [Try.params14] at hA hval
  obtain ⟨v0, vs0, d0, ds0, p0, q0, hargs, rfl, rfl, h0, r0⟩ := trodAll_cons hA
  obtain ⟨rfl, rfl, rfl⟩ := trodAll_nil r0
  obtain rfl : args = #[v0] := by cases args; simp_all
  obtain ⟨rfl, rfl⟩ := trodVars_none hV
  have k0 := h0
  have lt0 : ∀ x ∈ p0, x.block < W.heap.size := by obtain ⟨m, hm⟩ := k0; exact DataW.trod_lt m _ _ _ hm
  obtain ⟨F0, HS0, HP0⟩ := open_Terms (hval 0 41 v0 rfl rfl) h0
  clear hA0 hval0
  refine (walk W F0 v0 HS0 HP0).calls.mono fun e W' ⟨v, he, hv, bel⟩ => ?_
  subst hv
  subst he
  exact ⟨_, rfl, _, _, _, [], _, [], hW', trodAll_mk1 (shut_bool Try.underlying4 _), (trodAll_cons_mk (Below.trod laidOut (by kernel_rfl) (of_decide_eq_true (by kernel_rfl)) k0 bel lt0) trodAll_mk0), rfl, bel.frame _, fun h => by cases h⟩
theorem band {a b : Bool} (h1 : a = true) (h2 : b = true) : (a && b) = true := by rw [h1, h2]; rfl
theorem lifted_ok : (Rows.fnExactAllOfRow.lifted == Try.pinned.checked.prog.liftsFinal) = true := by rw [head_final]; rfl
theorem make_ok : (Try.pinned.checked.prog.make == some Rows.fnExactAllOfRow.make) = true := by rw [head_make]; rfl
set_option maxHeartbeats 4000000 in
theorem closed : joinedFacts Try.pinned.checked.prog 14 Try.f14 Rows.fnExactAllOfSpec Rows.fnExactAllOfRow = true := by
  unfold joinedFacts
  repeat' (with_reducible refine band ?_ ?_)
  all_goals (first | with_reducible exact head_enter | with_reducible exact lifted_ok | with_reducible exact make_ok | (as_aux_lemma => kernel_rfl))
theorem holds : Rows.fnExactAllOfRow.holds Try.pinned (OpenSpec.ofChange Rows.fnExactAllOfSpec) :=
  OpenClaim.holds_of_wide 14 Try.f14 rfl rfl rfl rfl rfl rfl rfl ⟨rfl, rfl, rfl, rfl, rfl⟩ rfl rfl rfl rfl rfl (by as_aux_lemma => kernel_rfl) Try.func14 closed
    (of_decide_eq_true (by as_aux_lemma => kernel_rfl)) (by unfold Func.isWrapper; first | (rw [if_pos (by decide +kernel)]; kernel_rfl) | (rw [if_neg (by decide +kernel)]; exact ⟨rfl, rfl⟩))
    (fun os started H enc _ => lifted os started H enc)
/-- The statement. -/
theorem proved : Rows.FnExactAllOfSaid := holds
#print axioms proved
end Go.Proofs.Ytkoaicjcanplaaa.lawFnExactAllOf
