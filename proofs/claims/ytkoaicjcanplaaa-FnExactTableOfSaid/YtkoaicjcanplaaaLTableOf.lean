/- The law FnExactTableOf: whatever the argument, it returns true; all that was there is as it was. No condition. -/
import Derived.Test.YtkoaicjcanplaaaEm
import Derived.Test.YtkoaicjcanplaaaEj
import Derived.Test.YtkoaicjcanplaaaMt
import Derived.Test.YtkoaicjcanplaaaTo
import Derived.Test.YtkoaicjcanplaaaZw
import Derived.WalkKit
import Derived.ProofKit
import Derived.OpenShut
import Derived.ShutString
import Derived.ChangeOld
import Derived.Below
namespace Go.Proofs.Ytkoaicjcanplaaa.lawFnExactTableOf
open Go Go.Vc Go.ChangeShapes Go.WideShapes Go.ChangeAt Go.RowKit
set_option linter.unusedVariables false

set_option maxRecDepth 100000 in
set_option maxHeartbeats 8000000 in
theorem walk (W : World) (x : Lab) (s : Value) (f : TF) (hs : TSl anyB W s f) (hp : f.All okL) (hx : okL x) :
    Ret Try.prog 13 #[tv x s] W (fun v w' => v = .bool true ∧ Ext W w') := by
  have x1 : Ext W (W.alloc (.cells (tc x s).toArray 43)) := Ext.new _ _
  have hb := boxedAll W (tc x s) 43
  have hol : (tblP x f).length ≤ 1024 := tblP_len x f
  obtain ⟨o, ho⟩ : ∃ o, tblP x f = o := ⟨_, rfl⟩
  have hsp : ∀ s w, TSl anyB w s f → Ret Try.prog 54 #[tv x s] w (fun v w' => Ext w w' ∧ SlR eI allB w' v o) := fun s w h => by rw [← ho]; exact spec_TableOf x f s w h hx hp
  have him : ∀ s w, TSl anyB w s f → Ret Try.prog 55 #[tv x s] w (NewI o w) := fun s w h => by rw [← ho]; exact impl_TableOf x f s w h hx hp
  rw [ho] at hol
  clear ho
  refine ret_of_vc ties mixed Try.func13 rfl (by kernel_rfl) rfl rfl ?_
  refine ⟨tc x s, rfl, hb, ?_⟩
  refine Or.inl ((szTerm_ret f x s 1048576 _ (hs.ext x1) hx hp (by decide) (by decide)).mono ?_)
  rintro _ w2 ⟨x2, rfl | ⟨hsz, rfl⟩⟩
  · exact ⟨rfl, x1.trans x2⟩
  refine br_dec_false (by omega) ?_
  have hfw := size_wt f
  have hsz : f.size ≤ 1048576 := by omega
  replace hb := hb.ext x2
  replace hs := hs.ext (x1.trans x2)
  -- what the reference gives
  refine ⟨tc x s, rfl, hb, ?_⟩
  refine Or.inl ((toTerm_ret f x s w2 hs hsz).mono ?_)
  rintro _ w3 ⟨x3, s3, rfl, hs3⟩
  refine Or.inl ((hsp s3 w3 (hs3.mono fun _ _ => trivial)).mono ?_)
  rintro ss w4 ⟨x4, hss⟩
  have x25 := x3.trans x4
  have hS : SlR eI (fun b => b < w4.heap.size) w4 ss o := hss.lt.mono fun b hb => hb.2
  -- what the program gives
  refine ⟨tc x s, rfl, hb.ext x25, ?_⟩
  refine Or.inl ((toTerm_sep f x s _ (hs.ext x25) hsz).mono ?_)
  rintro _ w6 ⟨x6, s6, rfl, hsep⟩
  have k7 := keep5 (W := w6) (x := x) (tc_one hsep.any)
  have c7 := k7.2.1
  have x7 := k7.2.2
  refine ⟨k7.1, ?_⟩
  have z7 : w6.heap.size < (setCells (w6.alloc (.cells #[.int .i64 0, .int .i64 0, .int .i64 0, .string ByteArray.empty, .slice none 0 0] 25)) w6.heap.size 0 (tc x s6)).heap.size := World.block_lt_of_cell? _ _ c7.1
  have x57 := x6.trans x7
  have hsep7 := hsep.ext (Nat.le_refl _) x7
  refine ⟨tc x s6, rfl, c7, ?_⟩
  refine Or.inl ((him s6 _ (hsep7.any)).mono ?_)
  rintro si w8 ⟨x8, hI, hbi⟩
  have x58 := x57.trans x8
  have zA := x6.size
  refine Or.inl ((eqIntS_ret o o si ss _ (hI.sl (fun _ _ => trivial) (fun _ _ => trivial)) ((hS.ext x58).mono fun _ _ => trivial)).mono ?_)
  rintro _ w10 ⟨rfl, x10⟩
  refine br_ndec (fun h => absurd rfl h) (fun _ => ?_)
  refine .inr (.inr (hyb_rule ties mixed [(0, .quiet), (1, .quiet), (2, .loud), (3, .quiet), (4, .quiet)] (by kernel_rfl) ?_))
  have x510 := x58.trans x10
  have x710 := x8.trans x10
  refine ⟨tc x s6, rfl, c7.ext x710, tc x s, rfl, hb.ext (x25.trans x510), ?_⟩
  intro w11 x11
  refine Or.inl ((toTerm_ret f x s w11 (hs.ext ((x25.trans x510).trans x11)) hsz).mono ?_)
  rintro _ w12 ⟨x12, s12, rfl, hs12⟩
  have x712 := (x710.trans x11).trans x12
  refine ⟨x12, .bool true, fun w' hw' => (eqTerm_ret f f x x s6 s12 _ ((hsep7.any.ext (x712.trans hw'))) ((hs12.ext hw').mono fun _ _ => trivial)).mono ?_, ?_⟩
  · rintro _ w'' ⟨rfl, h⟩
    exact ⟨by simp, h⟩
  intro w13 x13
  have x1013 := (x11.trans x12).trans x13
  have x813 := x10.trans x1013
  have x513 := x58.trans x813
  have x713 := x8.trans x813
  have z13 := x813.size
  -- marks on the arguments
  refine ⟨tc x s6, rfl, c7.ext x713, ?_⟩
  refine Or.inl ((markTerm_ret f x s6 w4.heap.size w6.heap.size 1 _ (hsep7.ext (Nat.le_of_lt z7) x713) (by have := x713.size; omega) (by decide) (by omega)).mono ?_)
  rintro _ w14 ⟨rfl, -, hch14⟩
  have hS14 := (hS.ext x513).chg (S := fun b => w4.heap.size ≤ b ∧ b < w6.heap.size) (fun b hb e => by omega) hch14
  have hbw : ∀ b, blk si b → ¬ (w4.heap.size ≤ b ∧ b < w6.heap.size) := fun b hb e => by
    have := Nat.lt_of_lt_of_le z7 (hbi b hb)
    omega
  have hI14 := (hI.ext x813).chg (S := fun b => w4.heap.size ≤ b ∧ b < w6.heap.size) (fun b hb => hb.elim) hbw hch14
  refine Or.inl ((eqIntS_ret o o si ss _ (hI14.sl (fun _ _ => trivial) (fun _ _ => trivial)) (hS14.mono fun _ _ => trivial)).mono ?_)
  rintro _ w15 ⟨rfl, x15⟩
  refine br_ndec (fun h => absurd rfl h) (fun _ => ?_)
  -- marks on the result
  refine Or.inl ((markIntS_r o si 1 _ (hI14.ext x15) (by decide) (by omega)).mono ?_)
  rintro _ w16 ⟨rfl, hI16, hch16⟩
  have hns : ∀ b, b < w4.heap.size → ¬ blk si b := fun b hb e => by
    have h1 := Nat.lt_of_lt_of_le z7 (hbi b e)
    omega
  have hS16 := (hS14.ext x15).chg hns hch16
  have hm16 : SlR eI allB w16 si (mkI o.length 1) := hI16.sl (fun _ _ => trivial) (fun _ _ => trivial)
  refine Or.inl ((heldIntS_r o.length si 1 _ hm16 (by decide) (by omega)).mono ?_)
  rintro _ w17 ⟨rfl, x17⟩
  refine br_dec (fun h => absurd rfl h) (fun _ => ?_)
  -- once more
  have z25 := x25.size
  have xa0 : Ext w2 w16 := (((x25.trans x513).chg hch14 fun b hb => by omega).trans x15).chg hch16 (fun b hb => by
    have h1 := Nat.lt_of_lt_of_le z7 (hbi b hb)
    omega)
  have xa := xa0.trans x17
  refine ⟨tc x s, rfl, hb.ext xa, ?_⟩
  refine Or.inl ((toTerm_ret f x s w17 (hs.ext xa) hsz).mono ?_)
  rintro _ w18 ⟨x18, s18, rfl, hs18⟩
  refine Or.inl ((him s18 w18 (hs18.mono fun _ _ => trivial)).mono ?_)
  rintro sj w19 ⟨x19, hJ, -⟩
  have x1719 := x18.trans x19
  have x1619 := x17.trans x1719
  refine Or.inl ((eqIntS_ret o o sj ss _ (hJ.sl (fun _ _ => trivial) (fun _ _ => trivial)) ((hS16.ext x1619).mono fun _ _ => trivial)).mono ?_)
  rintro _ w21 ⟨rfl, x21⟩
  refine br_ndec (fun h => absurd rfl h) (fun _ => ?_)
  refine Or.inl ((heldIntS_r o.length si 1 _ (hm16.ext (x1619.trans x21)) (by decide) (by omega)).mono ?_)
  rintro _ w22 ⟨rfl, x22⟩
  refine br_dec (fun h => absurd rfl h) (fun _ => ?_)
  exact ⟨rfl, (x1.trans x2).trans (xa.trans ((x1719.trans x21).trans x22))⟩
theorem own : ownKnob Try.prog.godebug = none := by kernel_rfl
theorem laidOut : laidOutB Try.prog = true := by kernel_rfl
set_option maxRecDepth 100000 in
theorem lifted (os : Os) (started : os.Started) (H : Type) (enc : TypeId × Value → H) :
    ReturnsInHanded {} Try.checked os 13 .any (Rows.fnExactTableOfSpec.pre6 enc Try.prog Try.f13 Rows.fnExactTableOfRow.domain false) (Rows.fnExactTableOfSpec.post enc Try.prog Try.f13 false true false false) := by
  refine returnsInHanded_of_change (C := Try.checked) own started (by kernel_rfl) Try.func13
    (ChangeSpec.witness6 (enc := enc) (C := Try.checked) false ⟨#[], #[.agg #[.int .i64 0, .int .i64 0, .int .i64 0, .string ByteArray.empty, .slice none 0 0]], []⟩ 8 (by kernel_rfl) (by kernel_rfl) (by kernel_rfl) (by kernel_rfl)) ?_
  intro W base args ds gs before hval0 hW hcnd _
  have hval : ∀ (j : Nat) t v, Try.f13.params[j]? = some t → args[j]? = some v → Value.okWide Try.prog W .any base t v := hval0
  have hW' := hW
  obtain ⟨p, q, hA0, hV, rfl, hfz, hnd⟩ := hW
  have hA : DataW.TrodAll enc Try.prog W 0 (fun _ => true) true Try.f13.params.toList args.toList ds p := hA0
  rw [Try.params13] at hA hval
  obtain ⟨v0, vs0, d0, ds0, p0, q0, hargs, rfl, rfl, h0, r0⟩ := trodAll_cons hA
  obtain ⟨rfl, rfl, rfl⟩ := trodAll_nil r0
  obtain rfl : args = #[v0] := by cases args; simp_all
  obtain ⟨rfl, rfl⟩ := trodVars_none hV
  have k0 := h0
  have lt0 : ∀ x ∈ p0, x.block < W.heap.size := by obtain ⟨m, hm⟩ := k0; exact DataW.trod_lt m _ _ _ hm
  obtain ⟨X0, S0, F0, rfl, HS0, HP0, HX0⟩ := open_Term (hval 0 43 v0 rfl rfl) h0
  clear hA0 hval0
  refine (walk W X0 S0 F0 HS0 HP0 HX0).calls.mono fun e W' ⟨v, he, hv, bel⟩ => ?_
  subst hv
  subst he
  exact ⟨_, rfl, _, _, _, [], _, [], hW', trodAll_mk1 (shut_bool Try.underlying4 _), (trodAll_cons_mk (Below.trod laidOut (by kernel_rfl) (of_decide_eq_true (by kernel_rfl)) k0 bel lt0) trodAll_mk0), rfl, bel.frame _, fun h => by cases h⟩
theorem band {a b : Bool} (h1 : a = true) (h2 : b = true) : (a && b) = true := by rw [h1, h2]; rfl
theorem lifted_ok : (Rows.fnExactTableOfRow.lifted == Try.pinned.checked.prog.liftsFinal) = true := by rw [head_final]; rfl
theorem make_ok : (Try.pinned.checked.prog.make == some Rows.fnExactTableOfRow.make) = true := by rw [head_make]; rfl
set_option maxHeartbeats 4000000 in
theorem closed : joinedFacts Try.pinned.checked.prog 13 Try.f13 Rows.fnExactTableOfSpec Rows.fnExactTableOfRow = true := by
  unfold joinedFacts
  repeat' (with_reducible refine band ?_ ?_)
  all_goals (first | with_reducible exact head_enter | with_reducible exact lifted_ok | with_reducible exact make_ok | (as_aux_lemma => kernel_rfl))
theorem holds : Rows.fnExactTableOfRow.holds Try.pinned (OpenSpec.ofChange Rows.fnExactTableOfSpec) :=
  OpenClaim.holds_of_wide 13 Try.f13 rfl rfl rfl rfl rfl rfl rfl ⟨rfl, rfl, rfl, rfl, rfl⟩ rfl rfl rfl rfl rfl (by as_aux_lemma => kernel_rfl) Try.func13 closed
    (of_decide_eq_true (by as_aux_lemma => kernel_rfl)) (by unfold Func.isWrapper; first | (rw [if_pos (by decide +kernel)]; kernel_rfl) | (rw [if_neg (by decide +kernel)]; exact ⟨rfl, rfl⟩))
    (fun os started H enc _ => lifted os started H enc)
/-- The statement. -/
theorem proved : Rows.FnExactTableOfSaid := holds
#print axioms proved
end Go.Proofs.Ytkoaicjcanplaaa.lawFnExactTableOf
