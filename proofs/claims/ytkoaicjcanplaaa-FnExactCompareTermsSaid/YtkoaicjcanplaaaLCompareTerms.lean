/- The law FnExactCompareTerms: whatever the arguments, it returns true; all that was there is as it was. No condition. -/
import Derived.Test.YtkoaicjcanplaaaQc
import Derived.Test.YtkoaicjcanplaaaQt
import Derived.Test.YtkoaicjcanplaaaTo
import Derived.Test.YtkoaicjcanplaaaZw
import Derived.WalkKit
import Derived.ProofKit
import Derived.OpenShut
import Derived.ShutString
import Derived.ChangeOld
import Derived.Below
namespace Go.Proofs.Ytkoaicjcanplaaa.lawFnExactCompareTerms
open Go Go.Vc Go.ChangeShapes Go.WideShapes Go.ChangeAt Go.RowKit
set_option linter.unusedVariables false

set_option maxHeartbeats 4000000 in
theorem walk (W : World) (x : Lab) (s : Value) (f : TF) (hs : TSl anyB W s f) (hp : f.All okL) (hx : okL x) (y : Lab) (t : Value) (g : TF) (ht : TSl anyB W t g) (hpg : g.All okL) (hy : okL y) :
    Ret Try.prog 4 #[tv x s, tv y t] W (fun v w' => v = .bool true ∧ Ext W w') := by
  refine ret_of_vc ties mixed Try.func4 rfl (by kernel_rfl) rfl rfl ?_
  have x0 : Ext W (W.alloc (.cells (tc x s).toArray 43)) := Ext.new _ _
  have x1 : Ext W ((W.alloc (.cells (tc x s).toArray 43)).alloc (.cells (tc y t).toArray 43)) := x0.trans (Ext.new _ _)
  have hb := (boxedAll W (tc x s) 43).ext (Ext.new _ (.cells (tc y t).toArray 43))
  have hb' := boxedAll (W.alloc (.cells (tc x s).toArray 43)) (tc y t) 43
  refine ⟨tc x s, rfl, hb, ?_⟩
  refine Or.inl ((szTerm_ret f x s 1048576 _ (hs.ext x1) hx hp (by decide) (by decide)).mono ?_)
  rintro _ w2 ⟨x2, rfl | ⟨hsz, rfl⟩⟩
  · exact ⟨rfl, x1.trans x2⟩
  refine br_dec_false (by omega) ?_
  refine ⟨tc y t, rfl, hb'.ext x2, ?_⟩
  refine Or.inl ((szTerm_ret g y t _ _ (ht.ext (x1.trans x2)) hy hpg (by omega) (by omega)).mono ?_)
  rintro _ w3 ⟨x3, rfl | ⟨hsz', rfl⟩⟩
  · exact ⟨rfl, (x1.trans x2).trans x3⟩
  refine br_dec_false (by omega) ?_
  have hfw := size_wt f
  have hgw := size_wt g
  have hsz : f.size ≤ 1048576 := by omega
  have hsz' : g.size ≤ 1048576 := by omega
  have x13 := x2.trans x3
  have x03 := x1.trans x13
  replace hb := hb.ext x13
  replace hb' := hb'.ext x13
  replace hs := hs.ext x03
  replace ht := ht.ext x03
  refine .inr (.inr (hyb_rule ties mixed [(0, .quiet), (2, .quiet), (1, .loud), (3, .loud), (4, .loud), (5, .quiet)] (by kernel_rfl) ?_))
  refine ⟨tc x s, rfl, hb, tc y t, rfl, hb', ?_⟩
  intro w4 x4
  refine Or.inl ((toTerm_ret f x s w4 (hs.ext x4) hsz).mono ?_)
  rintro _ w5 ⟨x5, s5, rfl, hs5⟩
  refine ⟨x5, ?_⟩
  intro w6 x6
  have x36 := (x4.trans x5).trans x6
  refine Or.inl ((toTerm_ret g y t w6 (ht.ext x36) hsz').mono ?_)
  rintro _ w7 ⟨x7, s7, rfl, hs7⟩
  refine ⟨x7, ?_⟩
  intro w8 x8
  refine Or.inl ((spec_Compare (x, f) (y, g) s5 s7 w8 ((hs5.ext ((x6.trans x7).trans x8)).mono fun _ _ => trivial) ((hs7.ext x8).mono fun _ _ => trivial)).mono ?_)
  rintro _ w9 ⟨rfl, x9⟩
  refine ⟨x9, ?_⟩
  intro w10 x10
  have x310 := (((x36.trans x7).trans x8).trans x9).trans x10
  refine ⟨tc x s, rfl, hb.ext x310, ?_⟩
  refine Or.inl ((toTerm_ret f x s w10 (hs.ext x310) hsz).mono ?_)
  rintro _ w11 ⟨x11, s11, rfl, hs11⟩
  obtain ⟨f12, c12, x12⟩ := keep5 (W := w11) (x := x) (tc_one hs11)
  refine ⟨f12, ?_⟩
  have x312 := (x310.trans x11).trans x12
  refine ⟨tc y t, rfl, hb'.ext x312, ?_⟩
  refine Or.inl ((toTerm_ret g y t _ (ht.ext x312) hsz').mono ?_)
  rintro _ w13 ⟨x13', s13, rfl, hs13⟩
  obtain ⟨f14, c14, x14⟩ := keep5 (W := w13) (x := y) (tc_one hs13)
  refine ⟨f14, ?_⟩
  have x1214 := x13'.trans x14
  replace c12 := c12.ext x1214
  replace hs11 := hs11.ext (x12.trans x1214)
  replace hs13 := hs13.ext x14
  have x314 := x312.trans x1214
  refine ⟨tc x s11, rfl, c12, tc y s13, rfl, c14, ?_⟩
  refine Or.inl ((impl_Compare (x, f) (y, g) s11 s13 _ (hs11.mono fun _ _ => trivial) (hs13.mono fun _ _ => trivial)).mono ?_)
  rintro _ w15 ⟨rfl, x15⟩
  refine br_dec_false (by simp) ?_
  have x315 := x314.trans x15
  refine .inr (.inr (hyb_rule ties mixed [(0, .quiet), (1, .quiet), (2, .loud), (3, .quiet), (4, .quiet)] (by kernel_rfl) ?_))
  refine ⟨tc x s11, rfl, c12.ext x15, tc x s, rfl, hb.ext x315, ?_⟩
  intro w16 x16
  refine Or.inl ((toTerm_ret f x s w16 (hs.ext (x315.trans x16)) hsz).mono ?_)
  rintro _ w17 ⟨x17, s17, rfl, hs17⟩
  have x1417 := (x15.trans x16).trans x17
  refine ⟨x17, .bool true, fun w' hw' => (eqTerm_ret f f x x s11 s17 _ ((hs11.ext (x1417.trans hw')).mono fun _ _ => trivial) ((hs17.ext hw').mono fun _ _ => trivial)).mono ?_, ?_⟩
  · rintro _ w'' ⟨rfl, h⟩
    exact ⟨by simp, h⟩
  intro w18 x18
  have x1418 := x1417.trans x18
  have x318 := x314.trans x1418
  refine .inr (.inr (hyb_rule ties mixed [(0, .quiet), (1, .quiet), (2, .loud), (3, .quiet), (4, .quiet)] (by kernel_rfl) ?_))
  refine ⟨tc y s13, rfl, c14.ext x1418, tc y t, rfl, hb'.ext x318, ?_⟩
  intro w19 x19
  refine Or.inl ((toTerm_ret g y t w19 (ht.ext (x318.trans x19)) hsz').mono ?_)
  rintro _ w20 ⟨x20, s20, rfl, hs20⟩
  have x1420 := (x1418.trans x19).trans x20
  refine ⟨x20, .bool true, fun w' hw' => (eqTerm_ret g g y y s13 s20 _ ((hs13.ext (x1420.trans hw')).mono fun _ _ => trivial) ((hs20.ext hw').mono fun _ _ => trivial)).mono ?_, ?_⟩
  · rintro _ w'' ⟨rfl, h⟩
    exact ⟨by simp, h⟩
  intro w21 x21
  exact ⟨rfl, x03.trans (x314.trans (x1420.trans x21))⟩
theorem own : ownKnob Try.prog.godebug = none := by kernel_rfl
theorem laidOut : laidOutB Try.prog = true := by kernel_rfl
set_option maxRecDepth 100000 in
theorem lifted (os : Os) (started : os.Started) (H : Type) (enc : TypeId × Value → H) :
    ReturnsInHanded {} Try.checked os 4 .any (Rows.fnExactCompareTermsSpec.pre6 enc Try.prog Try.f4 Rows.fnExactCompareTermsRow.domain false) (Rows.fnExactCompareTermsSpec.post enc Try.prog Try.f4 false true false false) := by
  refine returnsInHanded_of_change (C := Try.checked) own started (by kernel_rfl) Try.func4
    (ChangeSpec.witness6 (enc := enc) (C := Try.checked) false ⟨#[], #[.agg #[.int .i64 0, .int .i64 0, .int .i64 0, .string ByteArray.empty, .slice none 0 0], .agg #[.int .i64 0, .int .i64 0, .int .i64 0, .string ByteArray.empty, .slice none 0 0]], []⟩ 8 (by kernel_rfl) (by kernel_rfl) (by kernel_rfl) (by kernel_rfl)) ?_
  intro W base args ds gs before hval0 hW hcnd _
  have hval : ∀ (j : Nat) t v, Try.f4.params[j]? = some t → args[j]? = some v → Value.okWide Try.prog W .any base t v := hval0
  have hW' := hW
  obtain ⟨p, q, hA0, hV, rfl, hfz, hnd⟩ := hW
  have hA : DataW.TrodAll enc Try.prog W 0 (fun _ => true) true Try.f4.params.toList args.toList ds p := hA0
  rw [Try.params4] at hA hval
  obtain ⟨v0, vs0, d0, ds0, p0, q0, hargs, rfl, rfl, h0, r0⟩ := trodAll_cons hA
  obtain ⟨v1, vs1, d1, ds1, p1, q1, rfl, rfl, rfl, h1, r1⟩ := trodAll_cons r0
  obtain ⟨rfl, rfl, rfl⟩ := trodAll_nil r1
  obtain rfl : args = #[v0, v1] := by cases args; simp_all
  obtain ⟨rfl, rfl⟩ := trodVars_none hV
  have k0 := h0
  have lt0 : ∀ x ∈ p0, x.block < W.heap.size := by obtain ⟨m, hm⟩ := k0; exact DataW.trod_lt m _ _ _ hm
  obtain ⟨X0, S0, F0, rfl, HS0, HP0, HX0⟩ := open_Term (hval 0 43 v0 rfl rfl) h0
  have k1 := h1
  have lt1 : ∀ x ∈ p1, x.block < W.heap.size := by obtain ⟨m, hm⟩ := k1; exact DataW.trod_lt m _ _ _ hm
  obtain ⟨X1, S1, F1, rfl, HS1, HP1, HX1⟩ := open_Term (hval 1 43 v1 rfl rfl) h1
  clear hA0 hval0
  refine (walk W X0 S0 F0 HS0 HP0 HX0 X1 S1 F1 HS1 HP1 HX1).calls.mono fun e W' ⟨v, he, hv, bel⟩ => ?_
  subst hv
  subst he
  exact ⟨_, rfl, _, _, _, [], _, [], hW', trodAll_mk1 (shut_bool Try.underlying4 _), (trodAll_cons_mk (Below.trod laidOut (by kernel_rfl) (of_decide_eq_true (by kernel_rfl)) k0 bel lt0) (trodAll_cons_mk (Below.trod laidOut (by kernel_rfl) (of_decide_eq_true (by kernel_rfl)) k1 bel lt1) trodAll_mk0)), rfl, bel.frame _, fun h => by cases h⟩
theorem band {a b : Bool} (h1 : a = true) (h2 : b = true) : (a && b) = true := by rw [h1, h2]; rfl
theorem lifted_ok : (Rows.fnExactCompareTermsRow.lifted == Try.pinned.checked.prog.liftsFinal) = true := by rw [head_final]; rfl
theorem make_ok : (Try.pinned.checked.prog.make == some Rows.fnExactCompareTermsRow.make) = true := by rw [head_make]; rfl
set_option maxHeartbeats 4000000 in
theorem closed : joinedFacts Try.pinned.checked.prog 4 Try.f4 Rows.fnExactCompareTermsSpec Rows.fnExactCompareTermsRow = true := by
  unfold joinedFacts
  repeat' (with_reducible refine band ?_ ?_)
  all_goals (first | with_reducible exact head_enter | with_reducible exact lifted_ok | with_reducible exact make_ok | (as_aux_lemma => kernel_rfl))
theorem holds : Rows.fnExactCompareTermsRow.holds Try.pinned (OpenSpec.ofChange Rows.fnExactCompareTermsSpec) :=
  OpenClaim.holds_of_wide 4 Try.f4 rfl rfl rfl rfl rfl rfl rfl ⟨rfl, rfl, rfl, rfl, rfl⟩ rfl rfl rfl rfl rfl (by as_aux_lemma => kernel_rfl) Try.func4 closed
    (of_decide_eq_true (by as_aux_lemma => kernel_rfl)) (by unfold Func.isWrapper; first | (rw [if_pos (by decide +kernel)]; kernel_rfl) | (rw [if_neg (by decide +kernel)]; exact ⟨rfl, rfl⟩))
    (fun os started H enc _ => lifted os started H enc)
/-- The statement. -/
theorem proved : Rows.FnExactCompareTermsSaid := holds
#print axioms proved
end Go.Proofs.Ytkoaicjcanplaaa.lawFnExactCompareTerms
