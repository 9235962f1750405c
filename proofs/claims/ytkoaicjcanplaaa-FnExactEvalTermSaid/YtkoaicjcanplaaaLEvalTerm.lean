/- The law FnExactEvalTerm: whatever the arguments, it returns true; all that was there is as it was. No condition. -/
import Derived.Test.YtkoaicjcanplaaaEc
import Derived.Test.YtkoaicjcanplaaaTo
import Derived.Test.YtkoaicjcanplaaaTp
import Derived.Test.YtkoaicjcanplaaaZw
import Derived.WalkKit
import Derived.ProofKit
import Derived.OpenShut
import Derived.ShutString
import Derived.ChangeOld
import Derived.Below
namespace Go.Proofs.Ytkoaicjcanplaaa.lawFnExactEvalTerm
open Go Go.Vc Go.ChangeShapes Go.WideShapes Go.ChangeAt Go.RowKit
set_option linter.unusedVariables false

set_option maxHeartbeats 4000000 in
theorem walk (W : World) (x : Lab) (s : Value) (f : TF) (hs : TSl anyB W s f) (hp : f.All okL) (hx : okL x) (l : List VLab) (sl : Value) (hl : VSl anyB W sl l) (hlp : ∀ v ∈ l, okV v) :
    Ret Try.prog 11 #[tv x s, sl] W (fun v w' => v = .bool true ∧ Ext W w') := by
  obtain ⟨o, ho⟩ : ∃ o, evalP x f l = o := ⟨_, rfl⟩
  have hsp : ∀ s sl w, TSl anyB w s f → VSl anyB w sl l → Ret Try.prog 51 #[tv x s, sl] w (fun v w' => v = .tuple #[.int .i64 o.1, .bool o.2] ∧ Ext w w') := fun s sl w h h' => by rw [← ho]; exact spec_EvalTerm x f l s sl w h hx hp h' hlp
  have him : ∀ s sl w, TSl anyB w s f → VSl anyB w sl l → Ret Try.prog 24 #[tv x s, sl] w (fun v w' => v = .tuple #[.int .i64 o.1, .bool o.2] ∧ Ext w w') := fun s sl w h h' => by rw [← ho]; exact impl_EvalTerm x f l s sl w h hx hp h' hlp
  clear ho
  refine ret_of_vc ties mixed Try.func11 rfl (by kernel_rfl) rfl rfl ?_
  have x1 : Ext W (W.alloc (.cells (tc x s).toArray 43)) := Ext.new _ _
  have hb := boxedAll W (tc x s) 43
  refine ⟨tc x s, rfl, hb, ?_⟩
  refine Or.inl ((szTerm_ret f x s 1048576 _ (hs.ext x1) hx hp (by decide) (by decide)).mono ?_)
  rintro _ w2 ⟨x2, rfl | ⟨hsz, rfl⟩⟩
  · exact ⟨rfl, x1.trans x2⟩
  refine br_dec_false (by omega) ?_
  have x02 := x1.trans x2
  refine Or.inl ((szValueS_ret l sl _ _ (hl.ext x02) hlp (by omega) (by omega)).mono ?_)
  rintro _ w3 ⟨x3, rfl | ⟨hszl, rfl⟩⟩
  · exact ⟨rfl, x02.trans x3⟩
  refine br_dec_false (by omega) ?_
  have hfw := size_wt f
  have hlw := len_vwt l
  have hszf : f.size ≤ 1048576 := by omega
  have hll : l.length ≤ 1048576 := by omega
  have x03 := x02.trans x3
  have x13 := x2.trans x3
  replace hb := hb.ext x13
  replace hs := hs.ext x03
  replace hl := LsSl.ext x03 hl
  refine ⟨tc x s, rfl, hb, ?_⟩
  refine Or.inl ((toTerm_ret f x s w3 hs hszf).mono ?_)
  rintro _ w4 ⟨x4, s4, rfl, hs4⟩
  refine Or.inl ((toValueS_ret l sl w4 (LsSl.ext x4 hl) hll).mono ?_)
  rintro sl5 w5 ⟨x5, hl5, -⟩
  refine Or.inl ((hsp s4 sl5 w5 ((hs4.ext x5).mono fun _ _ => trivial) (LsSl.mono (fun _ _ => trivial) hl5)).mono ?_)
  rintro _ w6 ⟨rfl, x6⟩
  have x36 := (x4.trans x5).trans x6
  refine ⟨tc x s, rfl, hb.ext x36, ?_⟩
  refine Or.inl ((toTerm_ret f x s w6 (hs.ext x36) hszf).mono ?_)
  rintro _ w7 ⟨x7, s7, rfl, hs7⟩
  have k8 := keep5 (W := w7) (x := x) (tc_one hs7)
  have c8 := k8.2.1
  have x8 := k8.2.2
  refine ⟨k8.1, ?_⟩
  have x68 := x7.trans x8
  have x38 := x36.trans x68
  have hs8 := hs7.ext x8
  refine Or.inl ((toValueS_ret l sl _ (LsSl.ext x38 hl) hll).mono ?_)
  rintro sl9 w9 ⟨x9, hl9, -⟩
  refine ⟨tc x s7, rfl, c8.ext x9, ?_⟩
  refine Or.inl ((him s7 sl9 w9 ((hs8.ext x9).mono fun _ _ => trivial) (LsSl.mono (fun _ _ => trivial) hl9)).mono ?_)
  rintro _ w10 ⟨rfl, x10⟩
  have x810 := x9.trans x10
  have x310 := x38.trans x810
  refine br_dec_false (fun h => h rfl) ?_
  refine br_false (by simp) ?_
  refine .inr (.inr (hyb_rule ties mixed [(0, .quiet), (1, .quiet), (2, .loud), (3, .quiet), (4, .quiet)] (by kernel_rfl) ?_))
  refine ⟨tc x s7, rfl, c8.ext x810, tc x s, rfl, hb.ext x310, ?_⟩
  intro w11 x11
  refine Or.inl ((toTerm_ret f x s w11 (hs.ext (x310.trans x11)) hszf).mono ?_)
  rintro _ w12 ⟨x12, s12, rfl, hs12⟩
  have x812 := (x810.trans x11).trans x12
  refine ⟨x12, .bool true, fun w' hw' => (eqTerm_ret f f x x s7 s12 _ ((hs8.ext (x812.trans hw')).mono fun _ _ => trivial) ((hs12.ext hw').mono fun _ _ => trivial)).mono ?_, ?_⟩
  · rintro _ w'' ⟨rfl, h⟩
    exact ⟨by simp, h⟩
  intro w13 x13'
  have x1013 := (x11.trans x12).trans x13'
  have x313 := x310.trans x1013
  have x913 := x10.trans x1013
  refine Or.inl ((toValueS_ret l sl _ (LsSl.ext x313 hl) hll).mono ?_)
  rintro sl14 w14 ⟨x14, hl14, -⟩
  refine Or.inl ((eqValueS_ret l l sl9 sl14 w14 (LsSl.mono (fun _ _ => trivial) (LsSl.ext (x913.trans x14) hl9)) (LsSl.mono (fun _ _ => trivial) hl14)).mono ?_)
  rintro _ w15 ⟨rfl, x15⟩
  refine br_ndec (fun h => absurd rfl h) (fun _ => ?_)
  exact ⟨rfl, (x1.trans x13).trans (x313.trans (x14.trans x15))⟩
theorem own : ownKnob Try.prog.godebug = none := by kernel_rfl
theorem laidOut : laidOutB Try.prog = true := by kernel_rfl
set_option maxRecDepth 100000 in
theorem lifted (os : Os) (started : os.Started) (H : Type) (enc : TypeId × Value → H) :
    ReturnsInHanded {} Try.checked os 11 .any (Rows.fnExactEvalTermSpec.pre6 enc Try.prog Try.f11 Rows.fnExactEvalTermRow.domain false) (Rows.fnExactEvalTermSpec.post enc Try.prog Try.f11 false true false false) := by
  refine returnsInHanded_of_change (C := Try.checked) own started (by kernel_rfl) Try.func11
    (ChangeSpec.witness6 (enc := enc) (C := Try.checked) false ⟨#[], #[.agg #[.int .i64 0, .int .i64 0, .int .i64 0, .string ByteArray.empty, .slice none 0 0], .slice none 0 0], []⟩ 8 (by kernel_rfl) (by kernel_rfl) (by kernel_rfl) (by kernel_rfl)) ?_
  intro W base args ds gs before hval0 hW hcnd _
  have hval : ∀ (j : Nat) t v, Try.f11.params[j]? = some t → args[j]? = some v → Value.okWide Try.prog W .any base t v := hval0
  have hW' := hW
  obtain ⟨p, q, hA0, hV, rfl, hfz, hnd⟩ := hW
  have hA : DataW.TrodAll enc Try.prog W 0 (fun _ => true) true Try.f11.params.toList args.toList ds p := hA0
  rw [Try.params11] at hA hval
  obtain ⟨v0, vs0, d0, ds0, p0, q0, hargs, rfl, rfl, h0, r0⟩ := trodAll_cons hA
  obtain ⟨v1, vs1, d1, ds1, p1, q1, rfl, rfl, rfl, h1, r1⟩ := trodAll_cons r0
  obtain ⟨rfl, rfl, rfl⟩ := trodAll_nil r1
  obtain rfl : args = #[v0, v1] := by cases args; simp_all
  obtain ⟨rfl, rfl⟩ := trodVars_none hV
  have k0 := h0
  have lt0 : ∀ x ∈ p0, x.block < W.heap.size := by obtain ⟨m, hm⟩ := k0; exact DataW.trod_lt m _ _ _ hm
  obtain ⟨X0, S0, F0, rfl, HS0, HP0, HX0⟩ := open_Term (hval 0 43 v0 rfl rfl) h0
  have k1 := h1
  have lt1 : ∀ x ∈ p1, x.block < W.heap.size := by obtain ⟨m, hm⟩ := k1; exact DataW.trod_lt m _ _ _ hm
  obtain ⟨L1, HS1, HP1⟩ := open_Values (hval 1 61 v1 rfl rfl) h1
  clear hA0 hval0
  refine (walk W X0 S0 F0 HS0 HP0 HX0 L1 v1 HS1 HP1).calls.mono fun e W' ⟨v, he, hv, bel⟩ => ?_
  subst hv
  subst he
  exact ⟨_, rfl, _, _, _, [], _, [], hW', trodAll_mk1 (shut_bool Try.underlying4 _), (trodAll_cons_mk (Below.trod laidOut (by kernel_rfl) (of_decide_eq_true (by kernel_rfl)) k0 bel lt0) (trodAll_cons_mk (Below.trod laidOut (by kernel_rfl) (of_decide_eq_true (by kernel_rfl)) k1 bel lt1) trodAll_mk0)), rfl, bel.frame _, fun h => by cases h⟩
theorem band {a b : Bool} (h1 : a = true) (h2 : b = true) : (a && b) = true := by rw [h1, h2]; rfl
theorem lifted_ok : (Rows.fnExactEvalTermRow.lifted == Try.pinned.checked.prog.liftsFinal) = true := by rw [head_final]; rfl
theorem make_ok : (Try.pinned.checked.prog.make == some Rows.fnExactEvalTermRow.make) = true := by rw [head_make]; rfl
set_option maxHeartbeats 4000000 in
theorem closed : joinedFacts Try.pinned.checked.prog 11 Try.f11 Rows.fnExactEvalTermSpec Rows.fnExactEvalTermRow = true := by
  unfold joinedFacts
  repeat' (with_reducible refine band ?_ ?_)
  all_goals (first | with_reducible exact head_enter | with_reducible exact lifted_ok | with_reducible exact make_ok | (as_aux_lemma => kernel_rfl))
theorem holds : Rows.fnExactEvalTermRow.holds Try.pinned (OpenSpec.ofChange Rows.fnExactEvalTermSpec) :=
  OpenClaim.holds_of_wide 11 Try.f11 rfl rfl rfl rfl rfl rfl rfl ⟨rfl, rfl, rfl, rfl, rfl⟩ rfl rfl rfl rfl rfl (by as_aux_lemma => kernel_rfl) Try.func11 closed
    (of_decide_eq_true (by as_aux_lemma => kernel_rfl)) (by unfold Func.isWrapper; first | (rw [if_pos (by decide +kernel)]; kernel_rfl) | (rw [if_neg (by decide +kernel)]; exact ⟨rfl, rfl⟩))
    (fun os started H enc _ => lifted os started H enc)
/-- The statement. -/
theorem proved : Rows.FnExactEvalTermSaid := holds
#print axioms proved
end Go.Proofs.Ytkoaicjcanplaaa.lawFnExactEvalTerm
