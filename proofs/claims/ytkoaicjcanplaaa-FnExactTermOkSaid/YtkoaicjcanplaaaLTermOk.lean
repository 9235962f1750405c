/- The law FnExactTermOk: whatever the argument, it returns true; all that was there is as it was. No condition. -/
import Derived.Test.YtkoaicjcanplaaaQn
import Derived.Test.YtkoaicjcanplaaaTo
import Derived.Test.YtkoaicjcanplaaaZw
import Derived.WalkKit
import Derived.ProofKit
import Derived.OpenShut
import Derived.ShutString
import Derived.ChangeOld
import Derived.Below
namespace Go.Proofs.Ytkoaicjcanplaaa.lawFnExactTermOk
open Go Go.Vc Go.ChangeShapes Go.WideShapes Go.ChangeAt Go.RowKit
set_option linter.unusedVariables false

set_option maxHeartbeats 4000000 in
theorem walk (W : World) (x : Lab) (s : Value) (f : TF) (hs : TSl anyB W s f) (hp : f.All okL) (hx : okL x) :
    Ret Try.prog 5 #[tv x s] W (fun v w' => v = .bool true ∧ Ext W w') := by
  refine ret_of_vc ties mixed Try.func5 rfl (by kernel_rfl) rfl rfl ?_
  have x1 : Ext W (W.alloc (.cells (tc x s).toArray 43)) := Ext.new _ _
  have hb := boxedAll W (tc x s) 43
  refine ⟨tc x s, rfl, hb, ?_⟩
  refine Or.inl ((szTerm_ret f x s 1048576 _ (hs.ext x1) hx hp (by decide) (by decide)).mono ?_)
  rintro _ w2 ⟨x2, rfl | ⟨hsz, rfl⟩⟩
  · exact ⟨rfl, x1.trans x2⟩
  refine br_dec_false (by omega) ?_
  have hfw := size_wt f
  have hsz : f.size ≤ 1048576 := by omega
  have x02 := x1.trans x2
  replace hb := hb.ext x2
  replace hs := hs.ext x02
  refine ⟨tc x s, rfl, hb, ?_⟩
  refine Or.inl ((toTerm_ret f x s w2 hs hsz).mono ?_)
  rintro _ w3 ⟨x3, s3, rfl, hs3⟩
  refine Or.inl ((spec_TermOk x f s3 w3 (hs3.mono fun _ _ => trivial) hx hp).mono ?_)
  rintro _ w4 ⟨rfl, x4⟩
  have x24 := x3.trans x4
  refine ⟨tc x s, rfl, hb.ext x24, ?_⟩
  refine Or.inl ((toTerm_ret f x s w4 (hs.ext x24) hsz).mono ?_)
  rintro _ w5 ⟨x5, s5, rfl, hs5⟩
  obtain ⟨f6, c6, x6⟩ := keep5 (W := w5) (x := x) (tc_one hs5)
  refine ⟨f6, ?_⟩
  replace hs5 := hs5.ext x6
  refine ⟨tc x s5, rfl, c6, ?_⟩
  refine Or.inl ((impl_TermOk x f s5 _ (hs5.mono fun _ _ => trivial) hx hp).mono ?_)
  rintro _ w7 ⟨rfl, x7⟩
  refine br_false (by simp) ?_
  have x27 := ((x24.trans x5).trans x6).trans x7
  refine .inr (.inr (hyb_rule ties mixed [(0, .quiet), (1, .quiet), (2, .loud), (3, .quiet), (4, .quiet)] (by kernel_rfl) ?_))
  refine ⟨tc x s5, rfl, c6.ext x7, tc x s, rfl, hb.ext x27, ?_⟩
  intro w8 x8
  refine Or.inl ((toTerm_ret f x s w8 (hs.ext (x27.trans x8)) hsz).mono ?_)
  rintro _ w9 ⟨x9, s9, rfl, hs9⟩
  have x79 := (x7.trans x8).trans x9
  refine ⟨x9, .bool true, fun w' hw' => (eqTerm_ret f f x x s5 s9 _ ((hs5.ext (x79.trans hw')).mono fun _ _ => trivial) ((hs9.ext hw').mono fun _ _ => trivial)).mono ?_, ?_⟩
  · rintro _ w'' ⟨rfl, h⟩
    exact ⟨by simp, h⟩
  intro w10 x10
  exact ⟨rfl, x02.trans (((x27.trans x8).trans x9).trans x10)⟩
theorem own : ownKnob Try.prog.godebug = none := by kernel_rfl
theorem laidOut : laidOutB Try.prog = true := by kernel_rfl
set_option maxRecDepth 100000 in
theorem lifted (os : Os) (started : os.Started) (H : Type) (enc : TypeId × Value → H) :
    ReturnsInHanded {} Try.checked os 5 .any (Rows.fnExactTermOkSpec.pre6 enc Try.prog Try.f5 Rows.fnExactTermOkRow.domain false) (Rows.fnExactTermOkSpec.post enc Try.prog Try.f5 false true false false) := by
  refine returnsInHanded_of_change (C := Try.checked) own started (by kernel_rfl) Try.func5
    (ChangeSpec.witness6 (enc := enc) (C := Try.checked) false ⟨#[], #[.agg #[.int .i64 0, .int .i64 0, .int .i64 0, .string ByteArray.empty, .slice none 0 0]], []⟩ 8 (by kernel_rfl) (by kernel_rfl) (by kernel_rfl) (by kernel_rfl)) ?_
  intro W base args ds gs before hval0 hW hcnd _
  have hval : ∀ (j : Nat) t v, Try.f5.params[j]? = some t → args[j]? = some v → Value.okWide Try.prog W .any base t v := hval0
  have hW' := hW
  obtain ⟨p, q, hA0, hV, rfl, hfz, hnd⟩ := hW
  have hA : DataW.TrodAll enc Try.prog W 0 (fun _ => true) true Try.f5.params.toList args.toList ds p := hA0
  rw [Try.params5] at hA hval
  obtain ⟨v0, vs0, d0, ds0, p0, q0, hargs, rfl, rfl, h0, r0⟩ := trodAll_cons hA
  obtain ⟨rfl, rfl, rfl⟩ := trodAll_nil r0
  obtain rfl : args = #[v0] := by cases args; simp_all
  obtain ⟨rfl, rfl⟩ := trodVars_none hV
  have k0 := h0
  have lt0 : ∀ x ∈ p0, x.block < W.heap.size := by obtain ⟨m, hm⟩ := k0; exact DataW.trod_lt m _ _ _ hm
  obtain ⟨X0, S0, F0, rfl, HS0, HP0, HX0⟩ := open_Term (hval 0 43 v0 rfl rfl) h0
  clear hA0 hval0
  refine (walk W X0 S0 F0 HS0 HP0 HX0).calls.mono fun e W' ⟨v, he, hv, bel⟩ => ?_
  subst hv
  subst he
  exact ⟨_, rfl, _, _, _, [], _, [], hW', trodAll_mk1 (shut_bool Try.underlying4 _), (trodAll_cons_mk (Below.trod laidOut (by kernel_rfl) (of_decide_eq_true (by kernel_rfl)) k0 bel lt0) trodAll_mk0), rfl, bel.frame _, fun h => by cases h⟩
theorem band {a b : Bool} (h1 : a = true) (h2 : b = true) : (a && b) = true := by rw [h1, h2]; rfl
theorem lifted_ok : (Rows.fnExactTermOkRow.lifted == Try.pinned.checked.prog.liftsFinal) = true := by rw [head_final]; rfl
theorem make_ok : (Try.pinned.checked.prog.make == some Rows.fnExactTermOkRow.make) = true := by rw [head_make]; rfl
set_option maxHeartbeats 4000000 in
theorem closed : joinedFacts Try.pinned.checked.prog 5 Try.f5 Rows.fnExactTermOkSpec Rows.fnExactTermOkRow = true := by
  unfold joinedFacts
  repeat' (with_reducible refine band ?_ ?_)
  all_goals (first | with_reducible exact head_enter | with_reducible exact lifted_ok | with_reducible exact make_ok | (as_aux_lemma => kernel_rfl))
theorem holds : Rows.fnExactTermOkRow.holds Try.pinned (OpenSpec.ofChange Rows.fnExactTermOkSpec) :=
  OpenClaim.holds_of_wide 5 Try.f5 rfl rfl rfl rfl rfl rfl rfl ⟨rfl, rfl, rfl, rfl, rfl⟩ rfl rfl rfl rfl rfl (by as_aux_lemma => kernel_rfl) Try.func5 closed
    (of_decide_eq_true (by as_aux_lemma => kernel_rfl)) (by unfold Func.isWrapper; first | (rw [if_pos (by decide +kernel)]; kernel_rfl) | (rw [if_neg (by decide +kernel)]; exact ⟨rfl, rfl⟩))
    (fun os started H enc _ => lifted os started H enc)
/-- The statement. -/
theorem proved : Rows.FnExactTermOkSaid := holds
#print axioms proved
end Go.Proofs.Ytkoaicjcanplaaa.lawFnExactTermOk
