/- The law FnExactValuesOk: whatever the arguments, it returns true; all that was there is as it was. No condition. -/
import Derived.Test.YtpaccpajkndlhaaTv
import Derived.Test.YtpaccpajkndlhaaTo
import Derived.Test.YtpaccpajkndlhaaZw
import Derived.WalkKit
import Derived.ProofKit
import Derived.OpenShut
import Derived.ShutString
import Derived.ChangeOld
import Derived.Below
namespace Go.Proofs.Ytpaccpajkndlhaa.lawFnExactValuesOk
open Go Go.Vc Go.ChangeShapes Go.WideShapes Go.ChangeAt Go.RowKit
set_option linter.unusedVariables false

theorem walk (W : World) (l : List VLab) (s : Value) (hs : VSl anyB W s l) (hp : ∀ x ∈ l, okV x) : Ret Try.prog 4 #[s] W (fun v w' => v = .bool true ∧ Ext W w') := by
  refine ret_of_vc ties mixed Try.func4 rfl (by kernel_rfl) rfl rfl ?_
  refine Or.inl ((szValueS_ret l s 1048576 _ hs hp (by decide) (by decide)).mono ?_)
  rintro _ w2 ⟨x2, rfl | ⟨hsz, rfl⟩⟩
  · exact ⟨rfl, x2⟩
  refine br_dec_false (by omega) ?_
  have hsz : l.length ≤ 1048576 := by have := len_vwt l; omega
  refine Or.inl ((toValueS_ret l s _ (hs.ext x2) hsz).mono ?_)
  rintro s3 w3 ⟨x3, hs3, _⟩
  refine Or.inl ((spec_ValuesOk l s3 _ (hs3.mono fun _ _ => trivial) hp).mono ?_)
  rintro _ w4 ⟨rfl, x4⟩
  refine Or.inl ((toValueS_ret l s _ (hs.ext ((x2.trans x3).trans x4)) hsz).mono ?_)
  rintro s5 w5 ⟨x5, hs5, _⟩
  refine Or.inl ((impl_ValuesOk l s5 _ (hs5.mono fun _ _ => trivial) hp).mono ?_)
  rintro _ w6 ⟨rfl, x6⟩
  refine br_false (by simp) ?_
  refine Or.inl ((toValueS_ret l s _ (hs.ext ((((x2.trans x3).trans x4).trans x5).trans x6)) hsz).mono ?_)
  rintro s7 w7 ⟨x7, hs7, _⟩
  refine Or.inl ((eqValueS_ret l l s5 s7 _ ((hs5.ext (x6.trans x7)).mono fun _ _ => trivial) (hs7.mono fun _ _ => trivial)).mono ?_)
  rintro _ w8 ⟨rfl, x8⟩
  refine br_ndec (fun h => absurd rfl h) (fun _ => ?_)
  exact ⟨rfl, (((((x2.trans x3).trans x4).trans x5).trans x6).trans x7).trans x8⟩
theorem own : ownKnob Try.prog.godebug = none := by kernel_rfl
theorem laidOut : laidOutB Try.prog = true := by kernel_rfl
set_option maxRecDepth 100000 in
theorem lifted (os : Os) (started : os.Started) (H : Type) (enc : TypeId × Value → H) :
    ReturnsInHanded {} Try.checked os 4 .any (Rows.fnExactValuesOkSpec.pre6 enc Try.prog Try.f4 Rows.fnExactValuesOkRow.domain false) (Rows.fnExactValuesOkSpec.post enc Try.prog Try.f4 false true false false) := by
  refine returnsInHanded_of_change (C := Try.checked) own started (by kernel_rfl) Try.func4
    (ChangeSpec.witness6 (enc := enc) (C := Try.checked) false ⟨#[], #[.slice none 0 0], []⟩ 8 (by kernel_rfl) (by kernel_rfl) (by kernel_rfl) (by kernel_rfl)) ?_
  intro W base args ds gs before hval0 hW hcnd _
  have hval : ∀ (j : Nat) t v, Try.f4.params[j]? = some t → args[j]? = some v → Value.okWide Try.prog W .any base t v := hval0
  have hW' := hW
  obtain ⟨p, q, hA0, hV, rfl, hfz, hnd⟩ := hW
  have hA : DataW.TrodAll enc Try.prog W 0 (fun _ => true) true Try.f4.params.toList args.toList ds p := hA0
  rw [Try.params4] at hA hval
  obtain ⟨v0, vs0, d0, ds0, p0, q0, hargs, rfl, rfl, h0, r0⟩ := trodAll_cons hA
  obtain ⟨rfl, rfl, rfl⟩ := trodAll_nil r0
  obtain rfl : args = #[v0] := by cases args; simp_all
  obtain ⟨rfl, rfl⟩ := trodVars_none hV
  have k0 := h0
  have lt0 : ∀ x ∈ p0, x.block < W.heap.size := by obtain ⟨m, hm⟩ := k0; exact DataW.trod_lt m _ _ _ hm
  obtain ⟨L0, HS0, HP0⟩ := open_Values (hval 0 33 v0 rfl rfl) h0
  clear hA0 hval0
  refine (walk W L0 v0 HS0 HP0).calls.mono fun e W' ⟨v, he, hv, bel⟩ => ?_
  subst hv
  subst he
  exact ⟨_, rfl, _, _, _, [], _, [], hW', trodAll_mk1 (shut_bool Try.underlying4 _), (trodAll_cons_mk (Below.trod laidOut (by kernel_rfl) (of_decide_eq_true (by kernel_rfl)) k0 bel lt0) trodAll_mk0), rfl, bel.frame _, fun h => by cases h⟩
theorem band {a b : Bool} (h1 : a = true) (h2 : b = true) : (a && b) = true := by rw [h1, h2]; rfl
theorem lifted_ok : (Rows.fnExactValuesOkRow.lifted == Try.pinned.checked.prog.liftsFinal) = true := by rw [head_final]; rfl
theorem make_ok : (Try.pinned.checked.prog.make == some Rows.fnExactValuesOkRow.make) = true := by rw [head_make]; rfl
set_option maxHeartbeats 4000000 in
theorem closed : joinedFacts Try.pinned.checked.prog 4 Try.f4 Rows.fnExactValuesOkSpec Rows.fnExactValuesOkRow = true := by
  unfold joinedFacts
  repeat' (with_reducible refine band ?_ ?_)
  all_goals (first | with_reducible exact head_enter | with_reducible exact lifted_ok | with_reducible exact make_ok | (as_aux_lemma => kernel_rfl))
theorem holds : Rows.fnExactValuesOkRow.holds Try.pinned (OpenSpec.ofChange Rows.fnExactValuesOkSpec) :=
  OpenClaim.holds_of_wide 4 Try.f4 rfl rfl rfl rfl rfl rfl rfl ⟨rfl, rfl, rfl, rfl, rfl⟩ rfl rfl rfl rfl rfl (by as_aux_lemma => kernel_rfl) Try.func4 closed
    (of_decide_eq_true (by as_aux_lemma => kernel_rfl)) (by unfold Func.isWrapper; first | (rw [if_pos (by decide +kernel)]; kernel_rfl) | (rw [if_neg (by decide +kernel)]; exact ⟨rfl, rfl⟩))
    (fun os started H enc _ => lifted os started H enc)
/-- The statement. -/
theorem proved : Rows.FnExactValuesOkSaid := holds
#print axioms proved
end Go.Proofs.Ytpaccpajkndlhaa.lawFnExactValuesOk
