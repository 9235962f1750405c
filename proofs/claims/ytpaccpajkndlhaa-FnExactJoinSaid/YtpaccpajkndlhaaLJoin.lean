/- The law FnExactJoin: whatever the arguments, it returns true; all that was there is as it was. No condition. -/
import Derived.Test.YtpaccpajkndlhaaJo
import Derived.Test.YtpaccpajkndlhaaZw
import Derived.WalkKit
import Derived.ProofKit
import Derived.OpenShut
import Derived.ShutString
import Derived.ChangeOld
import Derived.Below
namespace Go.Proofs.Ytpaccpajkndlhaa.lawFnExactJoin
open Go Go.Vc Go.ChangeShapes Go.WideShapes Go.ChangeAt Go.RowKit
open Go.ChangeMaps (open_string shut_string)
set_option linter.unusedVariables false

theorem walk (W : World) (l : List ByteArray) (s : Value) (hs : SlR eS allB W s l) (hp : ∀ x ∈ l, x.size ≤ maxLen) (sep : ByteArray) (hsep0 : sep.size ≤ maxLen) : Ret Try.prog 6 #[s, .string sep] W (fun v w' => v = .bool true ∧ Ext W w') := by
  refine ret_of_vc ties mixed Try.func6 rfl (by kernel_rfl) rfl rfl ?_
  refine br_dec (fun h => ⟨rfl, Ext.refl _⟩) (fun hse => ?_)
  have hsep : sep.size ≤ 1048576 := by omega
  refine Or.inl ((szStringS_ret l s 1048576 W hs hp (by decide)).mono ?_)
  rintro _ _ ⟨rfl, r, rfl, hr⟩
  refine br_dec (fun h => ⟨rfl, Ext.refl _⟩) (fun hr0 => ?_)
  have hl := hr (by omega)
  refine Or.inl ((toStringS_ret l s W hs (by omega)).mono ?_)
  rintro t1 w1 h1
  refine Or.inl ((spec_Join l sep t1 w1 h1.sl (by omega) hsep).mono ?_)
  rintro _ _ ⟨rfl, rfl⟩
  refine Or.inl ((toStringS_ret l s w1 (hs.ext h1.1) (by omega)).mono ?_)
  rintro t2 w2 h2
  refine Or.inl ((impl_Join l sep t2 w2 h2.sl (by omega) hsep).mono ?_)
  rintro _ w3 ⟨rfl, x3⟩
  refine br_dec_false (fun h => h rfl) ?_
  have x13 := (h1.1.trans h2.1).trans x3
  refine Or.inl ((toStringS_ret l s w3 (hs.ext x13) (by omega)).mono ?_)
  rintro t4 w4 h4
  refine Or.inl ((eqStringS_ret l l t2 t4 w4 (h2.sl.ext (x3.trans h4.1)) h4.sl).mono ?_)
  rintro _ w5 ⟨rfl, x5⟩
  refine br_ndec (fun h => absurd rfl h) (fun _ => ?_)
  exact ⟨rfl, (x13.trans h4.1).trans x5⟩
theorem own : ownKnob Try.prog.godebug = none := by kernel_rfl
theorem laidOut : laidOutB Try.prog = true := by kernel_rfl
set_option maxRecDepth 100000 in
theorem lifted (os : Os) (started : os.Started) (H : Type) (enc : TypeId × Value → H) :
    ReturnsInHanded {} Try.checked os 6 .any (Rows.fnExactJoinSpec.pre6 enc Try.prog Try.f6 Rows.fnExactJoinRow.domain false) (Rows.fnExactJoinSpec.post enc Try.prog Try.f6 false true false false) := by
  refine returnsInHanded_of_change (C := Try.checked) own started (by kernel_rfl) Try.func6
    (ChangeSpec.witness6 (enc := enc) (C := Try.checked) false ⟨#[], #[.slice none 0 0, .string ByteArray.empty], []⟩ 8 (by kernel_rfl) (by kernel_rfl) (by kernel_rfl) (by kernel_rfl)) ?_
  intro W base args ds gs before hval0 hW hcnd _
  have hval : ∀ (j : Nat) t v, Try.f6.params[j]? = some t → args[j]? = some v → Value.okWide Try.prog W .any base t v := hval0
  have hW' := hW
  obtain ⟨p, q, hA0, hV, rfl, hfz, hnd⟩ := hW
  have hA : DataW.TrodAll enc Try.prog W 0 (fun _ => true) true Try.f6.params.toList args.toList ds p := hA0
  rw [Try.params6] at hA hval
  obtain ⟨v0, vs0, d0, ds0, p0, q0, hargs, rfl, rfl, h0, r0⟩ := trodAll_cons hA
  obtain ⟨v1, vs1, d1, ds1, p1, q1, rfl, rfl, rfl, h1, r1⟩ := trodAll_cons r0
  obtain ⟨rfl, rfl, rfl⟩ := trodAll_nil r1
  obtain rfl : args = #[v0, v1] := by cases args; simp_all
  obtain ⟨rfl, rfl⟩ := trodVars_none hV
  have k0 := h0
  have lt0 : ∀ x ∈ p0, x.block < W.heap.size := by obtain ⟨m, hm⟩ := k0; exact DataW.trod_lt m _ _ _ hm
  obtain ⟨L0, HS0, HP0⟩ := open_Strings (hval 0 43 v0 rfl rfl) h0
  have k1 := h1
  have lt1 : ∀ x ∈ p1, x.block < W.heap.size := by obtain ⟨m, hm⟩ := k1; exact DataW.trod_lt m _ _ _ hm
  obtain ⟨a1, rfl, rfl, rfl, w1⟩ := open_string Try.underlying9 (hval 1 9 v1 rfl rfl) h1
  clear hA0 hval0
  refine (walk W L0 v0 HS0 HP0 a1 w1).calls.mono fun e W' ⟨v, he, hv, bel⟩ => ?_
  subst hv
  subst he
  exact ⟨_, rfl, _, _, _, [], _, [], hW', trodAll_mk1 (shut_bool Try.underlying4 _), (trodAll_cons_mk (Below.trod laidOut (by kernel_rfl) (of_decide_eq_true (by kernel_rfl)) k0 bel lt0) (trodAll_cons_mk (Below.trod laidOut (by kernel_rfl) (of_decide_eq_true (by kernel_rfl)) k1 bel lt1) trodAll_mk0)), rfl, bel.frame _, fun h => by cases h⟩
theorem band {a b : Bool} (h1 : a = true) (h2 : b = true) : (a && b) = true := by rw [h1, h2]; rfl
theorem lifted_ok : (Rows.fnExactJoinRow.lifted == Try.pinned.checked.prog.liftsFinal) = true := by rw [head_final]; rfl
theorem make_ok : (Try.pinned.checked.prog.make == some Rows.fnExactJoinRow.make) = true := by rw [head_make]; rfl
set_option maxHeartbeats 4000000 in
theorem closed : joinedFacts Try.pinned.checked.prog 6 Try.f6 Rows.fnExactJoinSpec Rows.fnExactJoinRow = true := by
  unfold joinedFacts
  repeat' (with_reducible refine band ?_ ?_)
  all_goals (first | with_reducible exact head_enter | with_reducible exact lifted_ok | with_reducible exact make_ok | (as_aux_lemma => kernel_rfl))
theorem holds : Rows.fnExactJoinRow.holds Try.pinned (OpenSpec.ofChange Rows.fnExactJoinSpec) :=
  OpenClaim.holds_of_wide 6 Try.f6 rfl rfl rfl rfl rfl rfl rfl ⟨rfl, rfl, rfl, rfl, rfl⟩ rfl rfl rfl rfl rfl (by as_aux_lemma => kernel_rfl) Try.func6 closed
    (of_decide_eq_true (by as_aux_lemma => kernel_rfl)) (by unfold Func.isWrapper; first | (rw [if_pos (by decide +kernel)]; kernel_rfl) | (rw [if_neg (by decide +kernel)]; exact ⟨rfl, rfl⟩))
    (fun os started H enc _ => lifted os started H enc)
/-- The statement. -/
theorem proved : Rows.FnExactJoinSaid := holds
#print axioms proved
end Go.Proofs.Ytpaccpajkndlhaa.lawFnExactJoin
