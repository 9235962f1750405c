/- The law FnExactVarTerm: whatever the arguments, it returns true; all that was there is as it was. No condition. -/
import Derived.Test.YtpaccpajkndlhaaCt
import Derived.Test.YtpaccpajkndlhaaZw
import Derived.WalkKit
import Derived.ProofKit
import Derived.OpenShut
import Derived.ShutString
import Derived.ChangeOld
import Derived.Below
import Derived.ChangeMaps5
namespace Go.Proofs.Ytpaccpajkndlhaa.lawFnExactVarTerm
open Go.ChangeMaps (open_string shut_string)
open Go Go.Vc Go.ChangeShapes Go.WideShapes Go.ChangeAt Go.RowKit
set_option linter.unusedVariables false

theorem walk (x : Int) (hx : (Lit.int .i64 x).wf = true) (y : ByteArray) (hy : y.size ≤ maxLen) (W : World) : Ret Try.prog 7 #[.int .i64 x, .string y] W (fun v w' => v = .bool true ∧ Ext W w') := by
  refine ret_of_vc ties mixed Try.func7 rfl (by kernel_rfl) rfl rfl ?_
  refine br_dec (fun _ => ⟨rfl, Ext.refl _⟩) (fun hle => ?_)
  have hsz : y.size ≤ 9223372036854775807 := by omega
  refine Or.inl ((spec_VarTerm x y hsz _).mono ?_)
  rintro _ w1 ⟨rfl, x1⟩
  obtain ⟨f2, c2, x2⟩ := res5 (W := w1) (v := [.int .i64 (varT x y).op, .int .i64 (varT x y).w, .int .i64 (varT x y).n, .string (varT x y).name, .slice none 0 0]) rfl rfl
  refine ⟨f2, ?_⟩
  refine Or.inl ((impl_VarTerm x y hsz _).mono ?_)
  rintro _ w3 ⟨rfl, x3⟩
  obtain ⟨f4, c4, x4⟩ := res5 (W := w3) (v := [.int .i64 (varT x y).op, .int .i64 (varT x y).w, .int .i64 (varT x y).n, .string (varT x y).name, .slice none 0 0]) rfl rfl
  refine ⟨f4, ?_⟩
  have c2' := c2.ext (x3.trans x4)
  refine ⟨_, rfl, c4, _, rfl, c2', ?_⟩
  refine Or.inl ((eqTerm_ret .nil .nil (varT x y) (varT x y) _ _ _ nilS nilS).mono ?_)
  rintro _ w5 ⟨rfl, x5⟩
  refine br_ndec (fun h => absurd ⟨rfl, rfl⟩ h) (fun _ => ?_)
  refine ⟨_, rfl, c4.ext x5, ?_⟩
  refine Or.inl ((markTerm_ret .nil (varT x y) _ w5.heap.size w5.heap.size 1 _ (nilSep _ _ _) (Nat.le_refl _) (by decide) (by decide)).mono ?_)
  rintro _ w6 ⟨rfl, _, h6⟩
  have x6 : Ext w5 w6 := h6.ext fun i hi => hi.1
  refine ⟨_, rfl, c4.ext (x5.trans x6), ?_⟩
  refine Or.inl ((heldTerm_ret .nil (varT x y) _ 1 _ nilS (by decide) (by decide)).mono ?_)
  rintro _ w7 ⟨rfl, x7⟩
  refine Or.inl ((impl_VarTerm x y hsz _).mono ?_)
  rintro _ w8 ⟨rfl, x8⟩
  obtain ⟨f9, c9, x9⟩ := res5 (W := w8) (v := [.int .i64 (varT x y).op, .int .i64 (varT x y).w, .int .i64 (varT x y).n, .string (varT x y).name, .slice none 0 0]) rfl rfl
  refine ⟨f9, ?_⟩
  have x59 := ((((x5.trans x6).trans x7).trans x8).trans x9)
  refine ⟨_, rfl, c9, _, rfl, c2'.ext x59, ?_⟩
  refine Or.inl ((eqTerm_ret .nil .nil (varT x y) (varT x y) _ _ _ nilS nilS).mono ?_)
  rintro _ w10 ⟨rfl, x10⟩
  refine br_ndec (fun h => absurd ⟨rfl, rfl⟩ h) (fun _ => ?_)
  refine ⟨_, rfl, c4.ext (x59.trans x10), ?_⟩
  refine Or.inl ((heldTerm_ret .nil (varT x y) _ 1 _ nilS (by decide) (by decide)).mono ?_)
  rintro _ w11 ⟨rfl, x11⟩
  exact ⟨rfl, ((((((x1.trans x2).trans x3).trans x4).trans x59).trans x10).trans x11)⟩
theorem own : ownKnob Try.prog.godebug = none := by kernel_rfl
theorem laidOut : laidOutB Try.prog = true := by kernel_rfl
set_option maxRecDepth 100000 in
theorem lifted (os : Os) (started : os.Started) (H : Type) (enc : TypeId × Value → H) :
    ReturnsInHanded {} Try.checked os 7 .any (Rows.fnExactVarTermSpec.pre6 enc Try.prog Try.f7 Rows.fnExactVarTermRow.domain false) (Rows.fnExactVarTermSpec.post enc Try.prog Try.f7 false true false false) := by
  refine returnsInHanded_of_change (C := Try.checked) own started (by kernel_rfl) Try.func7
    (ChangeSpec.witness6 (enc := enc) (C := Try.checked) false ⟨#[], #[.int .i64 0, .string ByteArray.empty], []⟩ 8 (by kernel_rfl) (by kernel_rfl) (by kernel_rfl) (by kernel_rfl)) ?_
  intro W base args ds gs before hval0 hW hcnd _
  have hval : ∀ (j : Nat) t v, Try.f7.params[j]? = some t → args[j]? = some v → Value.okWide Try.prog W .any base t v := hval0
  have hW' := hW
  obtain ⟨p, q, hA0, hV, rfl, hfz, hnd⟩ := hW
  have hA : DataW.TrodAll enc Try.prog W 0 (fun _ => true) true Try.f7.params.toList args.toList ds p := hA0
  rw [Try.params7] at hA hval
  obtain ⟨v0, vs0, d0, ds0, p0, q0, hargs, rfl, rfl, h0, r0⟩ := trodAll_cons hA
  obtain ⟨v1, vs1, d1, ds1, p1, q1, rfl, rfl, rfl, h1, r1⟩ := trodAll_cons r0
  obtain ⟨rfl, rfl, rfl⟩ := trodAll_nil r1
  obtain rfl : args = #[v0, v1] := by cases args; simp_all
  obtain ⟨rfl, rfl⟩ := trodVars_none hV
  have k0 := h0
  have lt0 : ∀ x ∈ p0, x.block < W.heap.size := by obtain ⟨m, hm⟩ := k0; exact DataW.trod_lt m _ _ _ hm
  obtain ⟨a0, rfl, rfl, rfl, w0⟩ := open_int Try.underlying3 (hval 0 3 v0 rfl rfl) h0
  have k1 := h1
  have lt1 : ∀ x ∈ p1, x.block < W.heap.size := by obtain ⟨m, hm⟩ := k1; exact DataW.trod_lt m _ _ _ hm
  obtain ⟨a1, rfl, rfl, rfl, w1⟩ := open_string Try.underlying9 (hval 1 9 v1 rfl rfl) h1
  clear hA0 hval0
  refine (walk a0 w0 a1 w1 W).calls.mono fun e W' ⟨v, he, hv, bel⟩ => ?_
  subst hv
  subst he
  exact ⟨_, rfl, _, _, _, [], _, [], hW', trodAll_mk1 (shut_bool Try.underlying4 _), (trodAll_cons_mk (Below.trod laidOut (by kernel_rfl) (of_decide_eq_true (by kernel_rfl)) k0 bel lt0) (trodAll_cons_mk (Below.trod laidOut (by kernel_rfl) (of_decide_eq_true (by kernel_rfl)) k1 bel lt1) trodAll_mk0)), rfl, bel.frame _, fun h => by cases h⟩
theorem band {a b : Bool} (h1 : a = true) (h2 : b = true) : (a && b) = true := by rw [h1, h2]; rfl
theorem lifted_ok : (Rows.fnExactVarTermRow.lifted == Try.pinned.checked.prog.liftsFinal) = true := by rw [head_final]; rfl
theorem make_ok : (Try.pinned.checked.prog.make == some Rows.fnExactVarTermRow.make) = true := by rw [head_make]; rfl
set_option maxHeartbeats 4000000 in
theorem closed : joinedFacts Try.pinned.checked.prog 7 Try.f7 Rows.fnExactVarTermSpec Rows.fnExactVarTermRow = true := by
  unfold joinedFacts
  repeat' (with_reducible refine band ?_ ?_)
  all_goals (first | with_reducible exact head_enter | with_reducible exact lifted_ok | with_reducible exact make_ok | (as_aux_lemma => kernel_rfl))
theorem holds : Rows.fnExactVarTermRow.holds Try.pinned (OpenSpec.ofChange Rows.fnExactVarTermSpec) :=
  OpenClaim.holds_of_wide 7 Try.f7 rfl rfl rfl rfl rfl rfl rfl ⟨rfl, rfl, rfl, rfl, rfl⟩ rfl rfl rfl rfl rfl (by as_aux_lemma => kernel_rfl) Try.func7 closed
    (of_decide_eq_true (by as_aux_lemma => kernel_rfl)) (by unfold Func.isWrapper; first | (rw [if_pos (by decide +kernel)]; kernel_rfl) | (rw [if_neg (by decide +kernel)]; exact ⟨rfl, rfl⟩))
    (fun os started H enc _ => lifted os started H enc)
/-- The statement. -/
theorem proved : Rows.FnExactVarTermSaid := holds
#print axioms proved
end Go.Proofs.Ytpaccpajkndlhaa.lawFnExactVarTerm
