/- The law FnExactMakeClause: whatever the arguments, it returns true; all that was there is as it was. No condition. -/
import Derived.Test.YtfmflffggcphjaaMx
import Derived.Test.YtfmflffggcphjaaMi
import Derived.Test.YtfmflffggcphjaaIo
import Derived.Test.YtfmflffggcphjaaZw
import Derived.WalkKit
import Derived.ProofKit
import Derived.OpenShut
import Derived.ShutString
import Derived.ChangeOld
import Derived.Below
namespace Go.Proofs.Ytfmflffggcphjaa.lawFnExactMakeClause
open Go Go.Vc Go.ChangeShapes Go.WideShapes Go.ChangeAt Go.RowKit Go.Sat
set_option linter.unusedVariables false

set_option maxRecDepth 100000 in
set_option maxHeartbeats 4000000 in
theorem walk (W : World) (lits : List Int) (t : Value) (ht : SlR eI allB W t lits) (hp : ∀ x ∈ lits, inI x) :
    Ret Try.prog 18 #[t] W (fun v w' => v = .bool true ∧ Ext W w') := by
  have hlm : (maxLen : Int) ≤ 9223372036854775807 := by decide
  obtain ⟨a2, c2, rfl, hlc2, hcm2, -⟩ := id ht
  refine ret_of_vc ties mixed Try.func18 rfl (by kernel_rfl) rfl rfl ?_
  refine br_dec (fun h => ⟨rfl, Ext.refl _⟩) (fun hml => ?_)
  have hml : lits.length ≤ 1048576 := by omega
  obtain ⟨oc, hoc⟩ : ∃ oc, mkcO lits = oc := ⟨_, rfl⟩
  have hol : (oc.getD []).length ≤ 1048576 := by
    rw [← hoc]
    cases h : mkcO lits with
    | none => simp
    | some c => have := cl_len (n := 400) (mkcO_some h).1; simp only [Option.getD_some]; omega
  have hsp : ∀ s w, SlR eI allB w s lits → Ret Try.prog 65 #[s] w (fun r w' => Ext w w' ∧ ∃ s, r = .tuple #[s, .bool oc.isSome] ∧ OwnR eI noB w' s (oc.getD []) ∧ ∀ b, blk s b → w.heap.size ≤ b) := fun s w h => by
    have := spec_MakeClause lits s w h
    unfold MkR at this
    rwa [hoc] at this
  have him : ∀ s w, SlR eI allB w s lits → Ret Try.prog 66 #[s] w (fun r w' => Ext w w' ∧ ∃ s, r = .tuple #[s, .bool oc.isSome] ∧ OwnR eI noB w' s (oc.getD []) ∧ ∀ b, blk s b → w.heap.size ≤ b) := fun s w h => by
    have := impl_MakeClause lits s w h (by omega)
    unfold MkR at this
    rwa [hoc] at this
  clear hoc
  -- what the reference gives
  refine Or.inl ((toIntS_ret lits _ W ht hml).mono ?_)
  rintro t4 w4 ht4
  refine Or.inl ((hsp t4 w4 ht4.sl).mono ?_)
  rintro _ w5 ⟨x5, sv, rfl, hsv, _⟩
  have x15 := ht4.1.trans x5
  -- what the program gives
  refine Or.inl ((toIntS_ret lits _ w5 (ht.ext x15) hml).mono ?_)
  rintro t8 w8 ht8
  have x18 := x15.trans ht8.1
  refine Or.inl ((him t8 w8 ht8.sl).mono ?_)
  rintro _ w9 ⟨x9, gv, rfl, hgv, hgvb⟩
  have x19 := x18.trans x9
  have hsvA : SlR eI allB w5 sv _ := hsv.sl (fun _ _ => trivial) (fun _ _ => trivial)
  have x59 := ht8.1.trans x9
  refine Or.inl ((eqIntS_ret _ _ gv sv _ (hgv.sl (fun _ _ => trivial) (fun _ _ => trivial)) (hsvA.ext x59)).mono ?_)
  rintro _ w10 ⟨rfl, x10⟩
  refine br_ndec (fun h => absurd rfl h) (fun _ => ?_)
  refine br_false (by simp) ?_
  refine Or.inl ((toIntS_ret lits _ w10 (ht.ext (x19.trans x10)) hml).mono ?_)
  rintro t14 w14 ht14
  refine Or.inl ((eqIntS_ret lits lits t8 t14 _ ((ht8.2.1.ext ((x9.trans x10).trans ht14.1)).sl (fun _ _ => trivial) (fun _ _ => trivial)) ht14.sl).mono ?_)
  rintro _ w15 ⟨rfl, x15'⟩
  refine br_ndec (fun h => absurd rfl h) (fun _ => ?_)
  have x915 := (x10.trans ht14.1).trans x15'
  -- marks on the argument
  have z5 := x5.size
  have z8 := ht8.1.size
  have z9 := x9.size
  have z15 := x915.size
  have ht8' := ht8.2.1.ext (x9.trans x915)
  refine Or.inl ((markIntS_ret lits t8 1 _ ht8' (by decide) (by omega)).mono ?_)
  rintro _ w17 ⟨rfl, _, hch17, hz17⟩
  have hch := (mark_old ht8.2.1 hch17 hz17).mono (S' := fun b => w5.heap.size ≤ b ∧ b < w8.heap.size) fun b _ hb => ⟨ht8.2.2 b hb.1, hb.2⟩
  have hgv15 := hgv.ext x915
  have hgv17 := hgv15.chg (fun _ h => h.elim) (fun b hb e => by have := hgvb b hb; omega) hch
  have hsv5 : SlR eI (oldB w5.heap.size) w5 sv _ := hsvA.lt.mono fun b hb => hb.2
  have hsv17 := (hsv5.ext (x59.trans x915)).chg (S := fun b => w5.heap.size ≤ b ∧ b < w8.heap.size) (fun b hb e => by unfold oldB at hb; omega) hch
  have x17a : Ext W w17 := (x19.trans x915).chg hch fun i hi => Nat.le_trans x15.size hi.1
  refine Or.inl ((eqIntS_ret _ _ gv sv _ (hgv17.sl (fun _ _ => trivial) (fun _ _ => trivial)) hsv17.any).mono ?_)
  rintro _ w18 ⟨rfl, x18'⟩
  refine br_ndec (fun h => absurd rfl h) (fun _ => ?_)
  refine br_false (by simp) ?_
  -- marks on the result
  refine Or.inl ((markIntS_ret _ gv 1 _ (hgv17.ext x18') (by decide) (by omega)).mono ?_)
  rintro _ w19 ⟨rfl, hgv19, hch19, hz19⟩
  have x19a : Ext W w19 := (x17a.trans x18').chg hch19 fun b hb => Nat.le_trans x18.size (hgvb b hb)
  have hsv19 := (hsv17.ext x18').chg (S := blk gv) (fun b hb e => by have := hgvb b e; unfold oldB at hb; omega) hch19
  have hgm : SlR eI allB w19 gv _ := hgv19.sl (fun _ _ => trivial) (fun _ _ => trivial)
  refine Or.inl ((heldIntS_ret _ gv 1 _ hgm (by decide) (by omega)).mono ?_)
  rintro _ _ ⟨rfl, rfl⟩
  refine br_dec (fun h => absurd rfl h) (fun _ => ?_)
  -- once more
  refine Or.inl ((toIntS_ret lits _ w19 (ht.ext x19a) hml).mono ?_)
  rintro t21 w21 ht21
  refine Or.inl ((him t21 w21 ht21.sl).mono ?_)
  rintro _ w22 ⟨x22, hv, rfl, hhv, _⟩
  have x1922 := ht21.1.trans x22
  refine Or.inl ((eqIntS_ret _ _ hv sv _ (hhv.sl (fun _ _ => trivial) (fun _ _ => trivial)) (hsv19.any.ext x1922)).mono ?_)
  rintro _ w23 ⟨rfl, x23⟩
  refine br_ndec (fun h => absurd rfl h) (fun _ => ?_)
  refine br_false (by simp) ?_
  refine Or.inl ((heldIntS_ret _ gv 1 _ (hgm.ext (x1922.trans x23)) (by decide) (by omega)).mono ?_)
  rintro _ _ ⟨rfl, rfl⟩
  refine br_dec (fun h => absurd rfl h) (fun _ => ?_)
  exact ⟨rfl, x19a.trans (x1922.trans x23)⟩
theorem own : ownKnob Try.prog.godebug = none := by kernel_rfl
theorem laidOut : laidOutB Try.prog = true := by kernel_rfl
set_option maxRecDepth 100000 in
theorem lifted (os : Os) (started : os.Started) (H : Type) (enc : TypeId × Value → H) :
    ReturnsInHanded {} Try.checked os 18 .any (Rows.fnExactMakeClauseSpec.pre6 enc Try.prog Try.f18 Rows.fnExactMakeClauseRow.domain false) (Rows.fnExactMakeClauseSpec.post enc Try.prog Try.f18 false true false false) := by
  refine returnsInHanded_of_change (C := Try.checked) own started (by kernel_rfl) Try.func18
    (ChangeSpec.witness6 (enc := enc) (C := Try.checked) false ⟨#[], #[.slice none 0 0], []⟩ 8 (by kernel_rfl) (by kernel_rfl) (by kernel_rfl) (by kernel_rfl)) ?_
  intro W base args ds gs before hval0 hW hcnd _
  have hval : ∀ (j : Nat) t v, Try.f18.params[j]? = some t → args[j]? = some v → Value.okWide Try.prog W .any base t v := hval0
  have hW' := hW
  obtain ⟨p, q, hA0, hV, rfl, hfz, hnd⟩ := hW
  have hA : DataW.TrodAll enc Try.prog W 0 (fun _ => true) true Try.f18.params.toList args.toList ds p := hA0
  rw [Try.params18] at hA hval
  obtain ⟨v0, vs0, d0, ds0, p0, q0, hargs, rfl, rfl, h0, r0⟩ := trodAll_cons hA
  obtain ⟨rfl, rfl, rfl⟩ := trodAll_nil r0
  obtain rfl : args = #[v0] := by cases args; simp_all
  obtain ⟨rfl, rfl⟩ := trodVars_none hV
  have k0 := h0
  have lt0 : ∀ x ∈ p0, x.block < W.heap.size := by obtain ⟨m, hm⟩ := k0; exact DataW.trod_lt m _ _ _ hm
  obtain ⟨L0, HS0, HP0⟩ := open_Ints (hval 0 27 v0 rfl rfl) h0
  clear hA0 hval0
  refine (walk W L0 v0 HS0 HP0).calls.mono fun e W' ⟨v, he, hv, bel⟩ => ?_
  subst hv
  subst he
  exact ⟨_, rfl, _, _, _, [], _, [], hW', trodAll_mk1 (shut_bool Try.underlying4 _), (trodAll_cons_mk (Below.trod laidOut (by kernel_rfl) (of_decide_eq_true (by kernel_rfl)) k0 bel lt0) trodAll_mk0), rfl, bel.frame _, fun h => by cases h⟩
theorem band {a b : Bool} (h1 : a = true) (h2 : b = true) : (a && b) = true := by rw [h1, h2]; rfl
theorem lifted_ok : (Rows.fnExactMakeClauseRow.lifted == Try.pinned.checked.prog.liftsFinal) = true := by rw [head_final]; rfl
theorem make_ok : (Try.pinned.checked.prog.make == some Rows.fnExactMakeClauseRow.make) = true := by rw [head_make]; rfl
set_option maxHeartbeats 4000000 in
theorem closed : joinedFacts Try.pinned.checked.prog 18 Try.f18 Rows.fnExactMakeClauseSpec Rows.fnExactMakeClauseRow = true := by
  unfold joinedFacts
  repeat' (with_reducible refine band ?_ ?_)
  all_goals (first | with_reducible exact head_enter | with_reducible exact lifted_ok | with_reducible exact make_ok | (as_aux_lemma => kernel_rfl))
theorem holds : Rows.fnExactMakeClauseRow.holds Try.pinned (OpenSpec.ofChange Rows.fnExactMakeClauseSpec) :=
  OpenClaim.holds_of_wide 18 Try.f18 rfl rfl rfl rfl rfl rfl rfl ⟨rfl, rfl, rfl, rfl, rfl⟩ rfl rfl rfl rfl rfl (by as_aux_lemma => kernel_rfl) Try.func18 closed
    (of_decide_eq_true (by as_aux_lemma => kernel_rfl)) (by unfold Func.isWrapper; first | (rw [if_pos (by decide +kernel)]; kernel_rfl) | (rw [if_neg (by decide +kernel)]; exact ⟨rfl, rfl⟩))
    (fun os started H enc _ => lifted os started H enc)
/-- The statement. -/
theorem proved : Rows.FnExactMakeClauseSaid := holds
#print axioms proved
end Go.Proofs.Ytfmflffggcphjaa.lawFnExactMakeClause
