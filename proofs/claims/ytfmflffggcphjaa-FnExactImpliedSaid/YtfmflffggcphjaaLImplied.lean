/- The law FnExactImplied: whatever the arguments, it returns true; all that was there is as it was. No condition. -/
import Derived.Test.YtfmflffggcphjaaIm
import Derived.Test.YtfmflffggcphjaaMi
import Derived.Test.YtfmflffggcphjaaIo
import Derived.Test.YtfmflffggcphjaaZw
import Derived.WalkKit
import Derived.ProofKit
import Derived.OpenShut
import Derived.ShutString
import Derived.ChangeOld
import Derived.Below
namespace Go.Proofs.Ytfmflffggcphjaa.lawFnExactImplied
open Go Go.Vc Go.ChangeShapes Go.WideShapes Go.ChangeAt Go.RowKit Go.Sat
set_option linter.unusedVariables false

set_option maxRecDepth 100000 in
set_option maxHeartbeats 4000000 in
theorem walk (W : World) (n : Int) (s : Value) (F : List (List Int)) (hs : SlR eL allB W s F) (hn : inI n) (lits : List Int) (t : Value) (ht : SlR eI allB W t lits) (hp : ∀ x ∈ lits, inI x) (lim : Int) (w2 : (Lit.int .i64 lim).wf = true) :
    Ret Try.prog 13 #[fv n s, t, .int .i64 lim] W (fun v w' => v = .bool true ∧ Ext W w') := by
  have hlm : (maxLen : Int) ≤ 9223372036854775807 := by decide
  obtain ⟨a2, c2, rfl, hlc2, hcm2, -⟩ := id ht
  refine ret_of_vc ties mixed Try.func13 rfl (by kernel_rfl) rfl rfl ?_
  have hb := boxedAll W [.int .i64 n, s] 48
  have x1 : Ext W (W.alloc (.cells [.int .i64 n, s].toArray 48)) := Ext.new _ _
  refine br_dec (fun h => ⟨rfl, x1⟩) (fun hml => ?_)
  have hml : lits.length ≤ 1048576 := by omega
  refine ⟨[.int .i64 n, s], rfl, hb, ?_⟩
  refine Or.inl ((szFormula_ret n F s 1048576 _ (hs.ext x1) (by decide) (by decide)).mono ?_)
  rintro _ w2 ⟨x2, rfl | ⟨hsz, rfl⟩⟩
  · exact ⟨rfl, x1.trans x2⟩
  refine br_dec_false (by omega) ?_
  have hsz : F.length + tot F ≤ 1048576 := by omega
  -- what the reference gives
  refine ⟨[.int .i64 n, s], rfl, hb.ext x2, ?_⟩
  refine Or.inl ((toFormula_ret n F s _ (hs.ext (x1.trans x2)) hsz).mono ?_)
  rintro _ w3 ⟨x3, s3, rfl, hs3, _⟩
  have x13 := (x2.trans x3)
  refine Or.inl ((toIntS_ret lits _ _ (ht.ext (x1.trans x13)) hml).mono ?_)
  rintro t4 w4 ht4
  refine Or.inl ((spec_Implied n F lits lim s3 t4 _ (hs3.all.ext ht4.1) ht4.sl).mono ?_)
  rintro _ w5 ⟨x5, k, rfl, ho⟩
  have x15 := (x13.trans ht4.1).trans x5
  -- what the program gives
  refine ⟨[.int .i64 n, s], rfl, hb.ext x15, ?_⟩
  refine Or.inl ((toFormula_ret n F s _ (hs.ext (x1.trans x15)) hsz).mono ?_)
  rintro _ w6 ⟨x6, s6, rfl, hs6, _⟩
  have r7 := Rmy.new w6 [.int .i64 0, .slice none 0 0] 25
  refine ⟨r7.all [.int .i64 n, s6] 0 (Nat.le_refl 2) (by simp only [List.all_cons, hs6.all.oneB]; rfl), ?_⟩
  have x7 : Ext w6 (setCells (w6.alloc (.cells #[.int .i64 0, .slice none 0 0] 25)) w6.heap.size 0 [.int .i64 n, s6]) := Ext.setCells _ (Ext.new _ _) (Nat.le_refl _)
  have hc7 := setCells_at [.int .i64 n, s6] _ 0 2 r7 (Nat.le_refl 2)
  have x17 := (x15.trans x6).trans x7
  refine Or.inl ((toIntS_ret lits _ _ (ht.ext (x1.trans x17)) hml).mono ?_)
  rintro t8 w8 ht8
  have x18 := x17.trans ht8.1
  refine ⟨[.int .i64 n, s6], rfl, hc7.ext ht8.1, ?_⟩
  refine Or.inl ((impl_Implied n F lits lim s6 t8 _ (hs6.all.ext (x7.trans ht8.1)) ht8.sl).mono ?_)
  rintro _ w9 ⟨x9, k', rfl, ho'⟩
  have := ImpO.unique ho' ho
  subst this
  have x19 := x18.trans x9
  refine br_dec_false (fun h => h rfl) ?_
  refine .inr (.inr (hyb_rule ties mixed [(0, .quiet), (1, .quiet), (2, .loud), (3, .quiet), (4, .quiet)] (by kernel_rfl) ?_))
  refine ⟨[.int .i64 n, s6], rfl, hc7.ext (ht8.1.trans x9), [.int .i64 n, s], rfl, hb.ext x19, ?_⟩
  intro w11 x11
  refine Or.inl ((toFormula_ret n F s _ (hs.ext ((x1.trans x19).trans x11)) hsz).mono ?_)
  rintro _ w12 ⟨x12, s12, rfl, hs12, _⟩
  refine ⟨x12, .bool true, fun w' hw' => (eqFormula_ret n n F F s6 s12 _ (hs6.all.ext ((((x7.trans ht8.1).trans x9).trans x11).trans x12 |>.trans hw')) (hs12.all.ext hw')).mono ?_, ?_⟩
  · rintro _ w'' ⟨rfl, h⟩
    exact ⟨by simp, h⟩
  intro w13 x13'
  have x913 := (x11.trans x12).trans x13'
  refine Or.inl ((toIntS_ret lits _ _ (ht.ext (x1.trans (x19.trans x913))) hml).mono ?_)
  rintro t14 w14 ht14
  refine Or.inl ((eqIntS_ret lits lits t8 t14 _ ((ht8.2.1.ext ((x9.trans x913).trans ht14.1)).sl (fun _ _ => trivial) (fun _ _ => trivial)) ht14.sl).mono ?_)
  rintro _ w15 ⟨rfl, x15'⟩
  refine br_ndec (fun h => absurd rfl h) (fun _ => ?_)
  exact ⟨rfl, (x1.trans x19).trans ((x913.trans ht14.1).trans x15')⟩
theorem own : ownKnob Try.prog.godebug = none := by kernel_rfl
theorem laidOut : laidOutB Try.prog = true := by kernel_rfl
set_option maxRecDepth 100000 in
theorem lifted (os : Os) (started : os.Started) (H : Type) (enc : TypeId × Value → H) :
    ReturnsInHanded {} Try.checked os 13 .any (Rows.fnExactImpliedSpec.pre6 enc Try.prog Try.f13 Rows.fnExactImpliedRow.domain false) (Rows.fnExactImpliedSpec.post enc Try.prog Try.f13 false true false false) := by
  refine returnsInHanded_of_change (C := Try.checked) own started (by kernel_rfl) Try.func13
    (ChangeSpec.witness6 (enc := enc) (C := Try.checked) false ⟨#[], #[.agg #[.int .i64 0, .slice none 0 0], .slice none 0 0, .int .i64 0], []⟩ 8 (by kernel_rfl) (by kernel_rfl) (by kernel_rfl) (by kernel_rfl)) ?_
  intro W base args ds gs before hval0 hW hcnd _
  have hval : ∀ (j : Nat) t v, Try.f13.params[j]? = some t → args[j]? = some v → Value.okWide Try.prog W .any base t v := hval0
  have hW' := hW
  obtain ⟨p, q, hA0, hV, rfl, hfz, hnd⟩ := hW
  have hA : DataW.TrodAll enc Try.prog W 0 (fun _ => true) true Try.f13.params.toList args.toList ds p := hA0
  rw [Try.params13] at hA hval
  obtain ⟨v0, vs0, d0, ds0, p0, q0, hargs, rfl, rfl, h0, r0⟩ := trodAll_cons hA
  obtain ⟨v1, vs1, d1, ds1, p1, q1, rfl, rfl, rfl, h1, r1⟩ := trodAll_cons r0
  obtain ⟨v2, vs2, d2, ds2, p2, q2, rfl, rfl, rfl, h2, r2⟩ := trodAll_cons r1
  obtain ⟨rfl, rfl, rfl⟩ := trodAll_nil r2
  obtain rfl : args = #[v0, v1, v2] := by cases args; simp_all
  obtain ⟨rfl, rfl⟩ := trodVars_none hV
  have k0 := h0
  have lt0 : ∀ x ∈ p0, x.block < W.heap.size := by obtain ⟨m, hm⟩ := k0; exact DataW.trod_lt m _ _ _ hm
  obtain ⟨N0, S0, F0, rfl, HS0, HN0⟩ := open_Formula (hval 0 48 v0 rfl rfl) h0
  have k1 := h1
  have lt1 : ∀ x ∈ p1, x.block < W.heap.size := by obtain ⟨m, hm⟩ := k1; exact DataW.trod_lt m _ _ _ hm
  obtain ⟨L1, HS1, HP1⟩ := open_Ints (hval 1 27 v1 rfl rfl) h1
  have k2 := h2
  have lt2 : ∀ x ∈ p2, x.block < W.heap.size := by obtain ⟨m, hm⟩ := k2; exact DataW.trod_lt m _ _ _ hm
  obtain ⟨a2, rfl, rfl, rfl, w2⟩ := open_int Try.underlying3 (hval 2 3 v2 rfl rfl) h2
  clear hA0 hval0
  refine (walk W N0 S0 F0 HS0 HN0 L1 v1 HS1 HP1 a2 w2).calls.mono fun e W' ⟨v, he, hv, bel⟩ => ?_
  subst hv
  subst he
  exact ⟨_, rfl, _, _, _, [], _, [], hW', trodAll_mk1 (shut_bool Try.underlying4 _), (trodAll_cons_mk (Below.trod laidOut (by kernel_rfl) (of_decide_eq_true (by kernel_rfl)) k0 bel lt0) (trodAll_cons_mk (Below.trod laidOut (by kernel_rfl) (of_decide_eq_true (by kernel_rfl)) k1 bel lt1) (trodAll_cons_mk (Below.trod laidOut (by kernel_rfl) (of_decide_eq_true (by kernel_rfl)) k2 bel lt2) trodAll_mk0))), rfl, bel.frame _, fun h => by cases h⟩
theorem band {a b : Bool} (h1 : a = true) (h2 : b = true) : (a && b) = true := by rw [h1, h2]; rfl
theorem lifted_ok : (Rows.fnExactImpliedRow.lifted == Try.pinned.checked.prog.liftsFinal) = true := by rw [head_final]; rfl
theorem make_ok : (Try.pinned.checked.prog.make == some Rows.fnExactImpliedRow.make) = true := by rw [head_make]; rfl
set_option maxHeartbeats 4000000 in
theorem closed : joinedFacts Try.pinned.checked.prog 13 Try.f13 Rows.fnExactImpliedSpec Rows.fnExactImpliedRow = true := by
  unfold joinedFacts
  repeat' (with_reducible refine band ?_ ?_)
  all_goals (first | with_reducible exact head_enter | with_reducible exact lifted_ok | with_reducible exact make_ok | (as_aux_lemma => kernel_rfl))
theorem holds : Rows.fnExactImpliedRow.holds Try.pinned (OpenSpec.ofChange Rows.fnExactImpliedSpec) :=
  OpenClaim.holds_of_wide 13 Try.f13 rfl rfl rfl rfl rfl rfl rfl ⟨rfl, rfl, rfl, rfl, rfl⟩ rfl rfl rfl rfl rfl (by as_aux_lemma => kernel_rfl) Try.func13 closed
    (of_decide_eq_true (by as_aux_lemma => kernel_rfl)) (by unfold Func.isWrapper; first | (rw [if_pos (by decide +kernel)]; kernel_rfl) | (rw [if_neg (by decide +kernel)]; exact ⟨rfl, rfl⟩))
    (fun os started H enc _ => lifted os started H enc)
/-- The statement. -/
theorem proved : Rows.FnExactImpliedSaid := holds
#print axioms proved
end Go.Proofs.Ytfmflffggcphjaa.lawFnExactImplied
