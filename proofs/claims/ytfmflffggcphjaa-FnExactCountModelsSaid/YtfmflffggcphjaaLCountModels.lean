/- The law FnExactCountModels: whatever the arguments, it returns true; all that was there is as it was. No condition. -/
import Derived.Test.YtfmflffggcphjaaEv
import Derived.Test.YtfmflffggcphjaaIo
import Derived.Test.YtfmflffggcphjaaZw
import Derived.WalkKit
import Derived.ProofKit
import Derived.OpenShut
import Derived.ShutString
import Derived.ChangeOld
import Derived.Below
namespace Go.Proofs.Ytfmflffggcphjaa.lawFnExactCountModels
open Go Go.Vc Go.ChangeShapes Go.WideShapes Go.ChangeAt Go.RowKit Go.Sat
set_option linter.unusedVariables false

theorem walk (W : World) (n : Int) (s : Value) (F : List (List Int)) (hs : SlR eL allB W s F) (hn : inI n) : Ret Try.prog 8 #[fv n s] W (fun v w' => v = .bool true ∧ Ext W w') := by
  refine ret_of_vc ties mixed Try.func8 rfl (by kernel_rfl) rfl rfl ?_
  have hb := boxedAll W [.int .i64 n, s] 48
  have x1 : Ext W (W.alloc (.cells [.int .i64 n, s].toArray 48)) := Ext.new _ _
  refine ⟨[.int .i64 n, s], rfl, hb, ?_⟩
  refine Or.inl ((szFormula_ret n F s 1048576 _ (hs.ext x1) (by decide) (by decide)).mono ?_)
  rintro _ w2 ⟨x2, rfl | ⟨hsz, rfl⟩⟩
  · exact ⟨rfl, x1.trans x2⟩
  refine br_dec_false (by omega) ?_
  have hsz : F.length + tot F ≤ 1048576 := by omega
  refine ⟨[.int .i64 n, s], rfl, hb.ext x2, ?_⟩
  refine Or.inl ((toFormula_ret n F s _ (hs.ext (x1.trans x2)) hsz).mono ?_)
  rintro _ w3 ⟨x3, s3, rfl, hs3, _⟩
  have hs3 := hs3.all
  refine Or.inl ((spec_CountModels n F s3 _ hs3).mono ?_)
  rintro _ w4 ⟨rfl, x4⟩
  refine ⟨[.int .i64 n, s], rfl, hb.ext ((x2.trans x3).trans x4), ?_⟩
  refine Or.inl ((toFormula_ret n F s _ (hs.ext (((x1.trans x2).trans x3).trans x4)) hsz).mono ?_)
  rintro _ w5 ⟨x5, s5, rfl, hs5, _⟩
  have hs5 := hs5.all
  have r6 := Rmy.new w5 [.int .i64 0, .slice none 0 0] 25
  refine ⟨r6.all [.int .i64 n, s5] 0 (Nat.le_refl 2) (by simp only [List.all_cons, hs5.oneB]; rfl), ?_⟩
  have x6 : Ext w5 (setCells (w5.alloc (.cells #[.int .i64 0, .slice none 0 0] 25)) w5.heap.size 0 [.int .i64 n, s5]) := Ext.setCells _ (Ext.new _ _) (Nat.le_refl _)
  have hc6 := setCells_at [.int .i64 n, s5] _ 0 2 r6 (Nat.le_refl 2)
  refine ⟨[.int .i64 n, s5], rfl, hc6, ?_⟩
  refine Or.inl ((impl_CountModels n F s5 _ (hs5.ext x6)).mono ?_)
  rintro _ w7 ⟨rfl, x7⟩
  refine br_dec_false (by simp) ?_
  have xa := (((((x2.trans x3).trans x4).trans x5).trans x6).trans x7)
  refine .inr (.inr (hyb_rule ties mixed [(0, .quiet), (1, .quiet), (2, .loud), (3, .quiet), (4, .quiet)] (by kernel_rfl) ?_))
  refine ⟨[.int .i64 n, s5], rfl, hc6.ext x7, [.int .i64 n, s], rfl, hb.ext xa, ?_⟩
  intro w8 x8
  refine Or.inl ((toFormula_ret n F s _ (hs.ext ((x1.trans xa).trans x8)) hsz).mono ?_)
  rintro _ w9 ⟨x9, s9, rfl, hs9, _⟩
  have hs9 := hs9.all
  refine ⟨x9, .bool true, fun w' hw' => (eqFormula_ret n n F F s5 s9 _ (hs5.ext (((x6.trans (x7.trans x8)).trans x9).trans hw')) (hs9.ext hw')).mono ?_, ?_⟩
  · rintro _ w'' ⟨rfl, h⟩
    exact ⟨by simp, h⟩
  intro w10 x10
  exact ⟨rfl, (((x1.trans xa).trans x8).trans x9).trans x10⟩
theorem own : ownKnob Try.prog.godebug = none := by kernel_rfl
theorem laidOut : laidOutB Try.prog = true := by kernel_rfl
set_option maxRecDepth 100000 in
theorem lifted (os : Os) (started : os.Started) (H : Type) (enc : TypeId × Value → H) :
    ReturnsInHanded {} Try.checked os 8 .any (Rows.fnExactCountModelsSpec.pre6 enc Try.prog Try.f8 Rows.fnExactCountModelsRow.domain false) (Rows.fnExactCountModelsSpec.post enc Try.prog Try.f8 false true false false) := by
  refine returnsInHanded_of_change (C := Try.checked) own started (by kernel_rfl) Try.func8
    (ChangeSpec.witness6 (enc := enc) (C := Try.checked) false ⟨#[], #[.agg #[.int .i64 0, .slice none 0 0]], []⟩ 8 (by kernel_rfl) (by kernel_rfl) (by kernel_rfl) (by kernel_rfl)) ?_
  intro W base args ds gs before hval0 hW hcnd _
  have hval : ∀ (j : Nat) t v, Try.f8.params[j]? = some t → args[j]? = some v → Value.okWide Try.prog W .any base t v := hval0
  have hW' := hW
  obtain ⟨p, q, hA0, hV, rfl, hfz, hnd⟩ := hW
  have hA : DataW.TrodAll enc Try.prog W 0 (fun _ => true) true Try.f8.params.toList args.toList ds p := hA0
  rw [Try.params8] at hA hval
  obtain ⟨v0, vs0, d0, ds0, p0, q0, hargs, rfl, rfl, h0, r0⟩ := trodAll_cons hA
  obtain ⟨rfl, rfl, rfl⟩ := trodAll_nil r0
  obtain rfl : args = #[v0] := by cases args; simp_all
  obtain ⟨rfl, rfl⟩ := trodVars_none hV
  have k0 := h0
  have lt0 : ∀ x ∈ p0, x.block < W.heap.size := by obtain ⟨m, hm⟩ := k0; exact DataW.trod_lt m _ _ _ hm
  obtain ⟨N0, S0, F0, rfl, HS0, HN0⟩ := open_Formula (hval 0 48 v0 rfl rfl) h0
  clear hA0 hval0
  refine (walk W N0 S0 F0 HS0 HN0).calls.mono fun e W' ⟨v, he, hv, bel⟩ => ?_
  subst hv
  subst he
  exact ⟨_, rfl, _, _, _, [], _, [], hW', trodAll_mk1 (shut_bool Try.underlying4 _), (trodAll_cons_mk (Below.trod laidOut (by kernel_rfl) (of_decide_eq_true (by kernel_rfl)) k0 bel lt0) trodAll_mk0), rfl, bel.frame _, fun h => by cases h⟩
theorem band {a b : Bool} (h1 : a = true) (h2 : b = true) : (a && b) = true := by rw [h1, h2]; rfl
theorem lifted_ok : (Rows.fnExactCountModelsRow.lifted == Try.pinned.checked.prog.liftsFinal) = true := by rw [head_final]; rfl
theorem make_ok : (Try.pinned.checked.prog.make == some Rows.fnExactCountModelsRow.make) = true := by rw [head_make]; rfl
set_option maxHeartbeats 4000000 in
theorem closed : joinedFacts Try.pinned.checked.prog 8 Try.f8 Rows.fnExactCountModelsSpec Rows.fnExactCountModelsRow = true := by
  unfold joinedFacts
  repeat' (with_reducible refine band ?_ ?_)
  all_goals (first | with_reducible exact head_enter | with_reducible exact lifted_ok | with_reducible exact make_ok | (as_aux_lemma => kernel_rfl))
theorem holds : Rows.fnExactCountModelsRow.holds Try.pinned (OpenSpec.ofChange Rows.fnExactCountModelsSpec) :=
  OpenClaim.holds_of_wide 8 Try.f8 rfl rfl rfl rfl rfl rfl rfl ⟨rfl, rfl, rfl, rfl, rfl⟩ rfl rfl rfl rfl rfl (by as_aux_lemma => kernel_rfl) Try.func8 closed
    (of_decide_eq_true (by as_aux_lemma => kernel_rfl)) (by unfold Func.isWrapper; first | (rw [if_pos (by decide +kernel)]; kernel_rfl) | (rw [if_neg (by decide +kernel)]; exact ⟨rfl, rfl⟩))
    (fun os started H enc _ => lifted os started H enc)
/-- The statement. -/
theorem proved : Rows.FnExactCountModelsSaid := holds
#print axioms proved
end Go.Proofs.Ytfmflffggcphjaa.lawFnExactCountModels
