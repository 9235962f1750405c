/- The law FnExactEvalFormula: whatever the arguments, it returns true; all that was there is as it was. No condition. -/
import Derived.Test.YtfmflffggcphjaaEv
import Derived.Test.YtfmflffggcphjaaIo
import Derived.Test.YtfmflffggcphjaaZw
import Derived.WalkKit
import Derived.ProofKit
import Derived.OpenShut
import Derived.ShutString
import Derived.ChangeOld
import Derived.Below
namespace Go.Proofs.Ytfmflffggcphjaa.lawFnExactEvalFormula
open Go Go.Vc Go.ChangeShapes Go.WideShapes Go.ChangeAt Go.RowKit Go.Sat
set_option linter.unusedVariables false

theorem walk (W : World) (n : Int) (s : Value) (F : List (List Int)) (hs : SlR eL allB W s F) (hn : inI n) (m : List Bool) (t : Value) (ht : SlR eB allB W t m) :
    Ret Try.prog 7 #[fv n s, t] W (fun v w' => v = .bool true ∧ Ext W w') := by
  have hlm : (maxLen : Int) ≤ 9223372036854775807 := by decide
  obtain ⟨a2, c2, rfl, hlc2, hcm2, hat2⟩ := id ht
  refine ret_of_vc ties mixed Try.func7 rfl (by kernel_rfl) rfl rfl ?_
  have hb := boxedAll W [.int .i64 n, s] 48
  have x1 : Ext W (W.alloc (.cells [.int .i64 n, s].toArray 48)) := Ext.new _ _
  refine br_dec (fun h => ?_) (fun hml => ?_)
  · exact ⟨rfl, x1⟩
  have hml : m.length ≤ 1048576 := by omega
  refine ⟨[.int .i64 n, s], rfl, hb, ?_⟩
  refine Or.inl ((szFormula_ret n F s 1048576 _ (hs.ext x1) (by decide) (by decide)).mono ?_)
  rintro _ w2 ⟨x2, rfl | ⟨hsz, rfl⟩⟩
  · exact ⟨rfl, x1.trans x2⟩
  refine br_dec_false (by omega) ?_
  have hsz : F.length + tot F ≤ 1048576 := by omega
  refine ⟨[.int .i64 n, s], rfl, hb.ext x2, ?_⟩
  refine Or.inl ((toFormula_ret n F s _ (hs.ext (x1.trans x2)) hsz).mono ?_)
  rintro _ w3 ⟨x3, s3, rfl, hs3, _⟩
  have hs3 := hs3.all
  refine Or.inl ((toBoolS_ret m _ _ (ht.ext ((x1.trans x2).trans x3)) hml).mono ?_)
  rintro t3 w3b ht3
  have x3b := ht3.1
  have ht3 := ht3.sl
  refine Or.inl ((spec_EvalFormula n F m s3 t3 _ (hs3.ext x3b) ht3).mono ?_)
  rintro _ w4 ⟨rfl, x4⟩
  have x14 := (((x2.trans x3).trans x3b).trans x4)
  refine ⟨[.int .i64 n, s], rfl, hb.ext x14, ?_⟩
  refine Or.inl ((toFormula_ret n F s _ (hs.ext (x1.trans x14)) hsz).mono ?_)
  rintro _ w5 ⟨x5, s5, rfl, hs5, _⟩
  have hs5 := hs5.all
  have r6 := Rmy.new w5 [.int .i64 0, .slice none 0 0] 25
  refine ⟨r6.all [.int .i64 n, s5] 0 (Nat.le_refl 2) (by simp only [List.all_cons, hs5.oneB]; rfl), ?_⟩
  have x6 : Ext w5 (setCells (w5.alloc (.cells #[.int .i64 0, .slice none 0 0] 25)) w5.heap.size 0 [.int .i64 n, s5]) := Ext.setCells _ (Ext.new _ _) (Nat.le_refl _)
  have hc6 := setCells_at [.int .i64 n, s5] _ 0 2 r6 (Nat.le_refl 2)
  refine Or.inl ((toBoolS_ret m _ _ (ht.ext (((x1.trans x14).trans x5).trans x6)) hml).mono ?_)
  rintro t6 w6b ht6
  have x6b := ht6.1
  have ht6 := ht6.sl
  refine ⟨[.int .i64 n, s5], rfl, hc6.ext x6b, ?_⟩
  refine Or.inl ((impl_EvalFormula n F m s5 t6 _ (hs5.ext (x6.trans x6b)) ht6).mono ?_)
  rintro _ w7 ⟨rfl, x7⟩
  refine br_false (by simp) ?_
  have xa := ((((x14.trans x5).trans x6).trans x6b).trans x7)
  refine .inr (.inr (hyb_rule ties mixed [(0, .quiet), (1, .quiet), (2, .loud), (3, .quiet), (4, .quiet)] (by kernel_rfl) ?_))
  refine ⟨[.int .i64 n, s5], rfl, hc6.ext (x6b.trans x7), [.int .i64 n, s], rfl, hb.ext xa, ?_⟩
  intro w8 x8
  refine Or.inl ((toFormula_ret n F s _ (hs.ext ((x1.trans xa).trans x8)) hsz).mono ?_)
  rintro _ w9 ⟨x9, s9, rfl, hs9, _⟩
  have hs9 := hs9.all
  refine ⟨x9, .bool true, fun w' hw' => (eqFormula_ret n n F F s5 s9 _ (hs5.ext (((x6.trans ((x6b.trans x7).trans x8)).trans x9).trans hw')) (hs9.ext hw')).mono ?_, ?_⟩
  · rintro _ w'' ⟨rfl, h⟩
    exact ⟨by simp, h⟩
  intro w10 x10
  have xb := ((xa.trans x8).trans x9).trans x10
  refine Or.inl ((toBoolS_ret m _ _ (ht.ext (x1.trans xb)) hml).mono ?_)
  rintro t11 w11 ht11
  have x11 := ht11.1
  refine Or.inl ((eqBoolS_ret m m t6 t11 _ (ht6.ext ((((x7.trans x8).trans x9).trans x10).trans x11)) ht11.sl).mono ?_)
  rintro _ w12 ⟨rfl, x12⟩
  refine br_ndec (fun h => absurd rfl h) (fun _ => ?_)
  exact ⟨rfl, ((x1.trans xb).trans x11).trans x12⟩
theorem own : ownKnob Try.prog.godebug = none := by kernel_rfl
theorem laidOut : laidOutB Try.prog = true := by kernel_rfl
set_option maxRecDepth 100000 in
theorem lifted (os : Os) (started : os.Started) (H : Type) (enc : TypeId × Value → H) :
    ReturnsInHanded {} Try.checked os 7 .any (Rows.fnExactEvalFormulaSpec.pre6 enc Try.prog Try.f7 Rows.fnExactEvalFormulaRow.domain false) (Rows.fnExactEvalFormulaSpec.post enc Try.prog Try.f7 false true false false) := by
  refine returnsInHanded_of_change (C := Try.checked) own started (by kernel_rfl) Try.func7
    (ChangeSpec.witness6 (enc := enc) (C := Try.checked) false ⟨#[], #[.agg #[.int .i64 0, .slice none 0 0], .slice none 0 0], []⟩ 8 (by kernel_rfl) (by kernel_rfl) (by kernel_rfl) (by kernel_rfl)) ?_
  intro W base args ds gs before hval0 hW hcnd _
  have hval : ∀ (j : Nat) t v, Try.f7.params[j]? = some t → args[j]? = some v → Value.okWide Try.prog W .any base t v := hval0
  have hW' := hW
  obtain ⟨p, q, hA0, hV, rfl, hfz, hnd⟩ := hW
  have hA : DataW.TrodAll enc Try.prog W 0 (fun _ => true) true Try.f7.params.toList args.toList ds p := hA0
  rw [Try.params7] at hA hval
  obtain ⟨v0, vs0, d0, ds0, p0, q0, hargs, rfl, rfl, h0, r0⟩ := trodAll_cons hA
  obtain ⟨v1, vs1, d1, ds1, p1, q1, rfl, rfl, rfl, h1, r1⟩ := trodAll_cons r0
  obtain ⟨rfl, rfl, rfl⟩ := trodAll_nil r1
  obtain rfl : args = #[v0, v1] := by cases args; simp_all
  obtain ⟨rfl, rfl⟩ := trodVars_none hV
  have k0 := h0
  have lt0 : ∀ x ∈ p0, x.block < W.heap.size := by obtain ⟨m, hm⟩ := k0; exact DataW.trod_lt m _ _ _ hm
  obtain ⟨N0, S0, F0, rfl, HS0, HN0⟩ := open_Formula (hval 0 48 v0 rfl rfl) h0
  have k1 := h1
  have lt1 : ∀ x ∈ p1, x.block < W.heap.size := by obtain ⟨m, hm⟩ := k1; exact DataW.trod_lt m _ _ _ hm
  obtain ⟨L1, HS1⟩ := open_Bools (hval 1 54 v1 rfl rfl) h1
  clear hA0 hval0
  refine (walk W N0 S0 F0 HS0 HN0 L1 v1 HS1).calls.mono fun e W' ⟨v, he, hv, bel⟩ => ?_
  subst hv
  subst he
  exact ⟨_, rfl, _, _, _, [], _, [], hW', trodAll_mk1 (shut_bool Try.underlying4 _), (trodAll_cons_mk (Below.trod laidOut (by kernel_rfl) (of_decide_eq_true (by kernel_rfl)) k0 bel lt0) (trodAll_cons_mk (Below.trod laidOut (by kernel_rfl) (of_decide_eq_true (by kernel_rfl)) k1 bel lt1) trodAll_mk0)), rfl, bel.frame _, fun h => by cases h⟩
theorem band {a b : Bool} (h1 : a = true) (h2 : b = true) : (a && b) = true := by rw [h1, h2]; rfl
theorem lifted_ok : (Rows.fnExactEvalFormulaRow.lifted == Try.pinned.checked.prog.liftsFinal) = true := by rw [head_final]; rfl
theorem make_ok : (Try.pinned.checked.prog.make == some Rows.fnExactEvalFormulaRow.make) = true := by rw [head_make]; rfl
set_option maxHeartbeats 4000000 in
theorem closed : joinedFacts Try.pinned.checked.prog 7 Try.f7 Rows.fnExactEvalFormulaSpec Rows.fnExactEvalFormulaRow = true := by
  unfold joinedFacts
  repeat' (with_reducible refine band ?_ ?_)
  all_goals (first | with_reducible exact head_enter | with_reducible exact lifted_ok | with_reducible exact make_ok | (as_aux_lemma => kernel_rfl))
theorem holds : Rows.fnExactEvalFormulaRow.holds Try.pinned (OpenSpec.ofChange Rows.fnExactEvalFormulaSpec) :=
  OpenClaim.holds_of_wide 7 Try.f7 rfl rfl rfl rfl rfl rfl rfl ⟨rfl, rfl, rfl, rfl, rfl⟩ rfl rfl rfl rfl rfl (by as_aux_lemma => kernel_rfl) Try.func7 closed
    (of_decide_eq_true (by as_aux_lemma => kernel_rfl)) (by unfold Func.isWrapper; first | (rw [if_pos (by decide +kernel)]; kernel_rfl) | (rw [if_neg (by decide +kernel)]; exact ⟨rfl, rfl⟩))
    (fun os started H enc _ => lifted os started H enc)
/-- The statement. -/
theorem proved : Rows.FnExactEvalFormulaSaid := holds
#print axioms proved
end Go.Proofs.Ytfmflffggcphjaa.lawFnExactEvalFormula
