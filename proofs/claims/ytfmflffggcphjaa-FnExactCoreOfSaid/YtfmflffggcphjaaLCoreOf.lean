/- The law FnExactCoreOf: whatever the arguments, it returns true; all that was there is as it was. No condition. -/
import Derived.Test.YtfmflffggcphjaaCi
import Derived.Test.YtfmflffggcphjaaMi
import Derived.Test.YtfmflffggcphjaaIo
import Derived.Test.YtfmflffggcphjaaZw
import Derived.WalkKit
import Derived.ProofKit
import Derived.OpenShut
import Derived.ShutString
import Derived.ChangeOld
import Derived.Below
namespace Go.Proofs.Ytfmflffggcphjaa.lawFnExactCoreOf
open Go Go.Vc Go.ChangeShapes Go.WideShapes Go.ChangeAt Go.RowKit Go.Sat
set_option linter.unusedVariables false

set_option maxRecDepth 100000 in
set_option maxHeartbeats 4000000 in
theorem walk (W : World) (n : Int) (s : Value) (F : List (List Int)) (hs : SlR eL allB W s F) (hn : inI n) (lim : Int) (wl : (Lit.int .i64 lim).wf = true) :
    Ret Try.prog 16 #[fv n s, .int .i64 lim] W (fun v w' => v = .bool true ∧ Ext W w') := by
  have hlm : (maxLen : Int) ≤ 9223372036854775807 := by decide
  refine ret_of_vc ties mixed Try.func16 rfl (by kernel_rfl) rfl rfl ?_
  have hb := boxedAll W [.int .i64 n, s] 48
  have x1 : Ext W (W.alloc (.cells [.int .i64 n, s].toArray 48)) := Ext.new _ _
  refine ⟨[.int .i64 n, s], rfl, hb, ?_⟩
  refine Or.inl ((szFormula_ret n F s 1048576 _ (hs.ext x1) (by decide) (by decide)).mono ?_)
  rintro _ w2 ⟨x2, rfl | ⟨hsz, rfl⟩⟩
  · exact ⟨rfl, x1.trans x2⟩
  refine br_dec_false (by omega) ?_
  have hsz : F.length + tot F ≤ 1048576 := by omega
  obtain ⟨oc, hoc⟩ : ∃ oc, corO n F lim = oc := ⟨_, rfl⟩
  have hol : (oc.getD []).length ≤ 1048576 := by rw [← hoc]; exact Nat.le_trans corO_len (by omega)
  have hsp : ∀ s w, SlR eL allB w s F → Ret Try.prog 63 #[fv n s, .int .i64 lim] w (fun r w' => Ext w w' ∧ ∃ s, r = .tuple #[s, .bool oc.isSome] ∧ OwnR eI noB w' s (oc.getD []) ∧ ∀ b, blk s b → w.heap.size ≤ b) := fun s w h => by
    have := spec_CoreOf n F lim s w h
    unfold CorR at this
    rwa [hoc] at this
  have him : ∀ s w, SlR eL allB w s F → Ret Try.prog 22 #[fv n s, .int .i64 lim] w (fun r w' => Ext w w' ∧ ∃ s, r = .tuple #[s, .bool oc.isSome] ∧ OwnR eI noB w' s (oc.getD []) ∧ ∀ b, blk s b → w.heap.size ≤ b) := fun s w h => by
    have := impl_CoreOf n F lim s w h
    unfold CorR at this
    rwa [hoc] at this
  clear hoc
  -- what the reference gives
  refine ⟨[.int .i64 n, s], rfl, hb.ext x2, ?_⟩
  refine Or.inl ((toFormula_ret n F s _ (hs.ext (x1.trans x2)) hsz).mono ?_)
  rintro _ w3 ⟨x3, s3, rfl, hs3, _⟩
  refine Or.inl ((hsp s3 _ hs3.all).mono ?_)
  rintro _ w5 ⟨x5, sv, rfl, hsv, _⟩
  have x15 := (x2.trans x3).trans x5
  -- what the program gives
  refine ⟨[.int .i64 n, s], rfl, hb.ext x15, ?_⟩
  refine Or.inl ((toFormula_ret n F s _ (hs.ext (x1.trans x15)) hsz).mono ?_)
  rintro _ w6 ⟨x6, s6, rfl, hs6, _, B6, hB6, hB6s, hs6B⟩
  have r7 := Rmy.new w6 [.int .i64 0, .slice none 0 0] 25
  refine ⟨r7.all [.int .i64 n, s6] 0 (Nat.le_refl 2) (by simp only [List.all_cons, hs6.all.oneB]; rfl), ?_⟩
  have x7 : Ext w6 (setCells (w6.alloc (.cells #[.int .i64 0, .slice none 0 0] 25)) w6.heap.size 0 [.int .i64 n, s6]) := Ext.setCells _ (Ext.new _ _) (Nat.le_refl _)
  have hc7 := setCells_at [.int .i64 n, s6] _ 0 2 r7 (Nat.le_refl 2)
  have x17 := (x15.trans x6).trans x7
  refine ⟨[.int .i64 n, s6], rfl, hc7, ?_⟩
  refine Or.inl ((him s6 _ (hs6.all.ext x7)).mono ?_)
  rintro _ w9 ⟨x9, gv, rfl, hgv, hgvb⟩
  have x19 := x17.trans x9
  have hsvA : SlR eI allB w5 sv _ := hsv.sl (fun _ _ => trivial) (fun _ _ => trivial)
  have x59 := (x6.trans x7).trans x9
  refine Or.inl ((eqIntS_ret _ _ gv sv _ (hgv.sl (fun _ _ => trivial) (fun _ _ => trivial)) (hsvA.ext x59)).mono ?_)
  rintro _ w10 ⟨rfl, x10⟩
  refine br_ndec (fun h => absurd rfl h) (fun _ => ?_)
  refine br_false (by simp) ?_
  refine .inr (.inr (hyb_rule ties mixed [(0, .quiet), (1, .quiet), (2, .loud), (3, .quiet), (4, .quiet)] (by kernel_rfl) ?_))
  refine ⟨[.int .i64 n, s6], rfl, hc7.ext (x9.trans x10), [.int .i64 n, s], rfl, hb.ext (x19.trans x10), ?_⟩
  intro w11 x11
  refine Or.inl ((toFormula_ret n F s _ (hs.ext ((x1.trans (x19.trans x10)).trans x11)) hsz).mono ?_)
  rintro _ w12 ⟨x12, s12, rfl, hs12, _⟩
  refine ⟨x12, .bool true, fun w' hw' => (eqFormula_ret n n F F s6 s12 _ (hs6.all.ext ((((x7.trans x9).trans x10).trans x11).trans x12 |>.trans hw')) (hs12.all.ext hw')).mono ?_, ?_⟩
  · rintro _ w'' ⟨rfl, h⟩
    exact ⟨by simp, h⟩
  intro w13 x13'
  have x913 := ((x10.trans x11).trans x12).trans x13'
  -- marks on the argument
  refine ⟨[.int .i64 n, s6], rfl, hc7.ext (x9.trans x913), ?_⟩
  refine Or.inl ((markFormula_ret (fun b => B6 < b ∧ b < w6.heap.size) n F s6 1 _ (hs6B.lt.ext ((x7.trans x9).trans x913)) (fun b hb e => by have := hB6s b e; omega) (by decide) (by omega)).mono ?_)
  rintro _ w16 ⟨rfl, hch16⟩
  have z6 := x7.size
  have z9 := x9.size
  have z913 := x913.size
  have z56 := x6.size
  have hch := hch16.mono (S' := fun b => w5.heap.size ≤ b ∧ b < w6.heap.size) fun b _ hb => by omega
  have hgv15 := hgv.ext x913
  have hgv17 := hgv15.chg (fun _ h => h.elim) (fun b hb e => by have := hgvb b hb; omega) hch
  have hsv5 : SlR eI (oldB w5.heap.size) w5 sv _ := hsvA.lt.mono fun b hb => hb.2
  have hsv17 := (hsv5.ext (x59.trans x913)).chg (S := fun b => w5.heap.size ≤ b ∧ b < w6.heap.size) (fun b hb e => by unfold oldB at hb; omega) hch
  have x17a : Ext (W.alloc (.cells [.int .i64 n, s].toArray 48)) w16 := (x19.trans x913).chg hch fun i hi => Nat.le_trans x15.size hi.1
  refine Or.inl ((eqIntS_ret _ _ gv sv _ (hgv17.sl (fun _ _ => trivial) (fun _ _ => trivial)) hsv17.any).mono ?_)
  rintro _ w18 ⟨rfl, x18'⟩
  refine br_ndec (fun h => absurd rfl h) (fun _ => ?_)
  refine br_false (by simp) ?_
  -- marks on the result
  refine Or.inl ((markIntS_ret _ gv 1 _ (hgv17.ext x18') (by decide) (by omega)).mono ?_)
  rintro _ w19 ⟨rfl, hgv19, hch19, hz19⟩
  have x19a : Ext (W.alloc (.cells [.int .i64 n, s].toArray 48)) w19 := (x17a.trans x18').chg hch19 fun b hb => Nat.le_trans x17.size (hgvb b hb)
  have hsv19 := (hsv17.ext x18').chg (S := blk gv) (fun b hb e => by have := hgvb b e; unfold oldB at hb; omega) hch19
  have hgm : SlR eI allB w19 gv _ := hgv19.sl (fun _ _ => trivial) (fun _ _ => trivial)
  refine Or.inl ((heldIntS_ret _ gv 1 _ hgm (by decide) (by omega)).mono ?_)
  rintro _ _ ⟨rfl, rfl⟩
  refine br_dec (fun h => absurd rfl h) (fun _ => ?_)
  -- once more
  refine ⟨[.int .i64 n, s], rfl, hb.ext x19a, ?_⟩
  refine Or.inl ((toFormula_ret n F s _ (hs.ext (x1.trans x19a)) hsz).mono ?_)
  rintro _ w20 ⟨x20, s20, rfl, hs20, _⟩
  refine Or.inl ((him s20 _ hs20.all).mono ?_)
  rintro _ w22 ⟨x22, hv, rfl, hhv, _⟩
  have x1922 := x20.trans x22
  refine Or.inl ((eqIntS_ret _ _ hv sv _ (hhv.sl (fun _ _ => trivial) (fun _ _ => trivial)) (hsv19.any.ext x1922)).mono ?_)
  rintro _ w23 ⟨rfl, x23⟩
  refine br_ndec (fun h => absurd rfl h) (fun _ => ?_)
  refine br_false (by simp) ?_
  refine Or.inl ((heldIntS_ret _ gv 1 _ (hgm.ext (x1922.trans x23)) (by decide) (by omega)).mono ?_)
  rintro _ _ ⟨rfl, rfl⟩
  refine br_dec (fun h => absurd rfl h) (fun _ => ?_)
  exact ⟨rfl, x1.trans (x19a.trans (x1922.trans x23))⟩
theorem own : ownKnob Try.prog.godebug = none := by kernel_rfl
theorem laidOut : laidOutB Try.prog = true := by kernel_rfl
set_option maxRecDepth 100000 in
theorem lifted (os : Os) (started : os.Started) (H : Type) (enc : TypeId × Value → H) :
    ReturnsInHanded {} Try.checked os 16 .any (Rows.fnExactCoreOfSpec.pre6 enc Try.prog Try.f16 Rows.fnExactCoreOfRow.domain false) (Rows.fnExactCoreOfSpec.post enc Try.prog Try.f16 false true false false) := by
  refine returnsInHanded_of_change (C := Try.checked) own started (by kernel_rfl) Try.func16
    (ChangeSpec.witness6 (enc := enc) (C := Try.checked) false ⟨#[], #[.agg #[.int .i64 0, .slice none 0 0], .int .i64 0], []⟩ 8 (by kernel_rfl) (by kernel_rfl) (by kernel_rfl) (by kernel_rfl)) ?_
  intro W base args ds gs before hval0 hW hcnd _
  have hval : ∀ (j : Nat) t v, Try.f16.params[j]? = some t → args[j]? = some v → Value.okWide Try.prog W .any base t v := hval0
  have hW' := hW
  obtain ⟨p, q, hA0, hV, rfl, hfz, hnd⟩ := hW
  have hA : DataW.TrodAll enc Try.prog W 0 (fun _ => true) true Try.f16.params.toList args.toList ds p := hA0
  rw [Try.params16] at hA hval
  obtain ⟨v0, vs0, d0, ds0, p0, q0, hargs, rfl, rfl, h0, r0⟩ := trodAll_cons hA
  obtain ⟨v1, vs1, d1, ds1, p1, q1, rfl, rfl, rfl, h1, r1⟩ := trodAll_cons r0
  obtain ⟨rfl, rfl, rfl⟩ := trodAll_nil r1
  obtain rfl : args = #[v0, v1] := by cases args; simp_all
  obtain ⟨rfl, rfl⟩ := trodVars_none hV
  have k0 := h0
  have lt0 : ∀ x ∈ p0, x.block < W.heap.size := by obtain ⟨m, hm⟩ := k0; exact DataW.trod_lt m _ _ _ hm
  obtain ⟨N0, S0, F0, rfl, HS0, HN0⟩ := open_Formula (hval 0 48 v0 rfl rfl) h0
  have k1 := h1
  have lt1 : ∀ x ∈ p1, x.block < W.heap.size := by obtain ⟨m, hm⟩ := k1; exact DataW.trod_lt m _ _ _ hm
  obtain ⟨a1, rfl, rfl, rfl, w1⟩ := open_int Try.underlying3 (hval 1 3 v1 rfl rfl) h1
  clear hA0 hval0
  refine (walk W N0 S0 F0 HS0 HN0 a1 w1).calls.mono fun e W' ⟨v, he, hv, bel⟩ => ?_
  subst hv
  subst he
  exact ⟨_, rfl, _, _, _, [], _, [], hW', trodAll_mk1 (shut_bool Try.underlying4 _), (trodAll_cons_mk (Below.trod laidOut (by kernel_rfl) (of_decide_eq_true (by kernel_rfl)) k0 bel lt0) (trodAll_cons_mk (Below.trod laidOut (by kernel_rfl) (of_decide_eq_true (by kernel_rfl)) k1 bel lt1) trodAll_mk0)), rfl, bel.frame _, fun h => by cases h⟩
theorem band {a b : Bool} (h1 : a = true) (h2 : b = true) : (a && b) = true := by rw [h1, h2]; rfl
theorem lifted_ok : (Rows.fnExactCoreOfRow.lifted == Try.pinned.checked.prog.liftsFinal) = true := by rw [head_final]; rfl
theorem make_ok : (Try.pinned.checked.prog.make == some Rows.fnExactCoreOfRow.make) = true := by rw [head_make]; rfl
set_option maxHeartbeats 4000000 in
theorem closed : joinedFacts Try.pinned.checked.prog 16 Try.f16 Rows.fnExactCoreOfSpec Rows.fnExactCoreOfRow = true := by
  unfold joinedFacts
  repeat' (with_reducible refine band ?_ ?_)
  all_goals (first | with_reducible exact head_enter | with_reducible exact lifted_ok | with_reducible exact make_ok | (as_aux_lemma => kernel_rfl))
theorem holds : Rows.fnExactCoreOfRow.holds Try.pinned (OpenSpec.ofChange Rows.fnExactCoreOfSpec) :=
  OpenClaim.holds_of_wide 16 Try.f16 rfl rfl rfl rfl rfl rfl rfl ⟨rfl, rfl, rfl, rfl, rfl⟩ rfl rfl rfl rfl rfl (by as_aux_lemma => kernel_rfl) Try.func16 closed
    (of_decide_eq_true (by as_aux_lemma => kernel_rfl)) (by unfold Func.isWrapper; first | (rw [if_pos (by decide +kernel)]; kernel_rfl) | (rw [if_neg (by decide +kernel)]; exact ⟨rfl, rfl⟩))
    (fun os started H enc _ => lifted os started H enc)
/-- The statement. -/
theorem proved : Rows.FnExactCoreOfSaid := holds
#print axioms proved
end Go.Proofs.Ytfmflffggcphjaa.lawFnExactCoreOf
