/- The law FnExactCheckProof: whatever the arguments, it returns true; all that was there is as it was. No condition. -/
import Derived.Test.YtfmflffggcphjaaCk
import Derived.Test.YtfmflffggcphjaaPo
import Derived.Test.YtfmflffggcphjaaZw
import Derived.WalkKit
import Derived.ProofKit
import Derived.OpenShut
import Derived.ShutString
import Derived.ChangeOld
import Derived.Below
namespace Go.Proofs.Ytfmflffggcphjaa.lawFnExactCheckProof
open Go Go.Vc Go.ChangeShapes Go.WideShapes Go.ChangeAt Go.RowKit Go.Sat
set_option linter.unusedVariables false

set_option maxHeartbeats 4000000 in
theorem walk (W : World) (n : Int) (s : Value) (F : List (List Int)) (hs : SlR eL allB W s F) (hn : inI n) (lits : List Int) (t : Value) (ht : SlR eI allB W t lits) (hp : ∀ x ∈ lits, inI x) (x : Int) (p : Value) (f : PF) (hpf : PSl anyB W p f) (hpa : f.All inI) (hx : inI x) :
    Ret Try.prog 12 #[fv n s, t, .agg #[.int .i64 x, p]] W (fun v w' => v = .bool true ∧ Ext W w') := by
  have hlm : (maxLen : Int) ≤ 9223372036854775807 := by decide
  obtain ⟨a2, c2, rfl, hlc2, hcm2, -⟩ := id ht
  refine ret_of_vc ties mixed Try.func12 rfl (by kernel_rfl) rfl rfl ?_
  have x0 : Ext W (W.alloc (.cells [.int .i64 n, s].toArray 48)) := Ext.new _ _
  have x1 : Ext W ((W.alloc (.cells [.int .i64 n, s].toArray 48)).alloc (.cells [.int .i64 x, p].toArray 34)) := x0.trans (Ext.new _ _)
  have hb := (boxedAll W [.int .i64 n, s] 48).ext (Ext.new _ (.cells [.int .i64 x, p].toArray 34))
  have hbp := boxedAll (W.alloc (.cells [.int .i64 n, s].toArray 48)) [.int .i64 x, p] 34
  refine br_dec (fun h => ⟨rfl, x1⟩) (fun hml => ?_)
  have hml : lits.length ≤ 1048576 := by omega
  refine ⟨[.int .i64 n, s], rfl, hb, ?_⟩
  refine Or.inl ((szFormula_ret n F s 1048576 _ (hs.ext x1) (by decide) (by decide)).mono ?_)
  rintro _ w2 ⟨x2, rfl | ⟨hsz, rfl⟩⟩
  · exact ⟨rfl, x1.trans x2⟩
  refine br_dec_false (by omega) ?_
  have hsz : F.length + tot F ≤ 1048576 := by omega
  refine ⟨[.int .i64 x, p], rfl, hbp.ext x2, ?_⟩
  refine Or.inl ((szProof_ret f x p _ _ (hpf.ext (x1.trans x2)) (by omega) (by omega)).mono ?_)
  rintro _ w3 ⟨x3, rfl | ⟨hszp, rfl⟩⟩
  · exact ⟨rfl, (x1.trans x2).trans x3⟩
  refine br_dec_false (by omega) ?_
  have hszp : f.size ≤ 1048576 := by omega
  have x13 := x2.trans x3
  -- what the reference gives
  refine .inr (.inr (hyb_rule ties mixed [(0, .quiet), (2, .quiet), (4, .quiet), (1, .loud), (3, .loud), (5, .loud), (6, .quiet), (7, .quiet)] (by kernel_rfl) ?_))
  refine ⟨[.int .i64 n, s], rfl, hb.ext x13, [.int .i64 x, p], rfl, hbp.ext x13, ?_⟩
  intro w4 x4
  refine Or.inl ((toFormula_ret n F s _ (hs.ext ((x1.trans x13).trans x4)) hsz).mono ?_)
  rintro _ w5 ⟨x5, s5, rfl, hs5, _⟩
  refine ⟨x5, ?_⟩
  intro w6 x6
  have x16 := ((x13.trans x4).trans x5).trans x6
  refine Or.inl ((toIntS_ret lits _ _ (ht.ext (x1.trans x16)) hml).mono ?_)
  rintro t7 w7 ht7
  refine ⟨ht7.1, ?_⟩
  intro w8 x8
  have x18 := (x16.trans ht7.1).trans x8
  refine Or.inl ((toProof_ret f x p _ (hpf.ext (x1.trans x18)) hszp).mono ?_)
  rintro _ w9 ⟨x9, p9, rfl, hp9⟩
  refine ⟨x9, ?_⟩
  have x19 := x18.trans x9
  refine ⟨.bool (ckP n F lits x f), fun w' hw' => (spec_CheckProof n F lits x f s5 t7 p9 w' (hs5.all.ext ((((x6.trans ht7.1).trans x8).trans x9).trans hw')) (ht7.sl.ext ((x8.trans x9).trans hw')) ((hp9.ext hw').mono fun _ _ => trivial) (by omega)).mono fun _ _ h => h, ?_⟩
  intro w10 x10
  have x110 := x19.trans x10
  -- what the program gives
  refine ⟨[.int .i64 n, s], rfl, hb.ext x110, ?_⟩
  refine Or.inl ((toFormula_ret n F s _ (hs.ext (x1.trans x110)) hsz).mono ?_)
  rintro _ w11 ⟨x11, s11, rfl, hs11, _⟩
  have r12 := Rmy.new w11 [.int .i64 0, .slice none 0 0] 25
  refine ⟨r12.all [.int .i64 n, s11] 0 (Nat.le_refl 2) (by simp only [List.all_cons, hs11.all.oneB]; rfl), ?_⟩
  have x12 : Ext w11 (setCells (w11.alloc (.cells #[.int .i64 0, .slice none 0 0] 25)) w11.heap.size 0 [.int .i64 n, s11]) := Ext.setCells _ (Ext.new _ _) (Nat.le_refl _)
  have hc12 := setCells_at [.int .i64 n, s11] _ 0 2 r12 (Nat.le_refl 2)
  have x112 := (x110.trans x11).trans x12
  refine Or.inl ((toIntS_ret lits _ _ (ht.ext (x1.trans x112)) hml).mono ?_)
  rintro t13 w13 ht13
  have x113 := x112.trans ht13.1
  refine ⟨[.int .i64 x, p], rfl, hbp.ext x113, ?_⟩
  refine Or.inl ((toProof_ret f x p _ (hpf.ext (x1.trans x113)) hszp).mono ?_)
  rintro _ w14 ⟨x14, p14, rfl, hp14⟩
  have r15 := Rmy.new w14 [.int .i64 0, .slice none 0 0] 39
  have hone : oneB p14 = true := by obtain ⟨a', c', rfl, _⟩ := hp14; rfl
  refine ⟨r15.all [.int .i64 x, p14] 0 (Nat.le_refl 2) (by simp only [List.all_cons, hone]; rfl), ?_⟩
  have x15 : Ext w14 (setCells (w14.alloc (.cells #[.int .i64 0, .slice none 0 0] 39)) w14.heap.size 0 [.int .i64 x, p14]) := Ext.setCells _ (Ext.new _ _) (Nat.le_refl _)
  have hc15 := setCells_at [.int .i64 x, p14] _ 0 2 r15 (Nat.le_refl 2)
  have y15 := (ht13.1.trans x14).trans x15
  have x115 := (x113.trans x14).trans x15
  refine ⟨[.int .i64 n, s11], rfl, hc12.ext y15, [.int .i64 x, p14], rfl, hc15, ?_⟩
  refine Or.inl ((impl_CheckProof n F lits x f s11 t13 p14 _ (hs11.all.ext (x12.trans y15)) (ht13.sl.ext (x14.trans x15)) ((hp14.ext x15).mono fun _ _ => trivial) (by omega)).mono ?_)
  rintro _ w16 ⟨rfl, x16'⟩
  refine br_false (by simp) ?_
  have x116 := x115.trans x16'
  refine .inr (.inr (hyb_rule ties mixed [(0, .quiet), (1, .quiet), (2, .loud), (3, .quiet), (4, .quiet)] (by kernel_rfl) ?_))
  refine ⟨[.int .i64 n, s11], rfl, hc12.ext (y15.trans x16'), [.int .i64 n, s], rfl, hb.ext x116, ?_⟩
  intro w17 x17
  refine Or.inl ((toFormula_ret n F s _ (hs.ext ((x1.trans x116).trans x17)) hsz).mono ?_)
  rintro _ w18 ⟨x18', s18, rfl, hs18, _⟩
  refine ⟨x18', .bool true, fun w' hw' => (eqFormula_ret n n F F s11 s18 _ (hs11.all.ext (((((x12.trans y15).trans x16').trans x17).trans x18').trans hw')) (hs18.all.ext hw')).mono ?_, ?_⟩
  · rintro _ w'' ⟨rfl, h⟩
    exact ⟨by simp, h⟩
  intro w19 x19'
  have z19 := ((x16'.trans x17).trans x18').trans x19'
  have x119 := x115.trans z19
  refine Or.inl ((toIntS_ret lits _ _ (ht.ext (x1.trans x119)) hml).mono ?_)
  rintro t20 w20 ht20
  refine Or.inl ((eqIntS_ret lits lits t13 t20 _ (ht13.sl.ext (((x14.trans x15).trans z19).trans ht20.1)) ht20.sl).mono ?_)
  rintro _ w21 ⟨rfl, x21⟩
  refine br_ndec (fun h => absurd rfl h) (fun _ => ?_)
  have z21 := (z19.trans ht20.1).trans x21
  have x121 := x115.trans z21
  refine .inr (.inr (hyb_rule ties mixed [(0, .quiet), (1, .quiet), (2, .loud), (3, .quiet), (4, .quiet)] (by kernel_rfl) ?_))
  refine ⟨[.int .i64 x, p14], rfl, hc15.ext z21, [.int .i64 x, p], rfl, hbp.ext x121, ?_⟩
  intro w22 x22
  refine Or.inl ((toProof_ret f x p _ (hpf.ext ((x1.trans x121).trans x22)) hszp).mono ?_)
  rintro _ w23 ⟨x23, p23, rfl, hp23⟩
  refine ⟨x23, .bool true, fun w' hw' => (eqProof_ret f f x x p14 p23 _ ((hp14.ext ((((x15.trans z21).trans x22).trans x23).trans hw')).mono fun _ _ => trivial) ((hp23.ext hw').mono fun _ _ => trivial)).mono ?_, ?_⟩
  · rintro _ w'' ⟨rfl, h⟩
    exact ⟨by simp, h⟩
  intro w24 x24
  exact ⟨rfl, (((x1.trans x121).trans x22).trans x23).trans x24⟩
theorem own : ownKnob Try.prog.godebug = none := by kernel_rfl
theorem laidOut : laidOutB Try.prog = true := by kernel_rfl
set_option maxRecDepth 100000 in
theorem lifted (os : Os) (started : os.Started) (H : Type) (enc : TypeId × Value → H) :
    ReturnsInHanded {} Try.checked os 12 .any (Rows.fnExactCheckProofSpec.pre6 enc Try.prog Try.f12 Rows.fnExactCheckProofRow.domain false) (Rows.fnExactCheckProofSpec.post enc Try.prog Try.f12 false true false false) := by
  refine returnsInHanded_of_change (C := Try.checked) own started (by kernel_rfl) Try.func12
    (ChangeSpec.witness6 (enc := enc) (C := Try.checked) false ⟨#[], #[.agg #[.int .i64 0, .slice none 0 0], .slice none 0 0, .agg #[.int .i64 0, .slice none 0 0]], []⟩ 8 (by kernel_rfl) (by kernel_rfl) (by kernel_rfl) (by kernel_rfl)) ?_
  intro W base args ds gs before hval0 hW hcnd _
  have hval : ∀ (j : Nat) t v, Try.f12.params[j]? = some t → args[j]? = some v → Value.okWide Try.prog W .any base t v := hval0
  have hW' := hW
  obtain ⟨p, q, hA0, hV, rfl, hfz, hnd⟩ := hW
  have hA : DataW.TrodAll enc Try.prog W 0 (fun _ => true) true Try.f12.params.toList args.toList ds p := hA0
  rw [Try.params12] at hA hval
  obtain ⟨v0, vs0, d0, ds0, p0, q0, hargs, rfl, rfl, h0, r0⟩ := trodAll_cons hA
  obtain ⟨v1, vs1, d1, ds1, p1, q1, rfl, rfl, rfl, h1, r1⟩ := trodAll_cons r0
  obtain ⟨v2, vs2, d2, ds2, p2, q2, rfl, rfl, rfl, h2, r2⟩ := trodAll_cons r1
  obtain ⟨rfl, rfl, rfl⟩ := trodAll_nil r2
  obtain rfl : args = #[v0, v1, v2] := by cases args; simp_all
  obtain ⟨rfl, rfl⟩ := trodVars_none hV
  have k0 := h0
  have lt0 : ∀ x ∈ p0, x.block < W.heap.size := by obtain ⟨m, hm⟩ := k0; exact DataW.trod_lt m _ _ _ hm
  obtain ⟨N0, S0, F0, rfl, HS0, HN0⟩ := open_Formula (hval 0 48 v0 rfl rfl) h0
  have k1 := h1
  have lt1 : ∀ x ∈ p1, x.block < W.heap.size := by obtain ⟨m, hm⟩ := k1; exact DataW.trod_lt m _ _ _ hm
  obtain ⟨L1, HS1, HP1⟩ := open_Ints (hval 1 27 v1 rfl rfl) h1
  have k2 := h2
  have lt2 : ∀ x ∈ p2, x.block < W.heap.size := by obtain ⟨m, hm⟩ := k2; exact DataW.trod_lt m _ _ _ hm
  obtain ⟨X2, S2, F2, rfl, HS2, HP2, HX2⟩ := open_Proof (hval 2 34 v2 rfl rfl) h2
  clear hA0 hval0
  refine (walk W N0 S0 F0 HS0 HN0 L1 v1 HS1 HP1 X2 S2 F2 HS2 HP2 HX2).calls.mono fun e W' ⟨v, he, hv, bel⟩ => ?_
  subst hv
  subst he
  exact ⟨_, rfl, _, _, _, [], _, [], hW', trodAll_mk1 (shut_bool Try.underlying4 _), (trodAll_cons_mk (Below.trod laidOut (by kernel_rfl) (of_decide_eq_true (by kernel_rfl)) k0 bel lt0) (trodAll_cons_mk (Below.trod laidOut (by kernel_rfl) (of_decide_eq_true (by kernel_rfl)) k1 bel lt1) (trodAll_cons_mk (Below.trod laidOut (by kernel_rfl) (of_decide_eq_true (by kernel_rfl)) k2 bel lt2) trodAll_mk0))), rfl, bel.frame _, fun h => by cases h⟩
theorem band {a b : Bool} (h1 : a = true) (h2 : b = true) : (a && b) = true := by rw [h1, h2]; rfl
theorem lifted_ok : (Rows.fnExactCheckProofRow.lifted == Try.pinned.checked.prog.liftsFinal) = true := by rw [head_final]; rfl
theorem make_ok : (Try.pinned.checked.prog.make == some Rows.fnExactCheckProofRow.make) = true := by rw [head_make]; rfl
set_option maxHeartbeats 4000000 in
theorem closed : joinedFacts Try.pinned.checked.prog 12 Try.f12 Rows.fnExactCheckProofSpec Rows.fnExactCheckProofRow = true := by
  unfold joinedFacts
  repeat' (with_reducible refine band ?_ ?_)
  all_goals (first | with_reducible exact head_enter | with_reducible exact lifted_ok | with_reducible exact make_ok | (as_aux_lemma => kernel_rfl))
theorem holds : Rows.fnExactCheckProofRow.holds Try.pinned (OpenSpec.ofChange Rows.fnExactCheckProofSpec) :=
  OpenClaim.holds_of_wide 12 Try.f12 rfl rfl rfl rfl rfl rfl rfl ⟨rfl, rfl, rfl, rfl, rfl⟩ rfl rfl rfl rfl rfl (by as_aux_lemma => kernel_rfl) Try.func12 closed
    (of_decide_eq_true (by as_aux_lemma => kernel_rfl)) (by unfold Func.isWrapper; first | (rw [if_pos (by decide +kernel)]; kernel_rfl) | (rw [if_neg (by decide +kernel)]; exact ⟨rfl, rfl⟩))
    (fun os started H enc _ => lifted os started H enc)
/-- The statement. -/
theorem proved : Rows.FnExactCheckProofSaid := holds
#print axioms proved
end Go.Proofs.Ytfmflffggcphjaa.lawFnExactCheckProof
