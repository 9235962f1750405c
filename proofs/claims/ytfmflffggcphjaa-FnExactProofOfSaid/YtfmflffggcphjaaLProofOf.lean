/- The law FnExactProofOf: whatever the arguments, it returns true; all that was there is as it was. No condition. -/
import Derived.Test.YtfmflffggcphjaaPq
import Derived.Test.YtfmflffggcphjaaMi
import Derived.Test.YtfmflffggcphjaaIo
import Derived.Test.YtfmflffggcphjaaZw
import Derived.WalkKit
import Derived.ProofKit
import Derived.OpenShut
import Derived.ShutString
import Derived.ChangeOld
import Derived.Below
namespace Go.Proofs.Ytfmflffggcphjaa.lawFnExactProofOf
open Go Go.Vc Go.ChangeShapes Go.WideShapes Go.ChangeAt Go.RowKit Go.Sat
set_option linter.unusedVariables false

set_option maxRecDepth 100000 in
set_option maxHeartbeats 4000000 in
theorem walk (W : World) (n : Int) (s : Value) (F : List (List Int)) (hs : SlR eL allB W s F) (hn : inI n) (lim : Int) (wl : (Lit.int .i64 lim).wf = true) :
    Ret Try.prog 15 #[fv n s, .int .i64 lim] W (fun v w' => v = .bool true ∧ Ext W w') := by
  have hlm : (maxLen : Int) ≤ 9223372036854775807 := by decide
  refine ret_of_vc ties mixed Try.func15 rfl (by kernel_rfl) rfl rfl ?_
  have hb := boxedAll W [.int .i64 n, s] 48
  have x1 : Ext W (W.alloc (.cells [.int .i64 n, s].toArray 48)) := Ext.new _ _
  refine ⟨[.int .i64 n, s], rfl, hb, ?_⟩
  refine Or.inl ((szFormula_ret n F s 1048576 _ (hs.ext x1) (by decide) (by decide)).mono ?_)
  rintro _ w2 ⟨x2, rfl | ⟨hsz, rfl⟩⟩
  · exact ⟨rfl, x1.trans x2⟩
  refine br_dec_false (by omega) ?_
  have hsz : F.length + tot F ≤ 1048576 := by omega
  -- what the reference gives
  refine ⟨[.int .i64 n, s], rfl, hb.ext x2, ?_⟩
  refine Or.inl ((toFormula_ret n F s _ (hs.ext (x1.trans x2)) hsz).mono ?_)
  rintro _ w3 ⟨x3, s3, rfl, hs3, _⟩
  refine Or.inl ((spec_ProofOf n F lim s3 _ hs3.all).mono ?_)
  rintro _ w4 ⟨x4, o, psS, ho, rfl, honeS, hsS⟩
  have hsz6 := PrfO.size ho
  have hS4 : PSl (oldB w4.heap.size) w4 psS (o.getD (0, .nil)).2 := (Fo.Sl.lt hsS).mono fun b hb => hb.2
  have r4 := Rmy.new w4 [.int .i64 0, .slice none 0 0] 39
  refine ⟨r4.all [.int .i64 (o.getD (0, .nil)).1, psS] 0 (Nat.le_refl 2) (by simp only [List.all_cons, honeS]; rfl), ?_⟩
  have x4b : Ext w4 (Vc.setCells (w4.alloc (.cells #[.int .i64 0, .slice none 0 0] 39)) w4.heap.size 0 [.int .i64 (o.getD (0, .nil)).1, psS]) := Ext.setCells _ (Ext.new _ _) (Nat.le_refl _)
  have hc4 := setCells_at [.int .i64 (o.getD (0, .nil)).1, psS] _ 0 2 r4 (Nat.le_refl 2)
  have x24 := ((x2.trans x3).trans x4).trans x4b
  -- what the program gives
  refine ⟨[.int .i64 n, s], rfl, hb.ext x24, ?_⟩
  refine Or.inl ((toFormula_ret n F s _ (hs.ext (x1.trans x24)) hsz).mono ?_)
  rintro _ w5 ⟨x5, s5, rfl, hs5, _, B5, hB5, hB5s, hs5B⟩
  have r5 := Rmy.new w5 [.int .i64 0, .slice none 0 0] 25
  refine ⟨r5.all [.int .i64 n, s5] 0 (Nat.le_refl 2) (by simp only [List.all_cons, hs5.all.oneB]; rfl), ?_⟩
  have x5b : Ext w5 (Vc.setCells (w5.alloc (.cells #[.int .i64 0, .slice none 0 0] 25)) w5.heap.size 0 [.int .i64 n, s5]) := Ext.setCells _ (Ext.new _ _) (Nat.le_refl _)
  have hc5 := setCells_at [.int .i64 n, s5] _ 0 2 r5 (Nat.le_refl 2)
  have x25 := (x24.trans x5).trans x5b
  refine ⟨[.int .i64 n, s5], rfl, hc5, ?_⟩
  refine Or.inl ((impl_ProofOf n F lim s5 _ (hs5.all.ext x5b)).mono ?_)
  rintro _ w6 ⟨x6, o', psI, ho', rfl, honeI, hsI⟩
  have := PrfO.unique ho' ho
  subst this
  have r6 := Rmy.new w6 [.int .i64 0, .slice none 0 0] 39
  refine ⟨r6.all [.int .i64 (o'.getD (0, .nil)).1, psI] 0 (Nat.le_refl 2) (by simp only [List.all_cons, honeI]; rfl), ?_⟩
  have x6b : Ext w6 (Vc.setCells (w6.alloc (.cells #[.int .i64 0, .slice none 0 0] 39)) w6.heap.size 0 [.int .i64 (o'.getD (0, .nil)).1, psI]) := Ext.setCells _ (Ext.new _ _) (Nat.le_refl _)
  have hc6 := setCells_at [.int .i64 (o'.getD (0, .nil)).1, psI] _ 0 2 r6 (Nat.le_refl 2)
  have x26 := (x25.trans x6).trans x6b
  have x46 := ((x5.trans x5b).trans x6).trans x6b
  refine ⟨[.int .i64 (o'.getD (0, .nil)).1, psI], rfl, hc6, [.int .i64 (o'.getD (0, .nil)).1, psS], rfl, hc4.ext x46, ?_⟩
  have hI6 : PSl anyB w6 psI _ := hsI.sl fun _ _ _ => trivial
  have hSa : ∀ {w}, Ext w4 w → PSl anyB w psS (o'.getD (0, .nil)).2 := fun hx => (Fo.Sl.ext hx hS4).mono fun _ _ => trivial
  refine Or.inl ((eqProof_ret _ _ _ _ psI psS _ (Fo.Sl.ext x6b hI6) (hSa (x4b.trans x46))).mono ?_)
  rintro _ w7 ⟨rfl, x7⟩
  refine br_ndec (fun h => absurd ⟨rfl, rfl⟩ h) (fun _ => ?_)
  refine br_false (by simp) ?_
  refine .inr (.inr (hyb_rule ties mixed [(0, .quiet), (1, .quiet), (2, .loud), (3, .quiet), (4, .quiet)] (by kernel_rfl) ?_))
  refine ⟨[.int .i64 n, s5], rfl, hc5.ext ((x6.trans x6b).trans x7), [.int .i64 n, s], rfl, hb.ext (x26.trans x7), ?_⟩
  intro w8 x8
  refine Or.inl ((toFormula_ret n F s _ (hs.ext ((x1.trans (x26.trans x7)).trans x8)) hsz).mono ?_)
  rintro _ w9 ⟨x9, s9, rfl, hs9, _⟩
  have x59 := ((((x5b.trans x6).trans x6b).trans x7).trans x8).trans x9
  refine ⟨x9, .bool true, fun w' hw' => (eqFormula_ret n n F F s5 s9 _ (hs5.all.ext (x59.trans hw')) (hs9.all.ext hw')).mono ?_, ?_⟩
  · rintro _ w'' ⟨rfl, h⟩
    exact ⟨by simp, h⟩
  intro w10 x10
  have x610 := ((x7.trans x8).trans x9).trans x10
  have x210 := x26.trans x610
  -- marks on the argument
  refine ⟨[.int .i64 n, s5], rfl, hc5.ext ((x6.trans x6b).trans x610), ?_⟩
  refine Or.inl ((markFormula_ret (fun b => B5 < b ∧ b < w5.heap.size) n F s5 1 _ (hs5B.lt.ext (x59.trans x10)) (fun b hb e => by have := hB5s b e; omega) (by decide) (by omega)).mono ?_)
  rintro _ w11 ⟨rfl, hch11⟩
  have z4 := x4b.size
  have z5 := x5.size
  have z5b := x5b.size
  have z6 := x6.size
  have z6b := x6b.size
  have z610 := x610.size
  have hch11' := hch11.mono (S' := fun b => (Vc.setCells (w4.alloc (.cells #[.int .i64 0, .slice none 0 0] 39)) w4.heap.size 0 [.int .i64 (o'.getD (0, .nil)).1, psS]).heap.size ≤ b ∧ b < w5.heap.size) fun b _ hb => by omega
  clear hch11
  have hc6' := (hc6.ext x610)
  have hc6m := hch11'.cells (show ¬ ((Vc.setCells (w4.alloc (.cells #[.int .i64 0, .slice none 0 0] 39)) w4.heap.size 0 [.int .i64 (o'.getD (0, .nil)).1, psS]).heap.size ≤ w6.heap.size ∧ w6.heap.size < w5.heap.size) by omega) hc6'
  have h4lt : w4.heap.size < (Vc.setCells (w4.alloc (.cells #[.int .i64 0, .slice none 0 0] 39)) w4.heap.size 0 [.int .i64 (o'.getD (0, .nil)).1, psS]).heap.size := World.block_lt_of_cell? _ _ hc4.1
  have hc4m := hch11'.cells (show ¬ ((Vc.setCells (w4.alloc (.cells #[.int .i64 0, .slice none 0 0] 39)) w4.heap.size 0 [.int .i64 (o'.getD (0, .nil)).1, psS]).heap.size ≤ w4.heap.size ∧ w4.heap.size < w5.heap.size) by omega) (hc4.ext (x46.trans x610))
  refine ⟨_, rfl, hc6m, _, rfl, hc4m, ?_⟩
  have hS10 := Fo.Sl.ext ((x4b.trans x46).trans x610) hS4
  have hS11 := Fo.Sl.chg (S := fun b => (Vc.setCells (w4.alloc (.cells #[.int .i64 0, .slice none 0 0] 39)) w4.heap.size 0 [.int .i64 (o'.getD (0, .nil)).1, psS]).heap.size ≤ b ∧ b < w5.heap.size) (fun b hb e => by unfold oldB at hb; omega) hch11' hS10
  have hI11 : PSep w11 psI (o'.getD (0, .nil)).2 (Vc.setCells (w5.alloc (.cells #[.int .i64 0, .slice none 0 0] 25)) w5.heap.size 0 [.int .i64 n, s5]).heap.size w6.heap.size := hsI.keep plc_len fun b g1 g2 => (hch11'.block b (by omega) (by omega)).trans ((x6b.trans x610).block b g2)
  refine Or.inl ((eqProof_ret _ _ _ _ psI psS _ (hI11.sl fun _ _ _ => trivial) (hS11.mono fun _ _ => trivial)).mono ?_)
  rintro _ w12 ⟨rfl, x12⟩
  refine br_ndec (fun h => absurd ⟨rfl, rfl⟩ h) (fun _ => ?_)
  refine br_false (by simp) ?_
  -- marks on the result
  have z11 := hch11'.size
  have z12 := x12.size
  refine ⟨_, rfl, hc6m.ext x12, ?_⟩
  have hI12 : PSep w12 psI (o'.getD (0, .nil)).2 (Vc.setCells (w5.alloc (.cells #[.int .i64 0, .slice none 0 0] 25)) w5.heap.size 0 [.int .i64 n, s5]).heap.size w6.heap.size := hI11.keep plc_len fun b g1 g2 => x12.block b (by omega)
  refine Or.inl ((markProof_ret _ _ psI _ _ 1 _ hI12 (by omega) (by decide) (by omega)).mono ?_)
  rintro _ w13 ⟨rfl, hI13, hch13⟩
  have hc6n := hch13.cells (show ¬ ((Vc.setCells (w5.alloc (.cells #[.int .i64 0, .slice none 0 0] 25)) w5.heap.size 0 [.int .i64 n, s5]).heap.size ≤ w6.heap.size ∧ w6.heap.size < w6.heap.size) by omega) (hc6m.ext x12)
  have hc4n := hch13.cells (show ¬ ((Vc.setCells (w5.alloc (.cells #[.int .i64 0, .slice none 0 0] 25)) w5.heap.size 0 [.int .i64 n, s5]).heap.size ≤ w4.heap.size ∧ w4.heap.size < w6.heap.size) by omega) (hc4m.ext x12)
  have hS13 := Fo.Sl.chg (S := fun b => (Vc.setCells (w5.alloc (.cells #[.int .i64 0, .slice none 0 0] 25)) w5.heap.size 0 [.int .i64 n, s5]).heap.size ≤ b ∧ b < w6.heap.size) (fun b hb e => by unfold oldB at hb; omega) hch13 (Fo.Sl.ext x12 hS11)
  refine ⟨_, rfl, hc6n, ?_⟩
  refine Or.inl ((heldProof_ret _ _ psI 1 _ (hI13.sl fun _ _ _ => trivial) (by decide) (by omega)).mono ?_)
  rintro _ w14 ⟨rfl, x14⟩
  refine br_dec (fun h => absurd rfl h) (fun _ => ?_)
  -- once more
  have xa : Ext (W.alloc (.cells [.int .i64 n, s].toArray 48)) w14 :=
    ((((x210.chg hch11' fun b hb => Nat.le_trans x24.size hb.1).trans x12).chg hch13 fun b hb => Nat.le_trans x25.size hb.1)).trans x14
  refine ⟨[.int .i64 n, s], rfl, hb.ext xa, ?_⟩
  refine Or.inl ((toFormula_ret n F s _ (hs.ext (x1.trans xa)) hsz).mono ?_)
  rintro _ w15 ⟨x15, s15, rfl, hs15, _⟩
  refine Or.inl ((impl_ProofOf n F lim s15 _ hs15.all).mono ?_)
  rintro _ wH ⟨x16, oh, psH, hoh, rfl, honeH, hsH⟩
  have := PrfO.unique hoh ho
  subst this
  have rH := Rmy.new wH [.int .i64 0, .slice none 0 0] 39
  refine ⟨rH.all [.int .i64 (oh.getD (0, .nil)).1, psH] 0 (Nat.le_refl 2) (by simp only [List.all_cons, honeH]; rfl), ?_⟩
  have xHb : Ext wH (Vc.setCells (wH.alloc (.cells #[.int .i64 0, .slice none 0 0] 39)) wH.heap.size 0 [.int .i64 (oh.getD (0, .nil)).1, psH]) := Ext.setCells _ (Ext.new _ _) (Nat.le_refl _)
  have hcH := setCells_at [.int .i64 (oh.getD (0, .nil)).1, psH] _ 0 2 rH (Nat.le_refl 2)
  have x1416 := ((x14.trans x15).trans x16).trans xHb
  refine ⟨_, rfl, hcH, _, rfl, hc4n.ext x1416, ?_⟩
  refine Or.inl ((eqProof_ret _ _ _ _ psH psS _ (Fo.Sl.ext xHb (hsH.sl fun _ _ _ => trivial)) ((Fo.Sl.ext x1416 hS13).mono fun _ _ => trivial)).mono ?_)
  rintro _ w17 ⟨rfl, x17⟩
  refine br_ndec (fun h => absurd ⟨rfl, rfl⟩ h) (fun _ => ?_)
  refine br_false (by simp) ?_
  refine ⟨_, rfl, hc6n.ext (x1416.trans x17), ?_⟩
  refine Or.inl ((heldProof_ret _ _ psI 1 _ ((Fo.Sl.ext (x1416.trans x17) (hI13.sl fun _ _ _ => trivial))) (by decide) (by omega)).mono ?_)
  rintro _ w18 ⟨rfl, x18⟩
  refine br_dec (fun h => absurd rfl h) (fun _ => ?_)
  exact ⟨rfl, ((x1.trans xa).trans ((x15.trans x16).trans xHb)).trans (x17.trans x18)⟩
theorem own : ownKnob Try.prog.godebug = none := by kernel_rfl
theorem laidOut : laidOutB Try.prog = true := by kernel_rfl
set_option maxRecDepth 100000 in
theorem lifted (os : Os) (started : os.Started) (H : Type) (enc : TypeId × Value → H) :
    ReturnsInHanded {} Try.checked os 15 .any (Rows.fnExactProofOfSpec.pre6 enc Try.prog Try.f15 Rows.fnExactProofOfRow.domain false) (Rows.fnExactProofOfSpec.post enc Try.prog Try.f15 false true false false) := by
  refine returnsInHanded_of_change (C := Try.checked) own started (by kernel_rfl) Try.func15
    (ChangeSpec.witness6 (enc := enc) (C := Try.checked) false ⟨#[], #[.agg #[.int .i64 0, .slice none 0 0], .int .i64 0], []⟩ 8 (by kernel_rfl) (by kernel_rfl) (by kernel_rfl) (by kernel_rfl)) ?_
  intro W base args ds gs before hval0 hW hcnd _
  have hval : ∀ (j : Nat) t v, Try.f15.params[j]? = some t → args[j]? = some v → Value.okWide Try.prog W .any base t v := hval0
  have hW' := hW
  obtain ⟨p, q, hA0, hV, rfl, hfz, hnd⟩ := hW
  have hA : DataW.TrodAll enc Try.prog W 0 (fun _ => true) true Try.f15.params.toList args.toList ds p := hA0
  rw [Try.params15] at hA hval
  obtain ⟨v0, vs0, d0, ds0, p0, q0, hargs, rfl, rfl, h0, r0⟩ := trodAll_cons hA
  obtain ⟨v1, vs1, d1, ds1, p1, q1, rfl, rfl, rfl, h1, r1⟩ := trodAll_cons r0
  obtain ⟨rfl, rfl, rfl⟩ := trodAll_nil r1
  obtain rfl : args = #[v0, v1] := by cases args; simp_all
  obtain ⟨rfl, rfl⟩ := trodVars_none hV
  have k0 := h0
  have lt0 : ∀ x ∈ p0, x.block < W.heap.size := by obtain ⟨m, hm⟩ := k0; exact DataW.trod_lt m _ _ _ hm
  obtain ⟨N0, S0, F0, rfl, HS0, HN0⟩ := open_Formula (hval 0 48 v0 rfl rfl) h0
  have k1 := h1
  have lt1 : ∀ x ∈ p1, x.block < W.heap.size := by obtain ⟨m, hm⟩ := k1; exact DataW.trod_lt m _ _ _ hm
  obtain ⟨a1, rfl, rfl, rfl, w1⟩ := open_int Try.underlying3 (hval 1 3 v1 rfl rfl) h1
  clear hA0 hval0
  refine (walk W N0 S0 F0 HS0 HN0 a1 w1).calls.mono fun e W' ⟨v, he, hv, bel⟩ => ?_
  subst hv
  subst he
  exact ⟨_, rfl, _, _, _, [], _, [], hW', trodAll_mk1 (shut_bool Try.underlying4 _), (trodAll_cons_mk (Below.trod laidOut (by kernel_rfl) (of_decide_eq_true (by kernel_rfl)) k0 bel lt0) (trodAll_cons_mk (Below.trod laidOut (by kernel_rfl) (of_decide_eq_true (by kernel_rfl)) k1 bel lt1) trodAll_mk0)), rfl, bel.frame _, fun h => by cases h⟩
theorem band {a b : Bool} (h1 : a = true) (h2 : b = true) : (a && b) = true := by rw [h1, h2]; rfl
theorem lifted_ok : (Rows.fnExactProofOfRow.lifted == Try.pinned.checked.prog.liftsFinal) = true := by rw [head_final]; rfl
theorem make_ok : (Try.pinned.checked.prog.make == some Rows.fnExactProofOfRow.make) = true := by rw [head_make]; rfl
set_option maxHeartbeats 4000000 in
theorem closed : joinedFacts Try.pinned.checked.prog 15 Try.f15 Rows.fnExactProofOfSpec Rows.fnExactProofOfRow = true := by
  unfold joinedFacts
  repeat' (with_reducible refine band ?_ ?_)
  all_goals (first | with_reducible exact head_enter | with_reducible exact lifted_ok | with_reducible exact make_ok | (as_aux_lemma => kernel_rfl))
theorem holds : Rows.fnExactProofOfRow.holds Try.pinned (OpenSpec.ofChange Rows.fnExactProofOfSpec) :=
  OpenClaim.holds_of_wide 15 Try.f15 rfl rfl rfl rfl rfl rfl rfl ⟨rfl, rfl, rfl, rfl, rfl⟩ rfl rfl rfl rfl rfl (by as_aux_lemma => kernel_rfl) Try.func15 closed
    (of_decide_eq_true (by as_aux_lemma => kernel_rfl)) (by unfold Func.isWrapper; first | (rw [if_pos (by decide +kernel)]; kernel_rfl) | (rw [if_neg (by decide +kernel)]; exact ⟨rfl, rfl⟩))
    (fun os started H enc _ => lifted os started H enc)
/-- The statement. -/
theorem proved : Rows.FnExactProofOfSaid := holds
#print axioms proved
end Go.Proofs.Ytfmflffggcphjaa.lawFnExactProofOf
