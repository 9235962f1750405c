/- The law FnExactResolve: whatever the arguments, it returns true; all that was there is as it was. No condition. -/
import Derived.Test.YtfmflffggcphjaaMy
import Derived.Test.YtfmflffggcphjaaMi
import Derived.Test.YtfmflffggcphjaaIo
import Derived.Test.YtfmflffggcphjaaZw
import Derived.WalkKit
import Derived.ProofKit
import Derived.OpenShut
import Derived.ShutString
import Derived.ChangeOld
import Derived.Below
namespace Go.Proofs.Ytfmflffggcphjaa.lawFnExactResolve
open Go Go.Vc Go.ChangeShapes Go.WideShapes Go.ChangeAt Go.RowKit Go.Sat
set_option linter.unusedVariables false

set_option maxRecDepth 100000 in
set_option maxHeartbeats 4000000 in
theorem walk (W : World) (la : List Int) (t : Value) (ht : SlR eI allB W t la) (hp : ∀ x ∈ la, inI x) (lb : List Int) (u : Value) (hu : SlR eI allB W u lb) (hq : ∀ x ∈ lb, inI x) (v : Int) (wv : (Lit.int .i64 v).wf = true) :
    Ret Try.prog 19 #[t, u, .int .i64 v] W (fun r w' => r = .bool true ∧ Ext W w') := by
  have hlm : (maxLen : Int) ≤ 9223372036854775807 := by decide
  have hv : v ≤ 9223372036854775807 := (inI_wf wv).2
  obtain ⟨a2, c2, rfl, hlc2, hcm2, -⟩ := id ht
  obtain ⟨a3, c3, rfl, hlc3, hcm3, -⟩ := id hu
  refine ret_of_vc ties mixed Try.func19 rfl (by kernel_rfl) rfl rfl ?_
  refine br_dec (fun h => ⟨rfl, Ext.refl _⟩) (fun hml => ?_)
  have hml : la.length ≤ 1048576 := by omega
  refine br_dec (fun h => ⟨rfl, Ext.refl _⟩) (fun hmu => ?_)
  have hmu : lb.length ≤ 1048576 := by omega
  have hol : ((resO la lb v).getD []).length ≤ 400 := resO_len
  obtain ⟨oc, hoc⟩ : ∃ oc, resO la lb v = oc := ⟨_, rfl⟩
  rw [hoc] at hol
  have hsp : ∀ s t w, SlR eI allB w s la → SlR eI allB w t lb → Ret Try.prog 67 #[s, t, .int .i64 v] w (OptR oc w) := fun s t w h1 h2 => by
    have := spec_Resolve la lb v s t w h1 h2 hv
    rwa [hoc] at this
  have him : ∀ s t w, SlR eI allB w s la → SlR eI allB w t lb → Ret Try.prog 68 #[s, t, .int .i64 v] w (OptR oc w) := fun s t w h1 h2 => by
    have := impl_Resolve la lb v s t w h1 h2 hv
    rwa [hoc] at this
  clear hoc
  -- what the reference gives
  refine Or.inl ((toIntS_ret la _ W ht hml).mono ?_)
  rintro t3 w3 ht3
  refine Or.inl ((toIntS_ret lb _ w3 (hu.ext ht3.1) hmu).mono ?_)
  rintro t4 w4 ht4
  refine Or.inl ((hsp t3 t4 w4 (ht3.sl.ext ht4.1) ht4.sl).mono ?_)
  rintro _ w5 ⟨x5, sv, rfl, hsv, _⟩
  have x15 := (ht3.1.trans ht4.1).trans x5
  -- what the program gives
  refine Or.inl ((toIntS_ret la _ w5 (ht.ext x15) hml).mono ?_)
  rintro t7 w7 ht7
  have x17 := x15.trans ht7.1
  refine Or.inl ((toIntS_ret lb _ w7 (hu.ext x17) hmu).mono ?_)
  rintro t8 w8 ht8
  have x18 := x17.trans ht8.1
  refine Or.inl ((him t7 t8 w8 (ht7.sl.ext ht8.1) ht8.sl).mono ?_)
  rintro _ w9 ⟨x9, gv, rfl, hgv, hgvb⟩
  have x19 := x18.trans x9
  have hsvA : SlR eI allB w5 sv _ := hsv.sl (fun _ _ => trivial) (fun _ _ => trivial)
  have x59 := (ht7.1.trans ht8.1).trans x9
  refine Or.inl ((eqIntS_ret _ _ gv sv _ (hgv.sl (fun _ _ => trivial) (fun _ _ => trivial)) (hsvA.ext x59)).mono ?_)
  rintro _ w10 ⟨rfl, x10⟩
  refine br_ndec (fun h => absurd rfl h) (fun _ => ?_)
  refine br_false (by simp) ?_
  refine Or.inl ((toIntS_ret la _ w10 (ht.ext (x19.trans x10)) hml).mono ?_)
  rintro t11 w11 ht11
  refine Or.inl ((eqIntS_ret la la t7 t11 _ ((ht7.2.1.ext (((ht8.1.trans x9).trans x10).trans ht11.1)).sl (fun _ _ => trivial) (fun _ _ => trivial)) ht11.sl).mono ?_)
  rintro _ w12 ⟨rfl, x12⟩
  refine br_ndec (fun h => absurd rfl h) (fun _ => ?_)
  have x912 := (x10.trans ht11.1).trans x12
  refine Or.inl ((toIntS_ret lb _ w12 (hu.ext (x19.trans x912)) hmu).mono ?_)
  rintro t13 w13 ht13
  refine Or.inl ((eqIntS_ret lb lb t8 t13 _ ((ht8.2.1.ext ((x9.trans x912).trans ht13.1)).sl (fun _ _ => trivial) (fun _ _ => trivial)) ht13.sl).mono ?_)
  rintro _ w15 ⟨rfl, x15'⟩
  refine br_ndec (fun h => absurd rfl h) (fun _ => ?_)
  have x915 := (x912.trans ht13.1).trans x15'
  -- marks on the arguments
  have z5 := x5.size
  have z7 := ht7.1.size
  have z8 := ht8.1.size
  have z9 := x9.size
  have z15 := x915.size
  have ht7' := ht7.2.1.ext ((ht8.1.trans x9).trans x915)
  refine Or.inl ((markIntS_ret la t7 1 _ ht7' (by decide) (by omega)).mono ?_)
  rintro _ w16 ⟨rfl, _, hch16, hz16⟩
  have hch1 := (mark_old ht7.2.1 hch16 hz16).mono (S' := fun b => w5.heap.size ≤ b ∧ b < w7.heap.size) fun b _ hb => ⟨ht7.2.2 b hb.1, hb.2⟩
  have ht8' := (ht8.2.1.ext (x9.trans x915)).chg (fun _ h => h.elim) (S := fun b => w5.heap.size ≤ b ∧ b < w7.heap.size) (fun b hb e => by have := ht8.2.2 b hb; omega) hch1
  refine Or.inl ((markIntS_ret lb t8 (1 + (la.length : Int)) _ ht8' (by omega) (by omega)).mono ?_)
  rintro _ w17 ⟨rfl, _, hch17, hz17⟩
  have hch2 := (mark_old ht8.2.1 hch17 hz17).mono (S' := fun b => w5.heap.size ≤ b ∧ b < w8.heap.size) fun b _ hb => ⟨by have := ht8.2.2 b hb.1; omega, hb.2⟩
  have hch := (hch1.mono (S' := fun b => w5.heap.size ≤ b ∧ b < w8.heap.size) fun b _ hb => by omega).trans hch2
  have hgv15 := hgv.ext x915
  have hgv17 := hgv15.chg (fun _ h => h.elim) (fun b hb e => by have := hgvb b hb; omega) hch
  have hsv5 : SlR eI (oldB w5.heap.size) w5 sv _ := hsvA.lt.mono fun b hb => hb.2
  have hsv17 := (hsv5.ext (x59.trans x915)).chg (S := fun b => w5.heap.size ≤ b ∧ b < w8.heap.size) (fun b hb e => by unfold oldB at hb; omega) hch
  have x17a : Ext W w17 := (x19.trans x915).chg hch fun i hi => Nat.le_trans x15.size hi.1
  refine Or.inl ((eqIntS_ret _ _ gv sv _ (hgv17.sl (fun _ _ => trivial) (fun _ _ => trivial)) hsv17.any).mono ?_)
  rintro _ w18 ⟨rfl, x18'⟩
  refine br_ndec (fun h => absurd rfl h) (fun _ => ?_)
  refine br_false (by simp) ?_
  -- marks on the result
  refine Or.inl ((markIntS_ret _ gv 1 _ (hgv17.ext x18') (by decide) (by omega)).mono ?_)
  rintro _ w19 ⟨rfl, hgv19, hch19, hz19⟩
  have x19a : Ext W w19 := (x17a.trans x18').chg hch19 fun b hb => Nat.le_trans x18.size (hgvb b hb)
  have hsv19 := (hsv17.ext x18').chg (S := blk gv) (fun b hb e => by have := hgvb b e; unfold oldB at hb; omega) hch19
  have hgm : SlR eI allB w19 gv _ := hgv19.sl (fun _ _ => trivial) (fun _ _ => trivial)
  refine Or.inl ((heldIntS_ret _ gv 1 _ hgm (by decide) (by omega)).mono ?_)
  rintro _ _ ⟨rfl, rfl⟩
  refine br_dec (fun h => absurd rfl h) (fun _ => ?_)
  -- once more
  refine Or.inl ((toIntS_ret la _ w19 (ht.ext x19a) hml).mono ?_)
  rintro t20 w20 ht20
  refine Or.inl ((toIntS_ret lb _ w20 (hu.ext (x19a.trans ht20.1)) hmu).mono ?_)
  rintro t21 w21 ht21
  refine Or.inl ((him t20 t21 w21 (ht20.sl.ext ht21.1) ht21.sl).mono ?_)
  rintro _ w22 ⟨x22, hv2, rfl, hhv, _⟩
  have x1922 := (ht20.1.trans ht21.1).trans x22
  refine Or.inl ((eqIntS_ret _ _ hv2 sv _ (hhv.sl (fun _ _ => trivial) (fun _ _ => trivial)) (hsv19.any.ext x1922)).mono ?_)
  rintro _ w23 ⟨rfl, x23⟩
  refine br_ndec (fun h => absurd rfl h) (fun _ => ?_)
  refine br_false (by simp) ?_
  refine Or.inl ((heldIntS_ret _ gv 1 _ (hgm.ext (x1922.trans x23)) (by decide) (by omega)).mono ?_)
  rintro _ _ ⟨rfl, rfl⟩
  refine br_dec (fun h => absurd rfl h) (fun _ => ?_)
  exact ⟨rfl, x19a.trans (x1922.trans x23)⟩
theorem own : ownKnob Try.prog.godebug = none := by kernel_rfl
theorem laidOut : laidOutB Try.prog = true := by kernel_rfl
set_option maxRecDepth 100000 in
theorem lifted (os : Os) (started : os.Started) (H : Type) (enc : TypeId × Value → H) :
    ReturnsInHanded {} Try.checked os 19 .any (Rows.fnExactResolveSpec.pre6 enc Try.prog Try.f19 Rows.fnExactResolveRow.domain false) (Rows.fnExactResolveSpec.post enc Try.prog Try.f19 false true false false) := by
  refine returnsInHanded_of_change (C := Try.checked) own started (by kernel_rfl) Try.func19
    (ChangeSpec.witness6 (enc := enc) (C := Try.checked) false ⟨#[], #[.slice none 0 0, .slice none 0 0, .int .i64 0], []⟩ 8 (by kernel_rfl) (by kernel_rfl) (by kernel_rfl) (by kernel_rfl)) ?_
  intro W base args ds gs before hval0 hW hcnd _
  have hval : ∀ (j : Nat) t v, Try.f19.params[j]? = some t → args[j]? = some v → Value.okWide Try.prog W .any base t v := hval0
  have hW' := hW
  obtain ⟨p, q, hA0, hV, rfl, hfz, hnd⟩ := hW
  have hA : DataW.TrodAll enc Try.prog W 0 (fun _ => true) true Try.f19.params.toList args.toList ds p := hA0
  rw [Try.params19] at hA hval
  obtain ⟨v0, vs0, d0, ds0, p0, q0, hargs, rfl, rfl, h0, r0⟩ := trodAll_cons hA
  obtain ⟨v1, vs1, d1, ds1, p1, q1, rfl, rfl, rfl, h1, r1⟩ := trodAll_cons r0
  obtain ⟨v2, vs2, d2, ds2, p2, q2, rfl, rfl, rfl, h2, r2⟩ := trodAll_cons r1
  obtain ⟨rfl, rfl, rfl⟩ := trodAll_nil r2
  obtain rfl : args = #[v0, v1, v2] := by cases args; simp_all
  obtain ⟨rfl, rfl⟩ := trodVars_none hV
  have k0 := h0
  have lt0 : ∀ x ∈ p0, x.block < W.heap.size := by obtain ⟨m, hm⟩ := k0; exact DataW.trod_lt m _ _ _ hm
  obtain ⟨L0, HS0, HP0⟩ := open_Ints (hval 0 27 v0 rfl rfl) h0
  have k1 := h1
  have lt1 : ∀ x ∈ p1, x.block < W.heap.size := by obtain ⟨m, hm⟩ := k1; exact DataW.trod_lt m _ _ _ hm
  obtain ⟨L1, HS1, HP1⟩ := open_Ints (hval 1 27 v1 rfl rfl) h1
  have k2 := h2
  have lt2 : ∀ x ∈ p2, x.block < W.heap.size := by obtain ⟨m, hm⟩ := k2; exact DataW.trod_lt m _ _ _ hm
  obtain ⟨a2, rfl, rfl, rfl, w2⟩ := open_int Try.underlying3 (hval 2 3 v2 rfl rfl) h2
  clear hA0 hval0
  refine (walk W L0 v0 HS0 HP0 L1 v1 HS1 HP1 a2 w2).calls.mono fun e W' ⟨v, he, hv, bel⟩ => ?_
  subst hv
  subst he
  exact ⟨_, rfl, _, _, _, [], _, [], hW', trodAll_mk1 (shut_bool Try.underlying4 _), (trodAll_cons_mk (Below.trod laidOut (by kernel_rfl) (of_decide_eq_true (by kernel_rfl)) k0 bel lt0) (trodAll_cons_mk (Below.trod laidOut (by kernel_rfl) (of_decide_eq_true (by kernel_rfl)) k1 bel lt1) (trodAll_cons_mk (Below.trod laidOut (by kernel_rfl) (of_decide_eq_true (by kernel_rfl)) k2 bel lt2) trodAll_mk0))), rfl, bel.frame _, fun h => by cases h⟩
theorem band {a b : Bool} (h1 : a = true) (h2 : b = true) : (a && b) = true := by rw [h1, h2]; rfl
theorem lifted_ok : (Rows.fnExactResolveRow.lifted == Try.pinned.checked.prog.liftsFinal) = true := by rw [head_final]; rfl
theorem make_ok : (Try.pinned.checked.prog.make == some Rows.fnExactResolveRow.make) = true := by rw [head_make]; rfl
set_option maxHeartbeats 4000000 in
theorem closed : joinedFacts Try.pinned.checked.prog 19 Try.f19 Rows.fnExactResolveSpec Rows.fnExactResolveRow = true := by
  unfold joinedFacts
  repeat' (with_reducible refine band ?_ ?_)
  all_goals (first | with_reducible exact head_enter | with_reducible exact lifted_ok | with_reducible exact make_ok | (as_aux_lemma => kernel_rfl))
theorem holds : Rows.fnExactResolveRow.holds Try.pinned (OpenSpec.ofChange Rows.fnExactResolveSpec) :=
  OpenClaim.holds_of_wide 19 Try.f19 rfl rfl rfl rfl rfl rfl rfl ⟨rfl, rfl, rfl, rfl, rfl⟩ rfl rfl rfl rfl rfl (by as_aux_lemma => kernel_rfl) Try.func19 closed
    (of_decide_eq_true (by as_aux_lemma => kernel_rfl)) (by unfold Func.isWrapper; first | (rw [if_pos (by decide +kernel)]; kernel_rfl) | (rw [if_neg (by decide +kernel)]; exact ⟨rfl, rfl⟩))
    (fun os started H enc _ => lifted os started H enc)
/-- The statement. -/
theorem proved : Rows.FnExactResolveSaid := holds
#print axioms proved
end Go.Proofs.Ytfmflffggcphjaa.lawFnExactResolve
