/- The law FnCompare: whatever the bytes, it returns true; all that was there is as it was. No condition. -/
import Derived.Test.YtekddgkgeaolnaaD1
import Derived.Test.YtekddgkgeaolnaaGx
import Derived.Test.YtekddgkgeaolnaaN1
import Derived.Test.YtekddgkgeaolnaaQc
import Derived.Test.YtekddgkgeaolnaaZw
import Derived.WalkKit
import Derived.ProofKit
import Derived.OpenShut
import Derived.ShutString
import Derived.ChangeOld
import Derived.Below
namespace Go.Proofs.Ytekddgkgeaolnaa.lawFnCompare
open Go Go.Vc Go.ChangeShapes Go.WideShapes Go.ChangeAt Go.RowKit
open Go.Proofs.Ytekddgkgeaolnaa.Dr (eU open_Bytes GvT giveTerm_ret DrP)
set_option linter.unusedVariables false

theorem fm_same {w v : Int} {a b : Tm} (ha : DrP w 2 a) (hb : DrP v 2 b) : cmpT a b = 0 ↔ fmO a.1 a.2 = fmO b.1 b.2 := by
  rw [fmO_yes (ha.tok (by decide)), fmO_yes (hb.tok (by decide)), cmpT_zero]
  constructor
  · intro h; rw [h]
  · intro h
    have h : fmT a = fmT b := by
      have := congrArg (fun s : ByteArray => s.data.toList) h
      simpa [toB] using this
    exact fmT_inj ha.ok hb.ok ⟨(Dr.node_okL ha.ok.1).2.2.1, Dr.okF_inI _ ha.ok.2⟩ ⟨(Dr.node_okL hb.ok.1).2.2.1, Dr.okF_inI _ hb.ok.2⟩ h
theorem neq_self {p q : Bool} (h : p = q) : (!(p == q)) = false := by subst h; cases p <;> rfl
set_option maxRecDepth 200000 in
set_option maxHeartbeats 4000000 in
theorem walk (W : World) (L : List Int) (v0 : Value) (HS : SlR eU allB W v0 L) : Ret Try.prog 4 #[v0] W (fun v w' => v = .bool true ∧ Ext W w') := by
  have hlm : (maxLen : Int) ≤ 9223372036854775807 := by decide
  obtain ⟨a0, cp, rfl, hlc, hcm, hat⟩ := id HS
  refine ret_of_vc ties mixed Try.func4 rfl (by kernel_rfl) rfl rfl ?_
  refine br_dec (fun h => ⟨rfl, Ext.refl _⟩) (fun _ => ?_)
  refine Or.inl ((giveTerm_ret L 0 (by decide) 2 2 (by decide) (by decide) _ W HS).mono ?_)
  rintro _ w1 ⟨x1, a, sa, rfl, pa, qa⟩
  have qa : TSl anyB w1 sa a.2 := qa.mono fun _ _ => trivial
  have ka := keep5 (W := w1) (x := a.1) (tc_one qa)
  refine ⟨ka.1, ?_⟩
  have X2 := x1.trans ka.2.2
  refine Or.inl ((giveTerm_ret L 30 (by decide) 2 2 (by decide) (by decide) _ _ (HS.ext X2)).mono ?_)
  rintro _ w3 ⟨x3, b, sb, rfl, pb, qb⟩
  have qb : TSl anyB w3 sb b.2 := qb.mono fun _ _ => trivial
  have kb := keep5 (W := w3) (x := b.1) (tc_one qb)
  refine ⟨kb.1, ?_⟩
  have X4 := (X2.trans x3).trans kb.2.2
  refine Or.inl ((giveTerm_ret L 60 (by decide) 2 2 (by decide) (by decide) _ _ (HS.ext X4)).mono ?_)
  rintro _ w5 ⟨x5, c, sc, rfl, pc, qc⟩
  have qc : TSl anyB w5 sc c.2 := qc.mono fun _ _ => trivial
  have kc := keep5 (W := w5) (x := c.1) (tc_one qc)
  refine ⟨kc.1, ?_⟩
  obtain ⟨x, hx⟩ : ∃ x, cmpT a b = x := ⟨_, rfl⟩
  obtain ⟨y, hy⟩ : ∃ y, cmpT b c = y := ⟨_, rfl⟩
  obtain ⟨z, hz⟩ : ∃ z, cmpT a c = z := ⟨_, rfl⟩
  have vx := cmpT_val a b
  have vy := cmpT_val b c
  have vz := cmpT_val a c
  rw [hx] at vx
  rw [hy] at vy
  rw [hz] at vz
  have t3 := cmpT_T3 a b c
  rw [hx, hy, hz] at t3
  have hfm := fm_same pa pb
  rw [hx] at hfm
  have iab := fun s t w h h' => impl_Compare a b s t w h h'
  rw [hx] at iab
  have ibc := fun s t w h h' => impl_Compare b c s t w h h'
  rw [hy] at ibc
  have iac := fun s t w h h' => impl_Compare a c s t w h h'
  rw [hz] at iac
  have iba := fun s t w h h' => impl_Compare b a s t w h h'
  rw [cmpT_swap a b, hx] at iba
  have iaa := fun s t w h h' => impl_Compare a a s t w h h'
  rw [cmpT_same a] at iaa
  have e26 := (x3.trans kb.2.2).trans (x5.trans kc.2.2)
  have e46 := x5.trans kc.2.2
  have e56 := kc.2.2
  have ca := ka.2.1.ext e26
  have cb := kb.2.1.ext e46
  have ccc := kc.2.1
  have qa6 := (qa.ext ka.2.2).ext e26
  have qb6 := (qb.ext kb.2.2).ext e46
  have qc6 := qc.ext e56
  have X6 := X4.trans e46
  refine ⟨tc a.1 sa, rfl, ca, tc b.1 sb, rfl, cb, ?_⟩
  refine Or.inl ((iab sa sb _ qa6 qb6).mono ?_)
  rintro _ w7 ⟨rfl, x7⟩
  refine ⟨tc b.1 sb, rfl, cb.ext x7, tc c.1 sc, rfl, ccc.ext x7, ?_⟩
  refine Or.inl ((ibc sb sc _ (qb6.ext x7) (qc6.ext x7)).mono ?_)
  rintro _ w8 ⟨rfl, x8⟩
  have x78 := x7.trans x8
  refine ⟨tc a.1 sa, rfl, ca.ext x78, tc c.1 sc, rfl, ccc.ext x78, ?_⟩
  refine Or.inl ((iac sa sc _ (qa6.ext x78) (qc6.ext x78)).mono ?_)
  rintro _ w9 ⟨rfl, x9⟩
  have x79 := x78.trans x9
  refine .inl ⟨by kernel_rfl, tc b.1 sb, rfl, cb.ext x79, tc a.1 sa, rfl, ca.ext x79, .int .i64 (-x), fun w' hw' => iba sb sa w' ((qb6.ext x79).ext hw') ((qa6.ext x79).ext hw'), -x, (IntWalk.i64_in _ (by omega)).trans (by omega), ?_⟩
  have hq : (!(decide (x = 0) == decide (fmO a.1 a.2 = fmO b.1 b.2))) = false := neq_self (decide_eq_decide.2 hfm)
  have okx : ∀ {w : Int} {t : Tm}, DrP w 2 t → okL t.1 ∧ t.2.All okL := fun h => ⟨Dr.node_okL h.ok.1, Dr.okF_okL _ h.ok.2⟩
  repeat refine br_dec_false (fun h => h rfl) ?_
  refine ⟨tc a.1 sa, rfl, ca.ext x79, .string (fmO a.1 a.2), fun w' hw' => spec_FormatTerm a.1 a.2 sa w' ((qa6.ext x79).ext hw') (okx pa).1 (okx pa).2, ?_⟩
  repeat refine br_dec_false (fun h => h rfl) ?_
  refine ⟨tc b.1 sb, rfl, cb.ext x79, .string (fmO b.1 b.2), fun w' hw' => spec_FormatTerm b.1 b.2 sb w' ((qb6.ext x79).ext hw') (okx pb).1 (okx pb).2, ?_⟩
  repeat (first | refine br_dec_false (fun h => h rfl) ?_ | refine br_false hq ?_)
  refine ⟨tc a.1 sa, rfl, ca.ext x79, ?_⟩
  repeat (first | refine br_dec_false (fun h => h rfl) ?_ | refine br_false hq ?_)
  refine ⟨tc a.1 sa, rfl, ca.ext x79, .int .i64 0, fun w' hw' => iaa sa sa w' ((qa6.ext x79).ext hw') ((qa6.ext x79).ext hw'), ?_⟩
  repeat (first | refine br_dec_false (fun h => h rfl) ?_ | refine br_false hq ?_)
  intro w10 x10
  repeat (first | refine br_dec_false (fun h => h rfl) ?_ | refine br_false hq ?_)
  have X10 := (X6.trans x79).trans x10
  by_cases hx0 : 0 < x
  · repeat refine br_dec_true hx0 ?_
    exact ⟨rfl, X10⟩
  by_cases hy0 : 0 < y
  · repeat (first | refine br_dec_false hx0 ?_ | refine br_dec_true hy0 ?_)
    exact ⟨rfl, X10⟩
  have hz0 := (t3.1 (by omega) (by omega)).1
  by_cases hzn : z < 0
  · repeat (first | refine br_dec_false hx0 ?_ | refine br_dec_false hy0 ?_ | refine br_dec_true hz0 ?_ | refine br_dec_true hzn ?_)
    exact ⟨rfl, X10⟩
  have hxy := (t3.1 (by omega) (by omega)).2 (by omega)
  have hxe := hxy.1
  have hye := hxy.2
  repeat (first | refine br_dec_false hx0 ?_ | refine br_dec_false hy0 ?_ | refine br_dec_true hz0 ?_ | refine br_dec_false hzn ?_ | refine br_dec_true hxe ?_ | refine br_dec_true hye ?_)
  exact ⟨vbool (decide_eq_true hye), X10⟩
theorem own : ownKnob Try.prog.godebug = none := by kernel_rfl
theorem laidOut : laidOutB Try.prog = true := by kernel_rfl
set_option maxRecDepth 100000 in
theorem lifted (os : Os) (started : os.Started) (H : Type) (enc : TypeId × Value → H) :
    ReturnsInHanded {} Try.checked os 4 .any (Rows.fnCompareSpec.pre6 enc Try.prog Try.f4 Rows.fnCompareRow.domain false) (Rows.fnCompareSpec.post enc Try.prog Try.f4 false true false false) := by
  refine returnsInHanded_of_change (C := Try.checked) own started (by kernel_rfl) Try.func4
    (ChangeSpec.witness6 (enc := enc) (C := Try.checked) false ⟨#[], #[.slice none 0 0], []⟩ 8 (by kernel_rfl) (by kernel_rfl) (by kernel_rfl) (by kernel_rfl)) ?_
  intro W base args ds gs before hval0 hW hcnd _
  have hval : ∀ (j : Nat) t v, Try.f4.params[j]? = some t → args[j]? = some v → Value.okWide Try.prog W .any base t v := hval0
  have hW' := hW
  obtain ⟨p, q, hA0, hV, rfl, hfz, hnd⟩ := hW
  have hA : DataW.TrodAll enc Try.prog W 0 (fun _ => true) true Try.f4.params.toList args.toList ds p := hA0
  rw [Try.params4] at hA hval
  obtain ⟨v0, vs0, d0, ds0, p0, q0, hargs, rfl, rfl, h0, r0⟩ := trodAll_cons hA
  obtain ⟨rfl, rfl, rfl⟩ := trodAll_nil r0
  obtain rfl : args = #[v0] := by cases args; simp_all
  obtain ⟨rfl, rfl⟩ := trodVars_none hV
  have k0 := h0
  have lt0 : ∀ x ∈ p0, x.block < W.heap.size := by obtain ⟨m, hm⟩ := k0; exact DataW.trod_lt m _ _ _ hm
  obtain ⟨L0, HS0⟩ := open_Bytes (hval 0 22 v0 rfl rfl) h0
  clear hA0 hval0
  refine (walk W L0 v0 HS0).calls.mono fun e W' ⟨v, he, hv, bel⟩ => ?_
  subst hv
  subst he
  exact ⟨_, rfl, _, _, _, [], _, [], hW', trodAll_mk1 (shut_bool Try.underlying4 _), (trodAll_cons_mk (Below.trod laidOut (by kernel_rfl) (of_decide_eq_true (by kernel_rfl)) k0 bel lt0) trodAll_mk0), rfl, bel.frame _, fun h => by cases h⟩
theorem band {a b : Bool} (h1 : a = true) (h2 : b = true) : (a && b) = true := by rw [h1, h2]; rfl
theorem lifted_ok : (Rows.fnCompareRow.lifted == Try.pinned.checked.prog.liftsFinal) = true := by rw [head_final]; rfl
theorem make_ok : (Try.pinned.checked.prog.make == some Rows.fnCompareRow.make) = true := by rw [head_make]; rfl
set_option maxHeartbeats 4000000 in
theorem closed : joinedFacts Try.pinned.checked.prog 4 Try.f4 Rows.fnCompareSpec Rows.fnCompareRow = true := by
  unfold joinedFacts
  repeat' (with_reducible refine band ?_ ?_)
  all_goals (first | with_reducible exact head_enter | with_reducible exact lifted_ok | with_reducible exact make_ok | (as_aux_lemma => kernel_rfl))
theorem holds : Rows.fnCompareRow.holds Try.pinned (OpenSpec.ofChange Rows.fnCompareSpec) :=
  OpenClaim.holds_of_wide 4 Try.f4 rfl rfl rfl rfl rfl rfl rfl ⟨rfl, rfl, rfl, rfl, rfl⟩ rfl rfl rfl rfl rfl (by as_aux_lemma => kernel_rfl) Try.func4 closed
    (of_decide_eq_true (by as_aux_lemma => kernel_rfl)) (by unfold Func.isWrapper; first | (rw [if_pos (by decide +kernel)]; kernel_rfl) | (rw [if_neg (by decide +kernel)]; exact ⟨rfl, rfl⟩))
    (fun os started H enc _ => lifted os started H enc)
/-- The statement. -/
theorem proved : Rows.FnCompareSaid := holds
#print axioms proved
end Go.Proofs.Ytekddgkgeaolnaa.lawFnCompare
