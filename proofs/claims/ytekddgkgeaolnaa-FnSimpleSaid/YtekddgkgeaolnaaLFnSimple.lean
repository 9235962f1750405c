/- The law FnSimple: whatever the bytes, it returns true; all that was there is as it was. No condition. -/
import Derived.Test.YtekddgkgeaolnaaD5
import Derived.Test.YtekddgkgeaolnaaD6
import Derived.Test.YtekddgkgeaolnaaTb
import Derived.Test.YtekddgkgeaolnaaZw
import Derived.WalkKit
import Derived.ProofKit
import Derived.OpenShut
import Derived.ShutString
import Derived.ChangeOld
import Derived.Below
namespace Go.Proofs.Ytekddgkgeaolnaa.lawFnSimple
open Go Go.Vc Go.ChangeShapes Go.WideShapes Go.ChangeAt Go.RowKit
open Go.Proofs.Ytekddgkgeaolnaa.Dr (eU open_Bytes giveTerm_ret size_ret values_ret node_okL okF_okL sim_tok sim_simple smp_facts)
set_option linter.unusedVariables false

theorem vs8 {a b c d e f g h a' b' c' d' e' f' g' h' : Value} (h1 : a = a') (h2 : b = b') (h3 : c = c') (h4 : d = d') (h5 : e = e') (h6 : f = f') (h7 : g = g') (h8 : h = h') : [a, b, c, d, e, f, g, h] = [a', b', c', d', e', f', g', h'] := by rw [h1, h2, h3, h4, h5, h6, h7, h8]
set_option maxRecDepth 200000 in
set_option maxHeartbeats 8000000 in
theorem walk (W : World) (L : List Int) (v0 : Value) (HS : SlR eU allB W v0 L) : Ret Try.prog 3 #[v0] W (fun v w' => v = .bool true ∧ Ext W w') := by
  have hlm : (maxLen : Int) ≤ 9223372036854775807 := by decide
  obtain ⟨a0, cp, rfl, hlc, hcm, hat⟩ := id HS
  refine ret_of_vc ties mixed Try.func3 rfl (by kernel_rfl) rfl rfl ?_
  refine br_dec (fun h => ⟨rfl, Ext.refl _⟩) (fun _ => ?_)
  refine Or.inl ((size_ret L 40 1 4 (by decide) (by decide) _ W HS).mono ?_)
  rintro _ w0 ⟨⟨wd, rfl, hw1, hw4⟩, x0⟩
  refine Or.inl ((giveTerm_ret L 0 (by decide) wd 4 (by decide) (by omega) _ w0 (HS.ext x0)).mono ?_)
  rintro _ w1 ⟨x1, t, st, rfl, pt, qt⟩
  have qt : TSl anyB w1 st t.2 := qt.mono fun _ _ => trivial
  have kt := keep5 (W := w1) (x := t.1) (tc_one qt)
  refine ⟨kt.1, ?_⟩
  obtain ⟨w2, hw2⟩ : ∃ w2, setCells (bzW w1) w1.heap.size 0 (tc t.1 st) = w2 := ⟨_, rfl⟩
  have ct := kt.2.1
  have xt := kt.2.2
  have qt2 := qt.ext xt
  have X2 := (x0.trans x1).trans xt
  have okt : okL t.1 ∧ t.2.All okL := ⟨node_okL pt.ok.1, okF_okL _ pt.ok.2⟩
  refine ⟨tc t.1 st, rfl, ct, ?_⟩
  refine Or.inl ((spec_TermOk t.1 t.2 st _ qt2 okt.1 okt.2).mono ?_)
  rintro _ w3 ⟨rfl, x3⟩
  have ht : TOk t.1 t.2 := pt.tok (by decide)
  refine br_ndec (fun h => absurd ht h) (fun _ => ?_)
  have hvp : varsP t.1 t.2 = vsT t := varsP_yes ht
  have hwv : ∀ v ∈ vls (varsP t.1 t.2), 1 ≤ v.w ∧ v.w ≤ 16 := fun v hv => by
    rw [hvp] at hv
    obtain ⟨p, hp, rfl⟩ := List.mem_map.1 hv
    exact Dr.okT_wid pt.ok p (Dr.vs_sub ht.2.2 hp)
  have hvlen : (vls (varsP t.1 t.2)).length ≤ 100000 := by
    have := Dr.drp_few pt hw4 ht.2.2
    rw [hvp, vls_len]; omega
  have hsT := sim_tok ht
  have hsS := sim_simple ht
  have hk := sim_keeps (t := t) (tok_okT ht)
  have oks : okL (sim t).1 ∧ (sim t).2.All okL := ⟨node_okL hk.ok.1, okF_okL _ hk.ok.2⟩
  have iS := fun s w h => impl_Simplify t.1 t.2 s w h okt.1 okt.2
  rw [simp_yes ht] at iS
  have iI := fun s w h => impl_IsSimple (sim t).1 (sim t).2 s w h oks.1 oks.2
  rw [hsS] at iI
  refine ⟨tc t.1 st, rfl, ct.ext x3, ?_⟩
  refine Or.inl ((iS st _ (qt2.ext x3)).mono ?_)
  rintro _ w4 ⟨x4, ss, rfl, qs⟩
  have qs : TSl anyB w4 ss (sim t).2 := qs.any
  have ks := keep5 (W := w4) (x := (sim t).1) (tc_one qs)
  refine ⟨ks.1, ?_⟩
  have cs := ks.2.1
  have xs := ks.2.2
  have x24 := (x3.trans x4).trans xs
  have X5 := X2.trans x24
  have ct5 := ct.ext x24
  have qt5 := qt2.ext x24
  have qs5 := qs.ext xs
  have hsz1 : t.2.size + 1 ≤ 240 := ht.1
  have hsz2 : (sim t).2.size ≤ t.2.size := by
    have h1 := hk.sz
    have h2 : t.sz = t.2.size + 1 := rfl
    have h3 : (sim t).sz = (sim t).2.size + 1 := rfl
    omega
  have hnlt : ¬ ((t.2.size : Int) + 1 < ((sim t).2.size : Int) + 1) := by omega
  have hnw : ¬ ((sim t).1.w ≠ t.1.w) := fun h => h hk.w
  refine .inl ⟨by kernel_rfl, tc (sim t).1 ss, rfl, cs, .bool true, fun w' hw' => iI ss w' (qs5.ext hw'), tc (sim t).1 ss, rfl, cs, .int .i64 (((sim t).2.size : Int) + 1), fun w' hw' => impl_SizeOf (sim t).2 (sim t).1 ss w' (qs5.ext hw') (by omega), tc t.1 st, rfl, ct5, .int .i64 ((t.2.size : Int) + 1), fun w' hw' => impl_SizeOf t.2 t.1 st w' (qt5.ext hw') (by omega), ?_⟩
  repeat refine br_dec_false hnlt ?_
  refine ⟨_, cs.2.1, ?_⟩
  repeat refine br_dec_false hnlt ?_
  refine ⟨_, ct5.2.1, ?_⟩
  repeat (first | refine br_dec_false hnlt ?_ | refine br_dec_false hnw ?_)
  intro w6 x6
  repeat (first | refine br_dec_false hnlt ?_ | refine br_dec_false hnw ?_)
  refine loop_rule (σ := Nat × Value × Value × Value × Value × Value × Value × Value) [5, 6, 7, 8, 9, 10, 11, 12] 42 94 (fun q => [.int .i64 q.1, q.2.1, q.2.2.1, q.2.2.2.1, q.2.2.2.2.1, q.2.2.2.2.2.1, q.2.2.2.2.2.2.1, q.2.2.2.2.2.2.2])
    (fun q w' => Ext w6 w' ∧ q.1 ≤ 12) (fun q => 12 - q.1) (0, undef, undef, undef, undef, undef, undef, undef) rfl ⟨Ext.refl _, Nat.zero_le _⟩ ?_
  rintro ⟨k, g6, g7, g8, g9, g10, g11, g12⟩ w junk ⟨hx, hk12⟩ K hK
  simp only at hk12
  show vc _ _ _ _ (over [5, 6, 7, 8, 9, 10, 11, 12] [.int .i64 k, g6, g7, g8, g9, g10, g11, g12] _) _
  refine br_dec (fun h3 => ?_) (fun h3 => ?_)
  · have x5w := x6.trans hx
    have ct7 := ct5.ext x5w
    have cs7 := cs.ext x5w
    have qt7 := qt5.ext x5w
    have qs7 := qs5.ext x5w
    have X7 := X5.trans x5w
    refine ⟨_, IntWalk.i64_in _ (by omega), tc t.1 st, rfl, ct7, ?_⟩
    refine Or.inl ((spec_VarsOf_new t.1 t.2 st w qt7 okt.1 okt.2).mono ?_)
    rintro vl w8 ⟨x8, hvl⟩
    refine Or.inl ((values_ret L _ (60 + (k : Int)) (by omega) (vls (varsP t.1 t.2)) vl w8 (HS.ext (X7.trans x8)) hvl.sl hwv hvlen).mono ?_)
    rintro mv w9 ⟨x9, M, hM, hml⟩
    refine Exists.elim (smp_facts pt hw4 ht hM) fun a sp => ?_
    have iE := fun w' (h : Ext w9 w') => impl_EvalTerm t.1 t.2 M st mv w' (((qt7.ext x8).ext x9).ext h) okt.1 okt.2 (SlR.vsl (hml.ext h)) sp.okv
    rw [sp.et] at iE
    have iF := fun w' (h : Ext w9 w') => impl_EvalTerm (sim t).1 (sim t).2 M ss mv w' (((qs7.ext x8).ext x9).ext h) oks.1 oks.2 (SlR.vsl (hml.ext h)) sp.okv
    rw [sp.es] at iF
    have iP := fun w' (h : Ext w9 w') => impl_PutValues t.1 t.2 M st mv w' (((qt7.ext x8).ext x9).ext h) okt.1 okt.2 (SlR.vsl (hml.ext h)) sp.okv
    rw [sp.pv] at iP
    have iC := fun w' => impl_ConstTerm t.1.w a w'
    rw [sp.con] at iC
    have x89 := x8.trans x9
    refine ⟨tc t.1 st, rfl, ct7.ext x89, ?_⟩
    refine Or.inl ((iE w9 (Ext.refl _)).mono ?_)
    rintro _ wA ⟨rfl, xA⟩
    refine ⟨tc (sim t).1 ss, rfl, (cs7.ext x89).ext xA, ?_⟩
    refine Or.inl ((iF wA xA).mono ?_)
    rintro _ wB ⟨rfl, xB⟩
    have xAB := xA.trans xB
    refine ⟨tc t.1 st, rfl, (ct7.ext x89).ext xAB, ?_⟩
    refine Or.inl ((iP wB xAB).mono ?_)
    rintro _ wC ⟨v1, rfl, xC, sx, rfl, qx⟩
    have qx : TSl anyB wC sx .nil := qx.any
    obtain ⟨ax, cx, rfl, -, -⟩ := qx
    have kx := keep5 (W := wC) (x := constL t.1.w a) (s := .slice ax 0 cx) rfl
    refine ⟨kx.1, ?_⟩
    have xAC := xAB.trans xC
    have ctD := ((ct7.ext x89).ext xAC).ext kx.2.2
    have cxD := kx.2.1
    refine .inl ⟨by kernel_rfl, ?_⟩
    repeat refine br_dec_false (fun h => h rfl) ?_
    refine ⟨tc (constL t.1.w a) (.slice ax 0 cx), rfl, cxD, ?_⟩
    repeat refine br_dec_false (fun h => h rfl) ?_
    refine ⟨_, ctD.2.1, ?_⟩
    repeat refine br_dec_false (fun h => h rfl) ?_
    refine ⟨tv (constL t.1.w a) (.slice none 0 0), fun w' _ => iC w', ?_⟩
    repeat refine br_dec_false (fun h => h rfl) ?_
    refine ⟨.bool true, fun w' _ => same_leaf (constL t.1.w a) ax none cx 0 w', ?_⟩
    repeat refine br_dec_false (fun h => h rfl) ?_
    intro wE xE
    repeat refine br_dec_false (fun h => h rfl) ?_
    refine ⟨_, IntWalk.i64_in _ (by omega), ?_⟩
    refine hK (k + 1, _, _, _, _, _, _, _) _ _ (vs8 (vint (by show (k : Int) + 1 = ((k + 1 : Nat) : Int); omega)) rfl rfl rfl rfl rfl rfl rfl) ⟨(((hx.trans x89).trans xAC).trans kx.2.2).trans xE, by show k + 1 ≤ 12; omega⟩ (by show 12 - (k + 1) < 12 - k; omega) ?_
    ((repeat (first | (with_reducible exact Only.refl) | (with_reducible refine Only.skip ?_) | ((with_reducible refine Only.upd ?_ ?_); rfl) | ((with_reducible refine Only.over ?_ ?_ _); rfl) | ((with_reducible refine Only.hav ?_ ?_ ?_); rfl; rfl))))
  · exact ⟨rfl, X5.trans (x6.trans hx)⟩
theorem own : ownKnob Try.prog.godebug = none := by kernel_rfl
theorem laidOut : laidOutB Try.prog = true := by kernel_rfl
set_option maxRecDepth 100000 in
theorem lifted (os : Os) (started : os.Started) (H : Type) (enc : TypeId × Value → H) :
    ReturnsInHanded {} Try.checked os 3 .any (Rows.fnSimpleSpec.pre6 enc Try.prog Try.f3 Rows.fnSimpleRow.domain false) (Rows.fnSimpleSpec.post enc Try.prog Try.f3 false true false false) := by
  refine returnsInHanded_of_change (C := Try.checked) own started (by kernel_rfl) Try.func3
    (ChangeSpec.witness6 (enc := enc) (C := Try.checked) false ⟨#[], #[.slice none 0 0], []⟩ 8 (by kernel_rfl) (by kernel_rfl) (by kernel_rfl) (by kernel_rfl)) ?_
  intro W base args ds gs before hval0 hW hcnd _
  have hval : ∀ (j : Nat) t v, Try.f3.params[j]? = some t → args[j]? = some v → Value.okWide Try.prog W .any base t v := hval0
  have hW' := hW
  obtain ⟨p, q, hA0, hV, rfl, hfz, hnd⟩ := hW
  have hA : DataW.TrodAll enc Try.prog W 0 (fun _ => true) true Try.f3.params.toList args.toList ds p := hA0
  rw [Try.params3] at hA hval
  obtain ⟨v0, vs0, d0, ds0, p0, q0, hargs, rfl, rfl, h0, r0⟩ := trodAll_cons hA
  obtain ⟨rfl, rfl, rfl⟩ := trodAll_nil r0
  obtain rfl : args = #[v0] := by cases args; simp_all
  obtain ⟨rfl, rfl⟩ := trodVars_none hV
  have k0 := h0
  have lt0 : ∀ x ∈ p0, x.block < W.heap.size := by obtain ⟨m, hm⟩ := k0; exact DataW.trod_lt m _ _ _ hm
  obtain ⟨L0, HS0⟩ := open_Bytes (hval 0 22 v0 rfl rfl) h0
  clear hA0 hval0
  refine (walk W L0 v0 HS0).calls.mono fun e W' ⟨v, he, hv, bel⟩ => ?_
  subst hv
  subst he
  exact ⟨_, rfl, _, _, _, [], _, [], hW', trodAll_mk1 (shut_bool Try.underlying4 _), (trodAll_cons_mk (Below.trod laidOut (by kernel_rfl) (of_decide_eq_true (by kernel_rfl)) k0 bel lt0) trodAll_mk0), rfl, bel.frame _, fun h => by cases h⟩
theorem band {a b : Bool} (h1 : a = true) (h2 : b = true) : (a && b) = true := by rw [h1, h2]; rfl
theorem lifted_ok : (Rows.fnSimpleRow.lifted == Try.pinned.checked.prog.liftsFinal) = true := by rw [head_final]; rfl
theorem make_ok : (Try.pinned.checked.prog.make == some Rows.fnSimpleRow.make) = true := by rw [head_make]; rfl
set_option maxHeartbeats 4000000 in
theorem closed : joinedFacts Try.pinned.checked.prog 3 Try.f3 Rows.fnSimpleSpec Rows.fnSimpleRow = true := by
  unfold joinedFacts
  repeat' (with_reducible refine band ?_ ?_)
  all_goals (first | with_reducible exact head_enter | with_reducible exact lifted_ok | with_reducible exact make_ok | (as_aux_lemma => kernel_rfl))
theorem holds : Rows.fnSimpleRow.holds Try.pinned (OpenSpec.ofChange Rows.fnSimpleSpec) :=
  OpenClaim.holds_of_wide 3 Try.f3 rfl rfl rfl rfl rfl rfl rfl ⟨rfl, rfl, rfl, rfl, rfl⟩ rfl rfl rfl rfl rfl (by as_aux_lemma => kernel_rfl) Try.func3 closed
    (of_decide_eq_true (by as_aux_lemma => kernel_rfl)) (by unfold Func.isWrapper; first | (rw [if_pos (by decide +kernel)]; kernel_rfl) | (rw [if_neg (by decide +kernel)]; exact ⟨rfl, rfl⟩))
    (fun os started H enc _ => lifted os started H enc)
/-- The statement. -/
theorem proved : Rows.FnSimpleSaid := holds
#print axioms proved
end Go.Proofs.Ytekddgkgeaolnaa.lawFnSimple
