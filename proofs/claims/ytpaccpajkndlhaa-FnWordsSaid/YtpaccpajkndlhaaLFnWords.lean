/- The law FnWords: whatever the bytes, it returns true; all that was there is as it was. No condition. -/
import Derived.Test.YtpaccpajkndlhaaWb
import Derived.Test.YtpaccpajkndlhaaDa
import Derived.Test.YtpaccpajkndlhaaZw
import Derived.WalkKit
import Derived.ProofKit
import Derived.OpenShut
import Derived.ShutString
import Derived.ChangeOld
import Derived.Below
namespace Go.Proofs.Ytpaccpajkndlhaa.lawFnWords
open Go Go.Vc Go.ChangeShapes Go.WideShapes Go.ChangeAt Go.RowKit Go.Proofs.Ytpaccpajkndlhaa.Dr
set_option linter.unusedVariables false

set_option maxRecDepth 200000 in
set_option maxHeartbeats 4000000 in
theorem walk (W : World) (L : List Int) (v0 : Value) (HS : SlR eU allB W v0 L) : Ret Try.prog 8 #[v0] W (fun v w' => v = .bool true ∧ Ext W w') := by
  have hlm : (maxLen : Int) ≤ 9223372036854775807 := by decide
  obtain ⟨a0, cp, rfl, hlc, hcm, hat⟩ := id HS
  refine ret_of_vc ties mixed Try.func8 rfl (by kernel_rfl) rfl rfl ?_
  refine br_dec (fun h => ⟨rfl, Ext.refl _⟩) (fun _ => ?_)
  refine Or.inl ((size_ret L 0 2 12 (by decide) (by decide) _ W HS).mono ?_)
  rintro _ w1 ⟨⟨kw, rfl, hk2, hk12⟩, x1⟩
  obtain ⟨k, rfl⟩ : ∃ k : Nat, kw = k := ⟨kw.toNat, by omega⟩
  refine Or.inl ((num_ret L 2 (by decide) _ w1 (HS.ext x1)).mono ?_)
  rintro _ w2 ⟨⟨xa, rfl, -, -⟩, x2⟩
  have x12 := x1.trans x2
  have hA := spec_WordOf k xa w2
  have haw : wOk k (wOf k xa) = true := by rw [wOf_mod (by omega) (by omega)]; exact mod_word (by omega) (by omega) _
  generalize wOf k xa = a at hA haw
  refine Or.inl ((hA).mono ?_)
  rintro _ w2 ⟨rfl, rfl⟩
  refine Or.inl ((num_ret L 4 (by decide) _ w2 (HS.ext x12)).mono ?_)
  rintro _ w3 ⟨⟨xb, rfl, -, -⟩, x3⟩
  have x13 := x12.trans x3
  have hB := spec_WordOf k xb w3
  have hbw : wOk k (wOf k xb) = true := by rw [wOf_mod (by omega) (by omega)]; exact mod_word (by omega) (by omega) _
  generalize wOf k xb = b at hB hbw
  refine Or.inl ((hB).mono ?_)
  rintro _ w3 ⟨rfl, rfl⟩
  refine ⟨_, IntWalk.i64_in _ (by omega), ?_⟩
  refine Or.inl ((size_ret L 6 1 ((k : Int) - 1) (by decide) (by omega) _ w3 (HS.ext x13)).mono ?_)
  rintro _ w4 ⟨⟨nn, rfl, hn1, hnk⟩, x4⟩
  obtain ⟨n, rfl⟩ : ∃ n : Nat, nn = n := ⟨nn.toNat, by omega⟩
  have x14 := x13.trans x4
  have ha := wOkN.1 haw
  have hb := wOkN.1 hbw
  refine ⟨_, IntWalk.i64_in _ (by omega), _, IntWalk.i64_in _ (by omega), ?_⟩
  refine Or.inl ((impl_CutWord k a n ((k : Int) - n) (by omega) w4).mono ?_)
  rintro _ w4 ⟨rfl, rfl⟩
  refine Or.inl ((impl_CutWord k a 0 n (by omega) w4).mono ?_)
  rintro _ w4 ⟨rfl, rfl⟩
  have hJ := impl_JoinWords ((k : Int) - n) (cW k a n ((k : Int) - n)) n (cW k a 0 n) w4
  rw [join_cut haw (by omega)] at hJ
  refine Or.inl ((hJ).mono ?_)
  rintro _ w4 ⟨rfl, rfl⟩
  refine br_dec_false (fun h => h rfl) ?_
  refine ⟨_, IntWalk.i64_in _ (by omega), ?_⟩
  have hWi := impl_WidenWord k a ((k : Int) + 2) false w4
  rw [widen_same haw (by omega)] at hWi
  refine Or.inl ((hWi).mono ?_)
  rintro _ w4 ⟨rfl, rfl⟩
  refine br_dec_false (fun h => h rfl) ?_
  refine ⟨_, IntWalk.i64_in _ (by omega), _, IntWalk.i64_in _ (by omega), ?_⟩
  refine Or.inl ((impl_WidenWord k a ((k : Int) + 3) true w4).mono ?_)
  rintro _ w4 ⟨rfl, rfl⟩
  have hS := impl_SignedOf ((k : Int) + 3) (wiW k a ((k : Int) + 3) true) w4
  rw [widen_sign haw (by omega)] at hS
  refine Or.inl ((hS).mono ?_)
  rintro _ w4 ⟨rfl, rfl⟩
  refine Or.inl ((impl_SignedOf k a w4).mono ?_)
  rintro _ w4 ⟨rfl, rfl⟩
  refine br_dec_false (fun h => h rfl) ?_
  refine Or.inl ((impl_ApplyBinary 6 k a b w4).mono ?_)
  rintro _ w4 ⟨rfl, rfl⟩
  refine Or.inl ((impl_ApplyBinary 7 k a b w4).mono ?_)
  rintro _ w4 ⟨rfl, rfl⟩
  refine Or.inl ((impl_ApplyBinary 5 k (bW 6 k a b) b w4).mono ?_)
  rintro _ w4 ⟨rfl, rfl⟩
  have hq := quo_rem haw hbw
  have hQ := impl_ApplyBinary 3 k (bW 5 k (bW 6 k a b) b) (bW 7 k a b) w4
  rw [hq.1] at hQ
  refine Or.inl ((hQ).mono ?_)
  rintro _ w4 ⟨rfl, rfl⟩
  refine br_dec_false (fun h => h rfl) ?_
  have hq2 := hq.2
  refine br_dec (fun h0 => ?pos) (fun h0 => ?zero)
  case' pos => refine br_dec_false (show ¬ b ≤ bW 7 k a b by have := hq2 h0; omega) ?_
  all_goals
    as_aux_lemma =>
      refine Or.inl ((impl_ApplyUnary 2 k b w4).mono ?_)
      rintro _ w4 ⟨rfl, rfl⟩
      have hN := impl_ApplyBinary 3 k a (uW 2 k b) w4
      rw [← sub_neg haw hbw] at hN
      refine Or.inl ((hN).mono ?_)
      rintro _ w4 ⟨rfl, rfl⟩
      refine Or.inl ((impl_ApplyBinary 4 k a b w4).mono ?_)
      rintro _ w4 ⟨rfl, rfl⟩
      refine br_dec_false (fun h => h rfl) ?_
      refine Or.inl ((impl_ApplyUnary 1 k a w4).mono ?_)
      rintro _ w4 ⟨rfl, rfl⟩
      have hN := impl_ApplyUnary 1 k (uW 1 k a) w4
      rw [not_not_word haw] at hN
      refine Or.inl ((hN).mono ?_)
      rintro _ w4 ⟨rfl, rfl⟩
      refine br_dec_false (fun h => h rfl) ?_
      have hh := half_word (k := k) (by omega) (by omega)
      have hp := pow16n (k - 1) (by omega)
      refine ⟨_, IntWalk.i64_in _ (by omega), by omega, 2 ^ (k - 1), ?_, ?_⟩
      · exact (shl1 (w := (k : Int) - 1) (by omega) (by omega)).trans (by rw [show ((k : Int) - 1).toNat = k - 1 by omega])
      have hH := spec_WordOf k (2 ^ (k - 1)) w4
      rw [hh.1] at hH
      refine Or.inl ((hH).mono ?_)
      rintro _ w4 ⟨rfl, rfl⟩
      refine Or.inl ((impl_ApplyBinary 10 k a (2 ^ (k - 1)) w4).mono ?_)
      rintro _ w4 ⟨rfl, rfl⟩
      refine Or.inl ((impl_ApplyBinary 10 k b (2 ^ (k - 1)) w4).mono ?_)
      rintro _ w4 ⟨rfl, rfl⟩
      have hnw : wOf k n = n := by
        rw [wOf_mod (by omega) (by omega)]
        refine Int.emod_eq_of_lt (by omega) ?_
        have : n < 2 ^ n := Nat.lt_two_pow_self
        have h2 : 2 ^ n ≤ 2 ^ k := Nat.pow_le_pow_right (by decide) (by omega)
        have hc := pow_cast k
        omega
      have hW1 := spec_WordOf k n w4
      rw [hnw] at hW1
      refine Or.inl ((hW1).mono ?_)
      rintro _ w4 ⟨rfl, rfl⟩
      refine Or.inl ((impl_ApplyBinary 11 k a n w4).mono ?_)
      rintro _ w4 ⟨rfl, rfl⟩
      refine Or.inl ((hW1).mono ?_)
      rintro _ w4 ⟨rfl, rfl⟩
      have hK := impl_ApplyBinary 12 k (bW 11 k a n) n w4
      rw [back_cut haw (by omega)] at hK
      refine Or.inl ((hK).mono ?_)
      rintro _ w4 ⟨rfl, rfl⟩
      have hL := impl_ApplyBinary 16 k a b w4
      rw [below_less (by omega) haw hbw] at hL
      refine Or.inl ((hL).mono ?_)
      rintro _ w4 ⟨rfl, rfl⟩
      refine Or.inl ((impl_ApplyBinary 15 k _ _ w4).mono ?_)
      rintro _ w4 ⟨rfl, rfl⟩
      refine br_dec_true rfl ?_
      refine Or.inl ((hW1).mono ?_)
      rintro _ w4 ⟨rfl, rfl⟩
      refine br_dec_false (fun h => h rfl) ?_
      refine ⟨_, IntWalk.i64_in _ (by omega), ?_⟩
      refine Or.inl ((impl_CutWord k a 0 ((k : Int) - n) (by omega) w4).mono ?_)
      rintro _ w4 ⟨rfl, rfl⟩
      exact ⟨vbool (by simp), x14⟩
theorem own : ownKnob Try.prog.godebug = none := by kernel_rfl
theorem laidOut : laidOutB Try.prog = true := by kernel_rfl
set_option maxRecDepth 100000 in
theorem lifted (os : Os) (started : os.Started) (H : Type) (enc : TypeId × Value → H) :
    ReturnsInHanded {} Try.checked os 8 .any (Rows.fnWordsSpec.pre6 enc Try.prog Try.f8 Rows.fnWordsRow.domain false) (Rows.fnWordsSpec.post enc Try.prog Try.f8 false true false false) := by
  refine returnsInHanded_of_change (C := Try.checked) own started (by kernel_rfl) Try.func8
    (ChangeSpec.witness6 (enc := enc) (C := Try.checked) false ⟨#[], #[.slice none 0 0], []⟩ 8 (by kernel_rfl) (by kernel_rfl) (by kernel_rfl) (by kernel_rfl)) ?_
  intro W base args ds gs before hval0 hW hcnd _
  have hval : ∀ (j : Nat) t v, Try.f8.params[j]? = some t → args[j]? = some v → Value.okWide Try.prog W .any base t v := hval0
  have hW' := hW
  obtain ⟨p, q, hA0, hV, rfl, hfz, hnd⟩ := hW
  have hA : DataW.TrodAll enc Try.prog W 0 (fun _ => true) true Try.f8.params.toList args.toList ds p := hA0
  rw [Try.params8] at hA hval
  obtain ⟨v0, vs0, d0, ds0, p0, q0, hargs, rfl, rfl, h0, r0⟩ := trodAll_cons hA
  obtain ⟨rfl, rfl, rfl⟩ := trodAll_nil r0
  obtain rfl : args = #[v0] := by cases args; simp_all
  obtain ⟨rfl, rfl⟩ := trodVars_none hV
  have k0 := h0
  have lt0 : ∀ x ∈ p0, x.block < W.heap.size := by obtain ⟨m, hm⟩ := k0; exact DataW.trod_lt m _ _ _ hm
  obtain ⟨L0, HS0⟩ := open_Bytes (hval 0 51 v0 rfl rfl) h0
  clear hA0 hval0
  refine (walk W L0 v0 HS0).calls.mono fun e W' ⟨v, he, hv, bel⟩ => ?_
  subst hv
  subst he
  exact ⟨_, rfl, _, _, _, [], _, [], hW', trodAll_mk1 (shut_bool Try.underlying4 _), (trodAll_cons_mk (Below.trod laidOut (by kernel_rfl) (of_decide_eq_true (by kernel_rfl)) k0 bel lt0) trodAll_mk0), rfl, bel.frame _, fun h => by cases h⟩
theorem band {a b : Bool} (h1 : a = true) (h2 : b = true) : (a && b) = true := by rw [h1, h2]; rfl
theorem lifted_ok : (Rows.fnWordsRow.lifted == Try.pinned.checked.prog.liftsFinal) = true := by rw [head_final]; rfl
theorem make_ok : (Try.pinned.checked.prog.make == some Rows.fnWordsRow.make) = true := by rw [head_make]; rfl
set_option maxHeartbeats 4000000 in
theorem closed : joinedFacts Try.pinned.checked.prog 8 Try.f8 Rows.fnWordsSpec Rows.fnWordsRow = true := by
  unfold joinedFacts
  repeat' (with_reducible refine band ?_ ?_)
  all_goals (first | with_reducible exact head_enter | with_reducible exact lifted_ok | with_reducible exact make_ok | (as_aux_lemma => kernel_rfl))
theorem holds : Rows.fnWordsRow.holds Try.pinned (OpenSpec.ofChange Rows.fnWordsSpec) :=
  OpenClaim.holds_of_wide 8 Try.f8 rfl rfl rfl rfl rfl rfl rfl ⟨rfl, rfl, rfl, rfl, rfl⟩ rfl rfl rfl rfl rfl (by as_aux_lemma => kernel_rfl) Try.func8 closed
    (of_decide_eq_true (by as_aux_lemma => kernel_rfl)) (by unfold Func.isWrapper; first | (rw [if_pos (by decide +kernel)]; kernel_rfl) | (rw [if_neg (by decide +kernel)]; exact ⟨rfl, rfl⟩))
    (fun os started H enc _ => lifted os started H enc)
/-- The statement. -/
theorem proved : Rows.FnWordsSaid := holds
#print axioms proved
end Go.Proofs.Ytpaccpajkndlhaa.lawFnWords
