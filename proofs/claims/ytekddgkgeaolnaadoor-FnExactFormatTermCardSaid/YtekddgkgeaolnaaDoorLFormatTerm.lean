/- The law FnExactFormatTerm: whatever the argument, it returns true; all that was there is as it was. Condition: the tables of the library that the row lists stand as the program's text lays them. -/
import Derived.Test.YtekddgkgeaolnaaDoorGz
import Derived.Test.YtekddgkgeaolnaaDoorGt
import Derived.Test.YtekddgkgeaolnaaDoorTo
import Derived.Test.YtekddgkgeaolnaaDoorCards
import Derived.Test.YtekddgkgeaolnaaDoorTie
import Derived.SevenTiedAt
import Derived.WalkKit
import Derived.ProofKit
import Derived.OpenShut
import Derived.ShutString
import Derived.ChangeOld
import Derived.Below
import Derived.LaidMore
import Derived.Stop.Joined
namespace Go.Proofs.YtekddgkgeaolnaaDoor.lawFnExactFormatTerm
open Go Go.Vc Go.ChangeShapes Go.WideShapes Go.ChangeAt Go.RowKit
set_option linter.unusedVariables false

abbrev laidL : List (String × DataW Unit) := [("math/bits.deBruijn32tab", Rows.laid_math_bits_deBruijn32tab), ("math/bits.deBruijn64tab", Rows.laid_math_bits_deBruijn64tab), ("internal/strconv.uint64pow10", Rows.laid_internal_strconv_uint64pow10)]
set_option maxHeartbeats 4000000 in
theorem walk (W : World) (x : Lab) (s : Value) (f : TF) (hs : TSl anyB W s f) (hp : f.All okL) (hx : okL x) (hL : laidMetH Tryd.prog laidL W) (hSh : W.ShapedOpen Tryd.prog) :
    Ret Tryd.prog 8 #[tv x s] W (fun v w' => v = .bool true ∧ Ext W w') := by
  have htab : TabP W := tabP_of (by kernel_rfl) hL (.tail _ (.tail _ (.head _)))
  refine ret_of_vc ties mixed Tryd.func8 rfl (by kernel_rfl) rfl rfl ?_
  have x1 : Ext W (W.alloc (.cells (tc x s).toArray 45)) := Ext.new _ _
  have hb := boxedAll W (tc x s) 45
  refine ⟨tc x s, rfl, hb, ?_⟩
  refine Or.inl ((szTerm_ret f x s 1048576 _ (hs.ext x1) hx hp (by decide) (by decide)).mono ?_)
  rintro _ w2 ⟨x2, rfl | ⟨hsz, rfl⟩⟩
  · exact ⟨rfl, x1.trans x2⟩
  refine br_dec_false (by omega) ?_
  have hfw := size_wt f
  have hsz : f.size ≤ 1048576 := by omega
  have x02 := x1.trans x2
  replace hb := hb.ext x2
  replace hs := hs.ext x02
  refine ⟨tc x s, rfl, hb, ?_⟩
  refine Or.inl ((toTerm_ret f x s w2 hs hsz).mono ?_)
  rintro _ w3 ⟨x3, s3, rfl, hs3⟩
  refine Or.inl ((spec_FormatTerm x f s3 w3 (hs3.mono fun _ _ => trivial) hx hp).mono ?_)
  rintro _ w4 ⟨rfl, x4⟩
  have x24 := x3.trans x4
  refine ⟨tc x s, rfl, hb.ext x24, ?_⟩
  refine Or.inl ((toTerm_ret f x s w4 (hs.ext x24) hsz).mono ?_)
  rintro _ w5 ⟨x5, s5, rfl, hs5⟩
  obtain ⟨f6, c6, x6⟩ := keep5 (W := w5) (x := x) (tc_one hs5)
  refine ⟨f6, ?_⟩
  replace hs5 := hs5.ext x6
  refine ⟨tc x s5, rfl, c6, ?_⟩
  refine Or.inl ((Bu.impl_FormatTerm x f s5 _ (hs5.mono fun _ _ => trivial) hx hp (Lib.tabBelow_of_tabIs htab _ (x02.trans ((x24.trans x5).trans x6)))).mono ?_)
  rintro _ w7 ⟨rfl, x7⟩
  refine br_dec_false (fun h => h rfl) ?_
  have x27 := ((x24.trans x5).trans x6).trans x7
  refine .inr (.inr (hyb_rule ties mixed [(0, .quiet), (1, .quiet), (2, .loud), (3, .quiet), (4, .quiet)] (by kernel_rfl) ?_))
  refine ⟨tc x s5, rfl, c6.ext x7, tc x s, rfl, hb.ext x27, ?_⟩
  intro w8 x8
  refine Or.inl ((toTerm_ret f x s w8 (hs.ext (x27.trans x8)) hsz).mono ?_)
  rintro _ w9 ⟨x9, s9, rfl, hs9⟩
  have x79 := (x7.trans x8).trans x9
  refine ⟨x9, .bool true, fun w' hw' => (eqTerm_ret f f x x s5 s9 _ ((hs5.ext (x79.trans hw')).mono fun _ _ => trivial) ((hs9.ext hw').mono fun _ _ => trivial)).mono ?_, ?_⟩
  · rintro _ w'' ⟨rfl, h⟩
    exact ⟨by simp, h⟩
  intro w10 x10
  exact ⟨rfl, x02.trans (((x27.trans x8).trans x9).trans x10)⟩
theorem own : ownKnob Tryd.prog.godebug = none := by kernel_rfl
theorem laidOut : laidOutB Tryd.prog = true := by kernel_rfl
noncomputable def start (os : Os) : World := World.doorLaid Tryd.prog 4000 os
theorem door_met (os : Os) (args : Array Value) : laidMetH Tryd.prog laidL ((start os).forCall (fun _ _ => 0) ⟨#[], args, []⟩).memory :=
  laidMetH_of_parts3 (fuel := 8) (laidMet_of_run' 8 (by kernel_rfl) (by kernel_rfl)) (by kernel_rfl) (by kernel_rfl)
set_option maxRecDepth 100000 in
theorem lifted (os : Os) (started : os.Started) (H : Type) (enc : TypeId × Value → H) :
    ReturnsInHanded {} Tryd.checked os 8 .any (fun w args => (Rows.fnExactFormatTermSpec.pre enc Tryd.prog Tryd.f8 [] false w args ∧ laidMetH Tryd.prog laidL w) ∧ sizedMet enc Tryd.prog Tryd.f8 (OpenSpec.ofChange Rows.fnExactFormatTermSpec) false w args) (Rows.fnExactFormatTermSpec.post enc Tryd.prog Tryd.f8 false true false false) := by
  refine handed_tied (C := Tryd.checked) (X := fun w _ => laidMetH Tryd.prog laidL w) (fun _ _ _ hh h => h.of_heap hh) own started (by kernel_rfl) Tryd.func8
    (ChangeSpec.witness_shaped (enc := enc) (C := Tryd.checked) (os := os) (X := fun w _ => laidMetH Tryd.prog laidL w) false (start os) #[.agg #[.int .i64 0, .int .i64 0, .int .i64 0, .string ByteArray.empty, .slice none 0 0]] 8 rfl (World.shaped_of_RefB (by kernel_rfl) (by kernel_rfl)) (by kernel_rfl) (by kernel_rfl) (by kernel_rfl) (door_met os _)) ?_
  intro W base args ds gs before hval0 hW hL hSh
  have hval : ∀ (j : Nat) t v, Tryd.f8.params[j]? = some t → args[j]? = some v → Value.okWide Tryd.prog W .any base t v := hval0
  have hW' := hW
  obtain ⟨p, q, hA0, hV, rfl, hfz, hnd⟩ := hW
  have hA : DataW.TrodAll enc Tryd.prog W 0 (fun _ => true) true Tryd.f8.params.toList args.toList ds p := hA0
  rw [Tryd.params8] at hA hval
  obtain ⟨v0, vs0, d0, ds0, p0, q0, hargs, rfl, rfl, h0, r0⟩ := trodAll_cons hA
  obtain ⟨rfl, rfl, rfl⟩ := trodAll_nil r0
  obtain rfl : args = #[v0] := by cases args; simp_all
  obtain ⟨rfl, rfl⟩ := trodVars_none hV
  have k0 := h0
  have lt0 : ∀ x ∈ p0, x.block < W.heap.size := by obtain ⟨m, hm⟩ := k0; exact DataW.trod_lt m _ _ _ hm
  obtain ⟨X0, S0, F0, rfl, HS0, HP0, HX0⟩ := open_Term (hval 0 45 v0 rfl rfl) h0
  clear hA0 hval0
  refine (walk W X0 S0 F0 HS0 HP0 HX0 hL hSh).calls.mono fun e W' ⟨v, he, hv, bel⟩ => ?_
  subst hv
  subst he
  exact ⟨_, rfl, _, _, _, [], _, [], hW', trodAll_mk1 (shut_bool Tryd.underlying4 _), (trodAll_cons_mk (Below.trod laidOut (by kernel_rfl) (of_decide_eq_true (by kernel_rfl)) k0 bel lt0) trodAll_mk0), rfl, bel.frame _, fun h => by cases h⟩
theorem holds : Rows.FnExactFormatTermSaid :=
  OpenClaim.holds_of_wide 8 Tryd.f8 rfl rfl rfl rfl rfl rfl rfl ⟨rfl, rfl, rfl, rfl, rfl⟩ rfl rfl rfl rfl rfl (by kernel_rfl) Tryd.func8 (by kernel_rfl)
    (of_decide_eq_true (by kernel_rfl)) (by unfold Func.isWrapper; first | (rw [if_pos (by decide +kernel)]; kernel_rfl) | (rw [if_neg (by decide +kernel)]; exact ⟨rfl, rfl⟩))
    (fun os started H enc _ => lifted os started H enc)
/-- The card. -/
theorem proved : Rows.FnExactFormatTermCardSaid :=
  Claim7.holds_tied_plain_at .later [] [.data, .data, .data] true (true, "570721f42c3e63e2d4371eec6bea2af7ddab7e04007f6f317749b110b40c3c16") true
    holds (fun _ h => by cases h) (by kernel_rfl) (fun _ h => by cases h) fnExactFormatTerm_row_tie rfl ⟨rfl, rfl⟩ (by kernel_rfl) rfl
    (fun f fn hf hfn => by
      obtain rfl : f = 8 := Option.some.inj ((show Tryd.prog.funcNamed "loop.example/g03219/laws.FnExactFormatTerm" = some 8 by kernel_rfl).symm.trans hf) |>.symm
      obtain rfl : fn = Tryd.f8 := (Option.some.inj (Tryd.func8.symm.trans hfn)).symm
      exact ⟨by kernel_rfl, fun j t ht => by
        rw [Tryd.params8] at ht
        have hm : t ∈ [45] := by simpa using Array.mem_of_getElem? ht
        have hall : ([45].all fun u => !Tryd.prog.wantsStandIn u) = true := by kernel_rfl
        exact (show Tryd.prog.wantsStandIn t = false by simpa using List.all_eq_true.1 hall t hm)⟩)
    (by kernel_rfl)
#print axioms proved
end Go.Proofs.YtekddgkgeaolnaaDoor.lawFnExactFormatTerm
