/- The law FnExactFormatFormula: whatever the argument, it returns true; all that was there is as it was. Condition: the tables of the library that the row lists stand as the program's text lays them. -/
import Derived.Test.YtekddgkgeaolnaaDoorGv
import Derived.Test.YtekddgkgeaolnaaDoorGt
import Derived.Test.YtekddgkgeaolnaaDoorIo
import Derived.Test.YtekddgkgeaolnaaDoorCards
import Derived.Test.YtekddgkgeaolnaaDoorTie
import Derived.SevenTiedAt
import Derived.WalkKit
import Derived.ProofKit
import Derived.OpenShut
import Derived.ShutString
import Derived.ChangeOld
import Derived.Below
import Derived.LaidMore
import Derived.Stop.Joined
namespace Go.Proofs.YtekddgkgeaolnaaDoor.lawFnExactFormatFormula
open Go Go.Vc Go.ChangeShapes Go.WideShapes Go.ChangeAt Go.RowKit Go.Sat
set_option linter.unusedVariables false

abbrev laidL : List (String × DataW Unit) := [("math/bits.deBruijn32tab", Rows.laid_math_bits_deBruijn32tab), ("math/bits.deBruijn64tab", Rows.laid_math_bits_deBruijn64tab), ("internal/strconv.uint64pow10", Rows.laid_internal_strconv_uint64pow10)]
theorem walk (W : World) (n : Int) (s : Value) (F : List (List Int)) (hs : SlR eL allB W s F) (hn : inI n) (hL : laidMetH Tryd.prog laidL W) (hSh : W.ShapedOpen Tryd.prog) : Ret Tryd.prog 6 #[fv n s] W (fun v w' => v = .bool true ∧ Ext W w') := by
  have htab : TabP W := tabP_of (by kernel_rfl) hL (.tail _ (.tail _ (.head _)))
  refine ret_of_vc ties mixed Tryd.func6 rfl (by kernel_rfl) rfl rfl ?_
  have hb := boxedAll W [.int .i64 n, s] 34
  have x1 : Ext W (W.alloc (.cells [.int .i64 n, s].toArray 34)) := Ext.new _ _
  refine ⟨[.int .i64 n, s], rfl, hb, ?_⟩
  refine Or.inl ((szFormula_ret n F s 1048576 _ (hs.ext x1) (by decide) (by decide)).mono ?_)
  rintro _ w2 ⟨x2, rfl | ⟨hsz, rfl⟩⟩
  · exact ⟨rfl, x1.trans x2⟩
  refine br_dec_false (by omega) ?_
  have hsz : F.length + tot F ≤ 1048576 := by omega
  refine ⟨[.int .i64 n, s], rfl, hb.ext x2, ?_⟩
  refine Or.inl ((toFormula_ret n F s _ (hs.ext (x1.trans x2)) hsz).mono ?_)
  rintro _ w3 ⟨x3, s3, rfl, hs3, _⟩
  have hs3 := hs3.all
  refine Or.inl ((Bu.spec_FormatFormula n F s3 _ hs3 hsz).mono ?_)
  rintro _ w4 ⟨rfl, x4⟩
  refine ⟨[.int .i64 n, s], rfl, hb.ext ((x2.trans x3).trans x4), ?_⟩
  refine Or.inl ((toFormula_ret n F s _ (hs.ext (((x1.trans x2).trans x3).trans x4)) hsz).mono ?_)
  rintro _ w5 ⟨x5, s5, rfl, hs5, _⟩
  have hs5 := hs5.all
  have r6 := Rmy.new w5 [.int .i64 0, .slice none 0 0] 37
  refine ⟨r6.all [.int .i64 n, s5] 0 (Nat.le_refl 2) (by simp only [List.all_cons, hs5.oneB]; rfl), ?_⟩
  have x6 : Ext w5 (setCells (w5.alloc (.cells #[.int .i64 0, .slice none 0 0] 37)) w5.heap.size 0 [.int .i64 n, s5]) := Ext.setCells _ (Ext.new _ _) (Nat.le_refl _)
  have hc6 := setCells_at [.int .i64 n, s5] _ 0 2 r6 (Nat.le_refl 2)
  refine ⟨[.int .i64 n, s5], rfl, hc6, ?_⟩
  have x06 := ((((x1.trans x2).trans x3).trans x4).trans x5).trans x6
  refine Or.inl ((Bu.impl_FormatFormula n F s5 _ (hs5.ext x6) hsz (Lib.tabBelow_of_tabIs htab _ x06)).mono ?_)
  rintro _ w7 ⟨rfl, x7⟩
  refine br_dec_false (fun h => h rfl) ?_
  have xa := (((((x2.trans x3).trans x4).trans x5).trans x6).trans x7)
  refine .inr (.inr (hyb_rule ties mixed [(0, .quiet), (1, .quiet), (2, .loud), (3, .quiet), (4, .quiet)] (by kernel_rfl) ?_))
  refine ⟨[.int .i64 n, s5], rfl, hc6.ext x7, [.int .i64 n, s], rfl, hb.ext xa, ?_⟩
  intro w8 x8
  refine Or.inl ((toFormula_ret n F s _ (hs.ext ((x1.trans xa).trans x8)) hsz).mono ?_)
  rintro _ w9 ⟨x9, s9, rfl, hs9, _⟩
  have hs9 := hs9.all
  refine ⟨x9, .bool true, fun w' hw' => (eqFormula_ret n n F F s5 s9 _ (hs5.ext (((x6.trans (x7.trans x8)).trans x9).trans hw')) (hs9.ext hw')).mono ?_, ?_⟩
  · rintro _ w'' ⟨rfl, h⟩
    exact ⟨by simp, h⟩
  intro w10 x10
  exact ⟨rfl, (((x1.trans xa).trans x8).trans x9).trans x10⟩
theorem own : ownKnob Tryd.prog.godebug = none := by kernel_rfl
theorem laidOut : laidOutB Tryd.prog = true := by kernel_rfl
noncomputable def start (os : Os) : World := World.doorLaid Tryd.prog 4000 os
theorem door_met (os : Os) (args : Array Value) : laidMetH Tryd.prog laidL ((start os).forCall (fun _ _ => 0) ⟨#[], args, []⟩).memory :=
  laidMetH_of_parts3 (fuel := 8) (laidMet_of_run' 8 (by kernel_rfl) (by kernel_rfl)) (by kernel_rfl) (by kernel_rfl)
set_option maxRecDepth 100000 in
theorem lifted (os : Os) (started : os.Started) (H : Type) (enc : TypeId × Value → H) :
    ReturnsInHanded {} Tryd.checked os 6 .any (fun w args => (Rows.fnExactFormatFormulaSpec.pre enc Tryd.prog Tryd.f6 [] false w args ∧ laidMetH Tryd.prog laidL w) ∧ sizedMet enc Tryd.prog Tryd.f6 (OpenSpec.ofChange Rows.fnExactFormatFormulaSpec) false w args) (Rows.fnExactFormatFormulaSpec.post enc Tryd.prog Tryd.f6 false true false false) := by
  refine handed_tied (C := Tryd.checked) (X := fun w _ => laidMetH Tryd.prog laidL w) (fun _ _ _ hh h => h.of_heap hh) own started (by kernel_rfl) Tryd.func6
    (ChangeSpec.witness_shaped (enc := enc) (C := Tryd.checked) (os := os) (X := fun w _ => laidMetH Tryd.prog laidL w) false (start os) #[.agg #[.int .i64 0, .slice none 0 0]] 8 rfl (World.shaped_of_RefB (by kernel_rfl) (by kernel_rfl)) (by kernel_rfl) (by kernel_rfl) (by kernel_rfl) (door_met os _)) ?_
  intro W base args ds gs before hval0 hW hL hSh
  have hval : ∀ (j : Nat) t v, Tryd.f6.params[j]? = some t → args[j]? = some v → Value.okWide Tryd.prog W .any base t v := hval0
  have hW' := hW
  obtain ⟨p, q, hA0, hV, rfl, hfz, hnd⟩ := hW
  have hA : DataW.TrodAll enc Tryd.prog W 0 (fun _ => true) true Tryd.f6.params.toList args.toList ds p := hA0
  rw [Tryd.params6] at hA hval
  obtain ⟨v0, vs0, d0, ds0, p0, q0, hargs, rfl, rfl, h0, r0⟩ := trodAll_cons hA
  obtain ⟨rfl, rfl, rfl⟩ := trodAll_nil r0
  obtain rfl : args = #[v0] := by cases args; simp_all
  obtain ⟨rfl, rfl⟩ := trodVars_none hV
  have k0 := h0
  have lt0 : ∀ x ∈ p0, x.block < W.heap.size := by obtain ⟨m, hm⟩ := k0; exact DataW.trod_lt m _ _ _ hm
  obtain ⟨N0, S0, F0, rfl, HS0, HN0⟩ := open_Formula (hval 0 34 v0 rfl rfl) h0
  clear hA0 hval0
  refine (walk W N0 S0 F0 HS0 HN0 hL hSh).calls.mono fun e W' ⟨v, he, hv, bel⟩ => ?_
  subst hv
  subst he
  exact ⟨_, rfl, _, _, _, [], _, [], hW', trodAll_mk1 (shut_bool Tryd.underlying4 _), (trodAll_cons_mk (Below.trod laidOut (by kernel_rfl) (of_decide_eq_true (by kernel_rfl)) k0 bel lt0) trodAll_mk0), rfl, bel.frame _, fun h => by cases h⟩
theorem holds : Rows.FnExactFormatFormulaSaid :=
  OpenClaim.holds_of_wide 6 Tryd.f6 rfl rfl rfl rfl rfl rfl rfl ⟨rfl, rfl, rfl, rfl, rfl⟩ rfl rfl rfl rfl rfl (by kernel_rfl) Tryd.func6 (by kernel_rfl)
    (of_decide_eq_true (by kernel_rfl)) (by unfold Func.isWrapper; first | (rw [if_pos (by decide +kernel)]; kernel_rfl) | (rw [if_neg (by decide +kernel)]; exact ⟨rfl, rfl⟩))
    (fun os started H enc _ => lifted os started H enc)
/-- The card. -/
theorem proved : Rows.FnExactFormatFormulaCardSaid :=
  Claim7.holds_tied_plain_at .later [] [.data, .data, .data] true (true, "570721f42c3e63e2d4371eec6bea2af7ddab7e04007f6f317749b110b40c3c16") true
    holds (fun _ h => by cases h) (by kernel_rfl) (fun _ h => by cases h) fnExactFormatFormula_row_tie rfl ⟨rfl, rfl⟩ (by kernel_rfl) rfl
    (fun f fn hf hfn => by
      obtain rfl : f = 6 := Option.some.inj ((show Tryd.prog.funcNamed "loop.example/g03219/laws.FnExactFormatFormula" = some 6 by kernel_rfl).symm.trans hf) |>.symm
      obtain rfl : fn = Tryd.f6 := (Option.some.inj (Tryd.func6.symm.trans hfn)).symm
      exact ⟨by kernel_rfl, fun j t ht => by
        rw [Tryd.params6] at ht
        have hm : t ∈ [34] := by simpa using Array.mem_of_getElem? ht
        have hall : ([34].all fun u => !Tryd.prog.wantsStandIn u) = true := by kernel_rfl
        exact (show Tryd.prog.wantsStandIn t = false by simpa using List.all_eq_true.1 hall t hm)⟩)
    (by kernel_rfl)
#print axioms proved
end Go.Proofs.YtekddgkgeaolnaaDoor.lawFnExactFormatFormula
