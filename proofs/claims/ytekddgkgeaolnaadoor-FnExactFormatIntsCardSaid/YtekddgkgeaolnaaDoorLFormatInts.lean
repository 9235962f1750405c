/- The law FnExactFormatInts: whatever the argument, it returns true; all that was there is as it was. Condition: the tables of the library that the row lists stand as the program's text lays them. -/
import Derived.Test.YtekddgkgeaolnaaDoorGt
import Derived.Test.YtekddgkgeaolnaaDoorIb
import Derived.Test.YtekddgkgeaolnaaDoorIo
import Derived.Test.YtekddgkgeaolnaaDoorCards
import Derived.Test.YtekddgkgeaolnaaDoorTie
import Derived.SevenTiedAt
import Derived.WalkKit
import Derived.ProofKit
import Derived.OpenShut
import Derived.ShutString
import Derived.ChangeOld
import Derived.Below
import Derived.LaidMore
import Derived.Stop.Joined
namespace Go.Proofs.YtekddgkgeaolnaaDoor.lawFnExactFormatInts
open Go Go.Vc Go.ChangeShapes Go.WideShapes Go.ChangeAt Go.RowKit
set_option linter.unusedVariables false

abbrev laidL : List (String × DataW Unit) := [("math/bits.deBruijn32tab", Rows.laid_math_bits_deBruijn32tab), ("math/bits.deBruijn64tab", Rows.laid_math_bits_deBruijn64tab), ("internal/strconv.uint64pow10", Rows.laid_internal_strconv_uint64pow10)]
theorem walk (W : World) (l : List Int) (s : Value) (hs : SlR eI allB W s l) (hp : ∀ x ∈ l, inI x) (hL : laidMetH Tryd.prog laidL W) (hSh : W.ShapedOpen Tryd.prog) : Ret Tryd.prog 5 #[s] W (fun v w' => v = .bool true ∧ Ext W w') := by
  have hlm : (maxLen : Int) ≤ 9223372036854775807 := by decide
  have htab : TabP W := tabP_of (by kernel_rfl) hL (.tail _ (.tail _ (.head _)))
  obtain ⟨a, c, rfl, hlc, hcm, -⟩ := id hs
  refine ret_of_vc ties mixed Tryd.func5 rfl (by kernel_rfl) rfl rfl ?_
  refine br_dec (fun h => ⟨rfl, Ext.refl _⟩) (fun hse => ?_)
  have hl : l.length ≤ 1048576 := by omega
  refine Or.inl ((toIntS_ret l _ W hs hl).mono ?_)
  rintro t1 w1 h1
  refine Or.inl ((spec_FormatInts l t1 w1 h1.sl hp hl).mono ?_)
  rintro _ w2 ⟨rfl, x2⟩
  refine Or.inl ((toIntS_ret l _ w2 (hs.ext (h1.1.trans x2)) hl).mono ?_)
  rintro t3 w3 h3
  have x13 := (h1.1.trans x2).trans h3.1
  refine Or.inl ((impl_FormatInts l t3 w3 h3.sl hp hl (Lib.tabBelow_of_tabIs htab w3 x13)).mono ?_)
  rintro _ w4 ⟨rfl, x4⟩
  refine br_dec_false (fun h => h rfl) ?_
  refine Or.inl ((toIntS_ret l _ w4 (hs.ext (x13.trans x4)) hl).mono ?_)
  rintro t5 w5 h5
  refine Or.inl ((eqIntS_ret l l t3 t5 w5 (h3.sl.ext (x4.trans h5.1)) h5.sl).mono ?_)
  rintro _ w6 ⟨rfl, x6⟩
  refine br_ndec (fun h => absurd rfl h) (fun _ => ?_)
  exact ⟨rfl, ((x13.trans x4).trans h5.1).trans x6⟩
theorem own : ownKnob Tryd.prog.godebug = none := by kernel_rfl
theorem laidOut : laidOutB Tryd.prog = true := by kernel_rfl
noncomputable def start (os : Os) : World := World.doorLaid Tryd.prog 4000 os
theorem door_met (os : Os) (args : Array Value) : laidMetH Tryd.prog laidL ((start os).forCall (fun _ _ => 0) ⟨#[], args, []⟩).memory :=
  laidMetH_of_parts3 (fuel := 8) (laidMet_of_run' 8 (by kernel_rfl) (by kernel_rfl)) (by kernel_rfl) (by kernel_rfl)
set_option maxRecDepth 100000 in
theorem lifted (os : Os) (started : os.Started) (H : Type) (enc : TypeId × Value → H) :
    ReturnsInHanded {} Tryd.checked os 5 .any (fun w args => (Rows.fnExactFormatIntsSpec.pre enc Tryd.prog Tryd.f5 [] false w args ∧ laidMetH Tryd.prog laidL w) ∧ sizedMet enc Tryd.prog Tryd.f5 (OpenSpec.ofChange Rows.fnExactFormatIntsSpec) false w args) (Rows.fnExactFormatIntsSpec.post enc Tryd.prog Tryd.f5 false true false false) := by
  refine handed_tied (C := Tryd.checked) (X := fun w _ => laidMetH Tryd.prog laidL w) (fun _ _ _ hh h => h.of_heap hh) own started (by kernel_rfl) Tryd.func5
    (ChangeSpec.witness_shaped (enc := enc) (C := Tryd.checked) (os := os) (X := fun w _ => laidMetH Tryd.prog laidL w) false (start os) #[.slice none 0 0] 8 rfl (World.shaped_of_RefB (by kernel_rfl) (by kernel_rfl)) (by kernel_rfl) (by kernel_rfl) (by kernel_rfl) (door_met os _)) ?_
  intro W base args ds gs before hval0 hW hL hSh
  have hval : ∀ (j : Nat) t v, Tryd.f5.params[j]? = some t → args[j]? = some v → Value.okWide Tryd.prog W .any base t v := hval0
  have hW' := hW
  obtain ⟨p, q, hA0, hV, rfl, hfz, hnd⟩ := hW
  have hA : DataW.TrodAll enc Tryd.prog W 0 (fun _ => true) true Tryd.f5.params.toList args.toList ds p := hA0
  rw [Tryd.params5] at hA hval
  obtain ⟨v0, vs0, d0, ds0, p0, q0, hargs, rfl, rfl, h0, r0⟩ := trodAll_cons hA
  obtain ⟨rfl, rfl, rfl⟩ := trodAll_nil r0
  obtain rfl : args = #[v0] := by cases args; simp_all
  obtain ⟨rfl, rfl⟩ := trodVars_none hV
  have k0 := h0
  have lt0 : ∀ x ∈ p0, x.block < W.heap.size := by obtain ⟨m, hm⟩ := k0; exact DataW.trod_lt m _ _ _ hm
  obtain ⟨L0, HS0, HP0⟩ := open_Ints (hval 0 27 v0 rfl rfl) h0
  clear hA0 hval0
  refine (walk W L0 v0 HS0 HP0 hL hSh).calls.mono fun e W' ⟨v, he, hv, bel⟩ => ?_
  subst hv
  subst he
  exact ⟨_, rfl, _, _, _, [], _, [], hW', trodAll_mk1 (shut_bool Tryd.underlying4 _), (trodAll_cons_mk (Below.trod laidOut (by kernel_rfl) (of_decide_eq_true (by kernel_rfl)) k0 bel lt0) trodAll_mk0), rfl, bel.frame _, fun h => by cases h⟩
theorem holds : Rows.FnExactFormatIntsSaid :=
  OpenClaim.holds_of_wide 5 Tryd.f5 rfl rfl rfl rfl rfl rfl rfl ⟨rfl, rfl, rfl, rfl, rfl⟩ rfl rfl rfl rfl rfl (by kernel_rfl) Tryd.func5 (by kernel_rfl)
    (of_decide_eq_true (by kernel_rfl)) (by unfold Func.isWrapper; first | (rw [if_pos (by decide +kernel)]; kernel_rfl) | (rw [if_neg (by decide +kernel)]; exact ⟨rfl, rfl⟩))
    (fun os started H enc _ => lifted os started H enc)
/-- The card. -/
theorem proved : Rows.FnExactFormatIntsCardSaid :=
  Claim7.holds_tied_plain_at .later [] [.data, .data, .data] true (true, "570721f42c3e63e2d4371eec6bea2af7ddab7e04007f6f317749b110b40c3c16") true
    holds (fun _ h => by cases h) (by kernel_rfl) (fun _ h => by cases h) fnExactFormatInts_row_tie rfl ⟨rfl, rfl⟩ (by kernel_rfl) rfl
    (fun f fn hf hfn => by
      obtain rfl : f = 5 := Option.some.inj ((show Tryd.prog.funcNamed "loop.example/g03219/laws.FnExactFormatInts" = some 5 by kernel_rfl).symm.trans hf) |>.symm
      obtain rfl : fn = Tryd.f5 := (Option.some.inj (Tryd.func5.symm.trans hfn)).symm
      exact ⟨by kernel_rfl, fun j t ht => by
        rw [Tryd.params5] at ht
        have hm : t ∈ [27] := by simpa using Array.mem_of_getElem? ht
        have hall : ([27].all fun u => !Tryd.prog.wantsStandIn u) = true := by kernel_rfl
        exact (show Tryd.prog.wantsStandIn t = false by simpa using List.all_eq_true.1 hall t hm)⟩)
    (by kernel_rfl)
#print axioms proved
end Go.Proofs.YtekddgkgeaolnaaDoor.lawFnExactFormatInts
