/- The law FnExactParseInts: whatever the argument, it returns true; all that was there is as it was. Condition: the tables of the library that the row lists stand as the program's text lays them. -/
import Derived.Test.YtekddgkgeaolnaaDoorGq
import Derived.Test.YtekddgkgeaolnaaDoorDo
import Derived.Test.YtekddgkgeaolnaaDoorCards
import Derived.Test.YtekddgkgeaolnaaDoorTie
import Derived.SevenTiedAt
import Derived.WalkKit
import Derived.ProofKit
import Derived.OpenShut
import Derived.ShutString
import Derived.ChangeOld
import Derived.Below
import Derived.LaidMore
import Derived.Stop.Joined
namespace Go.Proofs.YtekddgkgeaolnaaDoor.lawFnExactParseInts
open Go Go.Vc Go.ChangeShapes Go.WideShapes Go.ChangeAt Go.RowKit
open Go.ChangeMaps (open_string shut_string)
set_option linter.unusedVariables false

abbrev laidL : List (String × DataW Unit) := [("math/bits.deBruijn32tab", Rows.laid_math_bits_deBruijn32tab), ("math/bits.deBruijn64tab", Rows.laid_math_bits_deBruijn64tab), ("internal/strconv.uint64pow10", Rows.laid_internal_strconv_uint64pow10), ("unicode/utf8.acceptRanges", Rows.laid_unicode_utf8_acceptRanges), ("strconv.ErrRange", Rows.laid_strconv_ErrRange), ("strconv.ErrSyntax", Rows.laid_strconv_ErrSyntax), ("unicode/utf8.first", Rows.laid_unicode_utf8_first)]
theorem len_le (s : ByteArray) (hs : s.size ≤ 1048576) : (psI s).1.length ≤ 1048577 := by
  have h1 := splitL_size (c := 32) s.data.toList
  have h2 : s.data.toList.length = s.size := rfl
  have h4 : (splitS 32 s).length = (splitL 32 s.data.toList).length := by unfold splitS; rw [List.length_map]
  unfold psI
  split
  · exact Nat.zero_le _
  · split
    · show ((splitS 32 s).map _).length ≤ _
      rw [List.length_map]; omega
    · exact Nat.zero_le _
theorem walk (a0 : ByteArray) (w0 : a0.size ≤ maxLen) (W : World) (hL : laidMetH Tryd.prog laidL W) (hSh : W.ShapedOpen Tryd.prog) : Ret Tryd.prog 9 #[.string a0] W (fun v w' => v = .bool true ∧ Ext W w') := by
  have htab : TabP W := tabP_of (by kernel_rfl) hL (.tail _ (.tail _ (.head _)))
  have herr : ErrP W := errP_of (by kernel_rfl) hL (.tail _ (.tail _ (.tail _ (.tail _ (.tail _ (.head _)))))) (.tail _ (.tail _ (.tail _ (.tail _ (.head _)))))
  have hm := maxIs_of hSh
  refine ret_of_vc ties mixed Tryd.func9 rfl (by kernel_rfl) rfl rfl ?_
  refine br_dec (fun h => ⟨rfl, Ext.refl _⟩) (fun hse => ?_)
  have hs : a0.size ≤ 1048576 := by omega
  have hlen := len_le a0 hs
  refine Or.inl ((spec_ParseInts a0 W hs).mono ?_)
  rintro _ w1 ⟨s1, rfl, h1⟩
  refine Or.inl ((impl_ParseInts a0 w1 (hm.ext h1.1) hs (Lib.tabBelow_of_tabIs htab w1 h1.1) (herr.ext h1.1)).mono ?_)
  rintro _ w2 ⟨s2, rfl, h2⟩
  refine Or.inl ((eqIntS_ret (psI a0).1 (psI a0).1 s2 s1 w2 h2.sl (h1.sl.ext h2.1)).mono ?_)
  rintro _ w3 ⟨rfl, x3⟩
  refine br_ndec (fun h => absurd rfl h) (fun _ => ?_)
  refine br_false (by simp) ?_
  refine Or.inl ((markIntS_r (psI a0).1 s2 1 w3 (h2.2.1.ext x3) (by decide) (by omega)).mono ?_)
  rintro _ w4 ⟨rfl, ho4, hch4⟩
  have x14 : Ext w1 w4 := (h2.1.trans x3).chg hch4 (fun b hb => h2.2.2 b hb)
  have x04 := h1.1.trans x14
  have hsl4 : SlR eI allB w4 s2 (mkI (psI a0).1.length 1) := ho4.sl (fun _ _ => trivial) (fun _ _ => trivial)
  refine Or.inl ((heldIntS_r (psI a0).1.length s2 1 w4 hsl4 (by decide) (by omega)).mono ?_)
  rintro _ w5 ⟨rfl, x5⟩
  refine br_dec_false (fun h => h rfl) ?_
  refine Or.inl ((impl_ParseInts a0 w5 (hm.ext (x04.trans x5)) hs (Lib.tabBelow_of_tabIs htab w5 (x04.trans x5)) (herr.ext (x04.trans x5))).mono ?_)
  rintro _ w6 ⟨s6, rfl, h6⟩
  refine Or.inl ((eqIntS_ret (psI a0).1 (psI a0).1 s6 s1 w6 h6.sl ((h1.sl.ext (x14.trans x5)).ext h6.1)).mono ?_)
  rintro _ w7 ⟨rfl, x7⟩
  refine br_ndec (fun h => absurd rfl h) (fun _ => ?_)
  refine br_false (by simp) ?_
  refine Or.inl ((heldIntS_r (psI a0).1.length s2 1 w7 (hsl4.ext ((x5.trans h6.1).trans x7)) (by decide) (by omega)).mono ?_)
  rintro _ w8 ⟨rfl, x8⟩
  refine br_dec_false (fun h => h rfl) ?_
  exact ⟨rfl, h1.1.trans (((x14.trans x5).trans h6.1).trans (x7.trans x8))⟩
theorem own : ownKnob Tryd.prog.godebug = none := by kernel_rfl
theorem laidOut : laidOutB Tryd.prog = true := by kernel_rfl
/-- A start: the door has run; the pinned table is laid. -/
noncomputable def start (os : Os) : World := { World.doorLaid Tryd.prog 4000 os with heap := (World.doorLaid Tryd.prog 4000 os).heap.setIfInBounds 4 (.cells (Go.Pinned.utf8FirstZ.map fun (n : Nat) => Value.int .u8 (n : Int)).toArray 137) }
theorem door_met (os : Os) (args : Array Value) : laidMetH Tryd.prog laidL ((start os).forCall (fun _ _ => 0) ⟨#[], args, []⟩).memory :=
  laidMetH_of_parts3 (fuel := 8) (laidMet_of_run' 8 (by kernel_rfl) (by kernel_rfl)) (by kernel_rfl) (by kernel_rfl)
set_option maxRecDepth 100000 in
theorem lifted (os : Os) (started : os.Started) (H : Type) (enc : TypeId × Value → H) :
    ReturnsInHanded {} Tryd.checked os 9 .any (fun w args => (Rows.fnExactParseIntsSpec.pre enc Tryd.prog Tryd.f9 [] false w args ∧ laidMetH Tryd.prog laidL w) ∧ sizedMet enc Tryd.prog Tryd.f9 (OpenSpec.ofChange Rows.fnExactParseIntsSpec) false w args) (Rows.fnExactParseIntsSpec.post enc Tryd.prog Tryd.f9 false true false false) := by
  refine handed_tied (C := Tryd.checked) (X := fun w _ => laidMetH Tryd.prog laidL w) (fun _ _ _ hh h => h.of_heap hh) own started (by kernel_rfl) Tryd.func9
    (ChangeSpec.witness_shaped (enc := enc) (C := Tryd.checked) (os := os) (X := fun w _ => laidMetH Tryd.prog laidL w) false (start os) #[.string ByteArray.empty] 8 rfl (World.shaped_of_RefB (by kernel_rfl) (by kernel_rfl)) (by kernel_rfl) (by kernel_rfl) (by kernel_rfl) (door_met os _)) ?_
  intro W base args ds gs before hval0 hW hL hSh
  have hval : ∀ (j : Nat) t v, Tryd.f9.params[j]? = some t → args[j]? = some v → Value.okWide Tryd.prog W .any base t v := hval0
  have hW' := hW
  obtain ⟨p, q, hA0, hV, rfl, hfz, hnd⟩ := hW
  have hA : DataW.TrodAll enc Tryd.prog W 0 (fun _ => true) true Tryd.f9.params.toList args.toList ds p := hA0
  rw [Tryd.params9] at hA hval
  obtain ⟨v0, vs0, d0, ds0, p0, q0, hargs, rfl, rfl, h0, r0⟩ := trodAll_cons hA
  obtain ⟨rfl, rfl, rfl⟩ := trodAll_nil r0
  obtain rfl : args = #[v0] := by cases args; simp_all
  obtain ⟨rfl, rfl⟩ := trodVars_none hV
  have k0 := h0
  have lt0 : ∀ x ∈ p0, x.block < W.heap.size := by obtain ⟨m, hm⟩ := k0; exact DataW.trod_lt m _ _ _ hm
  obtain ⟨a0, rfl, rfl, rfl, w0⟩ := open_string Tryd.underlying9 (hval 0 9 v0 rfl rfl) h0
  clear hA0 hval0
  refine (walk a0 w0 W hL hSh).calls.mono fun e W' ⟨v, he, hv, bel⟩ => ?_
  subst hv
  subst he
  exact ⟨_, rfl, _, _, _, [], _, [], hW', trodAll_mk1 (shut_bool Tryd.underlying4 _), (trodAll_cons_mk (Below.trod laidOut (by kernel_rfl) (of_decide_eq_true (by kernel_rfl)) k0 bel lt0) trodAll_mk0), rfl, bel.frame _, fun h => by cases h⟩
theorem holds : Rows.FnExactParseIntsSaid :=
  OpenClaim.holds_of_wide 9 Tryd.f9 rfl rfl rfl rfl rfl rfl rfl ⟨rfl, rfl, rfl, rfl, rfl⟩ rfl rfl rfl rfl rfl (by kernel_rfl) Tryd.func9 (by kernel_rfl)
    (of_decide_eq_true (by kernel_rfl)) (by unfold Func.isWrapper; first | (rw [if_pos (by decide +kernel)]; kernel_rfl) | (rw [if_neg (by decide +kernel)]; exact ⟨rfl, rfl⟩))
    (fun os started H enc _ => lifted os started H enc)
/-- The card. -/
theorem proved : Rows.FnExactParseIntsCardSaid :=
  Claim7.holds_tied_plain_at .later [] [.data, .data, .data, .data, .sentinel, .sentinel, .pinned] true (true, "570721f42c3e63e2d4371eec6bea2af7ddab7e04007f6f317749b110b40c3c16") true
    holds (fun _ h => by cases h) (by kernel_rfl) (fun _ h => by cases h) fnExactParseInts_row_tie rfl ⟨rfl, rfl⟩ (by kernel_rfl) rfl
    (fun f fn hf hfn => by
      obtain rfl : f = 9 := Option.some.inj ((show Tryd.prog.funcNamed "loop.example/g03219/laws.FnExactParseInts" = some 9 by kernel_rfl).symm.trans hf) |>.symm
      obtain rfl : fn = Tryd.f9 := (Option.some.inj (Tryd.func9.symm.trans hfn)).symm
      exact ⟨by kernel_rfl, fun j t ht => by
        rw [Tryd.params9] at ht
        have hm : t ∈ [9] := by simpa using Array.mem_of_getElem? ht
        have hall : ([9].all fun u => !Tryd.prog.wantsStandIn u) = true := by kernel_rfl
        exact (show Tryd.prog.wantsStandIn t = false by simpa using List.all_eq_true.1 hall t hm)⟩)
    (by kernel_rfl)
#print axioms proved
end Go.Proofs.YtekddgkgeaolnaaDoor.lawFnExactParseInts
