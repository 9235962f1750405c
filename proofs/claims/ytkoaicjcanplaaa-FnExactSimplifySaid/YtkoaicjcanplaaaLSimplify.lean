/- The law FnExactSimplify: whatever the arguments, it returns true; all that was there is as it was. No condition. -/
import Derived.Test.YtkoaicjcanplaaaU9
import Derived.Test.YtkoaicjcanplaaaMt
import Derived.Test.YtkoaicjcanplaaaTo
import Derived.Test.YtkoaicjcanplaaaZw
import Derived.WalkKit
import Derived.ProofKit
import Derived.OpenShut
import Derived.ShutString
import Derived.ChangeOld
import Derived.Below
namespace Go.Proofs.Ytkoaicjcanplaaa.lawFnExactSimplify
open Go Go.Vc Go.ChangeShapes Go.WideShapes Go.ChangeAt Go.RowKit
set_option linter.unusedVariables false

set_option maxRecDepth 100000 in
set_option maxHeartbeats 8000000 in
theorem walk (W : World) (x : Lab) (s : Value) (f : TF) (hs : TSl anyB W s f) (hp : f.All okL) (hx : okL x) :
    Ret Try.prog 12 #[tv x s] W (fun v w' => v = .bool true ∧ Ext W w') := by
  have x1 : Ext W (W.alloc (.cells (tc x s).toArray 43)) := Ext.new _ _
  have hb := boxedAll W (tc x s) 43
  obtain ⟨o, ho⟩ : ∃ o, simp (x, f) = o := ⟨_, rfl⟩
  have hsp : ∀ s w, TSl anyB w s f → Ret Try.prog 53 #[tv x s] w (TRes anyB o w) := fun s w h => by rw [← ho]; exact spec_Simplify_of makeS x f s w h hx hp
  have him : ∀ s w, TSl anyB w s f → Ret Try.prog 19 #[tv x s] w (CRes o w) := fun s w h => by rw [← ho]; exact impl_Simplify x f s w h hx hp
  have hosz : f.size ≤ 1048576 → o.2.size ≤ 1048576 := fun h => by
    by_cases ht : TOk x f
    · rw [← ho, simp_yes ht]
      have h1 := (sim_keeps (tok_okT ht)).sz
      have h2 : Tm.sz (sim (x, f)) = (sim (x, f)).2.size + 1 := rfl
      have h3 : Tm.sz (x, f) = f.size + 1 := rfl
      omega
    · rw [← ho, simp_no ht]; exact Nat.zero_le _
  clear ho
  refine ret_of_vc ties mixed Try.func12 rfl (by kernel_rfl) rfl rfl ?_
  refine ⟨tc x s, rfl, hb, ?_⟩
  refine Or.inl ((szTerm_ret f x s 1048576 _ (hs.ext x1) hx hp (by decide) (by decide)).mono ?_)
  rintro _ w2 ⟨x2, rfl | ⟨hsz, rfl⟩⟩
  · exact ⟨rfl, x1.trans x2⟩
  refine br_dec_false (by omega) ?_
  have hfw := size_wt f
  have hsz : f.size ≤ 1048576 := by omega
  have hosz := hosz hsz
  replace hb := hb.ext x2
  replace hs := hs.ext (x1.trans x2)
  -- what the reference gives
  refine ⟨tc x s, rfl, hb, ?_⟩
  refine Or.inl ((toTerm_ret f x s w2 hs hsz).mono ?_)
  rintro _ w3 ⟨x3, s3, rfl, hs3⟩
  refine Or.inl ((hsp s3 w3 (hs3.mono fun _ _ => trivial)).mono ?_)
  rintro _ w4 ⟨x4, ss, rfl, hss⟩
  obtain ⟨f5, cS, x5⟩ := keep5 (W := w4) (x := o.1) (s := ss) (tc_one hss)
  refine ⟨f5, ?_⟩
  have x25 := (x3.trans x4).trans x5
  have z5 : w4.heap.size < (setCells (w4.alloc (.cells #[.int .i64 0, .int .i64 0, .int .i64 0, .string ByteArray.empty, .slice none 0 0] 25)) w4.heap.size 0 (tc o.1 ss)).heap.size := World.block_lt_of_cell? _ _ cS.1
  have hS : TSl (fun b => b < w4.heap.size) w4 ss o.2 := hss.lt.mono fun b hb => hb.2
  replace hS := hS.ext x5
  -- what the program gives
  refine ⟨tc x s, rfl, hb.ext x25, ?_⟩
  refine Or.inl ((toTerm_sep f x s _ (hs.ext x25) hsz).mono ?_)
  rintro _ w6 ⟨x6, s6, rfl, hsep⟩
  obtain ⟨f7, c7, x7⟩ := keep5 (W := w6) (x := x) (tc_one hsep.any)
  refine ⟨f7, ?_⟩
  have z7 : w6.heap.size < (setCells (w6.alloc (.cells #[.int .i64 0, .int .i64 0, .int .i64 0, .string ByteArray.empty, .slice none 0 0] 25)) w6.heap.size 0 (tc x s6)).heap.size := World.block_lt_of_cell? _ _ c7.1
  have x57 := x6.trans x7
  have hsep7 := hsep.ext (Nat.le_refl _) x7
  refine ⟨tc x s6, rfl, c7, ?_⟩
  refine Or.inl ((him s6 _ (hsep7.any)).mono ?_)
  rintro _ w8 ⟨x8, si, rfl, hsi⟩
  obtain ⟨f9, cI, x9⟩ := keep5 (W := w8) (x := o.1) (s := si) (tc_one hsi.any)
  refine ⟨f9, ?_⟩
  have z9 : w8.heap.size < (setCells (w8.alloc (.cells #[.int .i64 0, .int .i64 0, .int .i64 0, .string ByteArray.empty, .slice none 0 0] 25)) w8.heap.size 0 (tc o.1 si)).heap.size := World.block_lt_of_cell? _ _ cI.1
  have x59 := (x57.trans x8).trans x9
  have x79 := x8.trans x9
  have zA := x6.size
  have zB := x8.size
  have hI := hsi.ext (Nat.le_refl _) x9
  refine ⟨_, rfl, cI, _, rfl, cS.ext x59, ?_⟩
  refine Or.inl ((eqTerm_ret _ _ _ _ si ss _ hI.any ((hS.ext x59).mono fun _ _ => trivial)).mono ?_)
  rintro _ w10 ⟨rfl, x10⟩
  refine br_ndec (fun h => absurd ⟨rfl, rfl⟩ h) (fun _ => ?_)
  refine .inr (.inr (hyb_rule ties mixed [(0, .quiet), (1, .quiet), (2, .loud), (3, .quiet), (4, .quiet)] (by kernel_rfl) ?_))
  have x510 := x59.trans x10
  have x710 := x79.trans x10
  refine ⟨tc x s6, rfl, c7.ext x710, tc x s, rfl, hb.ext (x25.trans x510), ?_⟩
  intro w11 x11
  refine Or.inl ((toTerm_ret f x s w11 (hs.ext ((x25.trans x510).trans x11)) hsz).mono ?_)
  rintro _ w12 ⟨x12, s12, rfl, hs12⟩
  have x712 := (x710.trans x11).trans x12
  refine ⟨x12, .bool true, fun w' hw' => (eqTerm_ret f f x x s6 s12 _ ((hsep7.any.ext (x712.trans hw'))) ((hs12.ext hw').mono fun _ _ => trivial)).mono ?_, ?_⟩
  · rintro _ w'' ⟨rfl, h⟩
    exact ⟨by simp, h⟩
  intro w13 x13
  have x1013 := (x11.trans x12).trans x13
  have x913 := x10.trans x1013
  have x513 := x59.trans x913
  have x713 := x79.trans x913
  have z13 := x913.size
  -- marks on the arguments
  refine ⟨tc x s6, rfl, c7.ext x713, ?_⟩
  refine Or.inl ((markTerm_ret f x s6 (setCells (w4.alloc (.cells #[.int .i64 0, .int .i64 0, .int .i64 0, .string ByteArray.empty, .slice none 0 0] 25)) w4.heap.size 0 (tc o.1 ss)).heap.size w6.heap.size 1 _ (hsep7.ext (Nat.le_of_lt z7) x713) (by have := x713.size; omega) (by decide) (by omega)).mono ?_)
  rintro _ w14 ⟨rfl, -, hch14⟩
  have z14 := hch14.size
  have zC := x7.size
  have zW7 : w6.heap.size ≤ (setCells (w6.alloc (.cells #[.int .i64 0, .int .i64 0, .int .i64 0, .string ByteArray.empty, .slice none 0 0] 25)) w6.heap.size 0 (tc x s6)).heap.size := zC
  have cI14 := hch14.cells (b := w8.heap.size) (fun e => by omega) (cI.ext x913)
  have cS14 := hch14.cells (b := w4.heap.size) (fun e => by omega) (cS.ext x513)
  have hS14 := Fo.Sl.chg (fun b hb e => by omega) hch14 (hS.ext x513)
  have hI14 : TSep w14 si o.2 (setCells (w6.alloc (.cells #[.int .i64 0, .int .i64 0, .int .i64 0, .string ByteArray.empty, .slice none 0 0] 25)) w6.heap.size 0 (tc x s6)).heap.size w8.heap.size := hI.keep tlc_len fun b g1 g2 => (hch14.block b (by omega) (by omega)).trans (x913.block b (by omega))
  refine ⟨_, rfl, cI14, _, rfl, cS14, ?_⟩
  refine Or.inl ((eqTerm_ret _ _ _ _ si ss _ hI14.any (hS14.mono fun _ _ => trivial)).mono ?_)
  rintro _ w15 ⟨rfl, x15⟩
  refine br_ndec (fun h => absurd ⟨rfl, rfl⟩ h) (fun _ => ?_)
  -- marks on the result
  have z15 := x15.size
  refine ⟨_, rfl, cI14.ext x15, ?_⟩
  refine Or.inl ((markTerm_ret _ _ si (setCells (w6.alloc (.cells #[.int .i64 0, .int .i64 0, .int .i64 0, .string ByteArray.empty, .slice none 0 0] 25)) w6.heap.size 0 (tc x s6)).heap.size w8.heap.size 1 _ (hI14.ext (by omega) x15) (by omega) (by decide) (by omega)).mono ?_)
  rintro _ w16 ⟨rfl, hI16, hch16⟩
  have z16 := hch16.size
  have cI16 := hch16.cells (b := w8.heap.size) (fun e => by omega) (cI14.ext x15)
  have cS16 := hch16.cells (b := w4.heap.size) (fun e => by omega) (cS14.ext x15)
  have hS16 := Fo.Sl.chg (fun b hb e => by omega) hch16 (hS14.ext x15)
  refine ⟨_, rfl, cI16, ?_⟩
  refine Or.inl ((heldTerm_ret _ _ si 1 _ hI16.any (by decide) (by omega)).mono ?_)
  rintro _ w17 ⟨rfl, x17⟩
  refine br_dec (fun h => absurd rfl h) (fun _ => ?_)
  -- once more
  have xa : Ext w2 w17 := (((x25.trans x513).chg hch14 fun b hb => by have := x25.size; omega).trans x15).chg hch16 (fun b hb => by have := x25.size; omega) |>.trans x17
  refine ⟨tc x s, rfl, hb.ext xa, ?_⟩
  refine Or.inl ((toTerm_ret f x s w17 (hs.ext xa) hsz).mono ?_)
  rintro _ w18 ⟨x18, s18, rfl, hs18⟩
  refine Or.inl ((him s18 w18 (hs18.mono fun _ _ => trivial)).mono ?_)
  rintro _ w19 ⟨x19, sj, rfl, hsj⟩
  obtain ⟨f20, cJ, x20⟩ := keep5 (W := w19) (x := o.1) (s := sj) (tc_one hsj.any)
  refine ⟨f20, ?_⟩
  have x1720 := (x18.trans x19).trans x20
  have x1620 := x17.trans x1720
  refine ⟨_, rfl, cJ, _, rfl, cS16.ext x1620, ?_⟩
  refine Or.inl ((eqTerm_ret _ _ _ _ sj ss _ (hsj.any.ext x20) ((hS16.ext x1620).mono fun _ _ => trivial)).mono ?_)
  rintro _ w21 ⟨rfl, x21⟩
  refine br_ndec (fun h => absurd ⟨rfl, rfl⟩ h) (fun _ => ?_)
  refine ⟨_, rfl, cI16.ext (x1620.trans x21), ?_⟩
  refine Or.inl ((heldTerm_ret _ _ si 1 _ (hI16.any.ext (x1620.trans x21)) (by decide) (by omega)).mono ?_)
  rintro _ w22 ⟨rfl, x22⟩
  refine br_dec (fun h => absurd rfl h) (fun _ => ?_)
  exact ⟨rfl, (x1.trans x2).trans (xa.trans ((x1720.trans x21).trans x22))⟩
theorem own : ownKnob Try.prog.godebug = none := by kernel_rfl
theorem laidOut : laidOutB Try.prog = true := by kernel_rfl
set_option maxRecDepth 100000 in
theorem lifted (os : Os) (started : os.Started) (H : Type) (enc : TypeId × Value → H) :
    ReturnsInHanded {} Try.checked os 12 .any (Rows.fnExactSimplifySpec.pre6 enc Try.prog Try.f12 Rows.fnExactSimplifyRow.domain false) (Rows.fnExactSimplifySpec.post enc Try.prog Try.f12 false true false false) := by
  refine returnsInHanded_of_change (C := Try.checked) own started (by kernel_rfl) Try.func12
    (ChangeSpec.witness6 (enc := enc) (C := Try.checked) false ⟨#[], #[.agg #[.int .i64 0, .int .i64 0, .int .i64 0, .string ByteArray.empty, .slice none 0 0]], []⟩ 8 (by kernel_rfl) (by kernel_rfl) (by kernel_rfl) (by kernel_rfl)) ?_
  intro W base args ds gs before hval0 hW hcnd _
  have hval : ∀ (j : Nat) t v, Try.f12.params[j]? = some t → args[j]? = some v → Value.okWide Try.prog W .any base t v := hval0
  have hW' := hW
  obtain ⟨p, q, hA0, hV, rfl, hfz, hnd⟩ := hW
  have hA : DataW.TrodAll enc Try.prog W 0 (fun _ => true) true Try.f12.params.toList args.toList ds p := hA0
  rw [Try.params12] at hA hval
  obtain ⟨v0, vs0, d0, ds0, p0, q0, hargs, rfl, rfl, h0, r0⟩ := trodAll_cons hA
  obtain ⟨rfl, rfl, rfl⟩ := trodAll_nil r0
  obtain rfl : args = #[v0] := by cases args; simp_all
  obtain ⟨rfl, rfl⟩ := trodVars_none hV
  have k0 := h0
  have lt0 : ∀ x ∈ p0, x.block < W.heap.size := by obtain ⟨m, hm⟩ := k0; exact DataW.trod_lt m _ _ _ hm
  obtain ⟨X0, S0, F0, rfl, HS0, HP0, HX0⟩ := open_Term (hval 0 43 v0 rfl rfl) h0
  clear hA0 hval0
  refine (walk W X0 S0 F0 HS0 HP0 HX0).calls.mono fun e W' ⟨v, he, hv, bel⟩ => ?_
  subst hv
  subst he
  exact ⟨_, rfl, _, _, _, [], _, [], hW', trodAll_mk1 (shut_bool Try.underlying4 _), (trodAll_cons_mk (Below.trod laidOut (by kernel_rfl) (of_decide_eq_true (by kernel_rfl)) k0 bel lt0) trodAll_mk0), rfl, bel.frame _, fun h => by cases h⟩
theorem band {a b : Bool} (h1 : a = true) (h2 : b = true) : (a && b) = true := by rw [h1, h2]; rfl
theorem lifted_ok : (Rows.fnExactSimplifyRow.lifted == Try.pinned.checked.prog.liftsFinal) = true := by rw [head_final]; rfl
theorem make_ok : (Try.pinned.checked.prog.make == some Rows.fnExactSimplifyRow.make) = true := by rw [head_make]; rfl
set_option maxHeartbeats 4000000 in
theorem closed : joinedFacts Try.pinned.checked.prog 12 Try.f12 Rows.fnExactSimplifySpec Rows.fnExactSimplifyRow = true := by
  unfold joinedFacts
  repeat' (with_reducible refine band ?_ ?_)
  all_goals (first | with_reducible exact head_enter | with_reducible exact lifted_ok | with_reducible exact make_ok | (as_aux_lemma => kernel_rfl))
theorem holds : Rows.fnExactSimplifyRow.holds Try.pinned (OpenSpec.ofChange Rows.fnExactSimplifySpec) :=
  OpenClaim.holds_of_wide 12 Try.f12 rfl rfl rfl rfl rfl rfl rfl ⟨rfl, rfl, rfl, rfl, rfl⟩ rfl rfl rfl rfl rfl (by as_aux_lemma => kernel_rfl) Try.func12 closed
    (of_decide_eq_true (by as_aux_lemma => kernel_rfl)) (by unfold Func.isWrapper; first | (rw [if_pos (by decide +kernel)]; kernel_rfl) | (rw [if_neg (by decide +kernel)]; exact ⟨rfl, rfl⟩))
    (fun os started H enc _ => lifted os started H enc)
/-- The statement. -/
theorem proved : Rows.FnExactSimplifySaid := holds
#print axioms proved
end Go.Proofs.Ytkoaicjcanplaaa.lawFnExactSimplify
