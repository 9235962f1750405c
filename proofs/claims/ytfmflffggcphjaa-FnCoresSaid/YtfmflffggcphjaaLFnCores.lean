/- The law FnCores: whatever the bytes, it returns true; all that was there is as it was. No condition. -/
import Derived.Test.YtfmflffggcphjaaDp
import Derived.Test.YtfmflffggcphjaaTc
import Derived.Test.YtfmflffggcphjaaZw
import Derived.WalkKit
import Derived.ProofKit
import Derived.OpenShut
import Derived.ShutString
import Derived.ChangeOld
import Derived.Below
namespace Go.Proofs.Ytfmflffggcphjaa.lawFnCores
open Go Go.Vc Go.ChangeShapes Go.WideShapes Go.ChangeAt Go.RowKit Go.Sat Go.Proofs.Ytfmflffggcphjaa.Dr
set_option linter.unusedVariables false

/-- The clauses of a core but for that at place s - 1, the first k places. -/
def coreK (F : Cnf) (l : List Int) (s : Nat) : Nat → Cnf
  | 0 => []
  | i + 1 => coreK F l s i ++ (if (i : Int) = (s : Int) - 1 then [] else [F.getD (l.getD i 0).toNat []])
theorem mem_coreK {F : Cnf} {l : List Int} {s : Nat} {c : Cl} : ∀ {k : Nat}, c ∈ coreK F l s k ↔ ∃ i, i < k ∧ i + 1 ≠ s ∧ c = F.getD (l.getD i 0).toNat []
  | 0 => by simp [coreK]
  | k + 1 => by
    rw [coreK, List.mem_append, mem_coreK]
    have key : (c ∈ (if (k : Int) = (s : Int) - 1 then [] else [F.getD (l.getD k 0).toNat []]) ↔ k + 1 ≠ s ∧ c = F.getD (l.getD k 0).toNat []) := by
      by_cases e : (k : Int) = (s : Int) - 1
      · rw [if_pos e]; simp; omega
      · rw [if_neg e, List.mem_singleton]
        exact ⟨fun h => ⟨by omega, h⟩, fun h => h.2⟩
    rw [key]
    constructor
    · rintro (⟨i, h1, h2, h3⟩ | ⟨h1, h2⟩)
      · exact ⟨i, by omega, h2, h3⟩
      · exact ⟨k, by omega, h1, h2⟩
    · rintro ⟨i, h1, h2, h3⟩
      by_cases e : i = k
      · subst e; exact .inr ⟨h2, h3⟩
      · exact .inl ⟨i, by omega, h2, h3⟩
theorem coreK_len {F : Cnf} {l : List Int} {s : Nat} : ∀ k, (coreK F l s k).length ≤ k
  | 0 => Nat.le_refl _
  | k + 1 => by
    have := coreK_len (F := F) (l := l) (s := s) k
    rw [coreK, List.length_append]
    split <;> simp <;> omega
theorem coreK_ok {n : Nat} {F : Cnf} {l : List Int} {s : Nat} (hF : fOk n F = true) (hl : l.length ≤ F.length) (hc : Core n F l) : fOk n (coreK F l s l.length) = true := by
  have := coreK_len (F := F) (l := l) (s := s) l.length
  simp only [fOk, Bool.and_eq_true, decide_eq_true_eq, List.all_eq_true] at hF ⊢
  refine ⟨by omega, fun c h => ?_⟩
  obtain ⟨i, h1, _, rfl⟩ := mem_coreK.1 h
  have := hc.inn i h1
  rw [List.getD_eq_getElem?_getD, List.getElem?_eq_getElem (show (l.getD i 0).toNat < F.length by omega)]
  exact hF.2 _ (List.getElem_mem _)
theorem core_zero {n : Nat} {F : Cnf} {l : List Int} {s : Nat} (hn : n ≤ 6) (hF : fOk n F = true) (hl : l.length ≤ F.length) (hc : Core n F l) (hs : s ≤ l.length) : decide (cntM n (coreK F l s l.length) = 0) = decide ((s : Int) - 1 < 0) := by
  have hz := cntM_zero (coreK_ok (s := s) hF hl hc) (show n ≤ 12 by omega)
  refine decide_eq_decide.2 (hz.trans ?_)
  by_cases h : s = 0
  · subst h
    exact ⟨fun _ => by omega, fun _ m hm => hc.none m hm _ fun i hi => mem_coreK.2 ⟨i, hi, by omega, rfl⟩⟩
  · refine ⟨fun h' => ?_, fun h' => by omega⟩
    obtain ⟨m, hm, hG⟩ := hc.some (s - 1) (by omega)
    have := h' m hm
    rw [hG _ fun c hcc => by
      obtain ⟨i, h1, h2, h3⟩ := mem_coreK.1 hcc
      exact ⟨i, h1, by omega, h3⟩] at this
    cases this

set_option maxRecDepth 200000 in
set_option maxHeartbeats 4000000 in
theorem walk (W : World) (L : List Int) (v0 : Value) (HS : SlR eU allB W v0 L) : Ret Try.prog 3 #[v0] W (fun v w' => v = .bool true ∧ Ext W w') := by
  have hlm : (maxLen : Int) ≤ 9223372036854775807 := by decide
  obtain ⟨a, cp, rfl, hlc, hcm, hat⟩ := id HS
  refine ret_of_vc ties mixed Try.func3 rfl (by kernel_rfl) rfl rfl ?_
  refine br_dec (fun h => ⟨rfl, Ext.refl _⟩) (fun _ => ?_)
  refine Or.inl ((giveFormula_ret L 0 (by decide) _ W HS).mono ?_)
  rintro _ w1 ⟨x1, n, gv, F, rfl, hn1, hn6, hF, hFl, hgv⟩
  have hgv : SlR eL allB w1 gv F := hgv.mono fun _ _ => trivial
  have r2 := Rmy.new w1 [.int .i64 0, .slice none 0 0] 25
  refine ⟨r2.all [.int .i64 n, gv] 0 (Nat.le_refl 2) (by simp only [List.all_cons, hgv.oneB]; rfl), ?_⟩
  have x2 : Ext w1 (setCells (w1.alloc (.cells #[.int .i64 0, .slice none 0 0] 25)) w1.heap.size 0 [.int .i64 n, gv]) := Ext.setCells _ (Ext.new _ _) (Nat.le_refl _)
  have hc2 := setCells_at [.int .i64 n, gv] _ 0 2 r2 (Nat.le_refl 2)
  refine ⟨[.int .i64 n, gv], rfl, hc2, ?_⟩
  refine Or.inl ((impl_CoreOf n F 3000 gv _ (hgv.ext x2)).mono ?_)
  rintro _ w4 ⟨x4, sv, rfl, hsv, -⟩
  have hsv : SlR eI allB w4 sv ((corO n F 3000).getD []) := hsv.sl (fun _ _ => trivial) (fun _ _ => trivial)
  have hlF : ((corO n F 3000).getD []).length ≤ F.length := corO_len
  have hgood : ((corO n F 3000).isSome = decide (cntM n F = 0)) ∧ ((corO n F 3000).isSome = true → Core n F ((corO n F 3000).getD [])) := by
    rcases cor_good hn6 hF with ⟨h1, h2⟩ | ⟨h1, l, h2, h3⟩
    · rw [h1, decide_eq_false h2]; exact ⟨rfl, fun h => by cases h⟩
    · rw [h2, decide_eq_true h1]; exact ⟨rfl, fun _ => h3⟩
  generalize (corO n F 3000).isSome = okb at hgood
  generalize (corO n F 3000).getD [] = l at hgood hsv hlF
  have x14 : Ext W w4 := ((x1.trans x2).trans x4)
  have hc4 := hc2.ext x4
  have hgv4 := hgv.ext (x2.trans x4)
  generalize w1.heap.size = G at hc4
  clear hc2 r2 hgv HS hat x1 x2 x4
  have hgvo : SlR eL (oldB w4.heap.size) w4 gv F := hgv4.lt.mono fun b hb => hb.2
  obtain ⟨ga, gc, rfl, hgl, hgcells⟩ := cl_cells hgvo
  obtain ⟨sa, sc, rfl, hsc2, hsm2, -⟩ := id hsv
  refine ⟨[.int .i64 n, .slice ga F.length gc], rfl, hc4, ?_⟩
  refine Or.inl ((spec_CountModels n F (.slice ga F.length gc) w4 hgv4).mono ?_)
  rintro _ w5 ⟨rfl, x5⟩
  refine br_false (by rw [hgood.1]; simp) ?_
  refine br_not (fun h => ⟨rfl, x14.trans x5⟩) (fun hok => ?_)
  have hcore := hgood.2 hok
  clear hgood
  have hscel := ints_cells (hsv.ext x5)
  refine loop_rule (σ := Nat × Value × Value × Value) [6, 7, 8, 9] 27 85 (fun q => [.int .i64 ((q.1 : Int) - 1), q.2.1, q.2.2.1, q.2.2.2])
    (fun q w' => Ext w5 w' ∧ q.1 ≤ l.length + 1) (fun q => l.length + 1 - q.1) (0, undef, undef, undef) rfl ⟨Ext.refl _, Nat.zero_le _⟩ ?_
  as_aux_lemma =>
    rintro ⟨s, j7, j8, j9⟩ w junk ⟨hx, hs⟩ K hK
    simp only at hs
    show vc _ _ _ _ (over [6, 7, 8, 9] [.int .i64 ((s : Int) - 1), j7, j8, j9] _) _
    refine br_dec (fun h3 => ?_) (fun h3 => ⟨rfl, (x14.trans x5).trans hx⟩)
    have hsl : s ≤ l.length := by omega
    have hc5 := hc4.ext (x5.trans hx)
    refine ⟨_, hc5.1, ?_⟩
    have r7 := Rmy.new w [.int .i64 0, .slice none 0 0] 25
    refine ⟨r7.all [.int .i64 n, .slice none 0 0] 0 (Nat.le_refl 2) rfl, ?_⟩
    have x6 : Ext w (setCells (w.alloc (.cells #[.int .i64 0, .slice none 0 0] 25)) w.heap.size 0 [.int .i64 n, .slice none 0 0]) := Ext.setCells _ (Ext.new _ _) (Nat.le_refl _)
    have hc6 := setCells_at [.int .i64 n, .slice none 0 0] _ 0 2 r7 (Nat.le_refl 2)
    have r6 := Rmy.setCells (b := w.heap.size) (o := 0) [.int .i64 n, .slice none 0 0] r7
    have hG4 : G < w.heap.size := World.block_lt_of_cell? _ _ hc5.1
    have hw4 : w4.heap.size ≤ w.heap.size := (x5.trans hx).size
    refine loop_rule (σ := Nat × Value × Value × Value) [8, 9, 38] 39 85 (fun q => [q.2.2.1, q.2.2.2, .int .i64 q.1])
      (fun q w' => Ext w w' ∧ q.1 ≤ l.length ∧ Rmy w' w.heap.size 2 ∧ CellsAt w' w.heap.size 0 [.int .i64 n, q.2.1] ∧ OwnR eL (oldB w4.heap.size) w' q.2.1 (coreK F l s q.1) ∧ ∀ b, blk q.2.1 b → w.heap.size < b)
      (fun q => l.length - q.1) (0, .slice none 0 0, j8, j9) rfl ⟨x6, Nat.zero_le _, r6, hc6, OwnR.nil _ _ _ _, fun b hb => hb.elim⟩ ?_
    clear r7 r6 hc6 x6
    as_aux_lemma =>
      rintro ⟨k, hv, y8, y9⟩ w7 junk ⟨hx7, hk, hr, hcl, ho7, hob⟩ K' hK'
      simp only at hk hcl ho7 hob
      show vc _ _ _ _ (over [8, 9, 38] [y8, y9, .int .i64 k] _) _
      have hcl5 := coreK_len (F := F) (l := l) (s := s) k
      refine br_dec (fun h4 => ?_) (fun h4 => ?_)
      · have hkl : k < l.length := by omega
        refine Exists.elim (hscel k hkl) fun b1 h => Exists.elim h fun o1 h => Exists.elim h fun x h => ?_
        have hla := h.1
        have hxe := h.2.1
        have hc1 := (hx.trans hx7).cell h.2.2
        clear h
        subst hla
        have hxe' : l.getD k 0 = x := by rw [List.getD_eq_getElem?_getD, List.getElem?_eq_getElem hkl, hxe]; rfl
        have hin := hcore.inn k hkl
        rw [hxe'] at hin
        refine ⟨⟨by omega, by omega⟩, _, hc1, ?_⟩
        refine br_dec_false (show ¬ x < 0 by omega) ?_
        refine ⟨_, (hc5.ext hx7).2.1, ?_⟩
        refine br_dec_false (show ¬ (F.length : Int) ≤ x by omega) ?_
        refine br_dec (fun h0 => ?pos) (fun h0 => ?zero)
        case' pos =>
          have hk1 : k - 1 < l.length := by omega
          have hinc := hcore.inc (k - 1) (by omega)
          rw [show k - 1 + 1 = k by omega, hxe'] at hinc
          refine Exists.elim (hscel (k - 1) hk1) fun b2 h => Exists.elim h fun o2 h => Exists.elim h fun y h => ?_
          have hla := h.1
          have hye := h.2.1
          have hc3 := (hx.trans hx7).cell h.2.2
          clear h
          cases hla
          have hye' : l.getD (k - 1) 0 = y := by rw [List.getD_eq_getElem?_getD, List.getElem?_eq_getElem hk1, hye]; rfl
          rw [hye'] at hinc
          refine ⟨_, IntWalk.i64_in _ (by omega), ⟨by omega, by omega⟩, .int .i64 y, ?_, ?_⟩
          rotate_left
          refine br_dec_false (show ¬ x ≤ y by omega) ?_
          rotate_left
          have e : ((k : Int) - 1).toNat = k - 1 := by omega
          rw [e]
          exact hc3
        all_goals
          as_aux_lemma =>
            refine br_dec (fun hne => ?_) (fun hne => ?_)
            · have hxF : x.toNat < F.length := by omega
              have hsn : coreK F l s (k + 1) = coreK F l s k ++ [F.getD x.toNat []] := by rw [coreK, if_neg hne, hxe']
              refine Exists.elim (hgcells x.toNat hxF) fun b h => Exists.elim h fun o0 h => Exists.elim h fun ka h => Exists.elim h fun kl h => Exists.elim h fun kc hh => ?_
              have hae := hh.1
              subst hae
              have x47 := (x5.trans hx).trans hx7
              have hcell := x47.cell hh.2.1
              have hb4 : b < w4.heap.size := World.block_lt_of_cell? _ _ hh.2.1
              have hwl : w.heap.size < w7.heap.size := World.block_lt_of_cell? _ _ hcl.1
              have hnb : ∀ i, i ≤ w.heap.size → ¬ blk hv i := fun i hi e => by have := hob i e; omega
              refine .inr (.inr (hyb_ruleS (blk hv) ties mixed [(0, .quiet), (1, .quiet), (2, .quiet), (3, .quiet), (4, .quiet), (5, .quiet), (6, .quiet), (7, .loud), (8, .loud), (9, .loud), (10, .wild)] (by kernel_rfl) ?_))
              refine ⟨hnb _ (by omega), _, hcl.2.1, hnb _ (by omega), _, (hc5.ext hx7).2.1, ⟨by omega, by omega⟩, hnb _ (by omega), .slice ka kl kc, hcell, ?_⟩
              intro w8 hx8
              refine ⟨Chg.alloc _ _, ?_⟩
              intro w9 hx9
              have hx89 : Ext w7 w9 := (hx8.trans (Ext.new _ _)).trans hx9
              refine raw_append (E := eL) (ok := oldB w4.heap.size) (l := coreK F l s k) (k := [F.getD x.toNat []]) ties rfl rfl rfl rfl rfl rfl rfl rfl rfl rfl (ho7.ext hx89) (fun b' hb' e => by have := hob b' e; unfold oldB at hb'; omega) ⟨_, _, rfl, .inr ⟨_, _, rfl, ⟨[.slice ka kl kc], (boxedAll w8 [.slice ka kl kc] _).ext hx9, Rep.ext eL (x47.trans hx89) hh.2.2⟩, trivial⟩⟩ (by show ((coreK F l s k).length + 1) * 24 ≤ _; omega) (by show (coreK F l s k).length + 1 ≤ _; omega) ?_
              intro v w10 hv10 hch10 hvb10
              rw [← hsn] at hv10
              refine ⟨hch10, ?_⟩
              intro w11 hx11
              refine ⟨Chg.refl _ _, ?_⟩
              intro w12 hx12
              refine Exists.elim (own_ptr hv10 (by rw [hsn, List.length_append]; exact Nat.succ_ne_zero _)) fun B8 h => Exists.elim h fun cp8 he8 => ?_
              subst he8
              have hchv : Chg (blk hv) w7 w12 := ((Chg.of hx89).trans hch10).trans (.of (hx11.trans hx12))
              have hr9 := hchv.rmy (hnb _ (by omega)) hr
              have hc9 := hchv.cells (hnb _ (by omega)) hcl
              have hz := hx89.size
              have hv8b : ∀ b', blk (.slice (some ⟨B8, 0, none⟩) (coreK F l s (k + 1)).length cp8) b' → w.heap.size < b' := fun b' hb' => by
                rcases hvb10 b' hb' with h | h
                · exact hob b' h
                · omega
              have hcc : CellsAt (w12.setCell ⟨w.heap.size, 0 + 1, none⟩ (.slice (some ⟨B8, 0, none⟩) (coreK F l s (k + 1)).length cp8)) w.heap.size 0 [.int .i64 n, .slice (some ⟨B8, 0, none⟩) (coreK F l s (k + 1)).length cp8] := ⟨(World.cell?_setCell_other _ _ _ _ (by simp)).trans hc9.1, World.cell?_setCell_same _ _ _ hc9.2.1, trivial⟩
              refine ⟨hr9 1 (by decide), ?_⟩
              intro w13 hx13
              refine ⟨_, IntWalk.i64_in _ (by omega), ?_⟩
              refine hK' (k + 1, _, _, _) _ _ (vs3 rfl rfl (vint (by show (k : Int) + 1 = ((k + 1 : Nat) : Int); omega))) ⟨?_, by show k + 1 ≤ _; omega, hr9.setCell.ext hx13, hcc.ext hx13, ?_, hv8b⟩ (by show l.length - (k + 1) < l.length - k; omega) ?_
              · exact ((hx7.chg hchv (fun b' hb' => Nat.le_of_lt (hob b' hb'))).set (Nat.le_refl _) _).trans hx13
              · exact ((hv10.ext (hx11.trans hx12)).chg (S := fun b => b = w.heap.size) (fun b' hb' e => by unfold oldB at hb'; omega) (fun b' hb' e => by have := hv8b b' hb'; omega) (Chg.setCell (S := fun b => b = w.heap.size) _ rfl _)).ext hx13
              · ((repeat (first | (with_reducible exact Only.refl) | (with_reducible refine Only.skip ?_) | ((with_reducible refine Only.upd ?_ ?_); rfl) | ((with_reducible refine Only.over ?_ ?_ _); rfl) | ((with_reducible refine Only.hav ?_ ?_ ?_); rfl; rfl))))
            · have hsn : coreK F l s (k + 1) = coreK F l s k := by rw [coreK, if_pos (Decidable.of_not_not hne), List.append_nil]
              refine ⟨_, IntWalk.i64_in _ (by omega), ?_⟩
              refine hK' (k + 1, hv, _, _) _ _ (vs3 rfl rfl (vint (by show (k : Int) + 1 = ((k + 1 : Nat) : Int); omega))) ⟨hx7, by show k + 1 ≤ _; omega, hr, hcl, by show OwnR eL _ w7 hv (coreK F l s (k + 1)); rw [hsn]; exact ho7, hob⟩ (by show l.length - (k + 1) < l.length - k; omega) ?_
              ((repeat (first | (with_reducible exact Only.refl) | (with_reducible refine Only.skip ?_) | ((with_reducible refine Only.upd ?_ ?_); rfl) | ((with_reducible refine Only.over ?_ ?_ _); rfl) | ((with_reducible refine Only.hav ?_ ?_ ?_); rfl; rfl))))
      · have hke : k = l.length := by omega
        rw [hke] at ho7
        have hG : SlR eL allB w7 hv (coreK F l s l.length) := ho7.sl (fun _ _ => trivial) (fun _ _ => trivial)
        have hzero := core_zero hn6 hF hlF hcore hsl
        refine ⟨[.int .i64 n, hv], rfl, hcl, ?_⟩
        refine Or.inl ((spec_CountModels n (coreK F l s l.length) hv w7 hG).mono ?_)
        rintro _ w8 ⟨rfl, x8⟩
        refine br_false (by rw [hzero]; simp) ?_
        refine ⟨_, IntWalk.i64_in _ (by omega), ?_⟩
        refine hK (s + 1, _, _, _) _ _ (vs4 (vint (by show (s : Int) - 1 + 1 = ((s + 1 : Nat) : Int) - 1; omega)) rfl rfl rfl) ⟨(hx.trans hx7).trans x8, by show s + 1 ≤ _; omega⟩ (by show l.length + 1 - (s + 1) < l.length + 1 - s; omega) ?_
        ((repeat (first | (with_reducible exact Only.refl) | (with_reducible refine Only.skip ?_) | ((with_reducible refine Only.upd ?_ ?_); rfl) | ((with_reducible refine Only.over ?_ ?_ _); rfl) | ((with_reducible refine Only.hav ?_ ?_ ?_); rfl; rfl))))
theorem own : ownKnob Try.prog.godebug = none := by kernel_rfl
theorem laidOut : laidOutB Try.prog = true := by kernel_rfl
set_option maxRecDepth 100000 in
theorem lifted (os : Os) (started : os.Started) (H : Type) (enc : TypeId × Value → H) :
    ReturnsInHanded {} Try.checked os 3 .any (Rows.fnCoresSpec.pre6 enc Try.prog Try.f3 Rows.fnCoresRow.domain false) (Rows.fnCoresSpec.post enc Try.prog Try.f3 false true false false) := by
  refine returnsInHanded_of_change (C := Try.checked) own started (by kernel_rfl) Try.func3
    (ChangeSpec.witness6 (enc := enc) (C := Try.checked) false ⟨#[], #[.slice none 0 0], []⟩ 8 (by kernel_rfl) (by kernel_rfl) (by kernel_rfl) (by kernel_rfl)) ?_
  intro W base args ds gs before hval0 hW hcnd _
  have hval : ∀ (j : Nat) t v, Try.f3.params[j]? = some t → args[j]? = some v → Value.okWide Try.prog W .any base t v := hval0
  have hW' := hW
  obtain ⟨p, q, hA0, hV, rfl, hfz, hnd⟩ := hW
  have hA : DataW.TrodAll enc Try.prog W 0 (fun _ => true) true Try.f3.params.toList args.toList ds p := hA0
  rw [Try.params3] at hA hval
  obtain ⟨v0, vs0, d0, ds0, p0, q0, hargs, rfl, rfl, h0, r0⟩ := trodAll_cons hA
  obtain ⟨rfl, rfl, rfl⟩ := trodAll_nil r0
  obtain rfl : args = #[v0] := by cases args; simp_all
  obtain ⟨rfl, rfl⟩ := trodVars_none hV
  have k0 := h0
  have lt0 : ∀ x ∈ p0, x.block < W.heap.size := by obtain ⟨m, hm⟩ := k0; exact DataW.trod_lt m _ _ _ hm
  obtain ⟨L0, HS0⟩ := open_Bytes (hval 0 22 v0 rfl rfl) h0
  clear hA0 hval0
  refine (walk W L0 v0 HS0).calls.mono fun e W' ⟨v, he, hv, bel⟩ => ?_
  subst hv
  subst he
  exact ⟨_, rfl, _, _, _, [], _, [], hW', trodAll_mk1 (shut_bool Try.underlying4 _), (trodAll_cons_mk (Below.trod laidOut (by kernel_rfl) (of_decide_eq_true (by kernel_rfl)) k0 bel lt0) trodAll_mk0), rfl, bel.frame _, fun h => by cases h⟩
theorem band {a b : Bool} (h1 : a = true) (h2 : b = true) : (a && b) = true := by rw [h1, h2]; rfl
theorem lifted_ok : (Rows.fnCoresRow.lifted == Try.pinned.checked.prog.liftsFinal) = true := by rw [head_final]; rfl
theorem make_ok : (Try.pinned.checked.prog.make == some Rows.fnCoresRow.make) = true := by rw [head_make]; rfl
set_option maxHeartbeats 4000000 in
theorem closed : joinedFacts Try.pinned.checked.prog 3 Try.f3 Rows.fnCoresSpec Rows.fnCoresRow = true := by
  unfold joinedFacts
  repeat' (with_reducible refine band ?_ ?_)
  all_goals (first | with_reducible exact head_enter | with_reducible exact lifted_ok | with_reducible exact make_ok | (as_aux_lemma => kernel_rfl))
theorem holds : Rows.fnCoresRow.holds Try.pinned (OpenSpec.ofChange Rows.fnCoresSpec) :=
  OpenClaim.holds_of_wide 3 Try.f3 rfl rfl rfl rfl rfl rfl rfl ⟨rfl, rfl, rfl, rfl, rfl⟩ rfl rfl rfl rfl rfl (by as_aux_lemma => kernel_rfl) Try.func3 closed
    (of_decide_eq_true (by as_aux_lemma => kernel_rfl)) (by unfold Func.isWrapper; first | (rw [if_pos (by decide +kernel)]; kernel_rfl) | (rw [if_neg (by decide +kernel)]; exact ⟨rfl, rfl⟩))
    (fun os started H enc _ => lifted os started H enc)
/-- The statement. -/
theorem proved : Rows.FnCoresSaid := holds
#print axioms proved
end Go.Proofs.Ytfmflffggcphjaa.lawFnCores
