/- The law FnPropagate: whatever the bytes, it returns true; all that was there is as it was. No condition. -/
import Derived.Test.YtfmflffggcphjaaDp
import Derived.Test.YtfmflffggcphjaaTh
import Derived.Test.YtfmflffggcphjaaZw
import Derived.WalkKit
import Derived.ProofKit
import Derived.OpenShut
import Derived.ShutString
import Derived.ChangeOld
import Derived.Below
namespace Go.Proofs.Ytfmflffggcphjaa.lawFnPropagate
open Go Go.Vc Go.ChangeShapes Go.WideShapes Go.ChangeAt Go.RowKit Go.Sat Go.Proofs.Ytfmflffggcphjaa.Dr
set_option linter.unusedVariables false

theorem rev_snoc {α : Type} {l : List α} {k : Nat} {d : α} (hk : k < l.length) : l.reverse.take (k + 1) = l.reverse.take k ++ [l.getD (l.length - 1 - k) d] := by
  have hl : k < l.reverse.length := by rw [List.length_reverse]; exact hk
  rw [List.take_succ_eq_append_getElem hl, List.getElem_reverse, List.getD_eq_getElem?_getD, List.getElem?_eq_getElem (by omega)]
  rfl
theorem rev_all {α : Type} {l : List α} : l.reverse.take l.length = l.reverse := List.take_of_length_le (by rw [List.length_reverse]; exact Nat.le_refl _)

theorem propO_len {n : Nat} {F : Cnf} {lits : List Int} {o : Option (List Int)} (hn : n ≤ 6) (h : PropO n F lits o) : (o.getD []).length ≤ 10000000 := by
  unfold PropO at h
  split at h
  · obtain ⟨u, _, rfl⟩ := h
    cases u with
    | none => simp
    | some v =>
      have := outK_len v ((n : Int).toNat + 1)
      rw [Int.toNat_natCast] at *
      simp only [Option.map_some, Option.getD_some]; omega
  · rw [h]; simp

set_option maxRecDepth 200000 in
set_option maxHeartbeats 8000000 in
theorem walk (W : World) (L : List Int) (v0 : Value) (HS : SlR eU allB W v0 L) : Ret Try.prog 9 #[v0] W (fun v w' => v = .bool true ∧ Ext W w') := by
  have hlm : (maxLen : Int) ≤ 9223372036854775807 := by decide
  obtain ⟨a, cp, rfl, hlc, hcm, hat⟩ := id HS
  refine ret_of_vc ties mixed Try.func9 rfl (by kernel_rfl) rfl rfl ?_
  refine br_dec (fun h => ⟨rfl, Ext.refl _⟩) (fun _ => ?_)
  refine Or.inl ((giveFormula_ret L 0 (by decide) _ W HS).mono ?_)
  rintro _ w1 ⟨x1, n, gv, F, rfl, hn1, hn6, hF, hFl, hgv⟩
  have hgv : SlR eL allB w1 gv F := hgv.mono fun _ _ => trivial
  have r2 := Rmy.new w1 [.int .i64 0, .slice none 0 0] 25
  refine ⟨r2.all [.int .i64 n, gv] 0 (Nat.le_refl 2) (by simp only [List.all_cons, hgv.oneB]; rfl), ?_⟩
  have x2 : Ext w1 (setCells (w1.alloc (.cells #[.int .i64 0, .slice none 0 0] 25)) w1.heap.size 0 [.int .i64 n, gv]) := Ext.setCells _ (Ext.new _ _) (Nat.le_refl _)
  have hc2 := setCells_at [.int .i64 n, gv] _ 0 2 r2 (Nat.le_refl 2)
  refine ⟨[.int .i64 n, gv], rfl, hc2, ?_⟩
  refine Or.inl ((giveLits_ret L 90 (by decide) n (by omega) gv _ _ (HS.ext (x1.trans x2))).mono ?_)
  rintro tv w3 ⟨x3, lits, hlo, hlit, hll, -⟩
  have hls : SlR eI allB w3 tv lits := hlo.sl (fun _ _ => trivial) (fun _ _ => trivial)
  refine ⟨[.int .i64 n, gv], rfl, hc2.ext x3, ?_⟩
  refine Or.inl ((impl_Propagate n F lits gv tv w3 (hgv.ext (x2.trans x3)) hls (by omega)).mono ?_)
  rintro _ w4 ⟨x4, o, ho, sv, rfl, hsv, -⟩
  have hsv : SlR eI allB w4 sv (o.getD []) := hsv.sl (fun _ _ => trivial) (fun _ _ => trivial)
  have hgood := propO_good hF hlit ho
  have hrev := propO_rev ho
  have hol : (o.getD []).length ≤ 10000000 := propO_len hn6 ho
  have x14 : Ext W w4 := (((x1.trans x2).trans x3).trans x4)
  have hc4 := hc2.ext (x3.trans x4)
  have hgv4 := hgv.ext ((x2.trans x3).trans x4)
  have hls4 := hls.ext x4
  generalize w1.heap.size = G at hc4
  clear hc2 r2 hls hgv hlo HS hat x1 x2 x3 x4
  have hgvo : SlR eL (oldB w4.heap.size) w4 gv F := hgv4.lt.mono fun b hb => hb.2
  obtain ⟨ga, gc, rfl, hgl, hgcells⟩ := cl_cells hgvo
  obtain ⟨la, lc, rfl, hlc2, hlm2, -⟩ := id hls4
  obtain ⟨sa, sc, rfl, hsc2, hsm2, -⟩ := id hsv
  -- the same clauses, the last one first
  refine ⟨_, hc4.1, ?_⟩
  have r7 := Rmy.new w4 [.int .i64 0, .slice none 0 0] 25
  refine ⟨r7.all [.int .i64 n, .slice none 0 0] 0 (Nat.le_refl 2) rfl, ?_⟩
  have x5 : Ext w4 (setCells (w4.alloc (.cells #[.int .i64 0, .slice none 0 0] 25)) w4.heap.size 0 [.int .i64 n, .slice none 0 0]) := Ext.setCells _ (Ext.new _ _) (Nat.le_refl _)
  have hc5 := setCells_at [.int .i64 n, .slice none 0 0] _ 0 2 r7 (Nat.le_refl 2)
  have r5 := Rmy.setCells (b := w4.heap.size) (o := 0) [.int .i64 n, .slice none 0 0] r7
  have hG4 : G < w4.heap.size := World.block_lt_of_cell? _ _ hc4.1
  refine ⟨_, (hc4.ext x5).2.1, _, IntWalk.i64_in _ (by omega), ?_⟩
  refine loop_rule (σ := Nat × Value) [8] 45 210 (fun q => [.int .i64 ((F.length : Int) - 1 - q.1)])
    (fun q w' => Ext w4 w' ∧ q.1 ≤ F.length ∧ Rmy w' w4.heap.size 2 ∧ CellsAt w' w4.heap.size 0 [.int .i64 n, q.2] ∧ OwnR eL (oldB w4.heap.size) w' q.2 (F.reverse.take q.1) ∧ ∀ b, blk q.2 b → w4.heap.size < b)
    (fun q => F.length - q.1) (0, .slice none 0 0) (vs1 (vint (by omega))) ⟨x5, Nat.zero_le _, r5, hc5, OwnR.nil _ _ _ _, fun b hb => hb.elim⟩ ?_
  clear r7 r5 hc5 x5
  as_aux_lemma =>
    rintro ⟨k, hv⟩ w junk ⟨hx, hk, hr, hcl, ho7, hob⟩ K hK
    simp only at hk hcl ho7 hob
    show vc _ _ _ _ (over [8] [.int .i64 ((F.length : Int) - 1 - k)] _) _
    refine br_dec (fun h3 => ?_) (fun h3 => ?_)
    · have hkl : k < F.length := by omega
      refine Exists.elim (hgcells (F.length - 1 - k) (by omega)) fun b h => Exists.elim h fun o0 h => Exists.elim h fun ka h => Exists.elim h fun kl h => Exists.elim h fun kc hh => ?_
      have hae := hh.1
      subst hae
      have hcell := hx.cell hh.2.1
      have hsn := rev_snoc (l := F) (d := []) hkl
      have hG7 : w4.heap.size < w.heap.size := World.block_lt_of_cell? _ _ hcl.1
      have hne : ∀ i, i ≤ w4.heap.size → ¬ blk hv i := fun i hi e => by have := hob i e; omega
      have hb4 : b < w4.heap.size := World.block_lt_of_cell? _ _ hh.2.1
      refine .inr (.inr (hyb_ruleS (blk hv) ties mixed [(0, .quiet), (1, .quiet), (2, .quiet), (3, .quiet), (4, .quiet), (5, .quiet), (6, .quiet), (7, .loud), (8, .loud), (9, .loud), (10, .wild)] (by kernel_rfl) ?_))
      refine ⟨hne _ (by omega), _, hcl.2.1, hne _ (by omega), _, (hc4.ext hx).2.1, ⟨by omega, by omega⟩, hne _ (by omega), .slice ka kl kc, ?_, ?_⟩
      · have e : ((F.length : Int) - 1 - k).toNat = F.length - 1 - k := by omega
        rw [e]
        exact hcell
      intro w5 hx5
      refine ⟨Chg.alloc _ _, ?_⟩
      intro w6 hx6
      have hx56 : Ext w w6 := (hx5.trans (Ext.new _ _)).trans hx6
      have hlen : (F.reverse.take k).length = k := by rw [List.length_take, List.length_reverse]; omega
      refine raw_append (E := eL) (ok := oldB w4.heap.size) (l := F.reverse.take k) (k := [F.getD (F.length - 1 - k) []]) ties rfl rfl rfl rfl rfl rfl rfl rfl rfl rfl (ho7.ext hx56) (fun b' hb' e => by have := hob b' e; unfold oldB at hb'; omega) ⟨_, _, rfl, .inr ⟨_, _, rfl, ⟨[.slice ka kl kc], (boxedAll w5 [.slice ka kl kc] _).ext hx6, Rep.ext eL (hx.trans hx56) hh.2.2⟩, trivial⟩⟩ (by rw [hlen]; show (k + 1) * 24 ≤ _; omega) (by rw [hlen]; show k + 1 ≤ _; omega) ?_
      intro v w7 hv7 hch7 hvb7
      rw [← hsn] at hv7
      refine ⟨hch7, ?_⟩
      intro w8 hx8
      refine ⟨Chg.refl _ _, ?_⟩
      intro w9 hx9
      refine Exists.elim (own_ptr hv7 (by rw [hsn, List.length_append]; exact Nat.succ_ne_zero _)) fun B8 h => Exists.elim h fun cp8 he8 => ?_
      subst he8
      have hchv : Chg (blk hv) w w9 := ((Chg.of hx56).trans hch7).trans (.of (hx8.trans hx9))
      have hr9 := hchv.rmy (hne _ (by omega)) hr
      have hc9 := hchv.cells (hne _ (by omega)) hcl
      have hz := hx56.size
      have hv8b : ∀ b', blk (.slice (some ⟨B8, 0, none⟩) (F.reverse.take (k + 1)).length cp8) b' → w4.heap.size < b' := fun b' hb' => by
        rcases hvb7 b' hb' with h | h
        · exact hob b' h
        · omega
      refine ⟨hr9 1 (by decide), ?_⟩
      have hcc : CellsAt (w9.setCell ⟨w4.heap.size, 0 + 1, none⟩ (.slice (some ⟨B8, 0, none⟩) (F.reverse.take (k + 1)).length cp8)) w4.heap.size 0 [.int .i64 n, .slice (some ⟨B8, 0, none⟩) (F.reverse.take (k + 1)).length cp8] := ⟨(World.cell?_setCell_other _ _ _ _ (by simp)).trans hc9.1, World.cell?_setCell_same _ _ _ hc9.2.1, trivial⟩
      intro w10 hx10
      refine ⟨_, IntWalk.i64_in _ (by omega), ?_⟩
      refine hK (k + 1, _) _ _ (vs1 (vint (by show (F.length : Int) - 1 - k - 1 = (F.length : Int) - 1 - (k + 1 : Nat); omega))) ⟨?_, by show k + 1 ≤ _; omega, hr9.setCell.ext hx10, hcc.ext hx10, ?_, hv8b⟩ (by show F.length - (k + 1) < F.length - k; omega) ?_
      · exact ((hx.chg hchv (fun b' hb' => Nat.le_of_lt (hob b' hb'))).set (Nat.le_refl _) _).trans hx10
      · exact ((hv7.ext (hx8.trans hx9)).chg (S := fun b => b = w4.heap.size) (fun b' hb' e => by unfold oldB at hb'; omega) (fun b' hb' e => by have := hv8b b' hb'; omega) (Chg.setCell (S := fun b => b = w4.heap.size) _ rfl _)).ext hx10
      · ((repeat (first | (with_reducible exact Only.refl) | (with_reducible refine Only.skip ?_) | ((with_reducible refine Only.upd ?_ ?_); rfl) | ((with_reducible refine Only.over ?_ ?_ _); rfl) | ((with_reducible refine Only.hav ?_ ?_ ?_); rfl; rfl))))
    have hk : k = F.length := by omega
    rw [hk, rev_all] at ho7
    have hFr : SlR eL allB w hv F.reverse := ho7.sl (fun _ _ => trivial) (fun _ _ => trivial)
    clear ho7 hob hK hr
    as_aux_lemma =>
      have hcel := ints_cells (hls4.ext hx)
      have xn : Ext w (w.alloc (.cells #[] 3)) := Ext.new _ _
      refine ⟨_, IntWalk.i64_in _ (by omega), ?_⟩
      refine loop_rule (σ := Nat × Value) [9, 10] 63 210 (fun q => [q.2, .int .i64 ((lits.length : Int) - 1 - q.1)])
        (fun q w' => Ext w w' ∧ q.1 ≤ lits.length ∧ OwnR eI noB w' q.2 (lits.reverse.take q.1) ∧ ∀ b, blk q.2 b → w.heap.size ≤ b) (fun q => lits.length - q.1) (0, .slice (some ⟨w.heap.size, 0, none⟩) 0 0) (vs2 rfl (vint (by omega))) ⟨xn, Nat.zero_le _, OwnR.nil _ _ _ _, fun b hb => by cases hb; exact Nat.le_refl _⟩ ?_
      as_aux_lemma =>
        rintro ⟨i, mv⟩ w5 junk ⟨hx5, hi, ho5, hob5⟩ K' hK'
        simp only at hi ho5 hob5
        show vc _ _ _ _ (over [9, 10] [mv, .int .i64 ((lits.length : Int) - 1 - i)] _) _
        refine br_dec (fun h4 => ?_) (fun h4 => ?_)
        · have hin : i < lits.length := by omega
          have hsn := rev_snoc (l := lits) (d := 0) hin
          have hlen : (lits.reverse.take i).length = i := by rw [List.length_take, List.length_reverse]; omega
          refine Exists.elim (hcel (lits.length - 1 - i) (by omega)) fun b h => Exists.elim h fun o1 h => Exists.elim h fun x h => ?_
          have hla := h.1
          have hxe := h.2.1
          have hc1 := h.2.2
          clear h
          subst hla
          have hxe' : lits.getD (lits.length - 1 - i) 0 = x := by rw [List.getD_eq_getElem?_getD, List.getElem?_eq_getElem (by omega), hxe]; rfl
          rw [hxe'] at hsn
          refine ⟨⟨by omega, by omega⟩, .int .i64 x, ?_, ?_⟩
          · have e : ((lits.length : Int) - 1 - i).toNat = lits.length - 1 - i := by omega
            rw [e]
            exact hx5.cell hc1
          refine raw_push (E := eI) (ok := noB) (x := x) ties rfl rfl rfl rfl rfl rfl rfl rfl rfl rfl rfl ho5 rfl noB_blk (by rw [hlen]; show (i + 1) * 8 ≤ _; omega) (by omega) ?_
          intro v w6 hv hch hsz hvb
          rw [← hsn] at hv
          refine ⟨_, IntWalk.i64_in _ (by omega), ?_⟩
          refine hK' (i + 1, v) _ _ (vs2 rfl (vint (by show (lits.length : Int) - 1 - i - 1 = (lits.length : Int) - 1 - (i + 1 : Nat); omega))) ⟨hx5.chg hch hob5, by show i + 1 ≤ _; omega, hv, fun b hb => ?_⟩ (by show lits.length - (i + 1) < lits.length - i; omega) ?_
          · rcases hvb b hb with h | h
            · exact hob5 b h
            · exact Nat.le_trans hx5.size (Nat.le_of_lt h.1)
          · ((repeat (first | (with_reducible exact Only.refl) | (with_reducible refine Only.skip ?_) | ((with_reducible refine Only.upd ?_ ?_); rfl) | ((with_reducible refine Only.over ?_ ?_ _); rfl) | ((with_reducible refine Only.hav ?_ ?_ ?_); rfl; rfl))))
        have hin : i = lits.length := by omega
        rw [hin, rev_all] at ho5
        have hlr : SlR eI allB w5 mv lits.reverse := ho5.sl (fun _ _ => trivial) (fun _ _ => trivial)
        clear ho5 hob5 hK' hcel
        as_aux_lemma =>
          refine ⟨[.int .i64 n, hv], rfl, hcl.ext hx5, ?_⟩
          refine Or.inl ((impl_Propagate n F.reverse lits.reverse hv mv w5 (hFr.ext hx5) hlr (by rw [List.length_reverse]; omega)).mono ?_)
          rintro _ w6 ⟨x6, o', ho', sv', rfl, hsv', -⟩
          have := PropO.unique ho' hrev
          subst this
          have hx6 := (hx.trans hx5).trans x6
          have hsv' : SlR eI allB w6 sv' (o'.getD []) := hsv'.sl (fun _ _ => trivial) (fun _ _ => trivial)
          have hsv6 := hsv.ext hx6
          have hres1 := hgood.1
          have hres3 := hgood.2.2
          have hres2 : o'.isSome = true → PropO n F (o'.getD []) (some (o'.getD [])) := fun h => by
            refine Exists.elim (Option.isSome_iff_exists.1 h) fun l hl => ?_
            rw [hl]
            exact hgood.2.1 l hl
          clear hgood hrev ho' ho hFr hlr hcl
          generalize o'.isSome = okb at hres2 hres3
          generalize o'.getD [] = l at hres1 hres2 hres3 hol hsv' hsv6 hsv
          refine br_false (by simp) ?_
          refine Or.inl ((ints_ret l l _ _ w6 hsv6 hsv').mono ?_)
          rintro _ _ ⟨rfl, rfl⟩
          refine br_ndec (fun h => absurd rfl h) (fun _ => ?_)
          clear hsv'
          have hscel := ints_cells hsv6
          refine loop_rule (σ := Nat × Value) [14, 91] 92 210 (fun q => [q.2, .int .i64 q.1])
            (fun q w' => w' = w6 ∧ q.1 ≤ l.length) (fun q => l.length - q.1) (0, undef) rfl ⟨rfl, Nat.zero_le _⟩ ?_
          as_aux_lemma =>
            rintro ⟨i, y14⟩ w7 junk ⟨rfl, hi⟩ K' hK'
            simp only at hi
            show vc _ _ _ _ (over [14, 91] [y14, .int .i64 i] _) _
            refine br_dec (fun h4 => ?_) (fun h4 => ?_)
            · have hil : i < l.length := by omega
              refine Exists.elim (hscel i hil) fun b1 h => Exists.elim h fun o1 h => Exists.elim h fun x h => ?_
              have hla := h.1
              have hxe := h.2.1
              have hc1 := h.2.2
              clear h
              subst hla
              have hlx := litOk_iff.1 (hres1 _ (List.getElem_mem hil))
              rw [hxe] at hlx
              have hGc := (hc4.ext hx6).1
              refine ⟨⟨by omega, by omega⟩, _, hc1, ?_⟩
              refine br_dec_false hlx.1 ?_
              refine ⟨_, hGc, _, (congrArg _ (Int.zero_sub _)).trans (IntWalk.i64_in _ (by omega)), ?_⟩
              refine br_dec_false (show ¬ x < -(n : Int) by omega) ?_
              refine ⟨_, hGc, ?_⟩
              refine br_dec_false (show ¬ (n : Int) < x by omega) ?_
              refine ⟨_, IntWalk.i64_in _ (by omega), ?_⟩
              refine hK' (i + 1, _) _ _ (vs2 rfl (vint (by show (i : Int) + 1 = ((i + 1 : Nat) : Int); omega))) ⟨rfl, by show i + 1 ≤ _; omega⟩ (by show l.length - (i + 1) < l.length - i; omega) ?_
              ((repeat (first | (with_reducible exact Only.refl) | (with_reducible refine Only.skip ?_) | ((with_reducible refine Only.upd ?_ ?_); rfl) | ((with_reducible refine Only.over ?_ ?_ _); rfl) | ((with_reducible refine Only.hav ?_ ?_ ?_); rfl; rfl))))
            clear hK' hi h4
            -- once more with what was found
            have hbit : ∀ k : Nat, (bitsOf n k).length = n := fun k => bitsOf_len n k
            refine br_split (fun hb => ?again) (fun hb => ?over)
            case' again =>
              refine ⟨[.int .i64 n, .slice ga F.length gc], rfl, hc4.ext hx6, ?_⟩
              refine Or.inl ((impl_Propagate n F l _ _ w7 (hgv4.ext hx6) hsv6 hol).mono ?_)
              rintro _ w8 ⟨x8, o2, ho2, sv2, rfl, hsv2, -⟩
              have := PropO.unique ho2 (hres2 hb)
              subst this
              have hsv2 : SlR eI allB w8 sv2 l := hsv2.sl (fun _ _ => trivial) (fun _ _ => trivial)
              refine Or.inl ((ints_ret l l _ _ w8 (hsv6.ext x8) hsv2).mono ?_)
              rintro _ _ ⟨rfl, rfl⟩
              refine br_ndec (fun h => absurd rfl h) (fun _ => ?_)
              clear hsv2 ho2
              have hx6 := hx6.trans x8
              have hsv6 := hsv6.ext x8
              clear x8 hscel hb
            case' over => clear hscel hb
            all_goals
              as_aux_lemma =>
                refine loop_rule (σ := Nat × Value × Value × Value × Value) [17, 18, 19, 21, 23] 126 210 (fun q => [.int .i64 q.1, q.2.1, q.2.2.1, q.2.2.2.1, q.2.2.2.2])
                  (fun q w' => Ext w4 w' ∧ q.1 ≤ 2 ^ n) (fun q => 2 ^ n - q.1) (0, undef, undef, undef, undef) rfl ⟨hx6, Nat.zero_le _⟩ ?_
                rintro ⟨k, j18, j19, j21, j23⟩ w junk ⟨hx, hk⟩ K hK
                simp only at hk
                show vc _ _ _ _ (over [17, 18, 19, 21, 23] [.int .i64 k, j18, j19, j21, j23] _) _
                have hp := pow12 n (by omega)
                refine ⟨_, (hc4.ext hx).1, by omega, _, shl12 n (by omega), ?_⟩
                refine br_dec (fun h3 => ?_) (fun h3 => ?_)
                · have hk2 : k < 2 ^ n := by exact_mod_cast h3
                  refine ⟨_, (hc4.ext hx).1, ?_⟩
                  refine Exists.elim (⟨_, rfl⟩ : ∃ m, bitsOf n k = m) fun m hme => ?_
                  have hml : m.length = n := hme ▸ bitsOf_len n k
                  have hbs := bools_ret n k (by omega) (by omega) w
                  rw [hme] at hbs
                  refine Or.inl ((hbs).mono ?_)
                  rintro bv w10 ⟨x10, hbv⟩
                  have hx10 := hx.trans x10
                  refine ⟨[.int .i64 n, .slice ga F.length gc], rfl, hc4.ext hx10, ?_⟩
                  have hsp := spec_EvalFormula n F _ _ _ w10 (hgv4.ext hx10) hbv
                  rw [show evalF n F m = evF F m by simp [evalF, hF, hml]] at hsp
                  refine Or.inl ((hsp).mono ?_)
                  rintro _ w11 ⟨rfl, x11⟩
                  have hx11 := hx10.trans x11
                  refine Exists.elim (bools_cells (hbv.ext x11) (by rw [hml]; omega)) fun B h => Exists.elim h fun O h => Exists.elim h fun C h => ?_
                  have hve := h.1
                  have hmc := h.2
                  rw [hml] at hve hmc
                  clear h hbs hsp
                  clear hbv
                  subst hve
                  have hsound := hres3 m
                  have hcel := ints_cells (hls4.ext hx11)
                  have hlcel := ints_cells (hsv.ext hx11)
                  refine loop_rule (σ := Nat × Bool × Value) [19, 21, 142] 143 210 (fun q => [.bool q.2.1, q.2.2, .int .i64 q.1])
                    (fun q w' => w' = w11 ∧ q.1 ≤ lits.length ∧ q.2.1 = (evF F m && (lits.take q.1).all (satL m))) (fun q => lits.length - q.1) (0, evF F m, j21) rfl ⟨rfl, Nat.zero_le _, by simp⟩ ?_
                  as_aux_lemma =>
                    rintro ⟨i, fit, y21⟩ w12 junk ⟨rfl, hi, hfit⟩ K' hK'
                    simp only at hi hfit
                    show vc _ _ _ _ (over [19, 21, 142] [.bool fit, y21, .int .i64 i] _) _
                    refine br_dec (fun h6 => ?_) (fun h6 => ?_)
                    · have hil : i < lits.length := by omega
                      refine Exists.elim (hcel i hil) fun b1 h => Exists.elim h fun o1 h => Exists.elim h fun x h => ?_
                      have hla := h.1
                      have hxe := h.2.1
                      have hc1 := h.2.2
                      clear h
                      subst hla
                      refine ⟨⟨by omega, by omega⟩, _, hc1, ?_⟩
                      have hst := all_next (p := satL m) hil
                      have hlx := litOk_iff.1 (hlit _ (List.getElem_mem hil))
                      rw [hxe] at hst hlx
                      have hstep : (evF F m && (lits.take (i + 1)).all (satL m)) = (fit && satL m x) := by rw [hst, hfit, Bool.and_assoc]
                      cases fit with
                      | false =>
                        refine ⟨_, IntWalk.i64_in _ (by omega), ?_⟩
                        refine hK' (i + 1, false, _) _ _ (vs3 rfl rfl (vint (by show (i : Int) + 1 = ((i + 1 : Nat) : Int); omega))) ⟨rfl, by show i + 1 ≤ _; omega, ?_⟩ (by show lits.length - (i + 1) < lits.length - i; omega) ?_
                        · show false = (evF F m && (lits.take (i + 1)).all (satL m))
                          rw [hstep]; rfl
                        · ((repeat (first | (with_reducible exact Only.refl) | (with_reducible refine Only.skip ?_) | ((with_reducible refine Only.upd ?_ ?_); rfl) | ((with_reducible refine Only.over ?_ ?_ _); rfl) | ((with_reducible refine Only.hav ?_ ?_ ?_); rfl; rfl))))
                      | true =>
                        by_cases hx0 : 0 < x
                        · refine br_dec_true hx0 ?_
                          refine ⟨_, IntWalk.i64_in _ (by omega), ⟨by omega, by omega⟩, _, hmc _ (by omega) (by omega), ?_⟩
                          refine br_split (fun hb => ?_) (fun hb => ?_)
                          · refine ⟨_, IntWalk.i64_in _ (by omega), ?_⟩
                            refine hK' (i + 1, true, _) _ _ (vs3 rfl rfl (vint (by show (i : Int) + 1 = ((i + 1 : Nat) : Int); omega))) ⟨rfl, by show i + 1 ≤ _; omega, ?_⟩ (by show lits.length - (i + 1) < lits.length - i; omega) ?_
                            · show true = (evF F m && (lits.take (i + 1)).all (satL m))
                              rw [hstep, satL_pos hx0, hb]; rfl
                            · ((repeat (first | (with_reducible exact Only.refl) | (with_reducible refine Only.skip ?_) | ((with_reducible refine Only.upd ?_ ?_); rfl) | ((with_reducible refine Only.over ?_ ?_ _); rfl) | ((with_reducible refine Only.hav ?_ ?_ ?_); rfl; rfl))))
                          · refine br_dec_false (show ¬ x < 0 by omega) ?_
                            refine ⟨_, IntWalk.i64_in _ (by omega), ?_⟩
                            refine hK' (i + 1, false, _) _ _ (vs3 rfl rfl (vint (by show (i : Int) + 1 = ((i + 1 : Nat) : Int); omega))) ⟨rfl, by show i + 1 ≤ _; omega, ?_⟩ (by show lits.length - (i + 1) < lits.length - i; omega) ?_
                            · show false = (evF F m && (lits.take (i + 1)).all (satL m))
                              rw [hstep, satL_pos hx0, hb]; rfl
                            · ((repeat (first | (with_reducible exact Only.refl) | (with_reducible refine Only.skip ?_) | ((with_reducible refine Only.upd ?_ ?_); rfl) | ((with_reducible refine Only.over ?_ ?_ _); rfl) | ((with_reducible refine Only.hav ?_ ?_ ?_); rfl; rfl))))
                        · have hx1 : x < 0 := by omega
                          refine br_dec_false hx0 ?_
                          refine br_dec_true hx1 ?_
                          refine ⟨-x, (congrArg _ (Int.zero_sub _)).trans (IntWalk.i64_in _ (by omega)), ?_⟩
                          refine ⟨_, IntWalk.i64_in _ (by omega), ⟨by omega, by omega⟩, _, hmc _ (by omega) (by omega), ?_⟩
                          refine ⟨_, IntWalk.i64_in _ (by omega), ?_⟩
                          refine hK' (i + 1, !m.getD (-x - 1).toNat false, _) _ _ (vs3 rfl rfl (vint (by show (i : Int) + 1 = ((i + 1 : Nat) : Int); omega))) ⟨rfl, by show i + 1 ≤ _; omega, ?_⟩ (by show lits.length - (i + 1) < lits.length - i; omega) ?_
                          · show (!m.getD (-x - 1).toNat false) = (evF F m && (lits.take (i + 1)).all (satL m))
                            rw [hstep, satL_not hx1]; rfl
                          · ((repeat (first | (with_reducible exact Only.refl) | (with_reducible refine Only.skip ?_) | ((with_reducible refine Only.upd ?_ ?_); rfl) | ((with_reducible refine Only.over ?_ ?_ _); rfl) | ((with_reducible refine Only.hav ?_ ?_ ?_); rfl; rfl))))
                    have hil : lits.length = i := by omega
                    subst hil
                    rw [List.take_length] at hfit
                    have hyes : fit = true → okb = true ∧ Hol m (fun x => x ∈ l) := fun h => by
                      rw [h] at hfit
                      have := (Bool.and_eq_true _ _).mp hfit.symm
                      exact hsound this.1 fun y hy => List.all_eq_true.1 this.2 y hy
                    clear hfit hsound hK' hcel
                    refine br_split (fun hf => ?_) (fun hf => ?_)
                    · subst hf
                      have hokb := (hyes rfl).1
                      have hhol := (hyes rfl).2
                      refine br_false (by rw [hokb]; rfl) ?_
                      refine loop_rule (σ := Nat × Value) [23, 179] 180 210 (fun q => [q.2, .int .i64 q.1])
                        (fun q w' => w' = w12 ∧ q.1 ≤ l.length) (fun q => l.length - q.1) (0, j23) rfl ⟨rfl, Nat.zero_le _⟩ ?_
                      as_aux_lemma =>
                        rintro ⟨i, y23⟩ w13 junk ⟨rfl, hi⟩ K' hK'
                        simp only at hi
                        show vc _ _ _ _ (over [23, 179] [y23, .int .i64 i] _) _
                        refine br_dec (fun h6 => ?_) (fun h6 => ?_)
                        · have hil : i < l.length := by omega
                          refine Exists.elim (hlcel i hil) fun b1 h => Exists.elim h fun o1 h => Exists.elim h fun x h => ?_
                          have hla := h.1
                          have hxe := h.2.1
                          have hc1 := h.2.2
                          clear h
                          subst hla
                          refine ⟨⟨by omega, by omega⟩, _, hc1, ?_⟩
                          have hlx := litOk_iff.1 (hres1 _ (List.getElem_mem hil))
                          have hsx := hhol _ (List.getElem_mem hil)
                          rw [hxe] at hlx hsx
                          by_cases hx0 : 0 < x
                          · rw [satL_pos hx0] at hsx
                            refine br_dec_true hx0 ?_
                            refine ⟨_, IntWalk.i64_in _ (by omega), ⟨by omega, by omega⟩, _, hmc _ (by omega) (by omega), ?_⟩
                            refine br_true hsx ?_
                            refine ⟨_, IntWalk.i64_in _ (by omega), ?_⟩
                            refine hK' (i + 1, _) _ _ (vs2 rfl (vint (by show (i : Int) + 1 = ((i + 1 : Nat) : Int); omega))) ⟨rfl, by show i + 1 ≤ _; omega⟩ (by show l.length - (i + 1) < l.length - i; omega) ?_
                            ((repeat (first | (with_reducible exact Only.refl) | (with_reducible refine Only.skip ?_) | ((with_reducible refine Only.upd ?_ ?_); rfl) | ((with_reducible refine Only.over ?_ ?_ _); rfl) | ((with_reducible refine Only.hav ?_ ?_ ?_); rfl; rfl))))
                          · have hx1 : x < 0 := by omega
                            rw [satL_not hx1] at hsx
                            refine br_dec_false hx0 ?_
                            refine br_dec_true hx1 ?_
                            refine ⟨-x, (congrArg _ (Int.zero_sub _)).trans (IntWalk.i64_in _ (by omega)), ?_⟩
                            refine ⟨_, IntWalk.i64_in _ (by omega), ⟨by omega, by omega⟩, _, hmc _ (by omega) (by omega), ?_⟩
                            refine br_false (by rw [hsx]; rfl) ?_
                            refine ⟨_, IntWalk.i64_in _ (by omega), ?_⟩
                            refine hK' (i + 1, _) _ _ (vs2 rfl (vint (by show (i : Int) + 1 = ((i + 1 : Nat) : Int); omega))) ⟨rfl, by show i + 1 ≤ _; omega⟩ (by show l.length - (i + 1) < l.length - i; omega) ?_
                            ((repeat (first | (with_reducible exact Only.refl) | (with_reducible refine Only.skip ?_) | ((with_reducible refine Only.upd ?_ ?_); rfl) | ((with_reducible refine Only.over ?_ ?_ _); rfl) | ((with_reducible refine Only.hav ?_ ?_ ?_); rfl; rfl))))
                        · refine ⟨_, IntWalk.i64_in _ (by omega), ?_⟩
                          refine hK (k + 1, _, _, _, _) _ _ (by show [_, _, _, _, _] = [_, _, _, _, _]; exact vs5 (vint (by show (k : Int) + 1 = ((k + 1 : Nat) : Int); omega)) rfl rfl rfl rfl) ⟨hx11, by show k + 1 ≤ _; omega⟩ (by show 2 ^ n - (k + 1) < 2 ^ n - k; omega) ?_
                          ((repeat (first | (with_reducible exact Only.refl) | (with_reducible refine Only.skip ?_) | ((with_reducible refine Only.upd ?_ ?_); rfl) | ((with_reducible refine Only.over ?_ ?_ _); rfl) | ((with_reducible refine Only.hav ?_ ?_ ?_); rfl; rfl))))
                    · subst hf
                      refine loop_rule (σ := Nat × Value) [23, 179] 180 210 (fun q => [q.2, .int .i64 q.1])
                        (fun q w' => w' = w12 ∧ q.1 ≤ l.length) (fun q => l.length - q.1) (0, j23) rfl ⟨rfl, Nat.zero_le _⟩ ?_
                      as_aux_lemma =>
                        rintro ⟨i, y23⟩ w13 junk ⟨rfl, hi⟩ K' hK'
                        simp only at hi
                        show vc _ _ _ _ (over [23, 179] [y23, .int .i64 i] _) _
                        refine br_dec (fun h6 => ?_) (fun h6 => ?_)
                        · have hil : i < l.length := by omega
                          refine Exists.elim (hlcel i hil) fun b1 h => Exists.elim h fun o1 h => Exists.elim h fun x h => ?_
                          have hla := h.1
                          have hxe := h.2.1
                          have hc1 := h.2.2
                          clear h
                          subst hla
                          refine ⟨⟨by omega, by omega⟩, _, hc1, ?_⟩
                          refine ⟨_, IntWalk.i64_in _ (by omega), ?_⟩
                          refine hK' (i + 1, _) _ _ (vs2 rfl (vint (by show (i : Int) + 1 = ((i + 1 : Nat) : Int); omega))) ⟨rfl, by show i + 1 ≤ _; omega⟩ (by show l.length - (i + 1) < l.length - i; omega) ?_
                          ((repeat (first | (with_reducible exact Only.refl) | (with_reducible refine Only.skip ?_) | ((with_reducible refine Only.upd ?_ ?_); rfl) | ((with_reducible refine Only.over ?_ ?_ _); rfl) | ((with_reducible refine Only.hav ?_ ?_ ?_); rfl; rfl))))
                        · refine ⟨_, IntWalk.i64_in _ (by omega), ?_⟩
                          refine hK (k + 1, _, _, _, _) _ _ (by show [_, _, _, _, _] = [_, _, _, _, _]; exact vs5 (vint (by show (k : Int) + 1 = ((k + 1 : Nat) : Int); omega)) rfl rfl rfl rfl) ⟨hx11, by show k + 1 ≤ _; omega⟩ (by show 2 ^ n - (k + 1) < 2 ^ n - k; omega) ?_
                          ((repeat (first | (with_reducible exact Only.refl) | (with_reducible refine Only.skip ?_) | ((with_reducible refine Only.upd ?_ ?_); rfl) | ((with_reducible refine Only.over ?_ ?_ _); rfl) | ((with_reducible refine Only.hav ?_ ?_ ?_); rfl; rfl))))
                · exact ⟨rfl, x14.trans hx⟩
theorem own : ownKnob Try.prog.godebug = none := by kernel_rfl
theorem laidOut : laidOutB Try.prog = true := by kernel_rfl
set_option maxRecDepth 100000 in
theorem lifted (os : Os) (started : os.Started) (H : Type) (enc : TypeId × Value → H) :
    ReturnsInHanded {} Try.checked os 9 .any (Rows.fnPropagateSpec.pre6 enc Try.prog Try.f9 Rows.fnPropagateRow.domain false) (Rows.fnPropagateSpec.post enc Try.prog Try.f9 false true false false) := by
  refine returnsInHanded_of_change (C := Try.checked) own started (by kernel_rfl) Try.func9
    (ChangeSpec.witness6 (enc := enc) (C := Try.checked) false ⟨#[], #[.slice none 0 0], []⟩ 8 (by kernel_rfl) (by kernel_rfl) (by kernel_rfl) (by kernel_rfl)) ?_
  intro W base args ds gs before hval0 hW hcnd _
  have hval : ∀ (j : Nat) t v, Try.f9.params[j]? = some t → args[j]? = some v → Value.okWide Try.prog W .any base t v := hval0
  have hW' := hW
  obtain ⟨p, q, hA0, hV, rfl, hfz, hnd⟩ := hW
  have hA : DataW.TrodAll enc Try.prog W 0 (fun _ => true) true Try.f9.params.toList args.toList ds p := hA0
  rw [Try.params9] at hA hval
  obtain ⟨v0, vs0, d0, ds0, p0, q0, hargs, rfl, rfl, h0, r0⟩ := trodAll_cons hA
  obtain ⟨rfl, rfl, rfl⟩ := trodAll_nil r0
  obtain rfl : args = #[v0] := by cases args; simp_all
  obtain ⟨rfl, rfl⟩ := trodVars_none hV
  have k0 := h0
  have lt0 : ∀ x ∈ p0, x.block < W.heap.size := by obtain ⟨m, hm⟩ := k0; exact DataW.trod_lt m _ _ _ hm
  obtain ⟨L0, HS0⟩ := open_Bytes (hval 0 22 v0 rfl rfl) h0
  clear hA0 hval0
  refine (walk W L0 v0 HS0).calls.mono fun e W' ⟨v, he, hv, bel⟩ => ?_
  subst hv
  subst he
  exact ⟨_, rfl, _, _, _, [], _, [], hW', trodAll_mk1 (shut_bool Try.underlying4 _), (trodAll_cons_mk (Below.trod laidOut (by kernel_rfl) (of_decide_eq_true (by kernel_rfl)) k0 bel lt0) trodAll_mk0), rfl, bel.frame _, fun h => by cases h⟩
theorem band {a b : Bool} (h1 : a = true) (h2 : b = true) : (a && b) = true := by rw [h1, h2]; rfl
theorem lifted_ok : (Rows.fnPropagateRow.lifted == Try.pinned.checked.prog.liftsFinal) = true := by rw [head_final]; rfl
theorem make_ok : (Try.pinned.checked.prog.make == some Rows.fnPropagateRow.make) = true := by rw [head_make]; rfl
set_option maxHeartbeats 4000000 in
theorem closed : joinedFacts Try.pinned.checked.prog 9 Try.f9 Rows.fnPropagateSpec Rows.fnPropagateRow = true := by
  unfold joinedFacts
  repeat' (with_reducible refine band ?_ ?_)
  all_goals (first | with_reducible exact head_enter | with_reducible exact lifted_ok | with_reducible exact make_ok | (as_aux_lemma => kernel_rfl))
theorem holds : Rows.fnPropagateRow.holds Try.pinned (OpenSpec.ofChange Rows.fnPropagateSpec) :=
  OpenClaim.holds_of_wide 9 Try.f9 rfl rfl rfl rfl rfl rfl rfl ⟨rfl, rfl, rfl, rfl, rfl⟩ rfl rfl rfl rfl rfl (by as_aux_lemma => kernel_rfl) Try.func9 closed
    (of_decide_eq_true (by as_aux_lemma => kernel_rfl)) (by unfold Func.isWrapper; first | (rw [if_pos (by decide +kernel)]; kernel_rfl) | (rw [if_neg (by decide +kernel)]; exact ⟨rfl, rfl⟩))
    (fun os started H enc _ => lifted os started H enc)
/-- The statement. -/
theorem proved : Rows.FnPropagateSaid := holds
#print axioms proved
end Go.Proofs.Ytfmflffggcphjaa.lawFnPropagate
