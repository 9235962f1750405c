/- The law FnProofs: whatever the bytes, it returns true; all that was there is as it was. No condition. -/
import Derived.Test.YtfmflffggcphjaaDp
import Derived.Test.YtfmflffggcphjaaTd
import Derived.Test.YtfmflffggcphjaaPb
import Derived.Test.YtfmflffggcphjaaVk
import Derived.Test.YtfmflffggcphjaaZw
import Derived.WalkKit
import Derived.ProofKit
import Derived.OpenShut
import Derived.ShutString
import Derived.ChangeOld
import Derived.Below
namespace Go.Proofs.Ytfmflffggcphjaa.lawFnProofs
open Go Go.Vc Go.ChangeShapes Go.WideShapes Go.ChangeAt Go.RowKit Go.Sat Go.Proofs.Ytfmflffggcphjaa.Dr
set_option linter.unusedVariables false

def rowB (W b6 : Nat) : Nat → Prop := fun b => oldB W b ∨ b = b6
/-- What the operations of the copy with one more clause give. -/
def fact (W : World) (G n : Nat) (gv : Value) (F : Cnf) : Nat → List Value → (Nat → Prop) → World → Prop
  | 0, vs, _, _ => vs = [.pointer (some ⟨G, 0, none⟩)]
  | 1, vs, _, _ => vs = [.int .i64 n]
  | 2, vs, B, _ => ∃ b, vs = [.slice (some ⟨b, 0, none⟩) 0 0] ∧ B b
  | 3, vs, _, _ => vs = [.pointer (some ⟨G, 1, none⟩)]
  | 4, vs, _, _ => vs = [gv]
  | 5, vs, B, w => ∃ v, vs = [v] ∧ OwnR eL (oldB W.heap.size) w v F ∧ ∀ b, blk v b → B b
  | 6, vs, B, w => ∃ b, vs = [.slice (some ⟨b, 0, none⟩) 1 1] ∧ CellsAt w b 0 [.int .i64 1] ∧ B b
  | 7, vs, B, w => ∃ b b6, vs = [.slice (some ⟨b, 0, none⟩) 1 1] ∧ CellsAt w b 0 [.slice (some ⟨b6, 0, none⟩) 1 1] ∧ CellsAt w b6 0 [.int .i64 1] ∧ B b ∧ B b6
  | 8, vs, B, w => ∃ v b6, vs = [v] ∧ OwnR eL (rowB W.heap.size b6) w v (F ++ [[1]]) ∧ (∀ b, blk v b → B b) ∧ B b6
  | 9, vs, B, w => ∃ v b6, vs = [.agg #[.int .i64 n, v]] ∧ OwnR eL (rowB W.heap.size b6) w v (F ++ [[1]]) ∧ (∀ b, blk v b → B b) ∧ B b6
  | 10, vs, B, w => ∃ b, vs = [.pointer (some ⟨b, 0, none⟩)] ∧ Rmy w b 2 ∧ B b
  | 11, vs, B, w => ∃ b v b6, vs = [.pointer (some ⟨b, 0, none⟩)] ∧ CellsAt w b 0 [.int .i64 n, v] ∧ B b ∧ OwnR eL (rowB W.heap.size b6) w v (F ++ [[1]]) ∧ (∀ b, blk v b → B b) ∧ B b6
  | _, _, _, _ => False
theorem fact_stab (W : World) (G n : Nat) (gv : Value) (F : Cnf) : ∀ i vs B S w1 w2, fact W G n gv F i vs B w1 → Chg S w1 w2 → (∀ b, B b → ¬ S b) → (∀ b, S b → W.heap.size ≤ b) → fact W G n gv F i vs B w2 := by
  intro i vs B S w1 w2 h hc hB hS
  have hold : ∀ b, oldB W.heap.size b → ¬ S b := fun b hb hs => by have := hS b hs; unfold oldB at hb; omega
  have hrow : ∀ b6, B b6 → ∀ b, rowB W.heap.size b6 b → ¬ S b := fun b6 h6 b hb => hb.elim (hold b) fun e => by rw [e]; exact hB b6 h6
  match i, h with
  | 0, h => exact h
  | 1, h => exact h
  | 2, h => exact h
  | 3, h => exact h
  | 4, h => exact h
  | 5, ⟨v, h1, h2, h3⟩ => exact ⟨v, h1, h2.chg hold (fun b hb => hB b (h3 b hb)) hc, h3⟩
  | 6, ⟨b, h1, h2, h3⟩ => exact ⟨b, h1, hc.cells (hB b h3) h2, h3⟩
  | 7, ⟨b, b6, h1, h2, h2', h3, h4⟩ => exact ⟨b, b6, h1, hc.cells (hB b h3) h2, hc.cells (hB b6 h4) h2', h3, h4⟩
  | 8, ⟨v, b6, h1, h2, h3, h4⟩ => exact ⟨v, b6, h1, h2.chg (hrow b6 h4) (fun b hb => hB b (h3 b hb)) hc, h3, h4⟩
  | 9, ⟨v, b6, h1, h2, h3, h4⟩ => exact ⟨v, b6, h1, h2.chg (hrow b6 h4) (fun b hb => hB b (h3 b hb)) hc, h3, h4⟩
  | 10, ⟨b, h1, h2, h3⟩ => exact ⟨b, h1, hc.rmy (hB b h3) h2, h3⟩
  | 11, ⟨b, v, b6, h1, h2, h3, h4, h5, h6⟩ => exact ⟨b, v, b6, h1, hc.cells (hB b h3) h2, h3, h4.chg (hrow b6 h6) (fun b hb => hB b (h5 b hb)) hc, h5, h6⟩
def frk : Frk := [([], [44]), ([0], [45]), ([], [46]), ([], [47]), ([3], [48]), ([2, 4], [49]), ([], [50]), ([6], [51]), ([5, 7], [52]), ([1, 8], [53]), ([], [9]), ([9, 10], [9])]

set_option maxRecDepth 200000 in
set_option maxHeartbeats 4000000 in
theorem walk (W : World) (L : List Int) (v0 : Value) (HS : SlR eU allB W v0 L) : Ret Try.prog 5 #[v0] W (fun v w' => v = .bool true ∧ Ext W w') := by
  have hlm : (maxLen : Int) ≤ 9223372036854775807 := by decide
  obtain ⟨a, cp, rfl, hlc, hcm, hat⟩ := id HS
  refine ret_of_vc ties mixed Try.func5 rfl (by kernel_rfl) rfl rfl ?_
  refine br_dec (fun h => ⟨rfl, Ext.refl _⟩) (fun _ => ?_)
  refine Or.inl ((giveFormula_ret L 0 (by decide) _ W HS).mono ?_)
  rintro _ w1 ⟨x1, n, gv, F, rfl, hn1, hn6, hF, hFl, hgv⟩
  have hgv : SlR eL allB w1 gv F := hgv.mono fun _ _ => trivial
  have r2 := Rmy.new w1 [.int .i64 0, .slice none 0 0] 25
  refine ⟨r2.all [.int .i64 n, gv] 0 (Nat.le_refl 2) (by simp only [List.all_cons, hgv.oneB]; rfl), ?_⟩
  have x2 : Ext w1 (setCells (w1.alloc (.cells #[.int .i64 0, .slice none 0 0] 25)) w1.heap.size 0 [.int .i64 n, gv]) := Ext.setCells _ (Ext.new _ _) (Nat.le_refl _)
  have hc2 := setCells_at [.int .i64 n, gv] _ 0 2 r2 (Nat.le_refl 2)
  have hgv2 := hgv.ext x2
  have x12 := x1.trans x2
  have hHS := HS.ext x12
  obtain ⟨ga, gc, rfl, hgl, hgcells⟩ := cl_cells hgv2
  refine ⟨[.int .i64 n, .slice ga F.length gc], rfl, hc2, ?_⟩
  have hcon := impl_ProofOf n F 3000 (.slice ga F.length gc) _ hgv2
  refine Or.inl ((hcon).mono ?_)
  rintro _ w3 ⟨x3, o, ps, hpo, rfl, hone, hps⟩
  have hps : PSl anyB w3 ps (o.getD (0, .nil)).2 := hps.sl fun _ _ _ => trivial
  have hsz := hpo.size
  have hgood := proof_good hn6 hF hpo
  have r4 := Rmy.new w3 [.int .i64 0, .slice none 0 0] 39
  refine ⟨r4.all [.int .i64 (o.getD (0, .nil)).1, ps] 0 (Nat.le_refl 2) (by simp only [List.all_cons, hone]; rfl), ?_⟩
  have x4 : Ext w3 (setCells (w3.alloc (.cells #[.int .i64 0, .slice none 0 0] 39)) w3.heap.size 0 [.int .i64 (o.getD (0, .nil)).1, ps]) := Ext.setCells _ (Ext.new _ _) (Nat.le_refl _)
  have hc4 := setCells_at [.int .i64 (o.getD (0, .nil)).1, ps] _ 0 2 r4 (Nat.le_refl 2)
  have x24 := x3.trans x4
  refine ⟨[.int .i64 n, .slice ga F.length gc], rfl, hc2.ext x24, ?_⟩
  refine Or.inl ((spec_CountModels n F _ _ (hgv2.ext x24)).mono ?_)
  rintro _ w5 ⟨rfl, x5⟩
  have x25 := x24.trans x5
  have hps5 := hps.ext (x4.trans x5)
  have hc25 := hc2.ext x25
  have hgv5 := hgv2.ext x25
  have hc45 := hc4.ext x5
  have hHS5 := hHS.ext x25
  have xW5 := x12.trans x25
  clear hcon hps hc2 hgv2 hc4 hHS x12 x25 x24 x4 x5 r4 r2 x1 x2 x3 hgv HS hat hgcells
  generalize w1.heap.size = G at hc25
  generalize w3.heap.size = G4 at hc45
  rcases hgood with ⟨ho, hno⟩ | ⟨hno, t, q, ho, hck, htri, hckq, hsq, hmore⟩
  · subst ho
    refine .inr (.inr (hyb_rule ties mixed [(0, .quiet), (1, .quiet), (2, .quiet), (3, .quiet), (4, .quiet), (5, .quiet), (6, .loud), (7, .loud), (8, .quiet), (9, .quiet), (10, .quiet), (11, .quiet), (12, .quiet)] (by kernel_rfl) ?_))
    refine br_false (by rw [decide_eq_false hno]; rfl) ?_
    refine ⟨[.int .i64 n, .slice ga F.length gc], rfl, hc25, ?_⟩
    intro w6 x6
    refine Or.inl ((giveTree_ret L 90 (by decide) _ w6 (hHS5.ext x6)).mono ?_)
    rintro _ w7 ⟨x7, tx, tps, tf, rfl, htp, htz⟩
    refine ⟨x7, ?_⟩
    intro w8 x8
    have hct := impl_CheckProof n F [] tx tf (.slice ga F.length gc) (.slice none 0 0) tps w8 (hgv5.ext ((x6.trans x7).trans x8)) (SlR.nil _ _ _ _ _ (Nat.zero_le _)) (htp.ext x8) (by show 0 + tf.size ≤ _; omega)
    rw [show ckP n F [] tx tf = false from Bool.eq_false_iff.2 fun h => hno (ck_no (by omega) hF h)] at hct
    refine Or.inl ((hct).mono ?_)
    rintro _ w9 ⟨rfl, x9⟩
    refine ⟨x9, ?_⟩
    intro w10 x10
    exact ⟨rfl, ((((xW5.trans x6).trans x7).trans x8).trans x9).trans x10⟩
  · subst ho
    refine .inr (.inr (hyb_rule ties mixed [(0, .quiet), (1, .quiet), (2, .quiet), (3, .quiet), (4, .quiet), (5, .quiet), (6, .loud), (7, .loud), (8, .quiet), (9, .quiet), (10, .quiet), (11, .quiet), (12, .quiet)] (by kernel_rfl) ?_))
    refine br_false (by rw [decide_eq_true hno]; rfl) ?_
    refine ⟨[.int .i64 n, .slice ga F.length gc], rfl, hc25, ?_⟩
    intro w6 x6
    refine Or.inl ((giveTree_ret L 90 (by decide) _ w6 (hHS5.ext x6)).mono ?_)
    rintro _ w7 ⟨x7, tx, tps, tf, rfl, htp, htz⟩
    refine ⟨x7, ?_⟩
    intro w8 x8
    have hct := impl_CheckProof n F [] tx tf (.slice ga F.length gc) (.slice none 0 0) tps w8 (hgv5.ext ((x6.trans x7).trans x8)) (SlR.nil _ _ _ _ _ (Nat.zero_le _)) (htp.ext x8) (by show 0 + tf.size ≤ _; omega)
    refine Or.inl ((hct).mono ?_)
    rintro _ w9 ⟨rfl, x9⟩
    refine ⟨x9, ?_⟩
    have x59 := ((x6.trans x7).trans x8).trans x9
    have hps9 := hps5.ext x59
    have hc9 := hc25.ext x59
    have hc49 := hc45.ext x59
    have hgv9 := hgv5.ext x59
    have xW9 := xW5.trans x59
    clear hct htp hps5 hc25 hc45 hgv5 xW5 hHS5 x59
    refine br_split (fun hb => ?yes) (fun hb => ?no)
    case' yes =>
      intro w10 x10
      refine br_false (by rw [decide_eq_true hno]; rfl) ?_
    case' no =>
      intro w10 x10
    all_goals
      as_aux_lemma =>
        clear hb
        refine ⟨[.int .i64 n, .slice ga F.length gc], rfl, hc9.ext x10, ?_⟩
        refine ⟨[.int .i64 t.1, ps], rfl, hc49.ext x10, ?_⟩
        have hcon := impl_TrimProof n F t.1 t.2 (.slice ga F.length gc) ps w10 (hgv9.ext x10) (hps9.ext x10) (by have : t.2.size ≤ 6000 := hsz; omega)
        rw [htri] at hcon
        refine Or.inl ((hcon).mono ?_)
        rintro _ w11 ⟨x11, qs, rfl, hone2, hqs⟩
        have hqs : PSl anyB w11 qs q.2 := hqs.sl fun _ _ _ => trivial
        have r12 := Rmy.new w11 [.int .i64 0, .slice none 0 0] 39
        refine ⟨r12.all [.int .i64 q.1, qs] 0 (Nat.le_refl 2) (by simp only [List.all_cons, hone2]; rfl), ?_⟩
        have x12 : Ext w11 (setCells (w11.alloc (.cells #[.int .i64 0, .slice none 0 0] 39)) w11.heap.size 0 [.int .i64 q.1, qs]) := Ext.setCells _ (Ext.new _ _) (Nat.le_refl _)
        have hc12 := setCells_at [.int .i64 q.1, qs] _ 0 2 r12 (Nat.le_refl 2)
        have hqs12 := hqs.ext x12
        have x912 := (x10.trans x11).trans x12
        have hps12 := hps9.ext x912
        have hcG := hc9.ext x912
        have hcP := hc49.ext x912
        have hgv12 := hgv9.ext x912
        have xW12 := xW9.trans x912
        clear hcon hqs x12 x912 hps9 hc9 hc49 hgv9 xW9 r12
        show vc _ _ _ _ _ (setCells (w11.alloc (.cells #[.int .i64 0, .slice none 0 0] 39)) w11.heap.size 0 [.int .i64 q.1, qs])
        generalize hE : setCells (w11.alloc (.cells #[.int .i64 0, .slice none 0 0] 39)) w11.heap.size 0 [.int .i64 q.1, qs] = w15 at hc12 hqs12 hps12 hcG hcP hgv12 xW12 ⊢
        clear hE
        have hgo : SlR eL (oldB w15.heap.size) w15 (.slice ga F.length gc) F := hgv12.lt.mono fun b hb => hb.2
        obtain ⟨a1, c1, he1, hl1, hm1, hr1⟩ := hgo
        cases he1
        refine .inr (.inr (fork_rule ties mixed frk 11 44 54 (fact w15 G n (.slice ga F.length gc) F) (by kernel_rfl) (fact_stab w15 G n (.slice ga F.length gc) F) ?_ ?_))
        ·
          as_aux_lemma =>
              intro i o ho ρ' w16 x16 hs Bs hu hd
              match i, ho with
              | 0, ho =>
                have := Option.some.inj ho
                subst this
                rw [at_slot ((hs 3 (by kernel_rfl)).trans rfl : ρ' 3 = .pointer (some ⟨G, 0, none⟩))]
                exact ⟨fun _ => False, Chg.refl _ _, rfl, fun b h => h.elim⟩
              | 1, ho =>
                have := Option.some.inj ho
                subst this
                have e44 : ρ' 44 = .pointer (some ⟨G, 0, none⟩) := (List.cons.inj (hu 0 (by decide)).1).1
                rw [at_slot e44]
                exact ⟨_, (hcG.ext x16).1, fun _ => False, Chg.refl _ _, rfl, fun b h => h.elim⟩
              | 2, ho =>
                have := Option.some.inj ho
                subst this
                exact ⟨fun b => b = w16.heap.size, Chg.alloc _ _, ⟨_, rfl, rfl⟩, fun b h => .inr ⟨by omega, by rw [h, World.size_alloc]; omega⟩⟩
              | 3, ho =>
                have := Option.some.inj ho
                subst this
                rw [at_slot ((hs 3 (by kernel_rfl)).trans rfl : ρ' 3 = .pointer (some ⟨G, 0, none⟩))]
                exact ⟨fun _ => False, Chg.refl _ _, rfl, fun b h => h.elim⟩
              | 4, ho =>
                have := Option.some.inj ho
                subst this
                have e47 : ρ' 47 = .pointer (some ⟨G, 1, none⟩) := (List.cons.inj (hu 3 (by decide)).1).1
                rw [at_slot e47]
                exact ⟨_, (hcG.ext x16).2.1, fun _ => False, Chg.refl _ _, rfl, fun b h => h.elim⟩
              | 5, ho =>
                have := Option.some.inj ho
                subst this
                obtain ⟨b, h1, h2⟩ := (hu 2 (by decide)).1
                have e46 : ρ' 46 = .slice (some ⟨b, 0, none⟩) 0 0 := (List.cons.inj h1).1
                have e48 : ρ' 48 = .slice ga F.length gc := (List.cons.inj (hu 4 (by decide)).1).1
                refine raw_append (E := eL) (ok := oldB w15.heap.size) (l := []) (k := F) ties rfl rfl rfl rfl rfl rfl rfl rfl rfl rfl ?_ ?_ ⟨ga, gc, e48, ?_⟩ (by show (0 + F.length) * 24 ≤ _; omega) (by show 0 + F.length ≤ _; omega) ?_
                · show OwnR _ _ _ (ρ' 46) _
                  rw [e46]; exact OwnR.nil _ _ _ _
                · intro b' hb' e
                  rw [show ev ρ' (.tmp 46) = .slice (some ⟨b, 0, none⟩) 0 0 from e46] at e
                  cases e
                  have hb2 : b < w15.heap.size := hb'
                  have := (hu 2 (by decide)).2 b h2
                  omega
                · refine hr1.imp id fun ⟨b', o', g1, g2, g3⟩ => ⟨b', o', g1, g3.ext x16⟩
                · intro v w17 hv hch hvb
                  rw [List.nil_append] at hv
                  rw [show ev ρ' (.tmp 46) = .slice (some ⟨b, 0, none⟩) 0 0 from e46] at hch hvb
                  refine ⟨fun b' => blk v b', hch.mono fun b' _ hb' => ⟨2, by decide, by cases hb'; exact h2⟩, ⟨v, rfl, hv, fun b' hb' => hb'⟩, fun b' hb' => (hvb b' hb').imp (fun h => ⟨2, by decide, by cases h; exact h2⟩) fun h => ⟨h.1, h.2⟩⟩
              | 6, ho =>
                have := Option.some.inj ho
                subst this
                exact ⟨fun b => b = w16.heap.size, Chg.alloc _ _, ⟨_, rfl, boxedAll w16 [.int .i64 1] _, rfl⟩, fun b h => .inr ⟨by omega, by rw [h, World.size_alloc]; omega⟩⟩
              | 7, ho =>
                have := Option.some.inj ho
                subst this
                obtain ⟨b6, g1, g2, g3⟩ := (hu 6 (by decide)).1
                have e50 : ρ' 50 = .slice (some ⟨b6, 0, none⟩) 1 1 := (List.cons.inj g1).1
                have hb6 := (hu 6 (by decide)).2 b6 g3
                rw [at_slot e50]
                refine ⟨fun b => b = w16.heap.size ∨ b = b6, Chg.alloc _ _, ⟨_, _, rfl, boxedAll w16 [.slice (some ⟨b6, 0, none⟩) 1 1] _, g2.ext (Ext.new _ _), .inl rfl, .inr rfl⟩, fun b h => h.elim (fun h => .inr ⟨by omega, by rw [h, World.size_alloc]; omega⟩) fun h => .inl ⟨6, by decide, by rw [h]; exact g3⟩⟩
              | 8, ho =>
                have := Option.some.inj ho
                subst this
                obtain ⟨v5, h1, h2, h3⟩ := (hu 5 (by decide)).1
                obtain ⟨b7, b6, g1, g2, g2', g3, g4⟩ := (hu 7 (by decide)).1
                have e49 : ρ' 49 = v5 := (List.cons.inj h1).1
                have e51 : ρ' 51 = .slice (some ⟨b7, 0, none⟩) 1 1 := (List.cons.inj g1).1
                have hrow : eL.R (rowB w15.heap.size b6) w16 [1] [.slice (some ⟨b6, 0, none⟩) 1 1] := ⟨_, rfl, _, 1, rfl, Nat.le_refl _, by decide, .inr ⟨_, _, rfl, .inr rfl, ⟨[.int .i64 1], g2', rfl⟩, trivial⟩⟩
                refine raw_append (E := eL) (ok := rowB w15.heap.size b6) (l := F) (k := [[1]]) ties rfl rfl rfl rfl rfl rfl rfl rfl rfl rfl ?_ ?_ ⟨_, _, e51, .inr ⟨_, _, rfl, ⟨[.slice (some ⟨b6, 0, none⟩) 1 1], g2, hrow⟩, trivial⟩⟩ (by show (F.length + 1) * 24 ≤ _; omega) (by show F.length + 1 ≤ _; omega) ?_
                · show OwnR _ _ _ (ρ' 49) _
                  rw [e49]; exact h2.mono fun b hb => .inl hb
                · intro b' hb' e
                  rw [show ev ρ' (.tmp 49) = v5 from e49] at e
                  have h5 := h3 b' e
                  rcases hb' with hb' | hb'
                  · have := (hu 5 (by decide)).2 b' h5
                    have hb2 : b' < w15.heap.size := hb'
                    omega
                  · rw [hb'] at h5
                    exact hd 5 7 (by decide) (by decide) (by decide) b6 h5 g4
                · intro v w17 hv hch hvb
                  rw [show ev ρ' (.tmp 49) = v5 from e49] at hch hvb
                  have hb6 := (hu 7 (by decide)).2 b6 g4
                  refine ⟨fun b' => blk v b' ∨ b' = b6, hch.mono fun b' _ hb' => ⟨5, by decide, h3 b' hb'⟩, ⟨v, b6, rfl, hv, fun b' hb' => .inl hb', .inr rfl⟩, fun b' hb' => hb'.elim (fun hb' => (hvb b' hb').imp (fun h => ⟨5, by decide, h3 b' h⟩) fun h => ⟨h.1, h.2⟩) fun h => .inl ⟨7, by decide, by rw [h]; exact g4⟩⟩
              | 9, ho =>
                have := Option.some.inj ho
                subst this
                obtain ⟨v8, b6, h1, h2, h3, h4⟩ := (hu 8 (by decide)).1
                have e52 : ρ' 52 = v8 := (List.cons.inj h1).1
                have e45 : ρ' 45 = .int .i64 n := (List.cons.inj (hu 1 (by decide)).1).1
                obtain ⟨va, vc, rfl, -⟩ := id h2
                rw [at_slot e45, at_slot (show upd ρ' (some 45) (.int .i64 n) 52 = _ from e52)]
                exact ⟨Bs 8, Chg.refl _ _, ⟨_, b6, rfl, h2, h3, h4⟩, fun b h => .inl ⟨8, by decide, h⟩⟩
              | 10, ho =>
                have := Option.some.inj ho
                subst this
                exact ⟨fun b => b = w16.heap.size, Chg.alloc _ _, ⟨_, rfl, Rmy.new w16 [.int .i64 0, .slice none 0 0] _, rfl⟩, fun b h => .inr ⟨by omega, by rw [h, World.size_alloc]; omega⟩⟩
              | 11, ho =>
                have := Option.some.inj ho
                subst this
                obtain ⟨v9, b6, h1, h2, h3, h4⟩ := (hu 9 (by decide)).1
                obtain ⟨b, g1, g2, g3⟩ := (hu 10 (by decide)).1
                have e53 : ρ' 53 = .agg #[.int .i64 n, v9] := (List.cons.inj h1).1
                have e9 : ρ' 9 = .pointer (some ⟨b, 0, none⟩) := (List.cons.inj g1).1
                rw [at_slot e53, at_slot (ρ := upd ρ' (some 53) (.agg #[.int .i64 n, v9])) (t := 9) (v := .pointer (some ⟨b, 0, none⟩)) e9]
                have hone : oneB v9 = true := by obtain ⟨va, vc, rfl, -⟩ := h2; rfl
                have hch : Chg (fun b' => b' = b) w16 (setCells w16 b 0 [.int .i64 n, v9]) := Chg.setCells (S := fun b' => b' = b) rfl _ _ _
                refine ⟨g2.all [.int .i64 n, v9] 0 (Nat.le_refl 2) (by simp only [List.all_cons, hone]; rfl), fun b' => Bs 9 b' ∨ Bs 10 b', hch.mono fun b' _ hb' => ⟨10, by decide, by rw [hb']; exact g3⟩, ⟨b, v9, b6, rfl, setCells_at [.int .i64 n, v9] _ 0 2 g2 (Nat.le_refl 2), .inr g3, ?_, fun b' hb' => .inl (h3 b' hb'), .inl h4⟩, fun b' hb' => .inl (hb'.elim (fun h => ⟨9, by decide, h⟩) fun h => ⟨10, by decide, h⟩)⟩
                refine h2.chg (S := fun b' => b' = b) (fun b' hb' e => ?_) (fun b' hb' e => ?_) hch
                · rcases hb' with hb' | hb'
                  · have hb2 : b' < w15.heap.size := hb'
                    have := (hu 10 (by decide)).2 b g3
                    omega
                  · exact hd 9 10 (by decide) (by decide) (by decide) b (by rw [← e, hb']; exact h4) g3
                · rw [e] at hb'
                  exact hd 9 10 (by decide) (by decide) (by decide) b (h3 b hb') g3
              | n + 12, ho => cases ho
        ·
          as_aux_lemma =>
            intro vs junk w17 B x17 hfa hbB
            obtain ⟨b, v, b6, rfl, hcb, hBb, hown, hvb, hb6⟩ := hfa
            have hmore1 : SlR eL allB w17 v (F ++ [[1]]) := hown.sl (fun _ _ => trivial) (fun _ _ => trivial)
            have hc1 : clOk n [1] = true := by simp only [clOk, clFrom, Bool.and_true, decide_eq_true_eq]; unfold av; omega
            have hmr := hmore [1] hc1 (by omega)
            have hts : t.2.size ≤ 6000 := hsz
            refine .inr (.inr (hyb_rule ties mixed [(0, .quiet), (1, .quiet), (2, .loud), (3, .quiet), (4, .quiet), (5, .quiet), (6, .quiet), (7, .quiet), (8, .quiet), (9, .loud), (10, .quiet), (11, .quiet), (12, .quiet), (14, .quiet), (13, .loud), (15, .loud), (16, .quiet), (17, .quiet), (18, .quiet), (19, .quiet), (20, .quiet), (21, .loud), (22, .quiet), (23, .quiet)] (by kernel_rfl) ?_))
            refine ⟨[.int .i64 n, .slice ga F.length gc], rfl, hcG.ext x17, [.int .i64 t.1, ps], rfl, hcP.ext x17, ?_⟩
            intro w18 x18
            have hk1 := impl_CheckProof n F [] t.1 t.2 (.slice ga F.length gc) (.slice none 0 0) ps w18 (hgv12.ext (x17.trans x18)) (SlR.nil _ _ _ _ _ (Nat.zero_le _)) (hps12.ext (x17.trans x18)) (by show 0 + t.2.size ≤ _; omega)
            rw [hck] at hk1
            refine Or.inl ((hk1).mono ?_)
            rintro _ w19 ⟨rfl, x19⟩
            refine ⟨x19, ?_⟩
            have x7a := (x17.trans x18).trans x19
            refine ⟨[.int .i64 n, .slice ga F.length gc], rfl, hcG.ext x7a, [.int .i64 q.1, qs], rfl, hc12.ext x7a, ?_⟩
            intro w20 x20
            have hk2 := impl_CheckProof n F [] q.1 q.2 (.slice ga F.length gc) (.slice none 0 0) qs w20 (hgv12.ext (x7a.trans x20)) (SlR.nil _ _ _ _ _ (Nat.zero_le _)) (hqs12.ext (x7a.trans x20)) (by show 0 + q.2.size ≤ _; omega)
            rw [hckq] at hk2
            refine Or.inl ((hk2).mono ?_)
            rintro _ w21 ⟨rfl, x21⟩
            refine ⟨x21, ?_⟩
            have x7b := (x7a.trans x20).trans x21
            refine ⟨[.int .i64 q.1, qs], rfl, hc12.ext x7b, [.int .i64 t.1, ps], rfl, hcP.ext x7b, ?_⟩
            intro w22 x22
            refine Or.inl ((impl_ProofSize q.2 q.1 qs w22 (hqs12.ext (x7b.trans x22)) (by omega)).mono ?_)
            rintro _ w23 ⟨rfl, x23⟩
            refine ⟨x23, ?_⟩
            intro w24 x24
            have x7c := ((x7b.trans x22).trans x23).trans x24
            refine Or.inl ((impl_ProofSize t.2 t.1 ps w24 (hps12.ext x7c) (by omega)).mono ?_)
            rintro _ w25 ⟨rfl, x25⟩
            refine ⟨x25, ?_⟩
            have x7d := x7c.trans x25
            refine br_dec_true (by omega) ?_
            have x17b := ((((x18.trans x19).trans x20).trans x21).trans x22).trans ((x23.trans x24).trans x25)
            refine ⟨[.int .i64 n, v], rfl, hcb.ext x17b, [.int .i64 q.1, qs], rfl, hc12.ext x7d, ?_⟩
            intro w26 x26
            have hk3 := impl_CheckProof n (F ++ [[1]]) [] q.1 q.2 v (.slice none 0 0) qs w26 (hmore1.ext (x17b.trans x26)) (SlR.nil _ _ _ _ _ (Nat.zero_le _)) (hqs12.ext (x7d.trans x26)) (by show 0 + q.2.size ≤ _; omega)
            rw [hmr] at hk3
            refine Or.inl ((hk3).mono ?_)
            rintro _ w27 ⟨rfl, x27⟩
            refine ⟨x27, ?_⟩
            intro w28 x28
            exact ⟨rfl, (((xW12.trans x7d).trans x26).trans x27).trans x28⟩
theorem own : ownKnob Try.prog.godebug = none := by kernel_rfl
theorem laidOut : laidOutB Try.prog = true := by kernel_rfl
set_option maxRecDepth 100000 in
theorem lifted (os : Os) (started : os.Started) (H : Type) (enc : TypeId × Value → H) :
    ReturnsInHanded {} Try.checked os 5 .any (Rows.fnProofsSpec.pre6 enc Try.prog Try.f5 Rows.fnProofsRow.domain false) (Rows.fnProofsSpec.post enc Try.prog Try.f5 false true false false) := by
  refine returnsInHanded_of_change (C := Try.checked) own started (by kernel_rfl) Try.func5
    (ChangeSpec.witness6 (enc := enc) (C := Try.checked) false ⟨#[], #[.slice none 0 0], []⟩ 8 (by kernel_rfl) (by kernel_rfl) (by kernel_rfl) (by kernel_rfl)) ?_
  intro W base args ds gs before hval0 hW hcnd _
  have hval : ∀ (j : Nat) t v, Try.f5.params[j]? = some t → args[j]? = some v → Value.okWide Try.prog W .any base t v := hval0
  have hW' := hW
  obtain ⟨p, q, hA0, hV, rfl, hfz, hnd⟩ := hW
  have hA : DataW.TrodAll enc Try.prog W 0 (fun _ => true) true Try.f5.params.toList args.toList ds p := hA0
  rw [Try.params5] at hA hval
  obtain ⟨v0, vs0, d0, ds0, p0, q0, hargs, rfl, rfl, h0, r0⟩ := trodAll_cons hA
  obtain ⟨rfl, rfl, rfl⟩ := trodAll_nil r0
  obtain rfl : args = #[v0] := by cases args; simp_all
  obtain ⟨rfl, rfl⟩ := trodVars_none hV
  have k0 := h0
  have lt0 : ∀ x ∈ p0, x.block < W.heap.size := by obtain ⟨m, hm⟩ := k0; exact DataW.trod_lt m _ _ _ hm
  obtain ⟨L0, HS0⟩ := open_Bytes (hval 0 22 v0 rfl rfl) h0
  clear hA0 hval0
  refine (walk W L0 v0 HS0).calls.mono fun e W' ⟨v, he, hv, bel⟩ => ?_
  subst hv
  subst he
  exact ⟨_, rfl, _, _, _, [], _, [], hW', trodAll_mk1 (shut_bool Try.underlying4 _), (trodAll_cons_mk (Below.trod laidOut (by kernel_rfl) (of_decide_eq_true (by kernel_rfl)) k0 bel lt0) trodAll_mk0), rfl, bel.frame _, fun h => by cases h⟩
theorem band {a b : Bool} (h1 : a = true) (h2 : b = true) : (a && b) = true := by rw [h1, h2]; rfl
theorem lifted_ok : (Rows.fnProofsRow.lifted == Try.pinned.checked.prog.liftsFinal) = true := by rw [head_final]; rfl
theorem make_ok : (Try.pinned.checked.prog.make == some Rows.fnProofsRow.make) = true := by rw [head_make]; rfl
set_option maxHeartbeats 4000000 in
theorem closed : joinedFacts Try.pinned.checked.prog 5 Try.f5 Rows.fnProofsSpec Rows.fnProofsRow = true := by
  unfold joinedFacts
  repeat' (with_reducible refine band ?_ ?_)
  all_goals (first | with_reducible exact head_enter | with_reducible exact lifted_ok | with_reducible exact make_ok | (as_aux_lemma => kernel_rfl))
theorem holds : Rows.fnProofsRow.holds Try.pinned (OpenSpec.ofChange Rows.fnProofsSpec) :=
  OpenClaim.holds_of_wide 5 Try.f5 rfl rfl rfl rfl rfl rfl rfl ⟨rfl, rfl, rfl, rfl, rfl⟩ rfl rfl rfl rfl rfl (by as_aux_lemma => kernel_rfl) Try.func5 closed
    (of_decide_eq_true (by as_aux_lemma => kernel_rfl)) (by unfold Func.isWrapper; first | (rw [if_pos (by decide +kernel)]; kernel_rfl) | (rw [if_neg (by decide +kernel)]; exact ⟨rfl, rfl⟩))
    (fun os started H enc _ => lifted os started H enc)
/-- The statement. -/
theorem proved : Rows.FnProofsSaid := holds
#print axioms proved
end Go.Proofs.Ytfmflffggcphjaa.lawFnProofs
