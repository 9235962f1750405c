/- The law FnResolved: whatever the bytes, it returns true; all that was there is as it was. No condition. -/
import Derived.Test.YtfmflffggcphjaaDp
import Derived.Test.YtfmflffggcphjaaTk
import Derived.Test.YtfmflffggcphjaaVk
import Derived.Test.YtfmflffggcphjaaZw
import Derived.WalkKit
import Derived.ProofKit
import Derived.OpenShut
import Derived.ShutString
import Derived.ChangeOld
import Derived.Below
namespace Go.Proofs.Ytfmflffggcphjaa.lawFnResolved
open Go Go.Vc Go.ChangeShapes Go.WideShapes Go.ChangeAt Go.RowKit Go.Sat Go.Proofs.Ytfmflffggcphjaa.Dr
set_option linter.unusedVariables false

theorem two_rows (w : World) (a b : Value) (ca cb : Cl) (t : Nat) (ha : ∃ p k c, a = .slice p k c) (hA : SlR eI allB w a ca) (hB : SlR eI allB w b cb) : SlR eL allB (w.alloc (.cells [a, b].toArray t)) (.slice (some ⟨w.heap.size, 0, none⟩) 2 2) [ca, cb] := by
  have hb := boxedAll w [a, b] t
  have hx : Ext w (w.alloc (.cells [a, b].toArray t)) := Ext.new _ _
  exact ⟨_, 2, rfl, Nat.le_refl _, by decide, .inr ⟨_, _, rfl, trivial, ⟨[a], ⟨hb.1, trivial⟩, _, rfl, hA.ext hx⟩, ⟨[b], ⟨hb.2.1, trivial⟩, _, rfl, hB.ext hx⟩, trivial⟩⟩
/-- What the operations of the copy with one more clause give. -/
def fact (W : World) (G n : Nat) (gv cv : Value) (F : Cnf) (c : Cl) : Nat → List Value → (Nat → Prop) → World → Prop
  | 0, vs, _, _ => vs = [.pointer (some ⟨G, 0, none⟩)]
  | 1, vs, _, _ => vs = [.int .i64 n]
  | 2, vs, B, _ => ∃ b, vs = [.slice (some ⟨b, 0, none⟩) 0 0] ∧ B b
  | 3, vs, _, _ => vs = [.pointer (some ⟨G, 1, none⟩)]
  | 4, vs, _, _ => vs = [gv]
  | 5, vs, B, w => ∃ v, vs = [v] ∧ OwnR eL (oldB W.heap.size) w v F ∧ ∀ b, blk v b → B b
  | 6, vs, _, _ => vs = [cv]
  | 7, vs, B, w => ∃ b, vs = [.slice (some ⟨b, 0, none⟩) 1 1] ∧ CellsAt w b 0 [cv] ∧ B b
  | 8, vs, B, w => ∃ v, vs = [v] ∧ OwnR eL (oldB W.heap.size) w v (F ++ [c]) ∧ ∀ b, blk v b → B b
  | 9, vs, B, w => ∃ v, vs = [.agg #[.int .i64 n, v]] ∧ OwnR eL (oldB W.heap.size) w v (F ++ [c]) ∧ ∀ b, blk v b → B b
  | 10, vs, B, w => ∃ b, vs = [.pointer (some ⟨b, 0, none⟩)] ∧ Rmy w b 2 ∧ B b
  | 11, vs, B, w => ∃ b v, vs = [.pointer (some ⟨b, 0, none⟩)] ∧ CellsAt w b 0 [.int .i64 n, v] ∧ B b ∧ OwnR eL (oldB W.heap.size) w v (F ++ [c]) ∧ ∀ b, blk v b → B b
  | _, _, _, _ => False
theorem fact_stab (W : World) (G n : Nat) (gv cv : Value) (F : Cnf) (c : Cl) : ∀ i vs B S w1 w2, fact W G n gv cv F c i vs B w1 → Chg S w1 w2 → (∀ b, B b → ¬ S b) → (∀ b, S b → W.heap.size ≤ b) → fact W G n gv cv F c i vs B w2 := by
  intro i vs B S w1 w2 h hc hB hS
  have hold : ∀ b, oldB W.heap.size b → ¬ S b := fun b hb hs => by have := hS b hs; unfold oldB at hb; omega
  match i, h with
  | 0, h => exact h
  | 1, h => exact h
  | 2, h => exact h
  | 3, h => exact h
  | 4, h => exact h
  | 5, ⟨v, h1, h2, h3⟩ => exact ⟨v, h1, h2.chg hold (fun b hb => hB b (h3 b hb)) hc, h3⟩
  | 6, h => exact h
  | 7, ⟨b, h1, h2, h3⟩ => exact ⟨b, h1, hc.cells (hB b h3) h2, h3⟩
  | 8, ⟨v, h1, h2, h3⟩ => exact ⟨v, h1, h2.chg hold (fun b hb => hB b (h3 b hb)) hc, h3⟩
  | 9, ⟨v, h1, h2, h3⟩ => exact ⟨v, h1, h2.chg hold (fun b hb => hB b (h3 b hb)) hc, h3⟩
  | 10, ⟨b, h1, h2, h3⟩ => exact ⟨b, h1, hc.rmy (hB b h3) h2, h3⟩
  | 11, ⟨b, v, h1, h2, h3, h4, h5⟩ => exact ⟨b, v, h1, hc.cells (hB b h3) h2, h3, h4.chg hold (fun b hb => hB b (h5 b hb)) hc, h5⟩
def frk : Frk := [([], [71]), ([0], [72]), ([], [73]), ([], [74]), ([3], [75]), ([2, 4], [76]), ([], [77]), ([6], [78]), ([5, 7], [79]), ([1, 8], [80]), ([], [14]), ([9, 10], [14])]

set_option maxRecDepth 200000 in
set_option maxHeartbeats 4000000 in
theorem walk (W : World) (L : List Int) (v0 : Value) (HS : SlR eU allB W v0 L) : Ret Try.prog 20 #[v0] W (fun v w' => v = .bool true ∧ Ext W w') := by
  have hlm : (maxLen : Int) ≤ 9223372036854775807 := by decide
  obtain ⟨a, cp, rfl, hlc, hcm, hat⟩ := id HS
  refine ret_of_vc ties mixed Try.func20 rfl (by kernel_rfl) rfl rfl ?_
  refine br_dec (fun h => ⟨rfl, Ext.refl _⟩) (fun _ => ?_)
  refine Or.inl ((giveFormula_ret L 0 (by decide) _ W HS).mono ?_)
  rintro _ w1 ⟨x1, n, gv, F, rfl, hn1, hn6, hF, hFl, hgv⟩
  have hgv : SlR eL allB w1 gv F := hgv.mono fun _ _ => trivial
  have r2 := Rmy.new w1 [.int .i64 0, .slice none 0 0] 25
  refine ⟨r2.all [.int .i64 n, gv] 0 (Nat.le_refl 2) (by simp only [List.all_cons, hgv.oneB]; rfl), ?_⟩
  have x2 : Ext w1 (setCells (w1.alloc (.cells #[.int .i64 0, .slice none 0 0] 25)) w1.heap.size 0 [.int .i64 n, gv]) := Ext.setCells _ (Ext.new _ _) (Nat.le_refl _)
  have hc2 := setCells_at [.int .i64 n, gv] _ 0 2 r2 (Nat.le_refl 2)
  have hgv2 := hgv.ext x2
  have x12 := x1.trans x2
  have hHS := HS.ext x12
  obtain ⟨ga, gc, rfl, hgl, hgcells⟩ := cl_cells hgv2
  refine ⟨_, hc2.2.1, ?_⟩
  refine loop_rule (σ := Nat × Value × Value × Value × Value × Value × Value) [5, 7, 8, 9, 10, 11, 24] 25 100 (fun q => [q.2.1, q.2.2.1, q.2.2.2.1, q.2.2.2.2.1, q.2.2.2.2.2.1, q.2.2.2.2.2.2, .int .i64 q.1])
    (fun q w' => Ext (setCells (w1.alloc (.cells #[.int .i64 0, .slice none 0 0] 25)) w1.heap.size 0 [.int .i64 n, .slice ga F.length gc]) w' ∧ q.1 ≤ F.length) (fun q => F.length - q.1) (0, undef, undef, undef, undef, undef, undef) rfl ⟨Ext.refl _, Nat.zero_le _⟩ ?_
  rintro ⟨i, j5, j7, j8, j9, j10, j11⟩ w junk ⟨hx, hi⟩ K hK
  simp only at hi
  generalize hE : setCells (w1.alloc (.cells #[.int .i64 0, .slice none 0 0] 25)) w1.heap.size 0 [.int .i64 n, .slice ga F.length gc] = w4 at hx hc2 hgv2 hgcells x12 hHS
  clear x1 x2 r2 HS hgv hat
  generalize w1.heap.size = G at hc2 hK hE
  show vc _ _ _ _ (over [5, 7, 8, 9, 10, 11, 24] [j5, j7, j8, j9, j10, j11, .int .i64 i] _) _
  refine br_dec (fun h3 => ?_) (fun h3 => ?_)
  ·
    as_aux_lemma =>
      have hil : i < F.length := by omega
      refine Exists.elim (hgcells i hil) fun b h => Exists.elim h fun o0 h => Exists.elim h fun ka h => Exists.elim h fun kl h => Exists.elim h fun kc hh => ?_
      have hae := hh.1
      subst hae
      have hA0 : SlR eI allB w4 (.slice ka kl kc) (F.getD i []) := by
        obtain ⟨s, h1, h2⟩ := hh.2.2
        cases h1; exact h2
      have hAok : clOk n (F.getD i []) = true := fOk_cl hF _ (by rw [List.getD_eq_getElem?_getD, List.getElem?_eq_getElem hil]; exact List.getElem_mem hil)
      refine ⟨⟨by omega, by omega⟩, _, hx.cell hh.2.1, ?_⟩
      refine ⟨_, (hc2.ext hx).2.1, ?_⟩
      generalize F.getD i [] = ca at hA0 hAok
      clear hh
      refine loop_rule (σ := Nat × Value × Value × Value × Value × Value) [7, 8, 9, 10, 11, 31] 32 100 (fun q => [q.2.1, q.2.2.1, q.2.2.2.1, q.2.2.2.2.1, q.2.2.2.2.2, .int .i64 q.1])
        (fun q w' => Ext w4 w' ∧ q.1 ≤ F.length) (fun q => F.length - q.1) (0, j7, j8, j9, j10, j11) rfl ⟨hx, Nat.zero_le _⟩ ?_
      as_aux_lemma =>
        rintro ⟨j, y7, y8, y9, y10, y11⟩ w5 junk ⟨hx5, hj⟩ K1 hK1
        simp only at hj
        show vc _ _ _ _ (over [7, 8, 9, 10, 11, 31] [y7, y8, y9, y10, y11, .int .i64 j] _) _
        refine br_dec (fun h4 => ?_) (fun h4 => ?_)
        · have hjl : j < F.length := by omega
          refine Exists.elim (hgcells j hjl) fun b1 h => Exists.elim h fun o1 h => Exists.elim h fun la h => Exists.elim h fun ll h => Exists.elim h fun lc hh => ?_
          have hae := (Option.some.inj hh.1)
          cases hae
          have hB0 : SlR eI allB w4 (.slice la ll lc) (F.getD j []) := by
            obtain ⟨s, h1, h2⟩ := hh.2.2
            cases h1; exact h2
          have hBok : clOk n (F.getD j []) = true := fOk_cl hF _ (by rw [List.getD_eq_getElem?_getD, List.getElem?_eq_getElem hjl]; exact List.getElem_mem hjl)
          refine ⟨⟨by omega, by omega⟩, _, hx5.cell hh.2.1, ?_⟩
          generalize F.getD j [] = cb at hB0 hBok
          clear hh
          refine loop_rule (σ := Nat × Value × Value × Value) [8, 9, 10, 11] 35 100 (fun q => [.int .i64 ((q.1 + 1 : Nat) : Int), q.2.1, q.2.2.1, q.2.2.2])
            (fun q w' => Ext w4 w' ∧ q.1 ≤ n) (fun q => n - q.1) (0, y9, y10, y11) rfl ⟨hx5, Nat.zero_le _⟩ ?_
          as_aux_lemma =>
            rintro ⟨v, z9, z10, z11⟩ w6 junk ⟨hx6, hv⟩ K2 hK2
            simp only at hv
            show vc _ _ _ _ (over [8, 9, 10, 11] [.int .i64 ((v + 1 : Nat) : Int), z9, z10, z11] _) _
            refine ⟨_, (hc2.ext hx6).1, ?_⟩
            refine br_dec (fun h5 => ?_) (fun h5 => ?_)
            · have hvn : v < n := by omega
              have hcon := impl_Resolve ca cb ((v + 1 : Nat) : Int) _ _ w6 (hA0.ext hx6) (hB0.ext hx6) (by omega)
              have hgood := fun r k (h : resO ca cb ((v + 1 : Nat) : Int) = some r) (hk : ImpO n [ca, cb] r 3000 k) => res_implied hn6 hAok hBok h hk
              generalize resO ca cb ((v + 1 : Nat) : Int) = o at hcon hgood
              cases o with
              | none =>
                refine Or.inl ((hcon).mono ?_)
                rintro _ w7 ⟨x7, rv, rfl, -, -⟩
                refine ⟨_, IntWalk.i64_in _ (by omega), ?_⟩
                refine hK2 (v + 1, _, _, _) _ _ (vs4 (vint (by show ((v + 1 : Nat) : Int) + 1 = ((v + 1 + 1 : Nat) : Int); omega)) rfl rfl rfl) ⟨hx6.trans x7, by show v + 1 ≤ _; omega⟩ (by show n - (v + 1) < n - v; omega) ?_
                ((repeat (first | (with_reducible exact Only.refl) | (with_reducible refine Only.skip ?_) | ((with_reducible refine Only.upd ?_ ?_); rfl) | ((with_reducible refine Only.over ?_ ?_ _); rfl) | ((with_reducible refine Only.hav ?_ ?_ ?_); rfl; rfl))))
              | some r =>
                refine Or.inl ((hcon).mono ?_)
                rintro _ w7 ⟨x7, rv, rfl, hrv, -⟩
                have hrv : SlR eI allB w7 rv r := hrv.sl (fun _ _ => trivial) (fun _ _ => trivial)
                have hx7 := hx6.trans x7
                have h2 := two_rows w7 (.slice ka kl kc) (.slice la ll lc) ca cb 27 ⟨_, _, _, rfl⟩ (hA0.ext hx7) (hB0.ext hx7)
                have x8 : Ext w7 (w7.alloc (.cells [.slice ka kl kc, .slice la ll lc].toArray 27)) := Ext.new _ _
                refine ⟨_, (hc2.ext hx7).1, ?_⟩
                have r9 := Rmy.new (w7.alloc (.cells [.slice ka kl kc, .slice la ll lc].toArray 27)) [.int .i64 0, .slice none 0 0] 25
                refine ⟨r9.all [.int .i64 n, .slice (some ⟨w7.heap.size, 0, none⟩) 2 2] 0 (Nat.le_refl 2) rfl, ?_⟩
                have x9 := Ext.setCells (a := w7.alloc (.cells [.slice ka kl kc, .slice la ll lc].toArray 27)) [.int .i64 n, .slice (some ⟨w7.heap.size, 0, none⟩) 2 2] (o := 0) (Ext.new _ (.cells #[.int .i64 0, .slice none 0 0] 25)) (Nat.le_refl _)
                have hc9 := setCells_at [.int .i64 n, .slice (some ⟨w7.heap.size, 0, none⟩) 2 2] _ 0 2 r9 (Nat.le_refl 2)
                refine ⟨[.int .i64 n, .slice (some ⟨w7.heap.size, 0, none⟩) 2 2], rfl, hc9, ?_⟩
                refine Or.inl ((impl_Implied n [ca, cb] r 3000 _ _ _ (h2.ext x9) (hrv.ext (x8.trans x9))).mono ?_)
                rintro _ w10 ⟨x10, k, rfl, hk⟩
                have hk1 := hgood r k rfl hk
                subst hk1
                have hx10 := hx7.trans ((x8.trans x9).trans x10)
                refine ⟨_, IntWalk.i64_in _ (by omega), ?_⟩
                refine hK2 (v + 1, _, _, _) _ _ (vs4 (vint (by show ((v + 1 : Nat) : Int) + 1 = ((v + 1 + 1 : Nat) : Int); omega)) rfl rfl rfl) ⟨hx10, by show v + 1 ≤ _; omega⟩ (by show n - (v + 1) < n - v; omega) ?_
                ((repeat (first | (with_reducible exact Only.refl) | (with_reducible refine Only.skip ?_) | ((with_reducible refine Only.upd ?_ ?_); rfl) | ((with_reducible refine Only.over ?_ ?_ _); rfl) | ((with_reducible refine Only.hav ?_ ?_ ?_); rfl; rfl))))
            · refine ⟨_, IntWalk.i64_in _ (by omega), ?_⟩
              refine hK1 (j + 1, _, _, _, _, _) _ _ (vs6 rfl rfl rfl rfl rfl (vint (by show (j : Int) + 1 = ((j + 1 : Nat) : Int); omega))) ⟨hx6, by show j + 1 ≤ _; omega⟩ (by show F.length - (j + 1) < F.length - j; omega) ?_
              ((repeat (first | (with_reducible exact Only.refl) | (with_reducible refine Only.skip ?_) | ((with_reducible refine Only.upd ?_ ?_); rfl) | ((with_reducible refine Only.over ?_ ?_ _); rfl) | ((with_reducible refine Only.hav ?_ ?_ ?_); rfl; rfl))))
        · refine ⟨_, IntWalk.i64_in _ (by omega), ?_⟩
          refine hK (i + 1, _, _, _, _, _, _) _ _ (vs7 rfl rfl rfl rfl rfl rfl (vint (by show (i : Int) + 1 = ((i + 1 : Nat) : Int); omega))) ⟨by rw [hE]; exact hx5, by show i + 1 ≤ _; omega⟩ (by show F.length - (i + 1) < F.length - i; omega) ?_
          ((repeat (first | (with_reducible exact Only.refl) | (with_reducible refine Only.skip ?_) | ((with_reducible refine Only.upd ?_ ?_); rfl) | ((with_reducible refine Only.over ?_ ?_ _); rfl) | ((with_reducible refine Only.hav ?_ ?_ ?_); rfl; rfl))))
  clear hK hE
  as_aux_lemma =>
    refine ⟨[.int .i64 n, .slice ga F.length gc], rfl, hc2.ext hx, ?_⟩
    refine Or.inl ((giveLits_ret L 90 (by decide) n (by omega) _ _ w (hHS.ext hx)).mono ?_)
    rintro tv w5 ⟨x5, lits, hlo, hlit, hll, -⟩
    have hls : SlR eI allB w5 tv lits := hlo.sl (fun _ _ => trivial) (fun _ _ => trivial)
    have hcon := spec_MakeClause lits tv w5 hls
    unfold MkR at hcon
    have hcok := fun c (h : mkcO lits = some c) => cl_narrow h hlit
    generalize mkcO lits = o at hcon hcok
    cases o with
    | none =>
      refine Or.inl ((hcon).mono ?_)
      rintro _ w6 ⟨x6, cv, rfl, -, -⟩
      exact ⟨rfl, ((x12.trans hx).trans x5).trans x6⟩
    | some c =>
      refine Or.inl ((hcon).mono ?_)
      rintro _ w6 ⟨x6, cv, rfl, hcv, -⟩
      have hcv : SlR eI allB w6 cv c := hcv.sl (fun _ _ => trivial) (fun _ _ => trivial)
      have hc := hcok c rfl
      have hx6 := (hx.trans x5).trans x6
      have hgo : SlR eL (oldB w6.heap.size) w6 (.slice ga F.length gc) F := (hgv2.ext hx6).lt.mono fun b hb => hb.2
      have hco : eL.R (oldB w6.heap.size) w6 c [cv] := ⟨cv, rfl, hcv.lt.mono fun b hb => hb.2⟩
      have hc6 := hc2.ext hx6
      obtain ⟨a1, c1, he1, hl1, hm1, hr1⟩ := hgo
      cases he1
      obtain ⟨ca, cc, rfl, hl9, hm9, -⟩ := id hcv
      refine .inr (.inr (fork_rule ties mixed frk 11 71 81 (fact w6 G n (.slice ga F.length gc) (.slice ca c.length cc) F c) (by kernel_rfl) (fact_stab w6 G n (.slice ga F.length gc) (.slice ca c.length cc) F c) ?_ ?_))
      ·
        as_aux_lemma =>
          intro i o ho ρ' w7 x7 hs Bs hu hd
          match i, ho with
          | 0, ho =>
            have := Option.some.inj ho
            subst this
            rw [at_slot ((hs 3 (by kernel_rfl)).trans rfl : ρ' 3 = .pointer (some ⟨G, 0, none⟩))]
            exact ⟨fun _ => False, Chg.refl _ _, rfl, fun b h => h.elim⟩
          | 1, ho =>
            have := Option.some.inj ho
            subst this
            have e71 : ρ' 71 = .pointer (some ⟨G, 0, none⟩) := (List.cons.inj (hu 0 (by decide)).1).1
            rw [at_slot e71]
            exact ⟨_, (hc6.ext x7).1, fun _ => False, Chg.refl _ _, rfl, fun b h => h.elim⟩
          | 2, ho =>
            have := Option.some.inj ho
            subst this
            exact ⟨fun b => b = w7.heap.size, Chg.alloc _ _, ⟨_, rfl, rfl⟩, fun b h => .inr ⟨by omega, by rw [h, World.size_alloc]; omega⟩⟩
          | 3, ho =>
            have := Option.some.inj ho
            subst this
            rw [at_slot ((hs 3 (by kernel_rfl)).trans rfl : ρ' 3 = .pointer (some ⟨G, 0, none⟩))]
            exact ⟨fun _ => False, Chg.refl _ _, rfl, fun b h => h.elim⟩
          | 4, ho =>
            have := Option.some.inj ho
            subst this
            have e74 : ρ' 74 = .pointer (some ⟨G, 1, none⟩) := (List.cons.inj (hu 3 (by decide)).1).1
            rw [at_slot e74]
            exact ⟨_, (hc6.ext x7).2.1, fun _ => False, Chg.refl _ _, rfl, fun b h => h.elim⟩
          | 5, ho =>
            have := Option.some.inj ho
            subst this
            obtain ⟨b, h1, h2⟩ := (hu 2 (by decide)).1
            have e73 : ρ' 73 = .slice (some ⟨b, 0, none⟩) 0 0 := (List.cons.inj h1).1
            have e75 : ρ' 75 = .slice ga F.length gc := (List.cons.inj (hu 4 (by decide)).1).1
            refine raw_append (E := eL) (ok := oldB w6.heap.size) (l := []) (k := F) ties rfl rfl rfl rfl rfl rfl rfl rfl rfl rfl ?_ ?_ ⟨ga, gc, e75, ?_⟩ (by show (0 + F.length) * 24 ≤ _; omega) (by show 0 + F.length ≤ _; omega) ?_
            · show OwnR _ _ _ (ρ' 73) _
              rw [e73]; exact OwnR.nil _ _ _ _
            · intro b' hb' e
              rw [show ev ρ' (.tmp 73) = .slice (some ⟨b, 0, none⟩) 0 0 from e73] at e
              cases e
              have hb2 : b < w6.heap.size := hb'
              have := (hu 2 (by decide)).2 b h2
              omega
            · refine hr1.imp id fun ⟨b', o', g1, g2, g3⟩ => ⟨b', o', g1, g3.ext x7⟩
            · intro v w8 hv hch hvb
              rw [List.nil_append] at hv
              rw [show ev ρ' (.tmp 73) = .slice (some ⟨b, 0, none⟩) 0 0 from e73] at hch hvb
              refine ⟨fun b' => blk v b', hch.mono fun b' _ hb' => ⟨2, by decide, by cases hb'; exact h2⟩, ⟨v, rfl, hv, fun b' hb' => hb'⟩, fun b' hb' => (hvb b' hb').imp (fun h => ⟨2, by decide, by cases h; exact h2⟩) fun h => ⟨h.1, h.2⟩⟩
          | 6, ho =>
            have := Option.some.inj ho
            subst this
            rw [at_slot ((hs 12 (by kernel_rfl)).trans rfl : ρ' 12 = .slice ca c.length cc)]
            exact ⟨fun _ => False, Chg.refl _ _, rfl, fun b h => h.elim⟩
          | 7, ho =>
            have := Option.some.inj ho
            subst this
            have e77 : ρ' 77 = .slice ca c.length cc := (List.cons.inj (hu 6 (by decide)).1).1
            rw [at_slot e77]
            exact ⟨fun b => b = w7.heap.size, Chg.alloc _ _, ⟨_, rfl, boxedAll w7 [.slice ca c.length cc] _, rfl⟩, fun b h => .inr ⟨by omega, by rw [h, World.size_alloc]; omega⟩⟩
          | 8, ho =>
            have := Option.some.inj ho
            subst this
            obtain ⟨v5, h1, h2, h3⟩ := (hu 5 (by decide)).1
            obtain ⟨b7, g1, g2, g3⟩ := (hu 7 (by decide)).1
            have e76 : ρ' 76 = v5 := (List.cons.inj h1).1
            have e78 : ρ' 78 = .slice (some ⟨b7, 0, none⟩) 1 1 := (List.cons.inj g1).1
            refine raw_append (E := eL) (ok := oldB w6.heap.size) (l := F) (k := [c]) ties rfl rfl rfl rfl rfl rfl rfl rfl rfl rfl ?_ ?_ ⟨_, _, e78, .inr ⟨_, _, rfl, ⟨[.slice ca c.length cc], g2, Rep.ext eL x7 hco⟩, trivial⟩⟩ (by show (F.length + 1) * 24 ≤ _; omega) (by show F.length + 1 ≤ _; omega) ?_
            · show OwnR _ _ _ (ρ' 76) _
              rw [e76]; exact h2
            · intro b' hb' e
              rw [show ev ρ' (.tmp 76) = v5 from e76] at e
              have := (hu 5 (by decide)).2 b' (h3 b' e)
              unfold oldB at hb'; omega
            · intro v w8 hv hch hvb
              rw [show ev ρ' (.tmp 76) = v5 from e76] at hch hvb
              refine ⟨fun b' => blk v b', hch.mono fun b' _ hb' => ⟨5, by decide, h3 b' hb'⟩, ⟨v, rfl, hv, fun b' hb' => hb'⟩, fun b' hb' => (hvb b' hb').imp (fun h => ⟨5, by decide, h3 b' h⟩) fun h => ⟨h.1, h.2⟩⟩
          | 9, ho =>
            have := Option.some.inj ho
            subst this
            obtain ⟨v8, h1, h2, h3⟩ := (hu 8 (by decide)).1
            have e79 : ρ' 79 = v8 := (List.cons.inj h1).1
            have e72 : ρ' 72 = .int .i64 n := (List.cons.inj (hu 1 (by decide)).1).1
            obtain ⟨va, vc, rfl, -⟩ := id h2
            rw [at_slot e72, at_slot (ρ := upd ρ' (some 72) (.int .i64 n)) (t := 79) (v := .slice va (F ++ [c]).length vc) e79]
            exact ⟨Bs 8, Chg.refl _ _, ⟨_, rfl, h2, h3⟩, fun b h => .inl ⟨8, by decide, h⟩⟩
          | 10, ho =>
            have := Option.some.inj ho
            subst this
            exact ⟨fun b => b = w7.heap.size, Chg.alloc _ _, ⟨_, rfl, Rmy.new w7 [.int .i64 0, .slice none 0 0] _, rfl⟩, fun b h => .inr ⟨by omega, by rw [h, World.size_alloc]; omega⟩⟩
          | 11, ho =>
            have := Option.some.inj ho
            subst this
            obtain ⟨v9, h1, h2, h3⟩ := (hu 9 (by decide)).1
            obtain ⟨b, g1, g2, g3⟩ := (hu 10 (by decide)).1
            have e80 : ρ' 80 = .agg #[.int .i64 n, v9] := (List.cons.inj h1).1
            have e14 : ρ' 14 = .pointer (some ⟨b, 0, none⟩) := (List.cons.inj g1).1
            rw [at_slot e80, at_slot (ρ := upd ρ' (some 80) (.agg #[.int .i64 n, v9])) (t := 14) (v := .pointer (some ⟨b, 0, none⟩)) e14]
            have hone : oneB v9 = true := by obtain ⟨va, vc, rfl, -⟩ := h2; rfl
            have hch : Chg (fun b' => b' = b) w7 (setCells w7 b 0 [.int .i64 n, v9]) := Chg.setCells (S := fun b' => b' = b) rfl _ _ _
            refine ⟨g2.all [.int .i64 n, v9] 0 (Nat.le_refl 2) (by simp only [List.all_cons, hone]; rfl), fun b' => Bs 9 b' ∨ Bs 10 b', hch.mono fun b' _ hb' => ⟨10, by decide, by rw [hb']; exact g3⟩, ⟨b, v9, rfl, setCells_at [.int .i64 n, v9] _ 0 2 g2 (Nat.le_refl 2), .inr g3, ?_, fun b' hb' => .inl (h3 b' hb')⟩, fun b' hb' => .inl (hb'.elim (fun h => ⟨9, by decide, h⟩) fun h => ⟨10, by decide, h⟩)⟩
            refine h2.chg (S := fun b' => b' = b) (fun b' hb' e => ?_) (fun b' hb' e => ?_) hch
            · have hb2 : b' < w6.heap.size := hb'
              have := (hu 10 (by decide)).2 b g3
              omega
            · rw [e] at hb'
              exact hd 9 10 (by decide) (by decide) (by decide) b (h3 b hb') g3
          | n + 12, ho => cases ho
      ·
        as_aux_lemma =>
          intro vs junk w7 B x7 hfa hbB
          obtain ⟨b, v, rfl, hcb, hBb, hown, hvb⟩ := hfa
          have hmore : SlR eL allB w7 v (F ++ [c]) := hown.sl (fun _ _ => trivial) (fun _ _ => trivial)
          have hF' := fOk_more hF (by omega) hc
          have hx7 := hx6.trans x7
          refine ⟨[.int .i64 n, .slice ga F.length gc], rfl, hc2.ext hx7, ?_⟩
          refine Or.inl ((impl_Implied n F c 3000 _ _ w7 (hgv2.ext hx7) (hcv.ext x7)).mono ?_)
          rintro _ w8 ⟨x8, k, rfl, hk⟩
          have hx8 := hx7.trans x8
          have himp : (k = 1 ∨ k = 2) ∧ decide (k = 1) = decide (cntM n (F ++ [c]) = cntM n F) := by
            rcases implied_more hn6 hF (by omega) hc hk with ⟨h1, h2⟩ | ⟨h1, h2⟩
            · exact ⟨.inl h1, by rw [decide_eq_true h1, decide_eq_true h2]⟩
            · exact ⟨.inr h1, by rw [decide_eq_false h2, decide_eq_false (by omega)]⟩
          refine .inr (.inr (hyb_rule ties mixed [(0, .quiet), (1, .quiet), (2, .quiet), (4, .quiet), (3, .loud), (5, .loud), (6, .quiet), (7, .quiet), (8, .quiet), (9, .quiet), (10, .quiet), (11, .quiet), (12, .quiet), (13, .quiet), (14, .quiet), (15, .quiet), (16, .quiet)] (by kernel_rfl) ?_))
          refine ⟨[.int .i64 n, v], rfl, hcb.ext x8, [.int .i64 n, .slice ga F.length gc], rfl, hc2.ext hx8, ?_⟩
          intro w9 x9
          refine Or.inl ((impl_CountModels n (F ++ [c]) v w9 (hmore.ext (x8.trans x9))).mono ?_)
          rintro _ w10 ⟨rfl, x10⟩
          refine ⟨x10, ?_⟩
          intro w11 x11
          refine Or.inl ((impl_CountModels n F _ w11 (hgv2.ext (((hx8.trans x9).trans x10).trans x11))).mono ?_)
          rintro _ w12 ⟨rfl, x12'⟩
          refine ⟨x12', ?_⟩
          refine br_true (by rw [himp.2]; simp) ?_
          have hxe := ((((x12.trans hx8).trans x9).trans x10).trans x11).trans x12'
          refine br_dec (fun h => ?_) (fun h => ?_)
          · intro w13 x13
            exact ⟨rfl, hxe.trans x13⟩
          · intro w13 x13
            exact ⟨vbool (decide_eq_true (himp.1.resolve_left h)), hxe.trans x13⟩
theorem own : ownKnob Try.prog.godebug = none := by kernel_rfl
theorem laidOut : laidOutB Try.prog = true := by kernel_rfl
set_option maxRecDepth 100000 in
theorem lifted (os : Os) (started : os.Started) (H : Type) (enc : TypeId × Value → H) :
    ReturnsInHanded {} Try.checked os 20 .any (Rows.fnResolvedSpec.pre6 enc Try.prog Try.f20 Rows.fnResolvedRow.domain false) (Rows.fnResolvedSpec.post enc Try.prog Try.f20 false true false false) := by
  refine returnsInHanded_of_change (C := Try.checked) own started (by kernel_rfl) Try.func20
    (ChangeSpec.witness6 (enc := enc) (C := Try.checked) false ⟨#[], #[.slice none 0 0], []⟩ 8 (by kernel_rfl) (by kernel_rfl) (by kernel_rfl) (by kernel_rfl)) ?_
  intro W base args ds gs before hval0 hW hcnd _
  have hval : ∀ (j : Nat) t v, Try.f20.params[j]? = some t → args[j]? = some v → Value.okWide Try.prog W .any base t v := hval0
  have hW' := hW
  obtain ⟨p, q, hA0, hV, rfl, hfz, hnd⟩ := hW
  have hA : DataW.TrodAll enc Try.prog W 0 (fun _ => true) true Try.f20.params.toList args.toList ds p := hA0
  rw [Try.params20] at hA hval
  obtain ⟨v0, vs0, d0, ds0, p0, q0, hargs, rfl, rfl, h0, r0⟩ := trodAll_cons hA
  obtain ⟨rfl, rfl, rfl⟩ := trodAll_nil r0
  obtain rfl : args = #[v0] := by cases args; simp_all
  obtain ⟨rfl, rfl⟩ := trodVars_none hV
  have k0 := h0
  have lt0 : ∀ x ∈ p0, x.block < W.heap.size := by obtain ⟨m, hm⟩ := k0; exact DataW.trod_lt m _ _ _ hm
  obtain ⟨L0, HS0⟩ := open_Bytes (hval 0 22 v0 rfl rfl) h0
  clear hA0 hval0
  refine (walk W L0 v0 HS0).calls.mono fun e W' ⟨v, he, hv, bel⟩ => ?_
  subst hv
  subst he
  exact ⟨_, rfl, _, _, _, [], _, [], hW', trodAll_mk1 (shut_bool Try.underlying4 _), (trodAll_cons_mk (Below.trod laidOut (by kernel_rfl) (of_decide_eq_true (by kernel_rfl)) k0 bel lt0) trodAll_mk0), rfl, bel.frame _, fun h => by cases h⟩
theorem band {a b : Bool} (h1 : a = true) (h2 : b = true) : (a && b) = true := by rw [h1, h2]; rfl
theorem lifted_ok : (Rows.fnResolvedRow.lifted == Try.pinned.checked.prog.liftsFinal) = true := by rw [head_final]; rfl
theorem make_ok : (Try.pinned.checked.prog.make == some Rows.fnResolvedRow.make) = true := by rw [head_make]; rfl
set_option maxHeartbeats 4000000 in
theorem closed : joinedFacts Try.pinned.checked.prog 20 Try.f20 Rows.fnResolvedSpec Rows.fnResolvedRow = true := by
  unfold joinedFacts
  repeat' (with_reducible refine band ?_ ?_)
  all_goals (first | with_reducible exact head_enter | with_reducible exact lifted_ok | with_reducible exact make_ok | (as_aux_lemma => kernel_rfl))
theorem holds : Rows.fnResolvedRow.holds Try.pinned (OpenSpec.ofChange Rows.fnResolvedSpec) :=
  OpenClaim.holds_of_wide 20 Try.f20 rfl rfl rfl rfl rfl rfl rfl ⟨rfl, rfl, rfl, rfl, rfl⟩ rfl rfl rfl rfl rfl (by as_aux_lemma => kernel_rfl) Try.func20 closed
    (of_decide_eq_true (by as_aux_lemma => kernel_rfl)) (by unfold Func.isWrapper; first | (rw [if_pos (by decide +kernel)]; kernel_rfl) | (rw [if_neg (by decide +kernel)]; exact ⟨rfl, rfl⟩))
    (fun os started H enc _ => lifted os started H enc)
/-- The statement. -/
theorem proved : Rows.FnResolvedSaid := holds
#print axioms proved
end Go.Proofs.Ytfmflffggcphjaa.lawFnResolved
