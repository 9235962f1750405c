/- The solver: contracts of drain, start, extend, leastFree, newSolver. -/
import Derived.Test.YtfmflffggcphjaaSv
namespace Go.Sat
structure OccOk (n : Nat) (F : Cnf) (O : List (List Int)) : Prop where
  len : O.length = 2 * n + 1
  good : ∀ r ∈ O, ∀ x ∈ r, 0 ≤ x ∧ x < (F.length : Int)
  full : ∀ l, litOk n l = true → ∀ (i : Nat) (h : i < F.length), l ∈ F[i]'h → ∃ r, O[(l + n).toNat]? = some r ∧ (i : Int) ∈ r
def Pend (v q : List Int) (F : Cnf) : Prop := ∀ c ∈ F, Fine v c ∨ ∃ l ∈ q, -l ∈ c
theorem Pend.put {n : Nat} {v q : List Int} {F : Cnf} (h : Pend v q F) (hv : Vals n v) {l : Int} (hl : litOk n l = true) (hf : fre v l) : Pend (put v l) (q ++ [l]) F := fun c hc => by
  rcases h c hc with h | ⟨m, hm, h⟩
  · rcases h.put hv hl hf with h | h
    · exact .inl h
    · exact .inr ⟨l, by simp, h⟩
  · exact .inr ⟨m, by simp [hm], h⟩
end Go.Sat
namespace Go.Proofs.Ytfmflffggcphjaa
open Go Go.Vc Go.RowKit Go.Sat
set_option linter.unusedVariables false

/-- A solver in memory, older than block B. -/
def Sol (B : Nat) (w : World) (p : Value) (n : Nat) (F : Cnf) : Prop := ∃ S cs os O, p = .pointer (some ⟨S, 0, none⟩) ∧ S < B ∧ CellsAt w S 0 [.int .i64 n, cs, os] ∧ SlR eL (oldB B) w cs F ∧ SlR eL (oldB B) w os O ∧ OccOk n F O
theorem Sol.below {B : Nat} {w w' : World} {p : Value} {n : Nat} {F : Cnf} (h : Below B w w') (hs : Sol B w p n F) : Sol B w' p n F := by
  obtain ⟨S, cs, os, O, rfl, h1, h2, h3, h4, h5⟩ := hs
  exact ⟨S, cs, os, O, rfl, h1, (below_chg h).cells (by omega) h2, h3.below h, h4.below h, h5⟩
theorem Sol.mono {B B' : Nat} (hB : B ≤ B') {w : World} {p : Value} {n : Nat} {F : Cnf} (hs : Sol B w p n F) : Sol B' w p n F := by
  obtain ⟨S, cs, os, O, rfl, h1, h2, h3, h4, h5⟩ := hs
  exact ⟨S, cs, os, O, rfl, by omega, h2, h3.mono fun b hb => by unfold oldB at *; omega, h4.mono fun b hb => by unfold oldB at *; omega, h5⟩
theorem Sol.ptr {B : Nat} {w : World} {p : Value} {n : Nat} {F : Cnf} (hs : Sol B w p n F) : ∃ S, p = .pointer (some ⟨S, 0, none⟩) := by
  obtain ⟨S, cs, os, O, rfl, _⟩ := hs
  exact ⟨S, rfl⟩

def DrainR (B : Nat) (p : Value) (n : Nat) (F : Cnf) (A : Int → Prop) (W : World) (r : Value) (w' : World) : Prop :=
  Below B W w' ∧ ((r = .bool false ∧ Bad F A) ∨ (r = .bool true ∧ ∃ u, Asg B w' p u [] ∧ Upr F n A (some u)))

theorem pop_val {b c k : Nat} (hc : c ≠ 0) (h : Int) (hh : h.toNat = k) :
    (Value.slice (if c = (0 : Int).toNat then some ⟨b, 0, none⟩ else (some (⟨b, 0, none⟩ : Addr)).map (·.add ((0 : Int).toNat * 1))) (h.toNat - (0 : Int).toNat) (c - (0 : Int).toNat)) = .slice (some ⟨b, 0, none⟩) k c := by
  have h0 : (0 : Int).toNat = 0 := rfl
  rw [h0, if_neg hc, hh]
  rfl

set_option maxHeartbeats 2000000 in
theorem drain_ret (B : Nat) (sp p : Value) (v q : List Int) (n : Nat) (F : Cnf) (W : World) (hA : Asg B W p v q) (hS : Sol B W sp n F) (hv : Vals n v) (hF : fOk n F = true) (hqs : ∀ l ∈ q, litOk n l = true) (hp : Pend v q F) (hq : q.length ≤ 100000000) (hB : B ≤ W.heap.size) :
    Ret Try.prog 116 #[sp, p] W (DrainR B p n F (tr v) W) := by
  have hlm : (maxLen : Int) ≤ 9223372036854775807 := by decide
  have hn : n ≤ 400 := by
    simp only [fOk, Bool.and_eq_true, decide_eq_true_eq] at hF; omega
  have hFc : ∀ c ∈ F, clOk n c = true := by
    simp only [fOk, Bool.and_eq_true, List.all_eq_true] at hF; exact hF.2
  obtain ⟨A, _, _, rfl, _⟩ := hA.ptr
  obtain ⟨S, rfl⟩ := hS.ptr
  have hz := zeros_le v
  have hvl := hv.len
  refine ret_of_vc ties mixed Try.func116 rfl (by kernel_rfl) rfl rfl ?_
  refine loop_rule (σ := List Int × List Int × Value × Value) [5, 7] 8 70 (fun s => [s.2.2.1, s.2.2.2])
    (fun s w' => Below B W w' ∧ Asg B w' (.pointer (some ⟨A, 0, none⟩)) s.1 s.2.1 ∧ Vals n s.1 ∧ (∀ l ∈ s.2.1, litOk n l = true) ∧ Pend s.1 s.2.1 F ∧ (∀ l, tr v l → tr s.1 l) ∧ (∀ l, tr s.1 l → Der F (tr v) l) ∧ 2 * zeros s.1 + s.2.1.length ≤ 2 * zeros v + q.length)
    (fun s => 2 * zeros s.1 + s.2.1.length) (v, q, undef, undef) rfl ⟨Below.refl _ _, hA, hv, hqs, hp, fun _ h => h, fun _ h => .base h, Nat.le_refl _⟩ ?_
  rintro ⟨v1, q1, j1, j2⟩ w junk ⟨hb, hA1, hv1, hq1, hp1, hm1, hD1, hle1⟩ K hK
  simp only at hA1 hv1 hq1 hp1 hm1 hD1 hle1
  obtain ⟨A', a1, a2, hAe, hBA, hrA, hc1, hc2, ho1, ho2, hb1, hb2⟩ := id hA1
  cases hAe
  obtain ⟨qa, qc, rfl, hqlc, hqcm, hq3⟩ := id ho2
  refine ⟨_, hc2, ?_⟩
  refine br_dec (fun h3 => ?_) (fun h3 => ?_)
  · have hq0 : 0 < q1.length := by omega
    obtain ⟨bq, rfl, hrq, hraq⟩ := hq3.resolve_left (by omega)
    clear hq3
    obtain ⟨cs, hcq, rfl⟩ := hraq.get (List.getElem?_eq_getElem (show q1.length - 1 < q1.length by omega))
    obtain ⟨l, hl⟩ : ∃ l, q1[q1.length - 1]'(by omega) = l := ⟨_, rfl⟩
    rw [hl] at hcq
    have hlq : litOk n l = true := hq1 l (hl ▸ List.getElem_mem _)
    have hl' := litOk_iff.1 hlq
    have hidx : ((q1.length : Int) - 1).toNat = q1.length - 1 := by omega
    refine .inl ⟨by kernel_rfl, _, hc2, _, hc2, _, IntWalk.i64_in _ (by omega), ⟨by omega, by omega⟩, .int .i64 l, ?_, ?_⟩
    · have := hcq.1
      rwa [← hidx] at this
    intro w4 hx4
    have hc2' := hx4.cell hc2
    refine .inr (.inr (hyb_rule ties mixed [(0, .quiet), (1, .quiet), (2, .quiet), (3, .quiet), (4, .quiet), (5, .quiet), (6, .quiet), (7, .quiet), (8, .quiet), (9, .quiet), (10, .quiet), (11, .quiet), (12, .loud), (13, .loud), (14, .wild)] (by kernel_rfl) ?_))
    refine ⟨_, hc2', _, hc2', _, IntWalk.i64_in _ (by omega), ⟨by omega, by omega, by omega⟩, ?_⟩
    intro w5 hx5
    refine ⟨Ext.refl _, ?_⟩
    intro w6 hx6
    refine ⟨Ext.refl _, ?_⟩
    intro w7 hx7
    have hx47 := ((hx4.trans hx5).trans hx6).trans hx7
    refine ⟨hrA.ext hx47 1 (by decide), ?_⟩
    intro w9 hx9
    have hbne : bq ≠ A := fun e => (hb2 A (e ▸ rfl)).2.1 rfl
    have hqc0 : qc ≠ 0 := by omega
    replace hx9 : Ext (w7.setCell ⟨A, 0 + 1, none⟩ (.slice (some ⟨bq, 0, none⟩) (q1.length - 1) qc)) w9 := by
      rw [← pop_val (b := bq) hqc0 ((q1.length : Int) - 1) hidx]; exact hx9
    have hq2 : q1 = q1.dropLast ++ [l] := by
      have := List.dropLast_concat_getLast (l := q1) (by intro e; rw [e] at hq0; exact Nat.lt_irrefl _ hq0)
      rw [List.getLast_eq_getElem, hl] at this
      exact this.symm
    have hdl : q1.dropLast.length = q1.length - 1 := List.length_dropLast
    have hA7 := hA1.ext hx47
    have hSc : ∀ k, k ≠ A → ∀ o u, (w7.setCell ⟨A, 0 + 1, none⟩ u).cell? ⟨k, o, none⟩ = w7.cell? ⟨k, o, none⟩ := fun k hk o u => World.cell?_setCell_other _ _ _ _ (fun e => hk (congrArg Addr.block e).symm)
    have hch : Chg (fun k => k = A) w7 (w7.setCell ⟨A, 0 + 1, none⟩ (.slice (some ⟨bq, 0, none⟩) (q1.length - 1) qc)) := Chg.one _ _ _ _
    have hb9 : Below B W w9 := ((hb.trans (hx47.mono (Nat.le_trans hB hb.size))).trans (chg_below (hch) (fun k hk => by omega) (Nat.le_trans hB (Nat.le_trans hb.size hx47.size)))).trans (hx9.mono (by simpa [World.setCell] using Nat.le_trans hB (Nat.le_trans hb.size hx47.size)))
    have hA9 : Asg B w9 (.pointer (some ⟨A, 0, none⟩)) v1 q1.dropLast := by
      refine Asg.ext hx9 ⟨A, a1, _, rfl, hBA, (hrA.ext hx47).setCell, ?_, World.cell?_setCell_same _ _ _ (hx47.cell hc2), ?_, ⟨_, qc, by rw [hdl], by omega, hqcm, .inr ⟨bq, rfl, ?_, ?_⟩⟩, hb1, fun k hk => by cases hk; exact hb2 bq rfl⟩
      · exact (World.cell?_setCell_other _ _ _ _ (by simp)).trans (hx47.cell hc1)
      · exact (ho1.ext hx47).chg (fun _ h => h.elim) (fun k hk e => (hb1 k hk).2 e) hch
      · exact hch.rmy (fun e => hbne e) (hrq.ext hx47)
      · rw [List.dropLast_eq_take]
        exact RAt.take (RAt.chg (fun _ h => h.elim) hch (fun e => hbne e) (hraq.ext hx47))
    have hS9 := hS.below hb9
    obtain ⟨S', cs, os, O, hSe, hSB, hSc, hcs, hos, hocc⟩ := id hS9
    cases hSe
    obtain ⟨oa, oc, rfl, holc, hocm, -⟩ := id hos
    obtain ⟨ca, cc, rfl, hclc, hccm, -⟩ := id hcs
    have hOl := hocc.len
    have hi : ((n : Int) - l).toNat < O.length := by omega
    obtain ⟨ob, oo, oc', ocs, hoe, _, hoc, row, rfl, hrow⟩ := hos.at hi
    cases hoe
    obtain ⟨rl, hrl⟩ : ∃ rl, O[((n : Int) - l).toNat]'hi = rl := ⟨_, rfl⟩
    rw [hrl] at hrow
    obtain ⟨ra, rc, rfl, hrlc, hrcm, -⟩ := id hrow
    refine .inl ⟨by kernel_rfl, _, hSc.2.2.1, _, hSc.1, _, IntWalk.i64_in _ (by omega), ⟨by omega, by omega⟩, _, hoc.1, ?_⟩
    intro w10 hx10
    have hrgood := hocc.good rl (hrl ▸ List.getElem_mem _)
    have hle2 : 2 * zeros v1 + q1.dropLast.length < 2 * zeros v1 + q1.length := by omega
    refine loop_rule (σ := Nat × List Int × List Int × Value) [7, 54] 55 70 (fun s => [s.2.2.2, .int .i64 s.1])
      (fun s w' => Below B w9 w' ∧ Asg B w' (.pointer (some ⟨A, 0, none⟩)) s.2.1 s.2.2.1 ∧ Vals n s.2.1 ∧ (∀ l ∈ s.2.2.1, litOk n l = true) ∧ s.1 ≤ rl.length ∧
        (∀ c ∈ F, Fine s.2.1 c ∨ (∃ m ∈ s.2.2.1, -m ∈ c) ∨ ∃ j, s.1 ≤ j ∧ ∃ i, ∃ h : i < F.length, rl[j]? = some (i : Int) ∧ F[i]'h = c) ∧
        (∀ l, tr v l → tr s.2.1 l) ∧ (∀ l, tr s.2.1 l → Der F (tr v) l) ∧ 2 * zeros s.2.1 + s.2.2.1.length ≤ 2 * zeros v1 + q1.dropLast.length)
      (fun s => rl.length - s.1) (0, v1, q1.dropLast, _) rfl ⟨hx10.mono (Nat.le_trans hB hb9.size), hA9.ext hx10, hv1, fun m hm => hq1 m ((List.dropLast_sublist q1).mem hm), Nat.zero_le _, fun c hc => ?_, hm1, hD1, Nat.le_refl _⟩ ?_
    · rcases hp1 c hc with h | ⟨m, hm, h⟩
      · exact .inl h
      · rw [hq2] at hm
        rcases List.mem_append.1 hm with hm | hm
        · exact .inr (.inl ⟨m, hm, h⟩)
        · rw [List.mem_singleton.1 hm] at h
          obtain ⟨i, hi', rfl⟩ := List.mem_iff_getElem.1 hc
          obtain ⟨r, hr, hir⟩ := hocc.full (-l) (by rw [litOk_iff]; omega) i hi' h
          rw [show -l + (n : Int) = n - l from by omega, List.getElem?_eq_getElem hi, hrl] at hr
          cases hr
          obtain ⟨j, hj, hje⟩ := List.mem_iff_getElem.1 hir
          exact .inr (.inr ⟨j, Nat.zero_le _, i, hi', by rw [List.getElem?_eq_getElem hj, hje], rfl⟩)
    rintro ⟨k, v2, q2, j3⟩ w junk ⟨hb', hA2, hv2, hq2', hk, hp2, hm2, hD2, hle⟩ K' hK'
    simp only at hA2 hv2 hq2' hk hp2 hm2 hD2 hle
    show vc _ _ _ _ (over [7, 54] [j3, .int .i64 k] _) _
    refine br_dec (fun h4 => ?_) (fun h4 => ?_)
    · have hkl : k < rl.length := by omega
      obtain ⟨rb, ro, rc', rcs, hre, -, hrcell, rfl⟩ := (hrow.below hb').at hkl
      cases hre
      have hS2 := hS9.below hb'
      obtain ⟨x, hxe⟩ : ∃ x, rl[k]'hkl = x := ⟨_, rfl⟩
      rw [hxe] at hrcell
      have hx := hrgood x (hxe ▸ List.getElem_mem hkl)
      have hSc2 := (below_chg hb').cells (b := S) (by omega) hSc
      obtain ⟨i0, rfl⟩ : ∃ i0 : Nat, x = i0 := ⟨x.toNat, by omega⟩
      have hi0 : i0 < F.length := by omega
      obtain ⟨fb, fo, fc', fcs, hfe, -, hfcell, cs0, rfl, hcs0⟩ := (hcs.below hb').at hi0
      cases hfe
      have hc0 : clOk n (F[i0]'hi0) = true := hFc _ (List.getElem_mem hi0)
      have hlit0 := clOk_lits hc0
      have hmem0 := List.getElem_mem hi0
      refine ⟨⟨by omega, by omega⟩, _, hrcell.1, _, hSc2.2.1, ⟨by omega, by omega⟩, _, hfcell.1, ?_⟩
      have hql : q2.length ≤ 1000000000 := by omega
      refine Or.inl ((look_ret B _ cs0 v2 q2 n _ w hA2 hcs0.any hv2 hc0 hn hql (Nat.le_trans hB (Nat.le_trans hb9.size hb'.size))).mono ?_)
      rintro r w' ⟨hb3, ⟨hfine, rfl, hA3⟩ | ⟨m, hm, hf, hall, rfl, hA3⟩ | ⟨hall, rfl⟩⟩
      · refine ⟨_, IntWalk.i64_in _ (by omega), ?_⟩
        refine hK' (k + 1, v2, q2, _) _ _ (vs2 rfl (vint (by show (k : Int) + 1 = ((k + 1 : Nat) : Int); omega))) ⟨hb'.trans hb3, hA3, hv2, hq2', by show k + 1 ≤ _; omega, fun c hc => ?_, hm2, hD2, hle⟩ (by show rl.length - (k + 1) < rl.length - k; omega) ?_
        · rcases hp2 c hc with h | h | ⟨j, hj, i, hi', h1, h2⟩
          · exact .inl h
          · exact .inr (.inl h)
          · by_cases e : j = k
            · subst e
              rw [List.getElem?_eq_getElem hkl, hxe] at h1
              simp only [Option.some.injEq] at h1
              have : i0 = i := by omega
              subst this
              exact .inl (h2 ▸ hfine)
            · exact .inr (.inr ⟨j, by show k + 1 ≤ j; omega, i, hi', h1, h2⟩)
        · ((repeat (first | (with_reducible exact Only.refl) | (with_reducible refine Only.skip ?_) | ((with_reducible refine Only.upd ?_ ?_); rfl) | ((with_reducible refine Only.over ?_ ?_ _); rfl) | ((with_reducible refine Only.hav ?_ ?_ ?_); rfl; rfl))))
      · have hml := hlit0 m hm
        refine ⟨_, IntWalk.i64_in _ (by omega), ?_⟩
        have hzp := zeros_put hf
        refine hK' (k + 1, put v2 m, q2 ++ [m], _) _ _ (vs2 rfl (vint (by show (k : Int) + 1 = ((k + 1 : Nat) : Int); omega))) ⟨hb'.trans hb3, hA3, put_vals hv2 hml, fun y hy => ?_, by show k + 1 ≤ _; omega, fun c hc => ?_, fun y hy => put_mono hv2 hml hf (hm2 y hy), Der.of_tr hv2 hD2 hmem0 hm hall hml hf, by simp only [List.length_append, List.length_singleton]; omega⟩ (by show rl.length - (k + 1) < rl.length - k; omega) ?_
        · rcases List.mem_append.1 hy with hy | hy
          · exact hq2' y hy
          · rw [List.mem_singleton.1 hy]; exact hml
        · rcases hp2 c hc with h | ⟨y, hy, h⟩ | ⟨j, hj, i, hi', h1, h2⟩
          · rcases h.put hv2 hml hf with h | h
            · exact .inl h
            · exact .inr (.inl ⟨m, by simp, h⟩)
          · exact .inr (.inl ⟨y, List.mem_append_left _ hy, h⟩)
          · by_cases e : j = k
            · subst e
              rw [List.getElem?_eq_getElem hkl, hxe] at h1
              simp only [Option.some.injEq] at h1
              have : i0 = i := by omega
              subst this
              exact .inl (.inl ⟨m, h2 ▸ hm, (tr_put hv2 hml hf m).2 (.inr rfl)⟩)
            · exact .inr (.inr ⟨j, by show k + 1 ≤ j; omega, i, hi', h1, h2⟩)
        · ((repeat (first | (with_reducible exact Only.refl) | (with_reducible refine Only.skip ?_) | ((with_reducible refine Only.upd ?_ ?_); rfl) | ((with_reducible refine Only.over ?_ ?_ _); rfl) | ((with_reducible refine Only.hav ?_ ?_ ?_); rfl; rfl))))
      · exact ⟨(hb9.trans hb').trans hb3, .inl ⟨rfl, .inr ⟨_, hmem0, fun y hy => hD2 _ (hall y hy)⟩⟩⟩
    · have : k = rl.length := by omega
      subst this
      refine hK (v2, q2, _, _) _ _ (vs2 rfl rfl) ⟨hb9.trans hb', hA2, hv2, hq2', fun c hc => ?_, hm2, hD2, by show 2 * zeros v2 + q2.length ≤ _; omega⟩ (by show 2 * zeros v2 + q2.length < 2 * zeros v1 + q1.length; omega) ?_
      · rcases hp2 c hc with h | h | ⟨j, hj, i, hi', h1, _⟩
        · exact .inl h
        · exact .inr h
        · rw [List.getElem?_eq_none hj] at h1; cases h1
      · ((repeat (first | (with_reducible exact Only.refl) | (with_reducible refine Only.skip ?_) | ((with_reducible refine Only.upd ?_ ?_); rfl) | ((with_reducible refine Only.over ?_ ?_ _); rfl) | ((with_reducible refine Only.hav ?_ ?_ ?_); rfl; rfl))))
  · have : q1 = [] := List.eq_nil_of_length_eq_zero (by omega)
    subst this
    refine ⟨hb, .inr ⟨rfl, v1, hA1, .yes hv1 (fun c hc => ?_) hm1 hD1⟩⟩
    rcases hp1 c hc with h | ⟨l, hl, _⟩
    · exact h
    · cases hl

end Go.Proofs.Ytfmflffggcphjaa
