/- Searches: contracts of run, search, Search; plain facts on srch. -/
import Derived.Test.YtfmflffggcphjaaSy
import Derived.Test.YtfmflffggcphjaaPp
import Derived.Laws.Tables
namespace Go.Vc
open Go Go.RowKit
theorem raw_build {P : Program} {o : Oper} {ρ : Fr} {w : World} {K : Value → World → Prop} {t : Nat} {parts : Array (Nat × Operand)} {cells : Array Value} (ho : o.op = .build t parts) (h : P.built t (partsOf ρ parts.toList) = some cells) (hK : K (.agg cells) w) : Raw P o ρ w K := by
  refine ⟨.value (.agg cells), _, w, ?_, rfl, hK⟩
  have := run_build (P := P) w t (partsOf ρ parts.toList).toArray cells (by simpa using h)
  rw [← parts_eq] at this
  simp only [execOp, ho]
  simp only [Sem.run_bind, this, Result.andThen_ok, Sem.run_pure]
/-- The element of an array of two numbers. -/
theorem raw_index2 {P : Program} {T : Tab} (hT : Ties P T) {o : Oper} {ρ : Fr} {w : World} {K : Value → World → Prop} {t e : Nat} {X I : Operand} {i : Int} {q : TRow} {cs : Array Value} {n : Nat} (ho : o.op = .index t X I) (ht : P.underlying t = some (.array n e)) (hq : look T e = some q) (hqa : q.agg = false) (hqs : q.size = 1)
    (hX : ev ρ X = .agg cs) {k : IntKind} (hI : ev ρ I = .int k i) (h0 : 0 ≤ i) (h1 : i < n) {v : Value} (hv : cs[i.toNat]? = some v) (hK : K v w) : Raw P o ρ w K := by
  have ha := (ties_look hT hq).run_agg w
  have hs := (ties_look hT hq).run_size w
  rw [hqa] at ha
  rw [hqs] at hs
  refine ⟨.value v, _, w, ?_, rfl, hK⟩
  have h01 : 0 ≤ i ∧ i < (n : Int) := ⟨h0, h1⟩
  simp [execOp, ho, hX, hI, Instr.index, asIntOf, run_underlying ht, h01, hs, part, ha, hv]
end Go.Vc
namespace Go.Sat
open Go.Vc
theorem zeros_mono : ∀ {v u : List Int}, v.length = u.length → (∀ i : Nat, u[i]? = some 0 → v[i]? = some 0) → zeros u ≤ zeros v
  | [], [], _, _ => Nat.le_refl _
  | x :: v, y :: u, hl, h => by
    have := zeros_mono (v := v) (u := u) (by simpa using hl) (fun i hi => by simpa using h (i + 1) (by simpa using hi))
    have h0 := h 0
    simp only [List.getElem?_cons_zero, Option.some.injEq] at h0
    simp only [zeros]
    by_cases e : y = 0
    · rw [if_pos e, if_pos (h0 e)]; omega
    · rw [if_neg e]; split <;> omega
theorem zeros_tr {n : Nat} {v u : List Int} (hv : Vals n v) (hu : Vals n u) (h : ∀ l, tr v l → tr u l) : zeros u ≤ zeros v := by
  refine zeros_mono (by rw [hv.len, hu.len]) fun i hi => ?_
  by_cases h0 : i = 0
  · subst h0; exact hv.head
  · have hil : i ≤ n := by have := (List.getElem?_eq_some_iff.1 hi).1; have := hu.len; omega
    rcases hv.at hil with e | e | e
    · exact e
    · have := h (i : Int) (.inl ⟨by omega, by rw [Int.toNat_natCast]; exact e⟩)
      rcases this with ⟨_, h2⟩ | ⟨h1, _⟩
      · rw [Int.toNat_natCast, hi] at h2; cases h2
      · omega
    · have := h (-(i : Int)) (.inr ⟨by omega, by rw [Int.neg_neg, Int.toNat_natCast]; exact e⟩)
      rcases this with ⟨h1, _⟩ | ⟨_, h2⟩
      · omega
      · rw [Int.neg_neg, Int.toNat_natCast, hi] at h2; cases h2
theorem lf_fre {n : Nat} {v : List Int} (hv : Vals n v) {k : Nat} (h : lf v = k) (hk : k ≠ 0) : litOk n (k : Int) = true ∧ litOk n (-(k : Int)) = true ∧ fre v (k : Int) ∧ fre v (-(k : Int)) := by
  obtain ⟨h1, h2, h3, _⟩ := lf_spec h hk
  have := hv.len
  refine ⟨litOk_iff.2 (by omega), litOk_iff.2 (by omega), ?_, ?_⟩
  · unfold fre; rwa [show ((k : Int)).natAbs = k from by omega]
  · unfold fre; rwa [show (-(k : Int)).natAbs = k from by omega]
theorem srch_made {F : Cnf} {n limit : Nat} : ∀ (k : Nat) (v : List Int) (made : Nat), made ≤ limit → made ≤ (srch F n limit k v made).made ∧ (srch F n limit k v made).made ≤ limit := by
  intro k
  induction k with
  | zero => intro v made h; exact ⟨Nat.le_refl _, h⟩
  | succ k ih =>
    intro v made h
    have hbr : ∀ u m, m ≤ limit → m ≤ (branch F n (srch F n limit k) u m).made ∧ (branch F n (srch F n limit k) u m).made ≤ limit := fun u m hm => by
      unfold branch
      split
      · exact ⟨Nat.le_refl _, hm⟩
      · exact ih _ _ hm
    rw [srch]
    split
    · exact ⟨Nat.le_refl _, h⟩
    · split
      · exact ⟨Nat.le_refl _, h⟩
      · rename_i h1 h2
        have g1 := hbr (put v (-(lf v : Int))) (made + 1) (by omega)
        dsimp only
        split
        · have g2 := hbr (put v (lf v : Int)) _ g1.2
          split
          · exact ⟨by show made ≤ _; simp only [Res.no]; omega, by simp only [Res.no]; omega⟩
          · exact ⟨by simp only; omega, by simp only; omega⟩
        · exact ⟨by simp only; omega, by simp only; omega⟩
theorem take_put {α : Type} {l m : List α} {i : Nat} {x : α} (h : l.take i = m.take i) (hl : i < l.length) (hm : i < m.length) (hx : m[i]'hm = x) : (l.set i x).take (i + 1) = m.take (i + 1) := by
  rw [take_snoc hm, hx, ← h, take_snoc (by rw [List.length_set]; exact hl), List.getElem_set_self, List.take_set_of_le (Nat.le_refl _)]
def modelOf (v : List Int) : List Bool := v.tail.map fun x => decide (0 < x)
end Go.Sat
namespace Go.Proofs.Ytfmflffggcphjaa
open Go Go.Vc Go.RowKit Go.Sat
set_option linter.unusedVariables false

/-- A search under way in memory. -/
structure Que (Q : Nat) (w : World) (sp : Value) (limit made : Nat) (mv : Value) : Prop where
  cells : CellsAt w Q 0 [sp, .int .i64 limit, .int .i64 made, mv]
  room : Rmy w Q 4
theorem Que.ext {Q : Nat} {w w' : World} {sp mv : Value} {limit made : Nat} (hx : Ext w w') (h : Que Q w sp limit made mv) : Que Q w' sp limit made mv := ⟨h.cells.ext hx, h.room.ext hx⟩

/-- What 'run' leaves. -/
def RunR (Q : Nat) (sp : Value) (limit : Nat) (mv : Value) (r : Res) (W : World) (x : Value) (w' : World) : Prop := x = .int .i64 r.code ∧ Chg (fun b => b = Q) W w' ∧
  ∃ mv', Que Q w' sp limit r.made mv' ∧ (r.code = 1 → OwnR eB noB w' mv' (modelOf r.vals) ∧ ∀ b, blk mv' b → W.heap.size ≤ b) ∧ (r.code ≠ 1 → mv' = mv)

theorem Que.chgS {Q : Nat} {w w' : World} {sp mv : Value} {limit made : Nat} {S : Nat → Prop} (hS : ¬ S Q) (hc : Chg S w w') (h : Que Q w sp limit made mv) : Que Q w' sp limit made mv := ⟨hc.cells hS h.cells, hc.rmy hS h.room⟩

set_option maxHeartbeats 4000000 in
theorem run_ret (n : Nat) (F : Cnf) (limit : Nat) (hF : fOk n F = true) (hlim : limit ≤ 3000) : ∀ (fuel : Nat) (v : List Int) (made : Nat), zeros v < fuel → Vals n v → (∀ c ∈ F, Fine v c) → made ≤ limit →
    ∀ (Q B : Nat) (sp ap mv : Value) (W : World), Que Q W sp limit made mv → Sol B W sp n F → B ≤ Q → Rda (fun b => b ≠ Q) W ap v →
      Ret Try.prog 113 #[.pointer (some ⟨Q, 0, none⟩), ap] W (RunR Q sp limit mv (srch F n limit fuel v made) W) := by
  intro fuel
  induction fuel with
  | zero => intro v made h; omega
  | succ k ih =>
    intro v made hz hv hfine hmade Q B sp ap mv W hq hS hBQ hR
    have hbuilt : ∀ a b, Try.prog.built 131 [(0, .int .i64 a), (1, .int .i64 b)] = some #[.int .i64 a, .int .i64 b] := fun a b => by kernel_rfl
    have hn : n ≤ 400 := by simp only [fOk, Bool.and_eq_true, decide_eq_true_eq] at hF; omega
    have hlm : (maxLen : Int) ≤ 9223372036854775807 := by decide
    have hvl := hv.len
    obtain ⟨S, rfl⟩ := hS.ptr
    obtain ⟨A, a1, rfl, ⟨hAQ, hAW⟩, hc1, ho1⟩ := hR.lt
    obtain ⟨aa, ac, rfl, -⟩ := id ho1
    have hQW : Q < W.heap.size := World.block_lt_of_cell? _ _ hq.cells.1
    refine ret_of_vc ties mixed Try.func113 rfl (by kernel_rfl) rfl rfl ?_
    refine Or.inl ((leastFree_ret _ v _ (hR.mono fun _ _ => trivial)).mono ?_)
    rintro _ _ ⟨rfl, rfl⟩
    refine br_dec (fun h0 => ?_) (fun h0 => ?_)
    · have h0 : lf v = 0 := by omega
      have hsr : srch F n limit (k + 1) v made = ⟨1, v, made, (0, .nil)⟩ := by rw [srch, if_pos h0]
      rw [hsr]
      obtain ⟨S', cs, os, O, hSe, hSB, hSc, -, -, -⟩ := id hS
      cases hSe
      refine ⟨_, hq.cells.1, _, hSc.1, ⟨by omega, by omega, by omega, by show (1 : Int) * (n : Int) ≤ _; omega⟩, ?_⟩
      have hml : (modelOf v).length = n := by simp [modelOf, hvl]
      have xW1 : Ext W (W.alloc (.cells (zs n [.bool false]).toArray 4)) := Ext.new _ _
      have room : Rmy (W.alloc (.cells (zs n [.bool false]).toArray 4)) W.heap.size n := by
        have := Rmy.new W (zs n [.bool false]) 4
        rwa [zs_length, List.length_singleton, Nat.mul_one] at this
      have hrep : ∀ (w : World) (q o : Nat), CellsAt w W.heap.size o (zs q [.bool false]) → RAt eB noB w (List.replicate q false) W.heap.size o := by
        intro w q
        induction q with
        | zero => intro o _; trivial
        | succ q ih => intro o h; exact ⟨⟨[.bool false], ⟨h.1, trivial⟩, rfl⟩, ih (o + 1) h.2⟩
      have hq1 := hq.ext xW1
      refine ⟨hq1.room 3 (by decide), ?_⟩
      have hone : ∀ u, Chg (fun b => b = Q) (W.alloc (.cells (zs n [.bool false]).toArray 4)) ((W.alloc (.cells (zs n [.bool false]).toArray 4)).setCell ⟨Q, 0 + 3, none⟩ u) := fun u => Chg.one _ _ _ _
      have hcell3 : ∀ u, ((W.alloc (.cells (zs n [.bool false]).toArray 4)).setCell ⟨Q, 0 + 3, none⟩ u).cell? ⟨Q, 0 + 3, none⟩ = some u := fun u => World.cell?_setCell_same _ _ _ hq1.cells.2.2.2.1
      refine ⟨_, hcell3 _, ?_⟩
      have hq2 : ∀ u, Que Q ((W.alloc (.cells (zs n [.bool false]).toArray 4)).setCell ⟨Q, 0 + 3, none⟩ u) (.pointer (some ⟨S, 0, none⟩)) limit made u := fun u =>
        ⟨⟨(World.cell?_setCell_other _ _ _ _ (by simp)).trans hq1.cells.1, (World.cell?_setCell_other _ _ _ _ (by simp)).trans hq1.cells.2.1, (World.cell?_setCell_other _ _ _ _ (by simp)).trans hq1.cells.2.2.1, hcell3 u, trivial⟩, hq1.room.setCell⟩
      have hne : W.heap.size ≠ Q := by omega
      refine loop_rule (σ := Nat × Value × List Bool) [6, 33] 34 52 (fun q => [q.2.1, .int .i64 q.1])
        (fun q w' => Chg (fun b => b = Q ∨ W.heap.size ≤ b) W w' ∧ q.1 ≤ n ∧ Que Q w' (.pointer (some ⟨S, 0, none⟩)) limit made (.slice (some ⟨W.heap.size, 0, none⟩) n n) ∧ Rmy w' W.heap.size n ∧ RAt eB noB w' q.2.2 W.heap.size 0 ∧ q.2.2.length = n ∧ q.2.2.take q.1 = (modelOf v).take q.1)
        (fun q => n - q.1) (0, _, List.replicate n false) rfl ⟨(Chg.of xW1).trans ((hone _).mono fun b _ h => .inl h), Nat.zero_le _, hq2 _, room.setCell, RAt.chg (S := fun b => b = Q) (fun _ h => h.elim) (hone _) hne (hrep _ _ _ (boxedAll _ _ _)), by simp, rfl⟩ ?_
      rintro ⟨i, j1, l⟩ w junk ⟨hch, hi, hqw, hrw, hra, hl, htk⟩ K hK
      simp only at hi hqw hrw hra hl htk
      show vc _ _ _ _ (over [6, 33] [j1, .int .i64 i] _) _
      refine br_dec (fun h3 => ?_) (fun h3 => ?_)
      · have hin : i < n := by omega
        have hil : i + 1 < v.length := by omega
        have hSn : ∀ b, (b ≠ Q ∧ b < W.heap.size) → ¬ (b = Q ∨ W.heap.size ≤ b) := fun b hb e => by omega
        have hcA := hch.cell (a := ⟨A, 0, none⟩) (hSn A ⟨hAQ, hAW⟩) hc1
        have hoA := ho1.chg (S := fun b => b = Q ∨ W.heap.size ≤ b) hSn hch
        obtain ⟨b, o, c', he, g3⟩ := rd_at hoA hil
        cases he
        refine .inr (.inr (hyb_rule ties mixed [(0, .quiet), (1, .quiet), (2, .quiet), (3, .quiet), (4, .quiet), (5, .quiet), (6, .quiet), (7, .quiet), (8, .quiet), (9, .quiet), (10, .quiet), (11, .quiet), (12, .quiet), (13, .quiet), (14, .loud), (15, .wild)] (by kernel_rfl) ?_))
        refine ⟨_, hqw.cells.2.2.2.1, _, hcA, _, IntWalk.i64_in _ (by omega), ⟨by omega, by omega⟩, _, g3, ?_⟩
        intro w5 hx5
        refine ⟨⟨by omega, by omega⟩, Ext.refl _, ?_⟩
        intro w6 hx6
        have hx56 := hx5.trans hx6
        refine ⟨(hrw.ext hx56) _ (by show 0 + (i : Int).toNat * 1 < n; omega), ?_⟩
        intro w7 hx7
        refine ⟨_, IntWalk.i64_in _ (by omega), ?_⟩
        have hx7' : Ext (setCells w6 W.heap.size (0 + (i : Int).toNat * 1) [.bool (decide (0 < v[i + 1]'hil))]) w7 := hx7
        have hset : Chg (fun b => b = Q ∨ W.heap.size ≤ b) w6 (setCells w6 W.heap.size (0 + (i : Int).toNat * 1) [.bool (decide (0 < v[i + 1]'hil))]) := Chg.setCells (.inr (Nat.le_refl _)) _ _ _
        have hset1 : Chg (fun b => b = W.heap.size) w6 (setCells w6 W.heap.size (0 + (i : Int).toNat * 1) [.bool (decide (0 < v[i + 1]'hil))]) := Chg.setCells (S := fun b => b = W.heap.size) rfl _ _ _
        refine hK (i + 1, _, l.set i (decide (0 < v[i + 1]'hil))) _ _ (vs2 rfl (vint (by show (i : Int) + 1 = ((i + 1 : Nat) : Int); omega))) ⟨((hch.trans (.of hx56)).trans hset).trans (.of hx7'), by show i + 1 ≤ n; omega, ((hqw.ext hx56).chgS (fun e => hne e.symm) hset1).ext hx7', (Rmy.setCells _ (hrw.ext hx56)).ext hx7', ?_, by simpa using hl, ?_⟩ (by show n - (i + 1) < n - i; omega) ?_
        · exact (RAt.set (cs := [_]) (x := decide (0 < v[i + 1]'hil)) noB_ne (hrw.ext hx56) (hra.ext hx56) rfl (by show 0 + (i : Int).toNat * 1 = i * 1; omega) (by omega) (by show l.length * 1 ≤ n; omega)).ext hx7'
        · show (l.set i _).take (i + 1) = (modelOf v).take (i + 1)
          refine take_put htk (by omega) (by omega) ?_
          unfold modelOf
          rw [List.getElem_map, List.getElem_tail]
        · ((repeat (first | (with_reducible exact Only.refl) | (with_reducible refine Only.skip ?_) | ((with_reducible refine Only.upd ?_ ?_); rfl) | ((with_reducible refine Only.over ?_ ?_ _); rfl) | ((with_reducible refine Only.hav ?_ ?_ ?_); rfl; rfl))))
      · have : i = n := by omega
        subst this
        have hlm2 : l = modelOf v := take_all_eq htk (by omega) (by omega)
        subst hlm2
        refine ⟨rfl, hch.mono fun b hb e => by omega, _, hqw, fun _ => ⟨⟨_, i, by rw [hl], by rw [hl]; exact Nat.le_refl _, by have : 400 ≤ maxLen := (by decide); omega, .inr ⟨W.heap.size, rfl, by rw [show eB.m = 1 from rfl, Nat.mul_one]; exact hrw, hra⟩⟩, fun b hb => by cases hb; exact Nat.le_refl _⟩, fun h => absurd rfl h⟩
    · have h0' : lf v ≠ 0 := by omega
      refine .inl ⟨by kernel_rfl, _, hq.cells.2.2.1, _, hq.cells.2.1, ?_⟩
      intro w4 hx4
      refine br_dec (fun h1 => ?_) (fun h1 => ?_)
      · have hsr : srch F n limit (k + 1) v made = ⟨3, [], made, (0, .nil)⟩ := by rw [srch, if_neg h0', if_pos (by omega)]
        rw [hsr]
        exact ⟨rfl, .of hx4, mv, hq.ext hx4, fun h => (by cases h), fun _ => rfl⟩
      have h1' : made ≠ limit := by omega
      have hq4 := hq.ext hx4
      obtain ⟨hl1, hl2, hf1, hf2⟩ := lf_fre hv rfl h0'
      have hl1' := litOk_iff.1 hl1
      refine ⟨_, hq4.cells.2.2.1, _, IntWalk.i64_in _ (by omega), hq4.room 2 (by decide), _, IntWalk.i64_in _ (by omega), ?_⟩
      have hone : Chg (fun b => b = Q) w4 (w4.setCell ⟨Q, 0 + 2, none⟩ (.int .i64 ((made : Int) + 1))) := Chg.one _ _ _ _
      have hq5 : Que Q (w4.setCell ⟨Q, 0 + 2, none⟩ (.int .i64 ((made : Int) + 1))) (.pointer (some ⟨S, 0, none⟩)) limit (made + 1) mv :=
        ⟨⟨(World.cell?_setCell_other _ _ _ _ (by simp)).trans hq4.cells.1, (World.cell?_setCell_other _ _ _ _ (by simp)).trans hq4.cells.2.1, World.cell?_setCell_same _ _ _ hq4.cells.2.2.1, (World.cell?_setCell_other _ _ _ _ (by simp)).trans hq4.cells.2.2.2.1, trivial⟩, hq4.room.setCell⟩
      refine raw_build rfl (hbuilt _ _) ?_
      obtain ⟨R1, hR1⟩ : ∃ R, branch F n (srch F n limit k) (put v (-(lf v : Int))) (made + 1) = R := ⟨_, rfl⟩
      obtain ⟨R2, hR2⟩ : ∃ R, branch F n (srch F n limit k) (put v (lf v : Int)) R1.made = R := ⟨_, rfl⟩
      have e1 : R1.code ≠ 2 → srch F n limit (k + 1) v made = ⟨R1.code, R1.vals, R1.made, (0, .nil)⟩ := fun h => by
        rw [srch, if_neg h0', if_neg h1']; simp only [hR1]; rw [if_neg h]
      have e2 : R1.code = 2 → R2.code ≠ 2 → srch F n limit (k + 1) v made = ⟨R2.code, R2.vals, R2.made, (0, .nil)⟩ := fun h h' => by
        rw [srch, if_neg h0', if_neg h1']; simp only [hR1]; rw [if_pos h]; simp only [hR2]; rw [if_neg h']
      have e3 : R1.code = 2 → R2.code = 2 → (srch F n limit (k + 1) v made).code = 2 ∧ (srch F n limit (k + 1) v made).made = R2.made := fun h h' => by
        rw [srch, if_neg h0', if_neg h1']; simp only [hR1]; rw [if_pos h]; simp only [hR2]; rw [if_pos h']; exact ⟨rfl, rfl⟩
      have hbm : ∀ u m, m ≤ limit → (branch F n (srch F n limit k) u m).made ≤ limit := fun u m hm => by
        unfold branch
        split
        · exact hm
        · exact (srch_made _ _ _ hm).2
      refine loop_rule (σ := Nat × Value × Value × Value × Value × Nat) [8, 9, 10, 11, 72] 73 94 (fun s => [s.2.1, s.2.2.1, s.2.2.2.1, s.2.2.2.2.1, .int .i64 s.1])
        (fun s w' => Chg (fun b => b = Q) W w' ∧ Que Q w' (.pointer (some ⟨S, 0, none⟩)) limit s.2.2.2.2.2 mv ∧ s.2.2.2.2.2 ≤ limit ∧ ((s.1 = 0 ∧ s.2.2.2.2.2 = made + 1) ∨ (s.1 = 1 ∧ R1.code = 2 ∧ s.2.2.2.2.2 = R1.made) ∨ (s.1 = 2 ∧ R1.code = 2 ∧ R2.code = 2 ∧ s.2.2.2.2.2 = R2.made)))
        (fun s => 2 - s.1) (0, undef, undef, undef, undef, made + 1) rfl ⟨(Chg.of hx4).trans hone, hq5, by show made + 1 ≤ limit; omega, .inl ⟨rfl, rfl⟩⟩ ?_
      rintro ⟨i, j1, j2, j3, j4, m⟩ w junk ⟨hch, hqw, hml, hst⟩ K hK
      simp only at hqw hml hst
      show vc _ _ _ _ (over [8, 9, 10, 11, 72] [j1, j2, j3, j4, .int .i64 i] _) _
      refine br_dec (fun h3 => ?_) (fun h3 => ?_)
      · obtain ⟨l, R, hcs, hlo, hlf, hRe, hfin, hnext⟩ : ∃ l R, (#[.int .i64 (0 - (lf v : Int)), .int .i64 (lf v : Int)] : Array Value)[i]? = some (.int .i64 l) ∧ litOk n l = true ∧ fre v l ∧ branch F n (srch F n limit k) (put v l) m = R ∧
            (R.code ≠ 2 → srch F n limit (k + 1) v made = ⟨R.code, R.vals, R.made, (0, .nil)⟩) ∧ (R.code = 2 → ((i + 1 = 0 ∧ R.made = made + 1) ∨ (i + 1 = 1 ∧ R1.code = 2 ∧ R.made = R1.made) ∨ (i + 1 = 2 ∧ R1.code = 2 ∧ R2.code = 2 ∧ R.made = R2.made))) := by
          rcases hst with ⟨rfl, rfl⟩ | ⟨rfl, g1, rfl⟩ | ⟨rfl, _⟩
          · exact ⟨-(lf v : Int), R1, by simp, hl2, hf2, hR1, e1, fun h => .inr (.inl ⟨rfl, h, rfl⟩)⟩
          · exact ⟨(lf v : Int), R2, by simp, hl1, hf1, hR2, e2 g1, fun h => .inr (.inr ⟨rfl, g1, h, rfl⟩)⟩
          · omega
        have hlo' := litOk_iff.1 hlo
        have hWw := hch.size
        have hSw : Sol B w (.pointer (some ⟨S, 0, none⟩)) n F := hS.below (chg_below hch (fun b hb => by omega) (by omega))
        have hRw : Rda (fun b => b ≠ Q) w _ v := hR.chg (fun b hb e => hb e) hch
        have hiN : ((i : Int)).toNat = i := Int.toNat_natCast i
        refine raw_index2 ties rfl Try.underlying131 (q := ⟨false, [], .int .i64, 1, 8, .int .i64 0⟩) rfl rfl rfl rfl rfl (by omega) (by omega) (v := .int .i64 l) hcs ?_
        refine ⟨_, hqw.cells.1, ?_⟩
        refine Or.inl ((extend_ret (.pointer (some ⟨S, 0, none⟩)) _ n F v l w (hSw.mono (by omega)) (hRw.mono fun _ _ => trivial) hF hv hlo hlf hfine).mono ?_)
        rintro r w6 ⟨x6, o, hup, ⟨rfl, rfl⟩ | ⟨u, p, rfl, rfl, hA⟩⟩
        · have hbr : branch F n (srch F n limit k) (put v l) m = Res.no m (0, .nil) := by unfold branch; rw [upF_eq hup]
          rw [hbr] at hRe
          subst hRe
          refine ⟨_, IntWalk.i64_in _ (by omega), ?_⟩
          refine hK (i + 1, _, _, _, _, m) _ _ (by show [_, _, _, _, _] = [_, _, _, _, _]; exact congr (congrArg List.cons rfl) (vs4 rfl rfl rfl (vint (by show (i : Int) + 1 = ((i + 1 : Nat) : Int); omega)))) ⟨hch.trans (.of x6), hqw.ext x6, hml, hnext rfl⟩ (by show 2 - (i + 1) < 2 - i; omega) ?_
          ((repeat (first | (with_reducible exact Only.refl) | (with_reducible refine Only.skip ?_) | ((with_reducible refine Only.upd ?_ ?_); rfl) | ((with_reducible refine Only.over ?_ ?_ _); rfl) | ((with_reducible refine Only.hav ?_ ?_ ?_); rfl; rfl))))
        · have hbr : branch F n (srch F n limit k) (put v l) m = srch F n limit k u m := by unfold branch; rw [upF_eq hup]
          rw [hbr] at hRe
          have huv : Vals n u ∧ (∀ c ∈ F, Fine u c) ∧ ∀ l', tr (put v l) l' → tr u l' := by cases hup with | yes h1 h2 h3 _ => exact ⟨h1, h2, h3⟩
          have hzu := zeros_tr (put_vals hv hlo) huv.1 huv.2.2
          have hzp := zeros_put hlf
          obtain ⟨A', _, _, rfl, _⟩ := hA.ptr
          have hrun := ih u m (by omega) huv.1 huv.2.1 hml Q B (.pointer (some ⟨S, 0, none⟩)) _ mv w6 (hqw.ext x6) (hSw.below (x6.mono (by omega))) hBQ (hA.rda.mono fun b hb e => by omega)
          rw [hRe] at hrun
          refine Or.inl ((hrun).mono ?_)
          rintro x w7 ⟨rfl, hch7, mv', hq7, hg1, hg2⟩
          have hch' := (hch.trans (.of x6)).trans hch7
          refine br_dec (fun h5 => ?_) (fun h5 => ?_)
          · have ec : (srch F n limit (k + 1) v made).code = R.code := by rw [hfin h5]
            have em : (srch F n limit (k + 1) v made).made = R.made := by rw [hfin h5]
            have ev : (srch F n limit (k + 1) v made).vals = R.vals := by rw [hfin h5]
            exact ⟨vint ec.symm, hch', mv', by rw [em]; exact hq7, fun h => ⟨by rw [ev]; exact (hg1 (by rw [← ec]; exact h)).1, fun b hb => Nat.le_trans (Nat.le_trans hWw x6.size) ((hg1 (by rw [← ec]; exact h)).2 b hb)⟩, fun h => hg2 (by rw [← ec]; exact h)⟩
          · have h5' : R.code = 2 := by omega
            have := hg2 (by omega)
            subst this
            refine ⟨_, IntWalk.i64_in _ (by omega), ?_⟩
            refine hK (i + 1, _, _, _, _, R.made) _ _ (by show [_, _, _, _, _] = [_, _, _, _, _]; exact congr (congrArg List.cons rfl) (vs4 rfl rfl rfl (vint (by show (i : Int) + 1 = ((i + 1 : Nat) : Int); omega)))) ⟨hch', hq7, by show R.made ≤ limit; rw [← hRe]; exact (srch_made _ _ _ hml).2, hnext h5'⟩ (by show 2 - (i + 1) < 2 - i; omega) ?_
            ((repeat (first | (with_reducible exact Only.refl) | (with_reducible refine Only.skip ?_) | ((with_reducible refine Only.upd ?_ ?_); rfl) | ((with_reducible refine Only.over ?_ ?_ _); rfl) | ((with_reducible refine Only.hav ?_ ?_ ?_); rfl; rfl))))
      · rcases hst with ⟨rfl, _⟩ | ⟨rfl, _⟩ | ⟨rfl, g1, g2, rfl⟩
        · omega
        · omega
        · obtain ⟨g3, g4⟩ := e3 g1 g2
          exact ⟨by rw [g3]; rfl, hch, mv, by rw [g4]; exact hqw, fun h => (by rw [g3] at h; cases h), fun _ => rfl⟩

end Go.Proofs.Ytfmflffggcphjaa
