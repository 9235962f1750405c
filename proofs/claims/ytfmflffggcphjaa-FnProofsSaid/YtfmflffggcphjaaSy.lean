/- The solver: contract of newSolver. -/
import Derived.Test.YtfmflffggcphjaaSx
namespace Go.Proofs.Ytfmflffggcphjaa
open Go Go.Vc Go.RowKit Go.Sat
set_option linter.unusedVariables false

/-- The occurrences while they are collected: row headers in block Ob, the rows in blocks from B on, each its own. -/
structure OccAt (B Ob : Nat) (w : World) (O : List (List Int)) (rows : List Value) : Prop where
  len : rows.length = O.length
  cells : CellsAt w Ob 0 rows
  room : Rmy w Ob rows.length
  row : ∀ (j : Nat) (r : List Int) (s : Value), O[j]? = some r → rows[j]? = some s → OwnR eI noB w s r ∧ ∀ b, blk s b → B ≤ b ∧ b < w.heap.size
  apart : ∀ (j j' : Nat) (s s' : Value) (b : Nat), rows[j]? = some s → rows[j']? = some s' → blk s b → blk s' b → j = j'
theorem OccAt.ext {B Ob : Nat} {w w' : World} {O : List (List Int)} {rows : List Value} (hx : Ext w w') (h : OccAt B Ob w O rows) : OccAt B Ob w' O rows :=
  ⟨h.len, h.cells.ext hx, h.room.ext hx, fun j r s h1 h2 => ⟨(h.row j r s h1 h2).1.ext hx, fun b hb => ⟨((h.row j r s h1 h2).2 b hb).1, Nat.lt_of_lt_of_le ((h.row j r s h1 h2).2 b hb).2 hx.size⟩⟩, h.apart⟩

theorem CellsAt.of {w : World} {b : Nat} : ∀ {vs : List Value} {o : Nat}, (∀ i u, vs[i]? = some u → w.cell? ⟨b, o + i, none⟩ = some u) → CellsAt w b o vs
  | [], _, _ => trivial
  | v :: vs, o, h => ⟨h 0 v rfl, CellsAt.of fun i u hi => by have := h (i + 1) u (by simpa using hi); rwa [show o + (i + 1) = o + 1 + i from by omega] at this⟩

/-- One row has grown: its header is stored anew. -/
theorem OccAt.grow {B Ob : Nat} {w w5 w7 : World} {O : List (List Int)} {rows : List Value} {j : Nat} {r r' : List Int} {s v : Value} (h : OccAt B Ob w O rows) (hOb : Ob < B) (hB : B ≤ w.heap.size) (hj : O[j]? = some r) (hs : rows[j]? = some s)
    (hv : OwnR eI noB w5 v r') (hch : Chg (blk s) w w5) (hb : ∀ b, blk v b → blk s b ∨ w.heap.size ≤ b ∧ b < w5.heap.size) (hx : Ext w5 w7) :
    OccAt B Ob (w7.setCell ⟨Ob, 0 + j * 1, none⟩ v) (O.set j r') (rows.set j v) := by
  have hsOb : ¬ blk s Ob := fun e => by have := ((h.row j r s hj hs).2 Ob e).1; omega
  have hj1 : j < rows.length := (List.getElem?_eq_some_iff.1 hs).1
  have hj2 : j < O.length := (List.getElem?_eq_some_iff.1 hj).1
  have hroom7 : Rmy w7 Ob rows.length := (hch.rmy hsOb h.room).ext hx
  have hc7 : CellsAt w7 Ob 0 rows := (hch.cells hsOb h.cells).ext hx
  have hone : Chg (fun k => k = Ob) w7 (w7.setCell ⟨Ob, 0 + j * 1, none⟩ v) := Chg.one _ _ _ _
  have hsize : ∀ a u, (w7.setCell a u).heap.size = w7.heap.size := fun a u => by simp [World.setCell]
  have hle := Nat.le_trans hch.size hx.size
  have hvb : ∀ b, blk v b → B ≤ b ∧ b < w7.heap.size := fun b hb' => by
    rcases hb b hb' with e | e
    · have := (h.row j r s hj hs).2 b e
      exact ⟨this.1, by omega⟩
    · exact ⟨by omega, Nat.lt_of_lt_of_le e.2 hx.size⟩
  have old : ∀ k s', rows[k]? = some s' → ∃ r'', O[k]? = some r'' ∧ OwnR eI noB w s' r'' ∧ ∀ b, blk s' b → B ≤ b ∧ b < w.heap.size := fun k s' hk => by
    have hlt : k < O.length := by rw [← h.len]; exact (List.getElem?_eq_some_iff.1 hk).1
    exact ⟨_, List.getElem?_eq_getElem hlt, h.row k _ s' (List.getElem?_eq_getElem hlt) hk⟩
  have fresh : ∀ k s' b, rows[k]? = some s' → k ≠ j → blk v b → blk s' b → False := fun k s' b hk hne h1 h2 => by
    rcases hb b h1 with e | e
    · exact hne (h.apart k j s' s b hk hs h2 e)
    · obtain ⟨_, _, _, g⟩ := old k s' hk
      have := (g b h2).2
      omega
  refine ⟨by simp [h.len], CellsAt.of fun i u hi => ?_, by rw [List.length_set]; exact hroom7.setCell, fun k q u h1 h2 => ?_, fun k k' u u' b h1 h2 g1 g2 => ?_⟩
  · by_cases e : j = i
    · subst e
      rw [List.getElem?_set_self hj1] at hi
      cases hi
      have := World.cell?_setCell_same w7 ⟨Ob, 0 + j * 1, none⟩ v (hroom7 (0 + j * 1) (by omega)).1.choose_spec
      rwa [Nat.mul_one] at this ⊢
    · rw [List.getElem?_set_ne e] at hi
      rw [World.cell?_setCell_other _ _ _ _ (by intro e'; exact e (by simpa using congrArg Addr.off e'))]
      exact hc7.get hi
  · by_cases e : j = k
    · subst e
      rw [List.getElem?_set_self hj2] at h1
      rw [List.getElem?_set_self hj1] at h2
      cases h1
      cases h2
      exact ⟨(hv.ext hx).chg (fun _ h => h.elim) (fun b hb' e => by have := hvb b hb'; omega) hone, fun b hb' => by rw [hsize]; exact hvb b hb'⟩
    · rw [List.getElem?_set_ne e] at h1 h2
      obtain ⟨g1, g2⟩ := h.row k q u h1 h2
      refine ⟨((g1.chg (fun _ h => h.elim) (fun b hb' e' => e (h.apart j k s u b hs h2 e' hb')) hch).ext hx).chg (fun _ h => h.elim) (fun b hb' e' => by have := (g2 b hb').1; omega) hone, fun b hb' => ⟨(g2 b hb').1, by rw [hsize]; exact Nat.lt_of_lt_of_le (g2 b hb').2 hle⟩⟩
  · by_cases e : j = k
    · by_cases e' : j = k'
      · omega
      · subst e
        rw [List.getElem?_set_self hj1] at h1
        rw [List.getElem?_set_ne e'] at h2
        cases h1
        exact (fresh k' u' b h2 (fun h => e' h.symm) g1 g2).elim
    · by_cases e' : j = k'
      · subst e'
        rw [List.getElem?_set_self hj1] at h2
        rw [List.getElem?_set_ne e] at h1
        cases h2
        exact (fresh k u b h1 (fun h => e h.symm) g2 g1).elim
      · rw [List.getElem?_set_ne e] at h1
        rw [List.getElem?_set_ne e'] at h2
        exact h.apart k k' u u' b h1 h2 g1 g2

/-- What has been collected of the first k clauses, and of m literals of the next one. -/
structure OccPart (n : Nat) (F : Cnf) (O : List (List Int)) (k m : Nat) : Prop where
  len : O.length = 2 * n + 1
  good : ∀ r ∈ O, ∀ x ∈ r, 0 ≤ x ∧ x < (F.length : Int)
  full : ∀ l, litOk n l = true → ∀ (i : Nat) (h : i < F.length), (i < k ∧ l ∈ F[i]'h ∨ i = k ∧ l ∈ (F[i]'h).take m) → ∃ r, O[(l + n).toNat]? = some r ∧ (i : Int) ∈ r
  small : ∀ r ∈ O, r.length ≤ k * 400 + m

theorem cl_len {n : Nat} {c : Cl} (hc : clOk n c = true) : c.length ≤ n := by
  have key : ∀ (i : Nat) (h : i < c.length), (i : Int) + 1 ≤ av (c[i]'h) := by
    intro i
    induction i with
    | zero => intro h; have := litOk_iff.1 (clOk_lits hc _ (List.getElem_mem h)); unfold av; omega
    | succ i ih => intro h; have h1 := ih (by omega); have h2 := clFrom_iff' hc i h; omega
  by_cases h0 : c.length = 0
  · omega
  · have h1 := key (c.length - 1) (by omega)
    have h2 := litOk_iff.1 (clOk_lits hc _ (List.getElem_mem (show c.length - 1 < c.length by omega)))
    unfold av at h1
    omega
theorem OccPart.step {n : Nat} {F : Cnf} {O : List (List Int)} {k m : Nat} (h : OccPart n F O k m) (hk : k < F.length) (hm : m < (F[k]'hk).length) {x : Int} (hx : (F[k]'hk)[m]'hm = x) (hl : litOk n x = true) {r : List Int} (hr : O[(x + n).toNat]? = some r) :
    OccPart n F (O.set (x + n).toNat (r ++ [(k : Int)])) k (m + 1) := by
  have hj := (List.getElem?_eq_some_iff.1 hr).1
  have hrm : r ∈ O := List.mem_of_getElem? hr
  refine ⟨by rw [List.length_set]; exact h.len, fun q hq y hy => ?_, fun l hlo i hi hor => ?_, fun q hq => ?_⟩
  · rcases List.mem_or_eq_of_mem_set hq with hq | rfl
    · exact h.good q hq y hy
    · rcases List.mem_append.1 hy with hy | hy
      · exact h.good r hrm y hy
      · rw [List.mem_singleton.1 hy]; omega
  · by_cases e : (x + n).toNat = (l + n).toNat
    · refine ⟨_, by rw [← e, List.getElem?_set_self hj], ?_⟩
      have hlx : l = x := by have := litOk_iff.1 hl; have := litOk_iff.1 hlo; omega
      subst hlx
      by_cases hik : i = k
      · subst hik; simp
      · obtain ⟨q, h1, h2⟩ := h.full l hlo i hi (.inl (by rcases hor with h | h <;> simp_all))
        rw [hr] at h1
        cases h1
        exact List.mem_append_left _ h2
    · rw [List.getElem?_set_ne e]
      refine h.full l hlo i hi ?_
      rcases hor with h1 | ⟨rfl, h2⟩
      · exact .inl h1
      · refine .inr ⟨rfl, ?_⟩
        rw [take_snoc hm, hx] at h2
        rcases List.mem_append.1 h2 with h2 | h2
        · exact h2
        · rw [List.mem_singleton.1 h2] at e; exact absurd rfl e
  · rcases List.mem_or_eq_of_mem_set hq with hq | rfl
    · have := h.small q hq; omega
    · have := h.small r hrm; simp only [List.length_append, List.length_singleton]; omega
theorem OccPart.next {n : Nat} {F : Cnf} {O : List (List Int)} {k : Nat} (hk : k < F.length) (h : OccPart n F O k (F[k]'hk).length) (hc : (F[k]'hk).length ≤ 400) : OccPart n F O (k + 1) 0 := by
  refine ⟨h.len, h.good, fun l hl i hi hor => h.full l hl i hi ?_, fun r hr => Nat.le_trans (h.small r hr) (by rw [Nat.succ_mul]; exact Nat.add_le_add_left hc _)⟩
  rcases hor with ⟨h1, h2⟩ | ⟨_, h2⟩
  · by_cases e : i = k
    · subst e; exact .inr ⟨rfl, by rw [List.take_length]; exact h2⟩
    · exact .inl ⟨by omega, h2⟩
  · simp at h2

theorem zs_one (x : Value) : ∀ n, zs n [x] = List.replicate n x
  | 0 => rfl
  | n + 1 => by rw [zs, zs_one x n, List.replicate_succ]; rfl
theorem occ_zero {B Ob N t : Nat} {w1 w4 : World} (hOb : Ob = w1.heap.size) (hx : Ext (w1.alloc (.cells (zs N [.slice none 0 0]).toArray t)) w4) : OccAt B Ob w4 (List.replicate N []) (List.replicate N (.slice none 0 0)) := by
  subst hOb
  refine OccAt.ext hx ⟨by simp, ?_, ?_, fun j r s h1 h2 => ?_, fun j j' s s' b h1 h2 h3 h4 => ?_⟩
  · rw [← zs_one]; exact boxedAll _ _ _
  · have := Rmy.new w1 (zs N [.slice none 0 0]) t
    rw [zs_length, List.length_singleton, Nat.mul_one] at this
    rw [List.length_replicate]
    exact this
  · rw [List.getElem?_replicate] at h1 h2
    split at h1
    · cases h1
      rename_i hj
      rw [if_pos hj] at h2
      cases h2
      exact ⟨OwnR.nil _ _ _ _, fun b hb => hb.elim⟩
    · cases h1
  · rw [List.getElem?_replicate] at h1
    split at h1
    · cases h1; exact h3.elim
    · cases h1
theorem part_zero (n : Nat) (F : Cnf) : OccPart n F (List.replicate (2 * n + 1) []) 0 0 := by
  refine ⟨by simp, fun r hr x hx => ?_, fun l _ i hi h => ?_, fun r hr => ?_⟩
  · rw [(List.mem_replicate.1 hr).2] at hx; cases hx
  · rcases h with ⟨h, _⟩ | ⟨_, h⟩
    · omega
    · simp at h
  · rw [(List.mem_replicate.1 hr).2]; simp

set_option maxHeartbeats 4000000 in
theorem newSolver_ret (n : Nat) (F : Cnf) (s : Value) (W : World) (hs : SlR eL allB W s F) (hF : fOk n F = true) :
    Ret Try.prog 73 #[fv n s] W (fun r w' => Ext W w' ∧ Sol w'.heap.size w' r n F) := by
  have hlm : (maxLen : Int) ≤ 9223372036854775807 := by decide
  have hn : n ≤ 400 ∧ F.length ≤ 1600 := by
    simp only [fOk, Bool.and_eq_true, decide_eq_true_eq] at hF; omega
  have hFc : ∀ c ∈ F, clOk n c = true := by
    simp only [fOk, Bool.and_eq_true, List.all_eq_true] at hF; exact hF.2
  obtain ⟨a, c, rfl, hlc, hcm, -⟩ := id hs
  refine ret_of_vc ties mixed Try.func73 rfl (by kernel_rfl) rfl rfl ?_
  have hb := boxedAll W [.int .i64 n, .slice a F.length c] 25
  have x1 : Ext W (W.alloc (.cells [.int .i64 n, .slice a F.length c].toArray 25)) := Ext.new _ _
  refine .inr (.inr (hyb_rule ties mixed [(0, .quiet), (1, .quiet), (2, .quiet), (3, .quiet), (4, .quiet), (5, .loud), (6, .loud), (7, .loud), (8, .quiet)] (by kernel_rfl) ?_))
  refine ⟨_, rfl, hb, _, hb.1, _, IntWalk.i64_in _ (by omega), _, IntWalk.i64_in _ (by omega), ?_⟩
  intro w1 hx1
  refine ⟨⟨by omega, by omega, by omega, by show (24 : Int) * (2 * (n : Int) + 1) ≤ _; omega⟩, Ext.new _ _, ?_⟩
  intro w2 hx2
  refine ⟨Ext.refl _, ?_⟩
  intro w3 hx3
  refine ⟨Ext.new _ _, ?_⟩
  intro w4 hx4
  have hN : ((2 : Int) * n + 1).toNat = 2 * n + 1 := by omega
  have e1 : ∀ (w : World) (o : Obj), (w.alloc o).heap.size = w.heap.size + 1 := fun w o => by simp
  have z1 := hx1.size
  have z2 := hx2.size
  have z3 := hx3.size
  have z4 := hx4.size
  rw [e1] at z1 z2 z4
  have xa : Ext W w1 := x1.trans hx1
  have xb : Ext w1 w4 := (((Ext.new _ _).trans hx2).trans hx3).trans ((Ext.new _ _).trans hx4)
  have x4 : Ext W w4 := xa.trans xb
  have hSb : CellsAt w4 w3.heap.size 0 [.int .i64 n, .slice a F.length c, .slice (some ⟨w1.heap.size, 0, none⟩) ((2 : Int) * n + 1).toNat ((2 : Int) * n + 1).toNat] := (boxedAll w3 _ _).ext hx4
  have hP0 : CellsAt w4 W.heap.size 0 [.int .i64 n, .slice a F.length c] := hb.ext (hx1.trans xb)
  have hocc0 : OccAt w4.heap.size w1.heap.size w4 (List.replicate (2 * n + 1) []) (List.replicate (2 * n + 1) (.slice none 0 0)) := by
    have := occ_zero (B := w4.heap.size) (N := ((2 : Int) * n + 1).toNat) rfl ((hx2.trans hx3).trans ((Ext.new _ _).trans hx4))
    rwa [hN] at this
  refine ⟨_, hP0.2.1, ?_⟩
  refine loop_rule (σ := Nat × Value × Value × Value × List (List Int) × List Value) [4, 5, 7, 19] 20 55 (fun q => [q.2.1, q.2.2.1, q.2.2.2.1, .int .i64 q.1])
    (fun q w' => Chg (fun b => b = w1.heap.size ∨ w4.heap.size ≤ b) w4 w' ∧ q.1 ≤ F.length ∧ OccAt w4.heap.size w1.heap.size w' q.2.2.2.2.1 q.2.2.2.2.2 ∧ OccPart n F q.2.2.2.2.1 q.1 0)
    (fun q => F.length - q.1) (0, undef, undef, undef, List.replicate (2 * n + 1) [], List.replicate (2 * n + 1) (.slice none 0 0)) rfl ⟨Chg.refl _ _, Nat.zero_le _, hocc0, part_zero n F⟩ ?_
  rintro ⟨k, j1, j2, j3, O, rows⟩ w junk ⟨hch, hk, hocc, hpart⟩ K hK
  simp only at hk hocc hpart
  show vc _ _ _ _ (over [4, 5, 7, 19] [j1, j2, j3, .int .i64 k] _) _
  have hold : ∀ i, (i = w1.heap.size ∨ w4.heap.size ≤ i) → W.heap.size ≤ i := fun i hi => by omega
  have xW : Ext W w := x4.chg hch hold
  refine br_dec (fun h3 => ?_) (fun h3 => ?_)
  · have hkl : k < F.length := by omega
    obtain ⟨b, o, c1, cs1, he, -, hcell, s', rfl, hs'⟩ := hs.at hkl
    cases he
    have hcl := hFc _ (List.getElem_mem hkl)
    have hcll := cl_len hcl
    have hlits := clOk_lits hcl
    obtain ⟨a', c', rfl, hlc', hcm', -⟩ := id hs'
    refine ⟨⟨by omega, by omega⟩, _, (hcell.ext xW).1, ?_⟩
    refine loop_rule (σ := Nat × Value × List (List Int) × List Value) [7, 26] 27 55 (fun q => [q.2.1, .int .i64 q.1])
      (fun q w' => Chg (fun b => b = w1.heap.size ∨ w4.heap.size ≤ b) w4 w' ∧ q.1 ≤ (F[k]'hkl).length ∧ OccAt w4.heap.size w1.heap.size w' q.2.2.1 q.2.2.2 ∧ OccPart n F q.2.2.1 k q.1)
      (fun q => (F[k]'hkl).length - q.1) (0, _, O, rows) rfl ⟨hch, Nat.zero_le _, hocc, hpart⟩ ?_
    clear hocc hpart xW hch
    rintro ⟨m, j4, O, rows⟩ w junk ⟨hch, hm, hocc, hpart⟩ K' hK'
    simp only at hm hocc hpart
    show vc _ _ _ _ (over [7, 26] [j4, .int .i64 m] _) _
    have xW : Ext W w := x4.chg hch hold
    refine br_dec (fun h4 => ?_) (fun h4 => ?_)
    · have hml : m < (F[k]'hkl).length := by omega
      obtain ⟨b5, o5, c5, cs5, he5, -, hcell5, rfl⟩ := (hs'.ext xW).at hml
      cases he5
      have hxl := hlits _ (List.getElem_mem hml)
      obtain ⟨x, hxe⟩ : ∃ x, (F[k]'hkl)[m]'hml = x := ⟨_, rfl⟩
      rw [hxe] at hcell5 hxl
      have hxl' := litOk_iff.1 hxl
      have hOl := hpart.len
      have hrl := hocc.len
      have hj : (x + n).toNat < O.length := by omega
      obtain ⟨r, hr⟩ : ∃ r, O[(x + n).toNat]? = some r := ⟨_, List.getElem?_eq_getElem hj⟩
      obtain ⟨sv, hsv⟩ : ∃ sv, rows[(x + n).toNat]? = some sv := ⟨_, List.getElem?_eq_getElem (by omega)⟩
      obtain ⟨hown, hownb⟩ := hocc.row _ r sv hr hsv
      have hsmall := hpart.small r (List.mem_of_getElem? hr)
      have hne : ∀ i, i < w4.heap.size → ¬ blk sv i := fun i hi e => by have := (hownb i e).1; omega
      have hSbw := (hch.cells (b := w3.heap.size) (by omega) hSb)
      have hP0w := (hch.cells (b := W.heap.size) (by omega) hP0)
      have hsvc := hocc.cells.get hsv
      refine ⟨⟨by omega, by omega⟩, _, hcell5.1, ?_⟩
      refine .inr (.inr (hyb_ruleS (blk sv) ties mixed [(0, .quiet), (1, .quiet), (2, .quiet), (3, .quiet), (4, .quiet), (5, .quiet), (6, .quiet), (7, .quiet), (8, .quiet), (9, .quiet), (10, .quiet), (11, .quiet), (12, .quiet), (13, .quiet), (14, .quiet), (15, .quiet), (16, .quiet), (17, .quiet), (18, .quiet), (19, .loud), (20, .loud), (21, .loud), (22, .wild)] (by kernel_rfl) ?_))
      refine ⟨hne _ (by omega), _, hSbw.2.2.1, hne _ (by omega), _, hP0w.1, _, IntWalk.i64_in _ (by omega), hne _ (by omega), _, hSbw.2.2.1, hne _ (by omega), _, hP0w.1, _, IntWalk.i64_in _ (by omega), ⟨by omega, by omega⟩, hne _ (by omega), sv, ?_, ?_⟩
      · rwa [Nat.mul_one]
      obtain ⟨sa, sc, rfl, -⟩ := id hown
      intro w5 hx5
      refine ⟨Chg.alloc _ _, ?_⟩
      intro w6 hx6
      have hx56 : Ext w w6 := (hx5.trans (Ext.new _ _)).trans hx6
      refine raw_append (E := eI) (ok := noB) (l := r) (k := [(k : Int)]) ties rfl rfl rfl rfl rfl rfl rfl rfl rfl rfl (hown.ext hx56) noB_blk ⟨_, _, rfl, .inr ⟨_, _, rfl, ⟨[.int .i64 k], (boxedAll w5 [.int .i64 k] _).ext hx6, rfl⟩, trivial⟩⟩ (by show (r.length + 1) * 8 ≤ _; omega) (by show r.length + 1 ≤ _; omega) ?_
      intro v w7 hv hch7 hvb
      refine ⟨hch7, ?_⟩
      intro w8 hx8
      refine ⟨⟨by omega, by omega⟩, Chg.refl _ _, ?_⟩
      intro w9 hx9
      obtain ⟨va, vc', rfl, -⟩ := id hv
      have hchv : Chg (blk (.slice sa r.length sc)) w w7 := (Chg.of hx56).trans hch7
      have hgrow := hocc.grow (w5 := w7) (w7 := w9) (by omega) hch.size hr hsv hv hchv (fun b hb => (hvb b hb).imp id fun h => ⟨Nat.le_trans hx56.size h.1, h.2⟩) (hx8.trans hx9)
      have hroomO := ((hchv.rmy (hne _ (by omega)) hocc.room).ext (hx8.trans hx9)) (0 + (x + n).toNat * 1) (by omega)
      refine ⟨hroomO, ?_⟩
      intro w10 hx10
      refine ⟨_, IntWalk.i64_in _ (by omega), ?_⟩
      refine hK' (m + 1, _, O.set (x + n).toNat (r ++ [(k : Int)]), rows.set (x + n).toNat (.slice va (r ++ [(k : Int)]).length vc')) _ _ (vs2 rfl (vint (by show (m : Int) + 1 = ((m + 1 : Nat) : Int); omega))) ⟨?_, by show m + 1 ≤ _; omega, hgrow.ext hx10, hpart.step hkl hml hxe hxl hr⟩ (by show (F[k]'hkl).length - (m + 1) < (F[k]'hkl).length - m; omega) ?_
      · refine (((hch.trans (hchv.mono fun i _ hi => .inr (hownb i hi).1)).trans (.of (hx8.trans hx9))).trans (Chg.setCell _ ?_ _)).trans (.of hx10)
        exact .inl rfl
      · ((repeat (first | (with_reducible exact Only.refl) | (with_reducible refine Only.skip ?_) | ((with_reducible refine Only.upd ?_ ?_); rfl) | ((with_reducible refine Only.over ?_ ?_ _); rfl) | ((with_reducible refine Only.hav ?_ ?_ ?_); rfl; rfl))))
    · have : m = (F[k]'hkl).length := by omega
      subst this
      refine ⟨_, IntWalk.i64_in _ (by omega), ?_⟩
      refine hK (k + 1, _, _, _, O, rows) _ _ (vs4 rfl rfl rfl (vint (by show (k : Int) + 1 = ((k + 1 : Nat) : Int); omega))) ⟨hch, by show k + 1 ≤ _; omega, hocc, hpart.next hkl (by omega)⟩ (by show F.length - (k + 1) < F.length - k; omega) ?_
      ((repeat (first | (with_reducible exact Only.refl) | (with_reducible refine Only.skip ?_) | ((with_reducible refine Only.upd ?_ ?_); rfl) | ((with_reducible refine Only.over ?_ ?_ _); rfl) | ((with_reducible refine Only.hav ?_ ?_ ?_); rfl; rfl))))
  · have : k = F.length := by omega
    subst this
    refine ⟨xW, w3.heap.size, _, _, O, rfl, by have := hch.size; omega, hch.cells (b := w3.heap.size) (by omega) hSb, ?_, ?_, hpart.len, hpart.good, fun l hl i hi hm => hpart.full l hl i hi (.inl ⟨hi, hm⟩)⟩
    · exact (hs.ext xW).lt.mono fun b hb => hb.2
    · have hlen := hocc.len
      have hOl := hpart.len
      have hrat : RAt eL allB w O w1.heap.size 0 := RAt.of fun i r hr => by
        have hi := (List.getElem?_eq_some_iff.1 hr).1
        have hsv : rows[i]? = some (rows[i]'(by omega)) := List.getElem?_eq_getElem (by omega)
        obtain ⟨hown, hownb⟩ := hocc.row i r _ hr hsv
        refine ⟨[rows[i]'(by omega)], ⟨?_, trivial⟩, _, rfl, hown.sl (fun _ _ => trivial) (fun _ _ => trivial)⟩
        have := hocc.cells.get hsv
        rwa [show eL.m = 1 from rfl, Nat.mul_one]
      rw [hN, ← hOl]
      have : SlR eL allB w (.slice (some ⟨w1.heap.size, 0, none⟩) O.length O.length) O := ⟨_, _, rfl, Nat.le_refl _, by have : 100000 ≤ maxLen := (by decide); omega, .inr ⟨_, _, rfl, trivial, hrat⟩⟩
      exact this.lt.mono fun b hb => hb.2

end Go.Proofs.Ytfmflffggcphjaa
