/- The reference's search: contract of l03Try. -/
import Derived.Test.YtfmflffggcphjaaSe
import Derived.Test.YtfmflffggcphjaaTr
import Derived.Test.YtfmflffggcphjaaPa
import Derived.Test.YtfmflffggcphjaaVi
namespace Go.Vc
open Go Go.RowKit
theorem Chg.fresh {S S2 : Nat → Prop} {W w w' : World} (h : Chg S W w) (h2 : Chg S2 w w') (hn : ∀ b, S2 b → W.heap.size ≤ b ∨ S b) : Chg S W w' :=
  ((h.mono (S' := fun b => S b ∨ S2 b) fun _ _ e => .inl e).trans (h2.mono fun _ _ e => .inr e)).mono fun b hb e => e.elim id fun e => (hn b e).elim (fun h => absurd hb (by omega)) id
end Go.Vc
namespace Go.Sat
open Go.Vc
theorem srch_code {F : Cnf} {n limit : Nat} : ∀ (k : Nat) (v : List Int) (made : Nat), (srch F n limit k v made).code = 1 ∨ (srch F n limit k v made).code = 2 ∨ (srch F n limit k v made).code = 3 := by
  intro k
  induction k with
  | zero => intro v made; exact .inr (.inl rfl)
  | succ k ih =>
    intro v made
    have hbr : ∀ u m, (branch F n (srch F n limit k) u m).code = 1 ∨ (branch F n (srch F n limit k) u m).code = 2 ∨ (branch F n (srch F n limit k) u m).code = 3 := fun u m => by
      unfold branch
      split
      · exact .inr (.inl rfl)
      · exact ih _ _
    rw [srch]
    split
    · exact .inl rfl
    · split
      · exact .inr (.inr rfl)
      · dsimp only
        split
        · split
          · exact .inr (.inl rfl)
          · exact hbr _ _
        · exact hbr _ _
theorem branch_code {F : Cnf} {n limit k : Nat} {u : List Int} {m : Nat} : (branch F n (srch F n limit k) u m).code = 1 ∨ (branch F n (srch F n limit k) u m).code = 2 ∨ (branch F n (srch F n limit k) u m).code = 3 := by
  unfold branch
  split
  · exact .inr (.inl rfl)
  · exact srch_code _ _ _
theorem branch_made {F : Cnf} {n limit k : Nat} {u : List Int} {m : Nat} (h : m ≤ limit) : (branch F n (srch F n limit k) u m).made ≤ limit := by
  unfold branch
  split
  · exact h
  · exact (srch_made _ _ _ h).2
end Go.Sat
namespace Go.Proofs.Ytfmflffggcphjaa
open Go Go.Vc Go.RowKit Go.Sat
set_option linter.unusedVariables false

theorem own_rat {α : Type} {E : Rep α} {ok : Nat → Prop} {w : World} {b o c : Nat} {l : List α} (h : OwnR E ok w (.slice (some ⟨b, o, none⟩) l.length c) l) (hl : l.length ≠ 0) : RAt E ok w l b o := by
  obtain ⟨a, c', he, h1, h2, h3⟩ := h
  cases he
  obtain ⟨B, hB, _, hr⟩ := h3.resolve_left (by omega)
  cases hB
  exact hr
def Ne' (a b : Nat) : Prop := ¬ a = b
theorem ne_cast {q P b : Nat} (h : q = P) (hn : ¬ P = b) : Ne' q b := by subst h; exact hn
theorem free_cast {q P : Nat} (h : q = P) : ∀ (w : World) (o : Nat), Free w ⟨P, o, none⟩ → Free w ⟨q, o, none⟩ := by subst h; exact fun _ _ h => h
theorem cells_cast {q P : Nat} (h : q = P) : ∀ (w : World) (l : List Value), CellsAt w P 0 l → CellsAt w q 0 l := by subst h; exact fun _ _ h => h
theorem own_ptr {α : Type} {E : Rep α} {ok : Nat → Prop} {w : World} {v : Value} {l : List α} (h : OwnR E ok w v l) (hl : l.length ≠ 0) : ∃ B c, v = .slice (some ⟨B, 0, none⟩) l.length c := by
  obtain ⟨a, c', he, h1, h2, h3⟩ := h
  obtain ⟨B, hB, _⟩ := h3.resolve_left (by omega)
  subst hB
  exact ⟨B, c', he⟩
/-- The reference's work block. -/
structure Wrk (Wk : Nat) (w : World) (n : Nat) (cs : Value) (limit made : Nat) (op : Bool) : Prop where
  cells : CellsAt w Wk 0 [.int .i64 n, cs, .int .i64 limit, .int .i64 made, .bool op]
  room : Rmy w Wk 5
theorem Wrk.ext {Wk : Nat} {w w' : World} {n : Nat} {cs : Value} {limit made : Nat} {op : Bool} (hx : Ext w w') (h : Wrk Wk w n cs limit made op) : Wrk Wk w' n cs limit made op := ⟨h.cells.ext hx, h.room.ext hx⟩
theorem Wrk.chg {Wk : Nat} {w w' : World} {n : Nat} {cs : Value} {limit made : Nat} {op : Bool} {S : Nat → Prop} (hS : ¬ S Wk) (hc : Chg S w w') (h : Wrk Wk w n cs limit made op) : Wrk Wk w' n cs limit made op := ⟨hc.cells hS h.cells, hc.rmy hS h.room⟩
/-- A node of a proof as an element. -/
def eP : Rep (Int × PF) := Rep.tree plc 2 (fun _ => rfl) (fun _ => rfl) (by decide)
def TryR (Wk n : Nat) (cs : Value) (limit : Nat) (vs : Value) (R : Res) (W : World) (v : Value) (w' : World) : Prop :=
  Chg (fun i => i = Wk ∨ blk vs i) W w' ∧ Wrk Wk w' n cs limit R.made (decide (R.code = 3)) ∧ ∃ rs x ps, v = .tuple #[rs, .agg #[.int .i64 x, ps], .bool (decide (R.code = 1))] ∧ oneB ps = true ∧ (R.code = 1 → SlR eI (fun b => blk vs b ∨ W.heap.size < b) w' rs R.vals) ∧ (R.code = 2 → x = R.tree.1 ∧ PSl (freshB W) w' ps R.tree.2)

structure TryJ (Wk n : Nat) (cs : Value) (limit B0 : Nat) (F : Cnf) (vs : Value) (u : List Int) (W : World) (P : Nat) (x : Int) (m : Nat) (ks : Value) (l : List (Int × PF)) (w : World) : Prop where
  chg : Chg (fun i => i = Wk ∨ blk vs i) W w
  wrk : Wrk Wk w n cs limit m false
  mle : m ≤ limit
  frm : SlR eL (oldB B0) w cs F
  own : OwnR eI noB w vs u
  rZ : Rmy w W.heap.size 2
  rP : Rmy w P 2
  cP : CellsAt w P 0 [.int .i64 x, ks]
  kids : OwnR eP (fun b => P + 2 ≤ b ∧ b < w.heap.size ∧ ¬ blk ks b) w ks l
  kb : ∀ b, blk ks b → P + 2 ≤ b ∧ b < w.heap.size
  sz : P + 2 ≤ w.heap.size
  lit : SlR eI (fun b => b = P + 1) w (.slice (some ⟨P + 1, 0, none⟩) 2 2) [-1, 1]
section
variable {Wk n : Nat} {cs : Value} {limit B0 : Nat} {F : Cnf} {vs : Value} {u : List Int} {W : World} {P : Nat} {x : Int} {m m' : Nat} {ks : Value} {l : List (Int × PF)} {w w' : World}
theorem TryJ.step (hBW : B0 ≤ Wk) (hWk : Wk < W.heap.size) (hPW : W.heap.size < P) (hvs : ∀ b, blk vs b → b ≠ Wk) (h : TryJ Wk n cs limit B0 F vs u W P x m ks l w) (hc : Chg (fun b => b = Wk) w w') (hw : Wrk Wk w' n cs limit m' false) (hm : m' ≤ limit) :
    TryJ Wk n cs limit B0 F vs u W P x m' ks l w' where
  chg := h.chg.fresh hc fun b e => .inr (.inl e)
  wrk := hw
  mle := hm
  frm := h.frm.chg (fun b hb e => by unfold oldB at hb; omega) hc
  own := h.own.chg (fun _ h => h.elim) (fun b hb e => hvs b hb e) hc
  rZ := hc.rmy (by omega) h.rZ
  rP := hc.rmy (by omega) h.rP
  cP := hc.cells (by omega) h.cP
  kids := (h.kids.chg (fun b hb e => by omega) (fun b hb e => by have := h.kb b hb; omega) hc).mono fun b hb => ⟨hb.1, Nat.lt_of_lt_of_le hb.2.1 hc.size, hb.2.2⟩
  kb := fun b hb => ⟨(h.kb b hb).1, Nat.lt_of_lt_of_le (h.kb b hb).2 hc.size⟩
  sz := Nat.le_trans h.sz hc.size
  lit := h.lit.chg (fun b hb e => by omega) hc
theorem TryJ.at {P' : Nat} (e : P = P') (h : TryJ Wk n cs limit B0 F vs u W P x m ks l w) : TryJ Wk n cs limit B0 F vs u W P' x m ks l w := by subst e; exact h
theorem TryJ.wld (h : TryJ Wk n cs limit B0 F vs u W P x m ks l w) (e : w' = w) : TryJ Wk n cs limit B0 F vs u W P x m ks l w' := by subst e; exact h
theorem TryJ.ext (hx : Ext w w') (hBW : B0 ≤ Wk) (hWk : Wk < W.heap.size) (hPW : W.heap.size < P) (hvs : ∀ b, blk vs b → b ≠ Wk) (h : TryJ Wk n cs limit B0 F vs u W P x m ks l w) : TryJ Wk n cs limit B0 F vs u W P x m ks l w' :=
  h.step hBW hWk hPW hvs (.of hx) (h.wrk.ext hx) h.mle
theorem TryJ.start {w5 w7 : World} (h1 : Chg (fun i => i = Wk ∨ blk vs i) W w5) (h2 : Wrk Wk w5 n cs limit m false) (hm : m ≤ limit) (h3 : SlR eL (oldB B0) w5 cs F) (h4 : OwnR eI noB w5 vs u) (h5 : Rmy w5 W.heap.size 2) (x7 : Ext w5 w7) (h6 : Rmy w7 w5.heap.size 2) (h7 : CellsAt w7 w5.heap.size 0 [.int .i64 x, .slice none 0 0])
    (h8 : w7.heap.size = w5.heap.size + 2) (h9 : SlR eI (fun b => b = w5.heap.size + 1) w7 (.slice (some ⟨w5.heap.size + 1, 0, none⟩) 2 2) [-1, 1]) : TryJ Wk n cs limit B0 F vs u W w5.heap.size x m (.slice none 0 0) [] w7 :=
  ⟨h1.trans (.of x7), h2.ext x7, hm, h3.ext x7, h4.ext x7, h5.ext x7, h6, h7, OwnR.nil _ _ _ _, fun b hb => hb.elim, by rw [h8]; exact Nat.le_refl _, h9⟩
theorem TryJ.push {v : Value} {y : Int × PF} (hBW : B0 ≤ Wk) (hWk : Wk < W.heap.size) (hPW : W.heap.size < P) (hvs : ∀ b, blk vs b → b < W.heap.size) (h : TryJ Wk n cs limit B0 F vs u W P x m ks l w)
    (ho : OwnR eP (fun b => P + 2 ≤ b ∧ b < w.heap.size ∧ ¬ blk ks b) w' v (l ++ [y])) (hc : Chg (blk ks) w w') (hv : ∀ b, blk v b → blk ks b ∨ w.heap.size < b ∧ b < w'.heap.size) :
    TryJ Wk n cs limit B0 F vs u W P x m v (l ++ [y]) (w'.setCell ⟨P, 0 + 1, none⟩ v) := by
  have hone : Chg (fun b => b = P) w' (w'.setCell ⟨P, 0 + 1, none⟩ v) := Chg.one _ _ _ _
  have hkv : ∀ b, blk v b → P + 2 ≤ b ∧ b < w'.heap.size := fun b hb => by
    rcases hv b hb with g | g
    · exact ⟨(h.kb b g).1, Nat.lt_of_lt_of_le (h.kb b g).2 hc.size⟩
    · have := h.sz; exact ⟨by omega, g.2⟩
  have hnk : ∀ b, b < P + 2 → ¬ blk ks b := fun b hb e => by have := h.kb b e; omega
  have hsz := hc.size
  have hsz2 := hone.size
  have hrP := hc.rmy (hnk P (by omega)) h.rP
  have hcP := hc.cells (hnk P (by omega)) h.cP
  have hc2 : Chg (fun b => P ≤ b) w (w'.setCell ⟨P, 0 + 1, none⟩ v) := (hc.mono fun b _ e => by have := h.kb b e; omega).trans (hone.mono fun b _ e => by omega)
  refine ⟨h.chg.fresh hc2 fun b e => .inl (by omega), h.wrk.chg (by omega) hc2, h.mle, h.frm.chg (fun b hb e => by unfold oldB at hb; omega) hc2, h.own.chg (fun _ h => h.elim) (fun b hb e => by have := hvs b hb; omega) hc2, hc2.rmy (by omega) h.rZ, hrP.setCell, ?_, ?_, fun b hb => ?_, ?_, ?_⟩
  · exact ⟨(World.cell?_setCell_other _ _ _ _ (by simp)).trans hcP.1, World.cell?_setCell_same _ _ _ hcP.2.1, trivial⟩
  · refine OwnR.chg (S := fun b => b = P) (fun b hb e => by omega) (fun b hb e => by have := hkv b hb; omega) hone (ho.mono fun b hb => ⟨hb.1, by omega, fun e => ?_⟩)
    rcases hv b e with g | g
    · exact hb.2.2 g
    · omega
  · have := hkv b hb; exact ⟨this.1, Nat.lt_of_lt_of_le this.2 hsz2⟩
  · have := h.sz; omega
  · exact (h.lit.chg (S := blk ks) (fun b hb e => hnk b (by omega) e) hc).chg (S := fun b => b = P) (fun b hb e => by omega) hone
end
theorem try_prep (w5 : World) (tP tI : Nat) (x : Int) : 
    Ext w5 ((setCells (w5.alloc (.cells #[.int .i64 0, .slice none 0 0] tP)) w5.heap.size 0 [.int .i64 x, .slice none 0 0]).alloc (.cells #[.int .i64 (-1), .int .i64 1] tI)) ∧
    (setCells (w5.alloc (.cells #[.int .i64 0, .slice none 0 0] tP)) w5.heap.size 0 [.int .i64 x, .slice none 0 0]).heap.size = w5.heap.size + 1 ∧
    ((setCells (w5.alloc (.cells #[.int .i64 0, .slice none 0 0] tP)) w5.heap.size 0 [.int .i64 x, .slice none 0 0]).alloc (.cells #[.int .i64 (-1), .int .i64 1] tI)).heap.size = w5.heap.size + 2 ∧
    Rmy ((setCells (w5.alloc (.cells #[.int .i64 0, .slice none 0 0] tP)) w5.heap.size 0 [.int .i64 x, .slice none 0 0]).alloc (.cells #[.int .i64 (-1), .int .i64 1] tI)) w5.heap.size 2 ∧
    CellsAt ((setCells (w5.alloc (.cells #[.int .i64 0, .slice none 0 0] tP)) w5.heap.size 0 [.int .i64 x, .slice none 0 0]).alloc (.cells #[.int .i64 (-1), .int .i64 1] tI)) w5.heap.size 0 [.int .i64 x, .slice none 0 0] ∧
    SlR eI (fun b => b = w5.heap.size + 1) ((setCells (w5.alloc (.cells #[.int .i64 0, .slice none 0 0] tP)) w5.heap.size 0 [.int .i64 x, .slice none 0 0]).alloc (.cells #[.int .i64 (-1), .int .i64 1] tI)) (.slice (some ⟨w5.heap.size + 1, 0, none⟩) 2 2) [-1, 1] := by
  have r6 := Rmy.new w5 [.int .i64 0, .slice none 0 0] tP
  have x6 : Ext w5 (setCells (w5.alloc (.cells #[.int .i64 0, .slice none 0 0] tP)) w5.heap.size 0 [.int .i64 x, .slice none 0 0]) := Ext.setCells _ (Ext.new _ _) (Nat.le_refl _)
  have hc6 := setCells_at [.int .i64 x, .slice none 0 0] _ 0 2 r6 (Nat.le_refl 2)
  have r6' : Rmy (setCells (w5.alloc (.cells #[.int .i64 0, .slice none 0 0] tP)) w5.heap.size 0 [.int .i64 x, .slice none 0 0]) w5.heap.size 2 := Rmy.setCells _ r6
  have hsz : (setCells (w5.alloc (.cells #[.int .i64 0, .slice none 0 0] tP)) w5.heap.size 0 [.int .i64 x, .slice none 0 0]).heap.size = w5.heap.size + 1 := by simp [setCells]
  obtain ⟨w6, hw6⟩ : ∃ w6, setCells (w5.alloc (.cells #[.int .i64 0, .slice none 0 0] tP)) w5.heap.size 0 [.int .i64 x, .slice none 0 0] = w6 := ⟨_, rfl⟩
  have r6'' : Rmy w6 w5.heap.size 2 := hw6 ▸ r6'
  rw [hw6] at x6 hc6 hsz ⊢
  refine ⟨x6.trans (Ext.new _ _), hsz, by simp [hsz], r6''.ext (Ext.new _ _), CellsAt.ext (Ext.new _ _) hc6, ⟨_, 2, rfl, Nat.le_refl _, by decide, .inr ⟨w5.heap.size + 1, 0, rfl, rfl, ?_⟩⟩⟩
  have hb := boxedAll w6 [.int .i64 (-1), .int .i64 1] tI
  rw [hsz] at hb
  exact ⟨⟨[.int .i64 (-1)], ⟨hb.1, trivial⟩, rfl⟩, ⟨[.int .i64 1], ⟨hb.2.1, trivial⟩, rfl⟩, trivial⟩

set_option maxHeartbeats 4000000 in
theorem try_ret (n : Nat) (F : Cnf) (limit : Nat) (hF : fOk n F = true) (hlim : limit ≤ 3000) (B0 Wk : Nat) (cs : Value) (hBW : B0 ≤ Wk) : ∀ (k : Nat) (v : List Int) (made : Nat), zeros v < k → Vals n v → made ≤ limit →
    ∀ (vs : Value) (W : World), Wrk Wk W n cs limit made false → SlR eL (oldB B0) W cs F → OwnR eI noB W vs v → (∀ b, blk vs b → B0 ≤ b ∧ b ≠ Wk) →
      Ret Try.prog 99 #[.pointer (some ⟨Wk, 0, none⟩), vs] W (fun r w' => (∃ o, Upr F n (tr v) o) ∧ TryR Wk n cs limit vs (branch F n (srch F n limit k) v made) W r w') := by
  intro k
  induction k with
  | zero => intro v made h; omega
  | succ k ih =>
    intro v made hz hv hmade vs W hw hcs hown hvb
    have hn : n ≤ 400 := by simp only [fOk, Bool.and_eq_true, decide_eq_true_eq] at hF; omega
    have hlm : (maxLen : Int) ≤ 9223372036854775807 := by decide
    have hvl := hv.len
    have hWkW : Wk < W.heap.size := World.block_lt_of_cell? _ _ hw.cells.1
    have hvsW := hown.blk_lt (by omega)
    have x1 : Ext W (W.alloc (.cells #[.int .i64 0, .slice none 0 0] 39)) := Ext.new _ _
    have hw1 := hw.ext x1
    refine ret_of_vc ties mixed Try.func99 rfl (by kernel_rfl) rfl rfl ?_
    refine ⟨[.int .i64 n, cs], rfl, ⟨hw1.cells.1, hw1.cells.2.1, trivial⟩, ?_⟩
    refine Or.inl ((spread_ret (oldB B0) n F cs vs v _ (hcs.ext x1) (fun b hb e => by have := hvb b e; unfold oldB at hb; omega) hF (hown.ext x1) hv).mono ?_)
    rintro r w2 ⟨hch2, hres⟩
    have hrZ : Rmy w2 W.heap.size 2 := hch2.rmy (fun e => by have := hvsW _ e; omega) (Rmy.new W [.int .i64 0, .slice none 0 0] 39)
    have hch12 : Chg (fun i => i = Wk ∨ blk vs i) W w2 := (Chg.of x1).trans (hch2.mono fun b _ h => .inr h)
    have hw2 := hw1.chg (fun e => (hvb _ e).2 rfl) hch2
    rcases hres with ⟨rfl, hbad⟩ | ⟨rfl, u, hown2, hup⟩
    · have hbr : branch F n (srch F n limit (k + 1)) v made = Res.no made (0, .nil) := by unfold branch; rw [upF_eq (.no hbad)]
      rw [hbr]
      refine ⟨hrZ.all [.int .i64 0, .slice none 0 0] 0 (Nat.le_refl 2) rfl, ?_⟩
      have hc3 := setCells_at [.int .i64 0, .slice none 0 0] _ 0 2 hrZ (Nat.le_refl 2)
      have hs3 : Chg (fun b => b = W.heap.size) w2 (setCells w2 W.heap.size 0 [.int .i64 0, .slice none 0 0]) := Chg.setCells (S := fun b => b = W.heap.size) rfl _ _ _
      refine ⟨[.int .i64 0, .slice none 0 0], rfl, hc3, ?_⟩
      exact ⟨⟨_, .no hbad⟩, hch12.fresh hs3 (fun b e => .inl (by omega)), hw2.chg (by omega) hs3, _, _, _, rfl, rfl, fun h => (by cases h), fun _ => ⟨rfl, _, _, rfl, Nat.zero_le _, .inl rfl⟩⟩
    have huv : Vals n u ∧ (∀ c ∈ F, Fine u c) ∧ ∀ l', tr v l' → tr u l' := by cases hup with | yes h1 h2 h3 _ => exact ⟨h1, h2, h3⟩
    have hzu := zeros_tr hv huv.1 huv.2.2
    have hul := huv.1.len
    have hbr : branch F n (srch F n limit (k + 1)) v made = srch F n limit (k + 1) u made := by unfold branch; rw [upF_eq hup]
    rw [hbr]
    refine loop_rule (σ := Nat) [7] 23 36 (fun q => [.int .i64 q]) (fun q w' => w' = w2 ∧ 1 ≤ q ∧ q ≤ n + 1 ∧ ∀ j, 1 ≤ j → j < q → u[j]? ≠ some 0) (fun q => n + 1 - q) 1 rfl ⟨rfl, Nat.le_refl _, by omega, fun j h1 h2 => by omega⟩ ?_
    rintro i w junk ⟨rfl, hi1, hi2, hj⟩ K hK
    show vc _ _ _ _ (over [7] [.int .i64 i] _) _
    have hsl : SlR eI allB w vs u := hown2.sl (fun _ _ => trivial) (fun _ _ => trivial)
    obtain ⟨va, vcp, rfl, -⟩ := id hsl
    refine br_dec (fun h3 => ?_) (fun h3 => ?_)
    · have hil : i < u.length := by omega
      obtain ⟨b, o, c1, cs1, he, -, hcell, rfl⟩ := hsl.at hil
      cases he
      refine ⟨⟨by omega, by omega⟩, _, hcell.1, ?_⟩
      refine br_dec (fun h4 => ?_) (fun h4 => ?_)
      · refine ⟨_, IntWalk.i64_in _ (by omega), ?_⟩
        refine hK (i + 1) _ _ (vs1 (vint (by show (i : Int) + 1 = ((i + 1 : Nat) : Int); omega))) ⟨rfl, by omega, by omega, fun j h1 h2 => ?_⟩ (by omega) ?_
        · by_cases e : j = i
          · subst e; rw [List.getElem?_eq_getElem hil]; intro h; exact h4 (Option.some.inj h)
          · exact hj j h1 (by omega)
        · ((repeat (first | (with_reducible exact Only.refl) | (with_reducible refine Only.skip ?_) | ((with_reducible refine Only.upd ?_ ?_); rfl) | ((with_reducible refine Only.over ?_ ?_ _); rfl) | ((with_reducible refine Only.hav ?_ ?_ ?_); rfl; rfl))))
      · have hlf : lf u = i := lf_at hi1 (by rw [List.getElem?_eq_getElem hil, show u[i]'hil = 0 from by omega]) hj
        refine br_dec_false (by omega) ?_
        refine .inl ⟨by kernel_rfl, _, hw2.cells.2.2.2.1, _, hw2.cells.2.2.1, ?_⟩
        intro w4 hx4
        have hw4 := hw2.ext hx4
        have hrZ4 := hrZ.ext hx4
        have hch14 := hch12.trans (.of hx4)
        refine br_dec (fun h5 => ?_) (fun h5 => ?_)
        · have hsr : srch F n limit (k + 1) u made = ⟨3, [], made, (0, .nil)⟩ := by rw [srch, if_neg (by omega), if_pos (by omega)]
          rw [hsr]
          refine ⟨hw4.room 4 (by decide), ?_⟩
          have hone : Chg (fun b => b = Wk) w4 (w4.setCell ⟨Wk, 0 + 4, none⟩ (.bool true)) := Chg.one _ _ _ _
          have hw5 : Wrk Wk (w4.setCell ⟨Wk, 0 + 4, none⟩ (.bool true)) n cs limit made true :=
            ⟨⟨(World.cell?_setCell_other _ _ _ _ (by simp)).trans hw4.cells.1, (World.cell?_setCell_other _ _ _ _ (by simp)).trans hw4.cells.2.1, (World.cell?_setCell_other _ _ _ _ (by simp)).trans hw4.cells.2.2.1, (World.cell?_setCell_other _ _ _ _ (by simp)).trans hw4.cells.2.2.2.1, World.cell?_setCell_same _ _ _ hw4.cells.2.2.2.2.1, trivial⟩, hw4.room.setCell⟩
          have hrZ5 := hone.rmy (by omega) hrZ4
          refine ⟨hrZ5.all [.int .i64 0, .slice none 0 0] 0 (Nat.le_refl 2) rfl, ?_⟩
          have hc6 := setCells_at [.int .i64 0, .slice none 0 0] _ 0 2 hrZ5 (Nat.le_refl 2)
          have hs6 : Chg (fun b => b = W.heap.size) (w4.setCell ⟨Wk, 0 + 4, none⟩ (.bool true)) (setCells (w4.setCell ⟨Wk, 0 + 4, none⟩ (.bool true)) W.heap.size 0 [.int .i64 0, .slice none 0 0]) := Chg.setCells (S := fun b => b = W.heap.size) rfl _ _ _
          refine ⟨[.int .i64 0, .slice none 0 0], rfl, hc6, ?_⟩
          exact ⟨⟨_, hup⟩, (hch14.fresh hone fun b e => .inr (.inl e)).fresh hs6 (fun b e => .inl (by omega)), hw5.chg (by omega) hs6, _, _, _, rfl, rfl, fun h => (by cases h), fun h => (by cases h)⟩
        have h5' : made ≠ limit := by omega
        refine ⟨_, hw4.cells.2.2.2.1, _, IntWalk.i64_in _ (by omega), hw4.room 3 (by decide), ?_⟩
        have hone : Chg (fun b => b = Wk) w4 (w4.setCell ⟨Wk, 0 + 3, none⟩ (.int .i64 ((made : Int) + 1))) := Chg.one _ _ _ _
        have hw5 : Wrk Wk (w4.setCell ⟨Wk, 0 + 3, none⟩ (.int .i64 ((made : Int) + 1))) n cs limit (made + 1) false :=
            ⟨⟨(World.cell?_setCell_other _ _ _ _ (by simp)).trans hw4.cells.1, (World.cell?_setCell_other _ _ _ _ (by simp)).trans hw4.cells.2.1, (World.cell?_setCell_other _ _ _ _ (by simp)).trans hw4.cells.2.2.1, World.cell?_setCell_same _ _ _ hw4.cells.2.2.2.1, (World.cell?_setCell_other _ _ _ _ (by simp)).trans hw4.cells.2.2.2.2.1, trivial⟩, hw4.room.setCell⟩
        have hrZ5 := hone.rmy (by omega) hrZ4
        have hch15 := hch14.fresh hone fun b e => .inr (.inl e)
        have r6 := Rmy.new (w4.setCell ⟨Wk, 0 + 3, none⟩ (.int .i64 ((made : Int) + 1))) [.int .i64 0, .slice none 0 0] 39
        refine ⟨r6.all [.int .i64 i, .slice none 0 0] 0 (Nat.le_refl 2) rfl, ?_⟩
        refine Exists.elim (show ∃ P, (w4.setCell ⟨Wk, 0 + 3, none⟩ (.int .i64 ((made : Int) + 1))).heap.size = P from ⟨_, rfl⟩) fun P hP => ?_
        have hPW : W.heap.size < P := by
          have h4 := hch2.size
          simp only [World.size_alloc] at h4
          have h5 := hx4.size
          have h6 := hone.size
          rw [hP] at h6
          omega
        have hvsk : ∀ b', blk (.slice (some ⟨b, o, none⟩) u.length vcp) b' → b' ≠ Wk := fun b' hb => (hvb b' hb).2
        have hcs5 : SlR eL (oldB B0) _ cs F := hcs.chg (S := fun i' => i' = Wk ∨ blk (.slice (some ⟨b, o, none⟩) u.length vcp) i') (fun b' hb e => by
          rcases e with e | e
          · unfold oldB at hb; omega
          · have := hvb b' e; unfold oldB at hb; omega) hch15
        have hm1 : made + 1 ≤ limit := by omega
        have hown5 := (hown2.ext hx4).chg (fun _ h => h.elim) (fun b hb e => hvsk b hb e) hone
        have hpr := try_prep (w4.setCell ⟨Wk, 0 + 3, none⟩ (.int .i64 ((made : Int) + 1))) 39 3 i
        have hJ0 := (TryJ.start hch15 hw5 hm1 hcs5 hown5 hrZ5 hpr.1 hpr.2.2.2.1 hpr.2.2.2.2.1 hpr.2.2.1 hpr.2.2.2.2.2).at hP
        have hL := congrArg (fun q => (fun z => Addr.mk q z none)) (hpr.2.1.trans (congrArg (· + 1) hP))
        have hPA := congrArg (fun q => (fun z => Addr.mk q z none)) hP
        have hPC := cells_cast hP
        have hPF := free_cast hP
        have hPne := ne_cast hP (show ¬ P = W.heap.size by omega)
        clear hpr hP hcs5 hown5
        refine Exists.elim (show ∃ R, branch F n (srch F n limit k) (put u (-(i : Int))) (made + 1) = R from ⟨_, rfl⟩) fun R1 hR1 => ?_
        refine Exists.elim (show ∃ R, branch F n (srch F n limit k) (put u (i : Int)) R1.made = R from ⟨_, rfl⟩) fun R2 hR2 => ?_
        have hlf0 : lf u ≠ 0 := by omega
        have e1 : R1.code ≠ 2 → srch F n limit (k + 1) u made = ⟨R1.code, R1.vals, R1.made, (0, .nil)⟩ := fun h => by
          rw [srch, if_neg hlf0, if_neg h5', hlf]; simp only [hR1]; rw [if_neg h]
        have e2 : R1.code = 2 → R2.code ≠ 2 → srch F n limit (k + 1) u made = ⟨R2.code, R2.vals, R2.made, (0, .nil)⟩ := fun h h' => by
          rw [srch, if_neg hlf0, if_neg h5', hlf]; simp only [hR1]; rw [if_pos h]; simp only [hR2]; rw [if_neg h']
        have e3 : R1.code = 2 → R2.code = 2 → srch F n limit (k + 1) u made = Res.no R2.made ((i : Int), .cons R1.tree.1 R1.tree.2 (.cons R2.tree.1 R2.tree.2 .nil)) := fun h h' => by
          rw [srch, if_neg hlf0, if_neg h5', hlf]; simp only [hR1]; rw [if_pos h]; simp only [hR2]; rw [if_pos h']
        refine loop_rule (σ := Nat × Value × Value × Value × Value × Value × Nat × Value × List (Int × PF)) [10, 11, 12, 13, 14, 66] 67 101 (fun q => [q.2.1, q.2.2.1, q.2.2.2.1, q.2.2.2.2.1, q.2.2.2.2.2.1, .int .i64 q.1])
          (fun q w' => TryJ Wk n cs limit B0 F (.slice (some ⟨b, o, none⟩) u.length vcp) u W P i q.2.2.2.2.2.2.1 q.2.2.2.2.2.2.2.1 q.2.2.2.2.2.2.2.2 w' ∧ ((q.1 = 0 ∧ q.2.2.2.2.2.2.1 = made + 1 ∧ q.2.2.2.2.2.2.2.2 = []) ∨ (q.1 = 1 ∧ R1.code = 2 ∧ q.2.2.2.2.2.2.1 = R1.made ∧ q.2.2.2.2.2.2.2.2 = [R1.tree]) ∨ (q.1 = 2 ∧ R1.code = 2 ∧ R2.code = 2 ∧ q.2.2.2.2.2.2.1 = R2.made ∧ q.2.2.2.2.2.2.2.2 = [R1.tree, R2.tree])))
          (fun q => 2 - q.1) (0, undef, undef, undef, undef, undef, made + 1, .slice none 0 0, []) rfl ⟨?_, .inl ⟨rfl, rfl, rfl⟩⟩ ?_
        · exact hJ0.wld (by kernel_rfl)
        rintro ⟨i2, j1, j2, j3, j4, j5, m, ks, l⟩ w junk ⟨hJ, hst⟩ K hK
        simp only at hJ hst
        show vc _ _ _ _ (over [10, 11, 12, 13, 14, 66] [j1, j2, j3, j4, j5, .int .i64 i2] _) _
        refine br_dec (fun h6 => ?_) (fun h6 => ?_)
        · have hlii : litOk n (i : Int) = true := litOk_iff.2 (by omega)
          have hlin : litOk n (-(i : Int)) = true := litOk_iff.2 (by omega)
          have hfr : ∀ z : Int, z.natAbs = i → fre u z := fun z hz' => by unfold fre; rw [hz', List.getElem?_eq_getElem hil, show u[i]'hil = 0 from by omega]
          obtain ⟨y, z, R, hcell2, hy, hav, hlo, hfz, hRe, hfin, hnext⟩ : ∃ (y z : Int) (R : Res), w.cell? ⟨P + 1, 0 + (i2 : Int).toNat * 1, none⟩ = some (.int .i64 y) ∧ y = sgn z ∧ av z = (i : Int) ∧ litOk n z = true ∧ fre u z ∧ branch F n (srch F n limit k) (put u z) m = R ∧
            (R.code ≠ 2 → srch F n limit (k + 1) u made = ⟨R.code, R.vals, R.made, (0, .nil)⟩) ∧ (R.code = 2 → ((i2 + 1 = 0 ∧ R.made = made + 1 ∧ l ++ [R.tree] = []) ∨ (i2 + 1 = 1 ∧ R1.code = 2 ∧ R.made = R1.made ∧ l ++ [R.tree] = [R1.tree]) ∨ (i2 + 1 = 2 ∧ R1.code = 2 ∧ R2.code = 2 ∧ R.made = R2.made ∧ l ++ [R.tree] = [R1.tree, R2.tree]))) := by
            obtain ⟨_, _, he2, _, _, hr2⟩ := hJ.lit
            cases he2
            obtain ⟨b2, o2, he2, hb2, ⟨c1, hc1, rfl⟩, ⟨c2, hc2, rfl⟩, _⟩ := hr2.resolve_left (by simp)
            cases he2
            rcases hst with ⟨rfl, rfl, rfl⟩ | ⟨rfl, g1, rfl, rfl⟩ | ⟨rfl, _⟩
            · exact ⟨-1, -(i : Int), R1, hc1.1, by unfold sgn; split <;> omega, by unfold av; omega, hlin, hfr _ (by omega), hR1, e1, fun h => .inr (.inl ⟨rfl, h, rfl, rfl⟩)⟩
            · exact ⟨1, (i : Int), R2, hc2.1, by unfold sgn; split <;> omega, by unfold av; omega, hlii, hfr _ (by omega), hR2, e2 g1, fun h => .inr (.inr ⟨rfl, g1, h, rfl, rfl⟩)⟩
            · omega
          refine ⟨⟨by omega, by omega⟩, _, (by have := congrFun hL (0 + (i2 : Int).toNat * 1); exact this ▸ hcell2), ?_⟩
          have hrat := own_rat hJ.own (by omega)
          refine raw_append (E := eI) (ok := noB) (l := []) (k := u) ties rfl rfl rfl rfl rfl rfl rfl rfl rfl rfl (OwnR.nil _ _ _ _) noB_blk ⟨_, _, rfl, .inr ⟨b, o, rfl, hrat.ext (Ext.new _ _)⟩⟩ (by show (0 + u.length) * 8 ≤ _; omega) (by show 0 + u.length ≤ _; omega) ?_
          intro v2 w2' hv2 hch2' hvb2
          have x2' : Ext w w2' := (Ext.new w _).chg hch2' (fun i hi => by cases hi; exact Nat.le_refl _)
          have hv2b : ∀ b', blk v2 b' → w.heap.size ≤ b' := fun b' hb' => by
            rcases hvb2 b' hb' with h | h
            · cases h; exact Nat.le_refl _
            · have := h.1; simp at this; omega
          rw [List.nil_append] at hv2
          refine Exists.elim (own_ptr hv2 (by omega)) fun B2 hB2 => Exists.elim hB2 fun cp2 he2 => ?_
          subst he2
          have hput := own_put huv.1 hlo hv2
          rw [hav] at hput
          subst hy
          refine ⟨⟨by omega, by omega⟩, hput.1, ?_⟩
          have x8 : Ext w (w2'.setCell ⟨B2, 0 + (i : Int).toNat * 1, none⟩ (.int .i64 (sgn z))) := x2'.set (hv2b B2 rfl) _
          have hzp := zeros_put hfz
          have hvs' := fun b' hb => (hvb b' hb).2
          have hJ8 := hJ.ext x8 hBW hWkW hPW hvs'
          refine Or.inl ((ih (put u z) m (by omega) (put_vals huv.1 hlo) hJ.mle _ _ hJ8.wrk hJ8.frm hput.2 (fun b' hb' => by have := hv2b b' hb'; have := hJ.chg.size; omega)).mono ?_)
          intro r9 w9 hr9
          have hT9 := hr9.2
          rw [hRe] at hT9
          have hmade9 : R.made ≤ limit := by rw [← hRe]; exact branch_made hJ.mle
          have hcode9 : R.code = 1 ∨ R.code = 2 ∨ R.code = 3 := by rw [← hRe]; exact branch_code
          clear hr9 hRe
          refine Exists.elim hT9.2.2 fun rs h => Exists.elim h fun x9 h => Exists.elim h fun ps hq => ?_
          have hre := hq.1
          subst hre
          have hch9 : Chg (fun b => b = Wk) w w9 := Chg.fresh (Chg.of x8) hT9.1 fun b' e => e.elim .inr fun e => .inl (hv2b b' e)
          have hw9 := hT9.2.1
          have r10 := Rmy.new w9 [.int .i64 0, .slice none 0 0] 39
          refine ⟨r10.all [.int .i64 x9, ps] 0 (Nat.le_refl 2) (by simp only [List.all_cons, hq.2.1]; rfl), ?_⟩
          have x11 : Ext w9 (setCells (w9.alloc (.cells #[.int .i64 0, .slice none 0 0] 39)) w9.heap.size 0 [.int .i64 x9, ps]) := Ext.setCells _ (Ext.new _ _) (Nat.le_refl _)
          have hc11 := setCells_at [.int .i64 x9, ps] _ 0 2 r10 (Nat.le_refl 2)
          have hch11 : Chg (fun b => b = Wk) w (setCells (w9.alloc (.cells #[.int .i64 0, .slice none 0 0] 39)) w9.heap.size 0 [.int .i64 x9, ps]) := hch9.trans (.of x11)
          have hcP11 := hPC _ _ (hch11.cells (show ¬ (P = Wk) by omega) hJ.cP)
          have hrZ11 := hch11.rmy (show ¬ (W.heap.size = Wk) by omega) hJ.rZ
          have hone8 : ∀ b', blk (.slice (some ⟨B2, 0, none⟩) u.length cp2) b' ∨ (w2'.setCell ⟨B2, 0 + (i : Int).toNat * 1, none⟩ (.int .i64 (sgn z))).heap.size < b' → W.heap.size < b' := fun b' hb' => by
            have g1 := hJ.sz
            rcases hb' with h | h
            · have := hv2b b' h; omega
            · have := x8.size; omega
          have hksone : oneB ks = true := by refine Exists.elim hJ.kids fun _ h => Exists.elim h fun _ h => ?_; rw [h.1]; rfl
          have hend : R.code ≠ 2 → ∀ w12 w13, Ext (setCells (w9.alloc (.cells #[.int .i64 0, .slice none 0 0] 39)) w9.heap.size 0 [.int .i64 x9, ps]) w12 → Ext (setCells w12 W.heap.size 0 [.int .i64 i, ks]) w13 →
              TryR Wk n cs limit (.slice (some ⟨b, o, none⟩) u.length vcp) (srch F n limit (k + 1) u made) W (.tuple #[rs, .agg #[.int .i64 i, ks], .bool (decide (R.code = 1))]) w13 := fun hc2 w12 w13 hx12 hx13 => by
            rw [hfin hc2]
            have hS : Chg (fun b => b = W.heap.size) w12 (setCells w12 W.heap.size 0 [.int .i64 i, ks]) := Chg.setCells (S := fun b => b = W.heap.size) rfl _ _ _
            refine ⟨(((hJ.chg.fresh hch11 fun b' e => .inr (.inl e)).trans (.of hx12)).fresh hS fun b' e => .inl (by omega)).trans (.of hx13), (((hw9.ext x11).ext hx12).chg (by omega) hS).ext hx13, _, _, _, rfl, hksone, fun h1 => ?_, fun h2 => absurd h2 hc2⟩
            refine SlR.mono (fun b' hb' => ?_) (((((hq.2.2.1 h1).ext x11).ext hx12).chg (fun b' hb' e => by have := hone8 b' hb'; omega) hS).ext hx13)
            exact .inr (hone8 b' hb')
          have hup' : ∃ o, Upr F n (tr v) o := ⟨_, hup⟩
          refine br_dec (fun h1 => ?_) (fun h1 => ?_)
          · refine .inr (.inr (hyb_ruleS (fun b => b = W.heap.size) ties mixed [(0, .quiet), (1, .quiet), (2, .quiet), (3, .quiet), (4, .loud), (5, .quiet)] (by kernel_rfl) ?_))
            refine ⟨hPne, [.int .i64 i, ks], rfl, hcP11, ?_⟩
            intro w12 hx12
            refine ⟨(hrZ11.ext hx12).all [.int .i64 i, ks] 0 (Nat.le_refl 2) (by simp only [List.all_cons, hksone]; rfl), Chg.setCells (S := fun b => b = W.heap.size) rfl _ _ _, ?_⟩
            intro w13 hx13
            refine ⟨[.int .i64 i, ks], rfl, (setCells_at [.int .i64 i, ks] _ 0 2 (hrZ11.ext hx12) (Nat.le_refl 2)).ext hx13, ?_⟩
            exact ⟨hup', hend (by omega) w12 w13 hx12 hx13⟩
          refine ⟨_, (hw9.ext x11).cells.2.2.2.2.1, ?_⟩
          refine br_dec (fun h3 => ?_) (fun h3 => ?_)
          · refine .inr (.inr (hyb_ruleS (fun b => b = W.heap.size) ties mixed [(0, .quiet), (1, .quiet), (2, .quiet), (3, .quiet), (4, .loud), (5, .quiet)] (by kernel_rfl) ?_))
            refine ⟨hPne, [.int .i64 i, ks], rfl, hcP11, ?_⟩
            intro w12 hx12
            refine ⟨(hrZ11.ext hx12).all [.int .i64 i, ks] 0 (Nat.le_refl 2) (by simp only [List.all_cons, hksone]; rfl), Chg.setCells (S := fun b => b = W.heap.size) rfl _ _ _, ?_⟩
            intro w13 hx13
            refine ⟨[.int .i64 i, ks], rfl, (setCells_at [.int .i64 i, ks] _ 0 2 (hrZ11.ext hx12) (Nat.le_refl 2)).ext hx13, ?_⟩
            exact ⟨hup', hend (by omega) w12 w13 hx12 hx13⟩
          have hc2 : R.code = 2 := by omega
          have hw9f : Wrk Wk w9 n cs limit R.made false := by have := hw9; rwa [show decide (R.code = 3) = false from decide_eq_false h3] at this
          have hJ11 := (hJ.step hBW hWkW hPW hvs' hch9 hw9f hmade9).ext x11 hBW hWkW hPW hvs'
          have htr := hq.2.2.2 hc2
          have hlb : l.length ≤ 1 := by
            rcases hst with ⟨_, _, h⟩ | ⟨_, _, _, h⟩ | ⟨h, _⟩
            · rw [h]; exact Nat.zero_le _
            · rw [h]; exact Nat.le_refl _
            · omega
          have hR1 : eP.R (fun b => P + 2 ≤ b ∧ b < (setCells (w9.alloc (.cells #[.int .i64 0, .slice none 0 0] 39)) w9.heap.size 0 [.int .i64 x9, ps]).heap.size ∧ ¬ blk ks b) (setCells (w9.alloc (.cells #[.int .i64 0, .slice none 0 0] 39)) w9.heap.size 0 [.int .i64 x9, ps]) R.tree [.int .i64 x9, ps] := by
            refine ⟨ps, by rw [htr.1]; rfl, ?_⟩
            refine Fo.Sl.mono (fun b' hb' => ?_) (Fo.Sl.ext x11 (Fo.Sl.lt htr.2))
            have g1 := hJ.sz
            have g2 := x8.size
            have g3 := x11.size
            have g4 := hb'.1
            unfold freshB at g4
            exact ⟨by omega, by omega, fun e => by have := hJ.kb b' e; omega⟩
          refine ⟨_, (hPC _ _ hJ11.cP).2.1, [.int .i64 x9, ps], rfl, hc11, ?_⟩
          refine raw_push (E := eP) (x := R.tree) (cs := [.int .i64 x9, ps]) ties rfl rfl rfl rfl rfl rfl rfl rfl rfl rfl rfl hJ11.kids hR1 (fun b' hb' => hb'.2.2) (by show (l.length + 1) * 32 ≤ _; omega) (by omega) ?_
          intro v3 w12 hv3 hch3 hsz3 hvb3
          refine Exists.elim (own_ptr hv3 (by rw [List.length_append]; exact Nat.succ_ne_zero _)) fun B3 hB3 => Exists.elim hB3 fun cp3 he3 => ?_
          subst he3
          have hJ13 := hJ11.push hBW hWkW hPW hvsW hv3 hch3 hvb3
          refine ⟨hPF _ _ (hch3.rmy (fun e => by have := hJ11.kb _ e; omega) hJ11.rP 1 (by decide)), ?_⟩
          refine ⟨_, IntWalk.i64_in _ (by omega), ?_⟩
          refine hK (i2 + 1, _, _, _, _, _, R.made, _, l ++ [R.tree]) _ _ (vs6 rfl rfl rfl rfl rfl (vint (by show (i2 : Int) + 1 = ((i2 + 1 : Nat) : Int); omega))) ⟨hJ13.wld (congrArg (fun f => w12.setCell (f 1) _) hPA), hnext hc2⟩ (by show 2 - (i2 + 1) < 2 - i2; omega) ?_
          ((repeat (first | (with_reducible exact Only.refl) | (with_reducible refine Only.skip ?_) | ((with_reducible refine Only.upd ?_ ?_); rfl) | ((with_reducible refine Only.over ?_ ?_ _); rfl) | ((with_reducible refine Only.hav ?_ ?_ ?_); rfl; rfl))))
        · have h2 : i2 = 2 := by rcases hst with ⟨h, _⟩ | ⟨h, _⟩ | ⟨h, _⟩ <;> omega
          have hst' : R1.code = 2 ∧ R2.code = 2 ∧ m = R2.made ∧ l = [R1.tree, R2.tree] := by
            rcases hst with ⟨h, _⟩ | ⟨h, _⟩ | ⟨_, h⟩
            · omega
            · omega
            · exact h
          have hP0 := hPC _ _ hJ.cP
          have hksone : oneB ks = true := by refine Exists.elim hJ.kids fun _ h => Exists.elim h fun _ h => ?_; rw [h.1]; rfl
          have hend : ∀ w12 w13, Ext w w12 → Ext (setCells w12 W.heap.size 0 [.int .i64 i, ks]) w13 →
              TryR Wk n cs limit (.slice (some ⟨b, o, none⟩) u.length vcp) (srch F n limit (k + 1) u made) W (.tuple #[.slice none 0 0, .agg #[.int .i64 i, ks], .bool false]) w13 := fun w12 w13 hx12 hx13 => by
            rw [e3 hst'.1 hst'.2.1]
            have hS : Chg (fun b => b = W.heap.size) w12 (setCells w12 W.heap.size 0 [.int .i64 i, ks]) := Chg.setCells (S := fun b => b = W.heap.size) rfl _ _ _
            have hw := hJ.wrk
            rw [hst'.2.2.1] at hw
            refine ⟨((hJ.chg.trans (.of hx12)).fresh hS fun b' e => .inl (by omega)).trans (.of hx13), ((hw.ext hx12).chg (by omega) hS).ext hx13, _, _, _, rfl, hksone, fun h1 => (by cases h1), fun _ => ⟨rfl, ?_⟩⟩
            have hkids := hJ.kids
            rw [hst'.2.2.2] at hkids
            have hfr : ∀ b', P + 2 ≤ b' → freshB W b' := fun b' hb' => by unfold freshB; omega
            have hsl := (((hkids.mono (ok' := fun b => P + 2 ≤ b) fun b' hb' => hb'.1).ext hx12).chg (S := fun b => b = W.heap.size) (fun b' hb' e => by omega) (fun b' hb' e => by have := hJ.kb b' hb'; omega) hS).ext hx13
            exact SlR.fo (hsl.sl hfr fun b' hb' => hfr b' (hJ.kb b' hb').1)
          refine .inr (.inr (hyb_ruleS (fun b => b = W.heap.size) ties mixed [(0, .quiet), (1, .quiet), (2, .loud), (3, .quiet)] (by kernel_rfl) ?_))
          refine ⟨hPne, [.int .i64 i, ks], rfl, hP0, ?_⟩
          intro w12 hx12
          refine ⟨(hJ.rZ.ext hx12).all [.int .i64 i, ks] 0 (Nat.le_refl 2) (by simp only [List.all_cons, hksone]; rfl), Chg.setCells (S := fun b => b = W.heap.size) rfl _ _ _, ?_⟩
          intro w13 hx13
          refine ⟨[.int .i64 i, ks], rfl, (setCells_at [.int .i64 i, ks] _ 0 2 (hJ.rZ.ext hx12) (Nat.le_refl 2)).ext hx13, ?_⟩
          exact ⟨⟨_, hup⟩, hend w12 w13 hx12 hx13⟩
    · have : i = n + 1 := by omega
      subst this
      have hlf : lf u = 0 := lf_none fun j h1 h2 => hj j h1 (by omega)
      have hsr : srch F n limit (k + 1) u made = ⟨1, u, made, (0, .nil)⟩ := by rw [srch, if_pos hlf]
      rw [hsr]
      refine br_dec_true (by omega) ?_
      refine ⟨hrZ.all [.int .i64 0, .slice none 0 0] 0 (Nat.le_refl 2) rfl, ?_⟩
      have hc3 := setCells_at [.int .i64 0, .slice none 0 0] _ 0 2 hrZ (Nat.le_refl 2)
      have hs3 : Chg (fun b => b = W.heap.size) w (setCells w W.heap.size 0 [.int .i64 0, .slice none 0 0]) := Chg.setCells (S := fun b => b = W.heap.size) rfl _ _ _
      refine ⟨[.int .i64 0, .slice none 0 0], rfl, hc3, ?_⟩
      refine ⟨⟨_, hup⟩, hch12.fresh hs3 (fun b e => .inl (by omega)), hw2.chg (by omega) hs3, _, _, _, rfl, rfl, fun _ => ?_, fun h => (by cases h)⟩
      exact (hown2.chg (fun _ h => h.elim) (fun b hb e => by have := hvsW b hb; omega) hs3).sl (fun _ h => h.elim) (fun _ h => .inl h)

end Go.Proofs.Ytfmflffggcphjaa
