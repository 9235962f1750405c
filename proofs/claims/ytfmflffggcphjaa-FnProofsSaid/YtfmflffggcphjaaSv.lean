/- The solver's assignment: contracts of set, look. -/
import Derived.Test.YtfmflffggcphjaaFm
import Derived.Test.YtfmflffggcphjaaSu
namespace Go.Vc
open Go Go.RowKit
theorem below_chg {B : Nat} {w w' : World} (h : Below B w w') : Chg (fun b => B ≤ b) w w' := ⟨h.os, h.tape, h.output, h.size, fun k _ hn => h.block k (by omega)⟩
theorem chg_below {B : Nat} {S : Nat → Prop} {w w' : World} (h : Chg S w w') (hS : ∀ b, S b → B ≤ b) (hB : B ≤ w.heap.size) : Below B w w' := ⟨h.os, h.tape, h.output, h.size, fun k hk => h.block k (by omega) (fun hs => by have := hS k hs; omega)⟩
theorem Chg.one (w : World) (B o : Nat) (u : Value) : Chg (fun k => k = B) w (w.setCell ⟨B, o, none⟩ u) := Chg.setCell (S := fun k => k = B) w (p := ⟨B, o, none⟩) rfl u
abbrev oldB (B : Nat) : Nat → Prop := fun b => b < B
theorem SlR.below {α : Type} {E : Rep α} {B : Nat} {w w' : World} {s : Value} {l : List α} (h : Below B w w') (hs : SlR E (oldB B) w s l) : SlR E (oldB B) w' s l :=
  hs.chg (S := fun b => B ≤ b) (fun b hb => by unfold oldB at hb; omega) (below_chg h)
theorem SlR.any {α : Type} {E : Rep α} {ok : Nat → Prop} {w : World} {s : Value} {l : List α} (hs : SlR E ok w s l) : SlR E (fun _ => True) w s l := hs.mono fun _ _ => trivial
end Go.Vc
namespace Go.Proofs.Ytfmflffggcphjaa
open Go Go.Vc Go.RowKit Go.Sat
set_option linter.unusedVariables false

/-- An assignment in memory, from block B on. -/
def Asg (B : Nat) (w : World) (p : Value) (v q : List Int) : Prop := ∃ A a1 a2, p = .pointer (some ⟨A, 0, none⟩) ∧ B ≤ A ∧ Rmy w A 2 ∧ w.cell? ⟨A, 0, none⟩ = some a1 ∧ w.cell? ⟨A, 1, none⟩ = some a2 ∧
  OwnR eI noB w a1 v ∧ OwnR eI noB w a2 q ∧ (∀ b, blk a1 b → B ≤ b ∧ b ≠ A) ∧ ∀ b, blk a2 b → B ≤ b ∧ b ≠ A ∧ ¬ blk a1 b

/-- What 'set' makes of an assignment. -/
def SetR (B : Nat) (p : Value) (v q : List Int) (l : Int) (W : World) (r : Value) (w' : World) : Prop := Below B W w' ∧
  ((fre v l ∧ r = .bool true ∧ Asg B w' p (put v l) (q ++ [l])) ∨ (tr v l ∧ r = .bool true ∧ Asg B w' p v q) ∨ (tr v (-l) ∧ r = .bool false))

theorem own_at {w : World} {s : Value} {v : List Int} (h : OwnR eI noB w s v) {i : Nat} (hi : i < v.length) :
    ∃ b c, s = .slice (some ⟨b, 0, none⟩) v.length c ∧ v.length ≤ c ∧ c ≤ maxLen ∧ Rmy w b c ∧ RAt eI noB w v b 0 ∧ w.cell? ⟨b, 0 + i * 1, none⟩ = some (.int .i64 (v[i]'hi)) := by
  obtain ⟨a, c, rfl, h1, h2, h3⟩ := h
  obtain ⟨B, rfl, hr, ha⟩ := h3.resolve_left (by omega)
  obtain ⟨cs, hc, rfl⟩ := ha.get (List.getElem?_eq_getElem hi)
  exact ⟨B, c, rfl, h1, h2, by rwa [show eI.m = 1 from rfl, Nat.mul_one] at hr, ha, hc.1⟩

set_option maxHeartbeats 1000000 in
theorem set_neg (B : Nat) (p : Value) (v q : List Int) (n : Nat) (l : Int) (W : World) (hA : Asg B W p v q) (hv : Vals n v) (hl : litOk n l = true) (hn : n ≤ 400) (hq : q.length ≤ 1000000000) (hB : B ≤ W.heap.size) (hneg : l < 0) :
    Ret Try.prog 114 #[p, .int .i64 l] W (SetR B p v q l W) := by
  obtain ⟨A, a1, a2, rfl, hBA, hrA, hc1, hc2, ho1, ho2, hb1, hb2⟩ := hA
  have hl' := litOk_iff.1 hl
  have hlen := hv.len
  have hix : (0 - l).toNat = l.natAbs := by omega
  obtain ⟨b, c, rfl, hle, hcm, hrm, hra, hcell⟩ := own_at ho1 (i := (0 - l).toNat) (by omega)
  have hbb := hb1 b rfl
  have hvget : v[l.natAbs]? = some (v[(0 - l).toNat]'(by omega)) := by rw [← hix]; exact List.getElem?_eq_getElem _
  have hsg : sgn l = (-1) := by unfold sgn; split <;> omega
  refine ret_of_vc ties mixed Try.func114 rfl (by kernel_rfl) rfl rfl ?_
  refine br_dec_true hneg ⟨_, IntWalk.i64_in _ (by omega), ?_⟩
  refine ⟨_, hc1, ⟨by omega, by omega⟩, _, hcell, ?_⟩
  refine br_dec (fun h0 => ?_) (fun h0 => ?_)
  · refine ⟨_, hc1, ⟨by omega, by omega⟩, _, hcell, ?_⟩
    refine ⟨Below.refl _ _, ?_⟩
    rcases hv.three hl with h | h | h
    · unfold fre at h; rw [hvget] at h; simp only [Option.some.injEq] at h; exact absurd h h0
    · refine .inr (.inl ⟨h, vbool (decide_eq_true ?_), A, _, a2, rfl, hBA, hrA, hc1, hc2, ho1, ho2, hb1, hb2⟩)
      rcases h with ⟨h1, h2⟩ | ⟨h1, h2⟩
      · rw [show l.toNat = l.natAbs from by omega, hvget] at h2; simp only [Option.some.injEq] at h2; omega
      · rw [show (-l).toNat = l.natAbs from by omega, hvget] at h2; simp only [Option.some.injEq] at h2; omega
    · refine .inr (.inr ⟨h, vbool (decide_eq_false ?_)⟩)
      rcases h with ⟨h1, h2⟩ | ⟨h1, h2⟩
      · rw [show (-l).toNat = l.natAbs from by omega, hvget] at h2; simp only [Option.some.injEq] at h2; omega
      · rw [show (- -l).toNat = l.natAbs from by omega, hvget] at h2; simp only [Option.some.injEq] at h2; omega
  · have hf : fre v l := by unfold fre; rw [hvget]; congr 1; omega
    have hfree : Free W ⟨b, 0 + (0 - l).toNat * 1, none⟩ := hrm _ (by omega)
    refine ⟨_, hc1, ⟨by omega, by omega⟩, hfree, ?_⟩
    have hch1 : Chg (fun k => k = b) W (W.setCell ⟨b, 0 + (0 - l).toNat * 1, none⟩ (.int .i64 (-1))) := Chg.one _ _ _ _
    have hput : OwnR eI noB (W.setCell ⟨b, 0 + (0 - l).toNat * 1, none⟩ (.int .i64 (-1))) (.slice (some ⟨b, 0, none⟩) v.length c) (put v l) := by
      refine ⟨_, c, by unfold put; rw [List.length_set], by unfold put; rw [List.length_set]; exact hle, hcm, .inr ⟨b, rfl, ?_, ?_⟩⟩
      · show Rmy _ b (c * 1)
        rw [Nat.mul_one c]; exact hrm.setCell
      · unfold put
        rw [hsg]
        exact RAt.set (cs := [.int .i64 (-1)]) (n := c) noB_ne hrm hra rfl (by rw [show eI.m = 1 from rfl]; omega) (by omega) (by rw [show eI.m = 1 from rfl]; omega)
    have hA1 : ¬ (A = b) := fun e => hbb.2 e.symm
    have hc2' := hch1.cell (a := ⟨A, 1, none⟩) hA1 hc2
    have hc1' := hch1.cell (a := ⟨A, 0, none⟩) hA1 hc1
    have ho2' : OwnR eI noB (W.setCell ⟨b, 0 + (0 - l).toNat * 1, none⟩ (.int .i64 (-1))) a2 q := ho2.chg (fun _ h => h.elim) (fun k hk e => (hb2 k hk).2.2 e.symm) hch1
    have hrA' := hch1.rmy hA1 hrA
    refine ⟨a2, hc2', ?_⟩
    refine raw_push (E := eI) (ok := noB) (x := l) ties rfl rfl rfl rfl rfl rfl rfl rfl rfl rfl rfl ho2' rfl noB_blk (by show (q.length + 1) * 8 ≤ _; omega) (by omega) ?_
    intro a3 w3 ho3 hch3 hsz3 hb3
    obtain ⟨a4, c4, rfl, _⟩ := id ho3
    have hA2 : ¬ blk a2 A := fun h => (hb2 A h).2.1 rfl
    have hsz1 : ∀ a u, (W.setCell a u).heap.size = W.heap.size := fun _ _ => by simp [World.setCell]
    have hAlt : A < W.heap.size := World.block_lt_of_cell? W _ hc1
    have hblt : b < W.heap.size := by obtain ⟨⟨u, hu⟩, _⟩ := hfree; exact World.block_lt_of_cell? W _ hu
    have hrA3 := hch3.rmy hA2 hrA'
    refine ⟨hrA3 1 (by decide), ?_⟩
    have hb3A : ∀ k, blk (.slice a4 (q ++ [l]).length c4) k → k ≠ A := fun k hk e => by
      rcases hb3 k hk with h | h
      · exact (hb2 k h).2.1 e
      · rw [hsz1] at h; omega
    have hch4 : Chg (fun k => k = A) w3 (w3.setCell ⟨A, 1, none⟩ (.slice a4 (q ++ [l]).length c4)) := Chg.one _ _ _ _
    have hold3 : ∀ k, blk (.slice a4 (q ++ [l]).length c4) k → B ≤ k ∧ k ≠ b := fun k hk => by
      rcases hb3 k hk with h | h
      · exact ⟨(hb2 k h).1, fun e => (hb2 k h).2.2 e.symm⟩
      · rw [hsz1] at h; exact ⟨by omega, by omega⟩
    refine ⟨?_, .inl ⟨hf, rfl, A, .slice (some ⟨b, 0, none⟩) v.length c, (.slice a4 (q ++ [l]).length c4), rfl, hBA, hrA3.setCell, ?_, World.cell?_setCell_same _ _ _ (hrA3 1 (by decide)).1.choose_spec, ?_, ?_, fun k hk => by cases hk; exact ⟨hbb.1, fun e => hA1 e.symm⟩, fun k hk => ⟨(hold3 k hk).1, hb3A k hk, fun e => (hold3 k hk).2 e.symm⟩⟩⟩
    · refine chg_below (S := fun k => k = b ∨ blk a2 k ∨ k = A) (((hch1.mono fun k _ h => .inl h).trans (hch3.mono fun k _ h => .inr (.inl h))).trans (hch4.mono fun k _ h => .inr (.inr h))) ?_ hB
      rintro k (rfl | h | rfl)
      · exact hbb.1
      · exact (hb2 k h).1
      · exact hBA
    · exact (World.cell?_setCell_other _ _ _ _ (by simp)).trans (hch3.cell (a := ⟨A, 0, none⟩) hA2 hc1')
    · exact (hput.chg (fun _ h => h.elim) (fun k hk e => (hb2 k e).2.2 hk) hch3).chg (fun _ h => h.elim) (fun k hk e => by cases hk; exact hA1 e.symm) hch4
    · exact ho3.chg (fun _ h => h.elim) (fun k hk e => hb3A k hk e) hch4

set_option maxHeartbeats 1000000 in
theorem set_pos (B : Nat) (p : Value) (v q : List Int) (n : Nat) (l : Int) (W : World) (hA : Asg B W p v q) (hv : Vals n v) (hl : litOk n l = true) (hn : n ≤ 400) (hq : q.length ≤ 1000000000) (hB : B ≤ W.heap.size) (hneg : ¬ l < 0) :
    Ret Try.prog 114 #[p, .int .i64 l] W (SetR B p v q l W) := by
  obtain ⟨A, a1, a2, rfl, hBA, hrA, hc1, hc2, ho1, ho2, hb1, hb2⟩ := hA
  have hl' := litOk_iff.1 hl
  have hlen := hv.len
  have hix : l.toNat = l.natAbs := by omega
  obtain ⟨b, c, rfl, hle, hcm, hrm, hra, hcell⟩ := own_at ho1 (i := l.toNat) (by omega)
  have hbb := hb1 b rfl
  have hvget : v[l.natAbs]? = some (v[l.toNat]'(by omega)) := by rw [← hix]; exact List.getElem?_eq_getElem _
  have hsg : sgn l = 1 := by unfold sgn; split <;> omega
  refine ret_of_vc ties mixed Try.func114 rfl (by kernel_rfl) rfl rfl ?_
  refine br_dec_false hneg ?_
  refine ⟨_, hc1, ⟨by omega, by omega⟩, _, hcell, ?_⟩
  refine br_dec (fun h0 => ?_) (fun h0 => ?_)
  · refine ⟨_, hc1, ⟨by omega, by omega⟩, _, hcell, ?_⟩
    refine ⟨Below.refl _ _, ?_⟩
    rcases hv.three hl with h | h | h
    · unfold fre at h; rw [hvget] at h; simp only [Option.some.injEq] at h; exact absurd h h0
    · refine .inr (.inl ⟨h, vbool (decide_eq_true ?_), A, _, a2, rfl, hBA, hrA, hc1, hc2, ho1, ho2, hb1, hb2⟩)
      rcases h with ⟨h1, h2⟩ | ⟨h1, h2⟩
      · rw [show l.toNat = l.natAbs from by omega, hvget] at h2; simp only [Option.some.injEq] at h2; omega
      · rw [show (-l).toNat = l.natAbs from by omega, hvget] at h2; simp only [Option.some.injEq] at h2; omega
    · refine .inr (.inr ⟨h, vbool (decide_eq_false ?_)⟩)
      rcases h with ⟨h1, h2⟩ | ⟨h1, h2⟩
      · rw [show (-l).toNat = l.natAbs from by omega, hvget] at h2; simp only [Option.some.injEq] at h2; omega
      · rw [show (- -l).toNat = l.natAbs from by omega, hvget] at h2; simp only [Option.some.injEq] at h2; omega
  · have hf : fre v l := by unfold fre; rw [hvget]; congr 1; omega
    have hfree : Free W ⟨b, 0 + l.toNat * 1, none⟩ := hrm _ (by omega)
    refine ⟨_, hc1, ⟨by omega, by omega⟩, hfree, ?_⟩
    have hch1 : Chg (fun k => k = b) W (W.setCell ⟨b, 0 + l.toNat * 1, none⟩ (.int .i64 1)) := Chg.one _ _ _ _
    have hput : OwnR eI noB (W.setCell ⟨b, 0 + l.toNat * 1, none⟩ (.int .i64 1)) (.slice (some ⟨b, 0, none⟩) v.length c) (put v l) := by
      refine ⟨_, c, by unfold put; rw [List.length_set], by unfold put; rw [List.length_set]; exact hle, hcm, .inr ⟨b, rfl, ?_, ?_⟩⟩
      · show Rmy _ b (c * 1)
        rw [Nat.mul_one c]; exact hrm.setCell
      · unfold put
        rw [hsg]
        exact RAt.set (cs := [.int .i64 1]) (n := c) noB_ne hrm hra rfl (by rw [show eI.m = 1 from rfl]; omega) (by omega) (by rw [show eI.m = 1 from rfl]; omega)
    have hA1 : ¬ (A = b) := fun e => hbb.2 e.symm
    have hc2' := hch1.cell (a := ⟨A, 1, none⟩) hA1 hc2
    have hc1' := hch1.cell (a := ⟨A, 0, none⟩) hA1 hc1
    have ho2' : OwnR eI noB (W.setCell ⟨b, 0 + l.toNat * 1, none⟩ (.int .i64 1)) a2 q := ho2.chg (fun _ h => h.elim) (fun k hk e => (hb2 k hk).2.2 e.symm) hch1
    have hrA' := hch1.rmy hA1 hrA
    refine ⟨a2, hc2', ?_⟩
    refine raw_push (E := eI) (ok := noB) (x := l) ties rfl rfl rfl rfl rfl rfl rfl rfl rfl rfl rfl ho2' rfl noB_blk (by show (q.length + 1) * 8 ≤ _; omega) (by omega) ?_
    intro a3 w3 ho3 hch3 hsz3 hb3
    obtain ⟨a4, c4, rfl, _⟩ := id ho3
    have hA2 : ¬ blk a2 A := fun h => (hb2 A h).2.1 rfl
    have hsz1 : ∀ a u, (W.setCell a u).heap.size = W.heap.size := fun _ _ => by simp [World.setCell]
    have hAlt : A < W.heap.size := World.block_lt_of_cell? W _ hc1
    have hblt : b < W.heap.size := by obtain ⟨⟨u, hu⟩, _⟩ := hfree; exact World.block_lt_of_cell? W _ hu
    have hrA3 := hch3.rmy hA2 hrA'
    refine ⟨hrA3 1 (by decide), ?_⟩
    have hb3A : ∀ k, blk (.slice a4 (q ++ [l]).length c4) k → k ≠ A := fun k hk e => by
      rcases hb3 k hk with h | h
      · exact (hb2 k h).2.1 e
      · rw [hsz1] at h; omega
    have hch4 : Chg (fun k => k = A) w3 (w3.setCell ⟨A, 1, none⟩ (.slice a4 (q ++ [l]).length c4)) := Chg.one _ _ _ _
    have hold3 : ∀ k, blk (.slice a4 (q ++ [l]).length c4) k → B ≤ k ∧ k ≠ b := fun k hk => by
      rcases hb3 k hk with h | h
      · exact ⟨(hb2 k h).1, fun e => (hb2 k h).2.2 e.symm⟩
      · rw [hsz1] at h; exact ⟨by omega, by omega⟩
    refine ⟨?_, .inl ⟨hf, rfl, A, .slice (some ⟨b, 0, none⟩) v.length c, (.slice a4 (q ++ [l]).length c4), rfl, hBA, hrA3.setCell, ?_, World.cell?_setCell_same _ _ _ (hrA3 1 (by decide)).1.choose_spec, ?_, ?_, fun k hk => by cases hk; exact ⟨hbb.1, fun e => hA1 e.symm⟩, fun k hk => ⟨(hold3 k hk).1, hb3A k hk, fun e => (hold3 k hk).2 e.symm⟩⟩⟩
    · refine chg_below (S := fun k => k = b ∨ blk a2 k ∨ k = A) (((hch1.mono fun k _ h => .inl h).trans (hch3.mono fun k _ h => .inr (.inl h))).trans (hch4.mono fun k _ h => .inr (.inr h))) ?_ hB
      rintro k (rfl | h | rfl)
      · exact hbb.1
      · exact (hb2 k h).1
      · exact hBA
    · exact (World.cell?_setCell_other _ _ _ _ (by simp)).trans (hch3.cell (a := ⟨A, 0, none⟩) hA2 hc1')
    · exact (hput.chg (fun _ h => h.elim) (fun k hk e => (hb2 k e).2.2 hk) hch3).chg (fun _ h => h.elim) (fun k hk e => by cases hk; exact hA1 e.symm) hch4
    · exact ho3.chg (fun _ h => h.elim) (fun k hk e => hb3A k hk e) hch4

theorem set_ret (B : Nat) (p : Value) (v q : List Int) (n : Nat) (l : Int) (W : World) (hA : Asg B W p v q) (hv : Vals n v) (hl : litOk n l = true) (hn : n ≤ 400) (hq : q.length ≤ 1000000000) (hB : B ≤ W.heap.size) :
    Ret Try.prog 114 #[p, .int .i64 l] W (SetR B p v q l W) := by
  by_cases h : l < 0
  · exact set_neg B p v q n l W hA hv hl hn hq hB h
  · exact set_pos B p v q n l W hA hv hl hn hq hB h

theorem Asg.ext {B : Nat} {w w' : World} {p : Value} {v q : List Int} (hx : Ext w w') (h : Asg B w p v q) : Asg B w' p v q := by
  obtain ⟨A, a1, a2, rfl, h1, h2, h3, h4, h5, h6, h7, h8⟩ := h
  exact ⟨A, a1, a2, rfl, h1, h2.ext hx, hx.cell h3, hx.cell h4, h5.ext hx, h6.ext hx, h7, h8⟩
theorem Asg.ptr {B : Nat} {w : World} {p : Value} {v q : List Int} (h : Asg B w p v q) : ∃ A a1 a2, p = .pointer (some ⟨A, 0, none⟩) ∧ w.cell? ⟨A, 0, none⟩ = some a1 ∧ w.cell? ⟨A, 1, none⟩ = some a2 ∧ OwnR eI noB w a1 v ∧ OwnR eI noB w a2 q := by
  obtain ⟨A, a1, a2, rfl, h1, h2, h3, h4, h5, h6, h7, h8⟩ := h
  exact ⟨A, a1, a2, rfl, h3, h4, h5, h6⟩

def LookR (B : Nat) (p : Value) (v q : List Int) (c : Cl) (W : World) (r : Value) (w' : World) : Prop := Below B W w' ∧
  ((Fine v c ∧ r = .bool true ∧ Asg B w' p v q) ∨ (∃ l ∈ c, fre v l ∧ (∀ x ∈ c, x ≠ l → tr v (-x)) ∧ r = .bool true ∧ Asg B w' p (put v l) (q ++ [l])) ∨ ((∀ x ∈ c, tr v (-x)) ∧ r = .bool false))

theorem av_ix {x : Int} : (av x).toNat = x.natAbs := by unfold av; omega

theorem look_ret (B : Nat) (p s : Value) (v q : List Int) (n : Nat) (c : Cl) (W : World) (hA : Asg B W p v q) (hs : SlR eI allB W s c) (hv : Vals n v) (hc : clOk n c = true) (hn : n ≤ 400) (hq : q.length ≤ 1000000000) (hB : B ≤ W.heap.size) :
    Ret Try.prog 115 #[p, s] W (LookR B p v q c W) := by
  have hlm : (maxLen : Int) ≤ 9223372036854775807 := by decide
  obtain ⟨A, a1, a2, rfl, hc1, hc2, ho1, ho2⟩ := hA.ptr
  obtain ⟨a, cc, rfl, hlc, hcm, _⟩ := id hs
  have hlit := clOk_lits hc
  have hlen := hv.len
  refine ret_of_vc ties mixed Try.func115 rfl (by kernel_rfl) rfl rfl ?_
  refine loop_rule (σ := Nat × Nat × Int × Value × Value) [5, 6, 8, 9, 12] 13 42 (fun q => [.int .i64 q.2.1, .int .i64 q.2.2.1, q.2.2.2.1, q.2.2.2.2, .int .i64 q.1])
    (fun q w' => Ext W w' ∧ q.1 ≤ c.length ∧ q.2.1 ≤ q.1 ∧ Scan v (c.take q.1) q.2.1 q.2.2.1) (fun q => c.length - q.1) (0, 0, 0, undef, undef) rfl ⟨Ext.refl _, Nat.zero_le _, Nat.le_refl _, Scan.nil _ _⟩ ?_
  rintro ⟨k, fr, last, j1, j2⟩ w junk ⟨hx, hk, hfr, hsc⟩ K hK
  simp only at hk hfr hsc
  show vc _ _ _ _ (over [5, 6, 8, 9, 12] [.int .i64 fr, .int .i64 last, j1, j2, .int .i64 k] _) _
  refine br_dec (fun h3 => ?_) (fun h3 => ?_)
  · have hkl : k < c.length := by omega
    obtain ⟨b, o, c1, cs, he, _, hcell, rfl⟩ := hs.at hkl
    cases he
    have hlk := hlit _ (List.getElem_mem hkl)
    have hnew := cl_new hc hkl
    have hsn := take_snoc hkl
    obtain ⟨x, hxe⟩ : ∃ x, c[k]'hkl = x := ⟨_, rfl⟩
    rw [hxe] at hlk hnew hsn hcell
    have hl' := litOk_iff.1 hlk
    have hal : x.natAbs < v.length := by omega
    obtain ⟨b2, c2, rfl, g1, g2, _, _, g3⟩ := own_at ho1 (i := (av x).toNat) (by rw [av_ix]; exact hal)
    have hget : v[x.natAbs]? = some (v[(av x).toNat]'(by rw [av_ix]; exact hal)) := (congrArg (fun i => v[i]?) av_ix).symm.trans (List.getElem?_eq_getElem _)
    obtain ⟨y, hy⟩ : ∃ y, v[(av x).toNat]'(by rw [av_ix]; exact hal) = y := ⟨_, rfl⟩
    rw [hy] at hget g3
    refine ⟨⟨by omega, by omega⟩, _, (hcell.ext hx).1, ?_⟩
    refine .inl ⟨by kernel_rfl, _, hx.cell hc1, .int .i64 (av x), fun w' _ => (varOf_ret _ w' (lit400 (by omega) hlk)).mono ?_, ⟨by unfold av; omega, by unfold av; omega⟩, _, hx.cell g3, ?_⟩
    · rintro _ _ ⟨rfl, rfl⟩; exact ⟨rfl, Ext.refl _⟩
    intro w4 hx4
    have next : ∀ fr' last' : _, fr' ≤ k + 1 → Scan v (c.take (k + 1)) fr' last' → True := fun _ _ _ _ => trivial
    rcases val_cases hv hlk hget with ⟨h5, h6⟩ | ⟨h5, h6, h7⟩ | ⟨h5, h6, h7⟩
    · refine br_dec_true h5 ?_
      refine ⟨_, IntWalk.i64_in _ (by omega), _, IntWalk.i64_in _ (by omega), ?_⟩
      refine hK (k + 1, fr + 1, x, _, _) _ _ (by show [_, _, _, _, _] = [_, _, _, _, _]; exact congr (congrArg List.cons (vint (by show (fr : Int) + 1 = ((fr + 1 : Nat) : Int); omega))) (vs4 rfl rfl rfl (vint (by show (k : Int) + 1 = ((k + 1 : Nat) : Int); omega)))) ⟨hx.trans hx4, by show k + 1 ≤ _; omega, by show fr + 1 ≤ k + 1; omega, ?_⟩ (by show c.length - (k + 1) < c.length - k; omega) ?_
      · show Scan v (c.take (k + 1)) (fr + 1) x
        rw [hsn]; exact hsc.free h6 hnew
      · ((repeat (first | (with_reducible exact Only.refl) | (with_reducible refine Only.skip ?_) | ((with_reducible refine Only.upd ?_ ?_); rfl) | ((with_reducible refine Only.over ?_ ?_ _); rfl) | ((with_reducible refine Only.hav ?_ ?_ ?_); rfl; rfl))))
    · refine br_dec_false h5 ?_
      refine br_true h6 ?_
      exact ⟨(hx.trans hx4).mono hB, .inl ⟨.inl ⟨x, hxe ▸ List.getElem_mem hkl, h7⟩, rfl, hA.ext (hx.trans hx4)⟩⟩
    · refine br_dec_false h5 ?_
      refine br_false h6 ?_
      refine ⟨_, IntWalk.i64_in _ (by omega), ?_⟩
      refine hK (k + 1, fr, last, _, _) _ _ (by show [_, _, _, _, _] = [_, _, _, _, _]; exact congr (congrArg List.cons rfl) (vs4 rfl rfl rfl (vint (by show (k : Int) + 1 = ((k + 1 : Nat) : Int); omega)))) ⟨hx.trans hx4, by show k + 1 ≤ _; omega, by show fr ≤ k + 1; omega, ?_⟩ (by show c.length - (k + 1) < c.length - k; omega) ?_
      · show Scan v (c.take (k + 1)) fr last
        rw [hsn]; exact hsc.no h7
      · ((repeat (first | (with_reducible exact Only.refl) | (with_reducible refine Only.skip ?_) | ((with_reducible refine Only.upd ?_ ?_); rfl) | ((with_reducible refine Only.over ?_ ?_ _); rfl) | ((with_reducible refine Only.hav ?_ ?_ ?_); rfl; rfl))))
  · have : k = c.length := by omega
    subst this
    rw [List.take_length] at hsc
    refine br_dec (fun h4 => ?_) (fun h4 => ?_)
    · rcases hsc with ⟨_, h⟩ | ⟨h, _⟩ | ⟨h, _⟩
      · exact ⟨hx.mono hB, .inr (.inr ⟨h, rfl⟩)⟩
      · omega
      · omega
    · refine br_dec (fun h5 => ?_) (fun h5 => ?_)
      · rcases hsc with ⟨h, _⟩ | ⟨_, g1, g2, g3⟩ | ⟨h, _⟩
        · omega
        · refine Or.inl ((set_ret B _ v q n last w (hA.ext hx) hv (hlit _ g1) hn hq (Nat.le_trans hB hx.size)).mono ?_)
          rintro r w5 ⟨hb5, ⟨_, rfl, h⟩ | ⟨h, _⟩ | ⟨h, _⟩⟩
          · exact ⟨(hx.mono hB).trans hb5, .inr (.inl ⟨last, g1, g2, g3, rfl, h⟩)⟩
          · exact absurd h (fre_not g2).1
          · exact absurd h (fre_not g2).2
        · omega
      · rcases hsc with ⟨h, _⟩ | ⟨h, _⟩ | ⟨h, g⟩
        · omega
        · omega
        · exact ⟨hx.mono hB, .inl ⟨.inr g, rfl, hA.ext hx⟩⟩

end Go.Proofs.Ytfmflffggcphjaa
