/- Draws: GiveTerm; what a law asks of a drawn term. -/
import Derived.Test.YtekddgkgeaolnaaD3
import Derived.Test.YtekddgkgeaolnaaN5
namespace Go.Proofs.Ytekddgkgeaolnaa.Dr
open Go Go.Vc Go.RowKit
set_option linter.unusedVariables false

theorem node_okL {x : Lab} {l : List Lab} (h : NodeOk x l) : okL x := by
  have hop : 0 ≤ x.op ∧ x.op ≤ 22 := by
    have hc := h.count
    unfold kc at hc
    by_cases h1 : x.op = 0 ∨ x.op = 22
    · omega
    · rw [if_neg h1] at hc
      by_cases h2 : x.op = 1 ∨ x.op = 2 ∨ x.op = 19 ∨ x.op = 20 ∨ x.op = 21
      · omega
      · rw [if_neg h2] at hc
        by_cases h3 : (3 ≤ x.op ∧ x.op ≤ 16) ∨ x.op = 18
        · omega
        · rw [if_neg h3] at hc
          by_cases h4 : x.op = 17
          · omega
          · rw [if_neg h4] at hc; omega
  have hw := h.width
  have hn : inI x.n := by
    by_cases h0 : x.op = 0
    · have := wOk_iff.1 (h.const h0)
      have h2 := pow16 (w := x.w) (by omega) (by omega)
      unfold inI; omega
    · by_cases h19 : x.op = 19
      · have h1 := fit_cut h h19
        have hk : kw l 0 ≤ 16 ∨ kw l 0 = 0 := by
          unfold kw
          cases l with
          | nil => exact .inr rfl
          | cons y l => exact .inl (h.kids y (by simp)).2
        unfold inI; omega
      · rw [h.num h0 h19]; unfold inI; omega
  refine ⟨by unfold inI; omega, by unfold inI; omega, hn, ?_⟩
  by_cases h22 : x.op = 22
  · have := (of_decide_eq_true (h.name h22)).2.1
    unfold maxLen; omega
  · rw [h.noname h22]; exact Nat.zero_le _
theorem okF_okL : ∀ k : TF, OkF k → k.All okL
  | .nil, _ => trivial
  | .cons x k r, h => ⟨node_okL h.1.1, okF_okL k h.1.2, okF_okL r h.2⟩
theorem okF_inI : ∀ k : TF, OkF k → k.All (fun x => inI x.n)
  | .nil, _ => trivial
  | .cons x k r, h => ⟨(node_okL h.1.1).2.2.1, okF_inI k h.1.2, okF_inI r h.2⟩
/-- A drawn term in new memory. -/
def GvT (w : Int) (m : Nat) (W : World) (v : Value) (w' : World) : Prop := Ext W w' ∧ ∃ t s, v = tv t.1 s ∧ DrP w m t ∧ TSl (fun b => W.heap.size ≤ b) w' s t.2
theorem giveTerm_ret (l : List Int) (n : Int) (hn : 0 ≤ n ∧ n ≤ 1000000) (w : Int) (m : Nat) (hm : m ≤ 4) (hw : 1 ≤ w ∧ w ≤ 16 - 2 * (m : Int)) (s : Value) (W : World) (hs : SlR eU allB W s l) :
    Ret Try.prog 6 #[s, .int .i64 n, .int .i64 w, .int .i64 (m : Int)] W (GvT w m W) := by
  obtain ⟨a, cp, rfl, hlc, hcm, hat⟩ := id hs
  have xz := bz_ext W
  have rz := bz_rmy W
  refine ret_of_vc ties mixed Try.func6 rfl (by kernel_rfl) rfl rfl ?_
  refine Or.inl ((at_ret l n hn _ _ (hs.ext xz)).mono ?_)
  rintro _ w2 ⟨x2, C, rfl, hCW, hC2, hcu⟩
  refine Or.inl ((draw_all m hm C l w w2 hcu hw).mono ?_)
  rintro _ w3 ⟨d3, t, st, rfl, p3, q3⟩
  have hz := bz_size W
  have x02 : Ext W w2 := xz.trans x2
  have r3 := d3.1.rmy (S := fun b => b = C) (by omega) (rz.ext x2)
  have x03 : Ext W w3 := x02.chg d3.1 (fun b hb => by omega)
  have hst : Chg (fun b => b = W.heap.size) w3 (setCells w3 W.heap.size 0 (tc t.1 st)) := Chg.setCells (S := fun b => b = W.heap.size) rfl _ _ _
  have hz2 := x2.size
  refine ⟨r3.all _ 0 (Nat.le_refl 5) (tc_one q3), tc t.1 st, rfl, setCells_at _ _ 0 5 r3 (Nat.le_refl 5), x03.chg hst (fun b hb => by omega), t, st, rfl, p3, ?_⟩
  exact (Fo.Sl.chg (S := fun b => b = W.heap.size) (fun b hb e => by omega) hst q3).mono fun b hb => by omega
end Go.Proofs.Ytekddgkgeaolnaa.Dr
