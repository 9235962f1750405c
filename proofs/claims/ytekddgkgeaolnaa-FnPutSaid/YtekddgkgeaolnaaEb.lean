/- The reference's VarsOf; marks on rows of values. -/
import Derived.Test.YtekddgkgeaolnaaEa
import Derived.Test.YtekddgkgeaolnaaMt
namespace Go.Proofs.Ytekddgkgeaolnaa
open Go Go.Vc Go.RowKit
set_option linter.unusedVariables false

theorem spec_VarsOf (x : Lab) (k : TF) (s : Value) (W : World) (hs : TSl anyB W s k) (hx : okL x) (hp : k.All okL) :
    Ret Try.prog 13 #[tv x s] W (fun v w' => Ext W w' ∧ SlR eV allB w' v (vls (varsP x k))) := by
  have x1 := bx_ext W x s
  have hb := bx_at W x s
  have hok := fun w (xw : Ext W w) => spec_TermOk x k s w (hs.ext xw) hx hp
  obtain ⟨a, c, rfl, hl, hat⟩ := id hs
  by_cases ht : TOk x k
  · simp only [decide_eq_true ht] at hok
    rw [varsP_yes ht]
    have hcons : Cons (varsT (x, k)) := ((TOk_iff x k).1 ht).2.2
    have hv := fun w (xw : Ext W w) => l02Vars_ret x k _ (.slice none 0 0) [] w (hs.ext xw) (tok_okT ht) (nilV w) trivial (by have := ht.1; simp only [List.length_nil]; omega)
    refine ret_of_vc ties mixed Try.func13 rfl (by kernel_rfl) rfl rfl ?_
    refine ⟨tc x _, rfl, hb, ?_⟩
    refine Or.inl ((hok _ x1).mono ?_)
    rintro _ w2 ⟨rfl, x2⟩
    refine ⟨tc x _, rfl, hb.ext x2, ?_⟩
    refine Or.inl ((hv w2 (x1.trans x2)).mono ?_)
    rintro _ w3 ⟨v1, b, rfl, x3, hb1, hb2⟩
    exact ⟨x1.trans (x2.trans x3), hb2 (hb1.2 ((consA_nil _).2 hcons))⟩
  · simp only [decide_eq_false ht] at hok
    rw [varsP_no ht]
    refine ret_of_vc ties mixed Try.func13 rfl (by kernel_rfl) rfl rfl ?_
    refine ⟨tc x _, rfl, hb, ?_⟩
    refine Or.inl ((hok _ x1).mono ?_)
    rintro _ w2 ⟨rfl, x2⟩
    exact ⟨x1.trans x2, nilV _⟩
def mkV (k : Int) : VLab := ⟨mkT k, k + 1, k + 1 + 1⟩
def mkVs (n : Nat) (k : Int) : List VLab := (List.range n).map fun (i : Nat) => mkV (k + 3 * (i : Int))
theorem mkVs_len (n : Nat) (k : Int) : (mkVs n k).length = n := by unfold mkVs; simp
theorem mkVs_at {n : Nat} {k : Int} {i : Nat} (h : i < n) : (mkVs n k)[i]'(by rw [mkVs_len]; exact h) = mkV (k + 3 * (i : Int)) := by unfold mkVs; simp
theorem mkVs_set {n : Nat} {k : Int} {l : List VLab} (h : n < l.length) : (mkVs n k ++ l.drop n).set n (mkV (k + 3 * (n : Int))) = mkVs (n + 1) k ++ l.drop (n + 1) := by
  rw [List.set_append_right _ _ (by rw [mkVs_len]; exact Nat.le_refl _), mkVs_len, Nat.sub_self, List.drop_eq_getElem_cons h, List.set_cons_zero]
  unfold mkVs
  rw [List.range_succ, List.map_append]
  simp
end Go.Proofs.Ytekddgkgeaolnaa
