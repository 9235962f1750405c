/- The reference's VarsOf; marks on rows of values. -/
import Derived.Test.YtkoaicjcanplaaaGreatEa
import Derived.Test.YtkoaicjcanplaaaGreatMt
namespace Go.Proofs.YtkoaicjcanplaaaGreat
open Go Go.Vc Go.RowKit
set_option linter.unusedVariables false

theorem spec_VarsOf (x : Lab) (k : TF) (s : Value) (W : World) (hs : TSl anyB W s k) (hx : okL x) (hp : k.All okL) :
    Ret Tryz.prog 19 #[tv x s] W (fun v w' => Ext W w' ∧ SlR eV allB w' v (vls (varsP x k))) := by
  have x1 := bx_ext W x s
  have hb := bx_at W x s
  have hok := fun w (xw : Ext W w) => spec_TermOk x k s w (hs.ext xw) hx hp
  obtain ⟨a, c, rfl, hl, hat⟩ := id hs
  by_cases ht : TOk x k
  · simp only [decide_eq_true ht] at hok
    rw [varsP_yes ht]
    have hcons : Cons (varsT (x, k)) := ((TOk_iff x k).1 ht).2.2
    have hv := fun w (xw : Ext W w) => l02Vars_ret x k _ (.slice none 0 0) [] w (hs.ext xw) (tok_okT ht) (nilV w) trivial (by have := ht.1; simp only [List.length_nil]; omega)
    refine ret_of_vc ties mixed Tryz.func19 rfl (by kernel_rfl) rfl rfl ?_
    refine ⟨tc x _, rfl, hb, ?_⟩
    refine Or.inl ((hok _ x1).mono ?_)
    rintro _ w2 ⟨rfl, x2⟩
    refine ⟨tc x _, rfl, hb.ext x2, ?_⟩
    refine Or.inl ((hv w2 (x1.trans x2)).mono ?_)
    rintro _ w3 ⟨v1, b, rfl, x3, hb1, hb2⟩
    exact ⟨x1.trans (x2.trans x3), hb2 (hb1.2 ((consA_nil _).2 hcons))⟩
  · simp only [decide_eq_false ht] at hok
    rw [varsP_no ht]
    refine ret_of_vc ties mixed Tryz.func19 rfl (by kernel_rfl) rfl rfl ?_
    refine ⟨tc x _, rfl, hb, ?_⟩
    refine Or.inl ((hok _ x1).mono ?_)
    rintro _ w2 ⟨rfl, x2⟩
    exact ⟨x1.trans x2, nilV _⟩
def mkV (k : Int) : VLab := ⟨mkT k, k + 1, k + 1 + 1⟩
def mkVs (n : Nat) (k : Int) : List VLab := (List.range n).map fun (i : Nat) => mkV (k + 3 * (i : Int))
theorem mkVs_len (n : Nat) (k : Int) : (mkVs n k).length = n := by unfold mkVs; simp
theorem mkVs_at {n : Nat} {k : Int} {i : Nat} (h : i < n) : (mkVs n k)[i]'(by rw [mkVs_len]; exact h) = mkV (k + 3 * (i : Int)) := by unfold mkVs; simp
theorem mkVs_set {n : Nat} {k : Int} {l : List VLab} (h : n < l.length) : (mkVs n k ++ l.drop n).set n (mkV (k + 3 * (n : Int))) = mkVs (n + 1) k ++ l.drop (n + 1) := by
  rw [List.set_append_right _ _ (by rw [mkVs_len]; exact Nat.le_refl _), mkVs_len, Nat.sub_self, List.drop_eq_getElem_cons h, List.set_cons_zero]
  unfold mkVs
  rw [List.range_succ, List.map_append]
  simp
set_option maxHeartbeats 4000000 in
theorem markValueS_ret (l : List VLab) (s : Value) (k : Int) (W : World) (hs : OwnR eV noB W s l) (h0 : 0 ≤ k) (h1 : k + 3 * (l.length : Int) ≤ 1099511627776) :
    Ret Tryz.prog 13 #[s, .int .i64 k] W (fun v w' => v = .int .i64 (k + 3 * (l.length : Int)) ∧ OwnR eV noB w' s (mkVs l.length k) ∧ Chg (blk s) W w') := by
  obtain ⟨a, c, rfl, hl, hc, hat⟩ := id hs
  have hlm : (maxLen : Int) ≤ 9223372036854775807 := by decide
  refine ret_of_vc ties mixed Tryz.func13 rfl (by kernel_rfl) rfl rfl ?_
  refine loop_rule (σ := Nat) [5, 1] 6 34 (fun i => [.int .i64 i, .int .i64 (k + 3 * (i : Int))])
    (fun i w' => (Chg (blk (.slice a l.length c)) W w' ∧ OwnR eV noB w' (.slice a l.length c) (mkVs i k ++ l.drop i)) ∧ i ≤ l.length) (fun i => l.length - i) 0 (vs2 rfl (vint (by simp))) ⟨⟨Chg.refl _ _, by simpa [mkVs] using hs⟩, Nat.zero_le _⟩ ?_
  rintro i w junk ⟨⟨hch, ho⟩, hi⟩ K hK
  show vc _ _ _ _ (over [5, 1] [.int .i64 i, .int .i64 (k + 3 * (i : Int))] _) _
  refine br_dec (fun h3 => ?_) (fun h3 => ?_)
  · have hil : i < l.length := by omega
    have hel : (mkVs i k ++ l.drop i).length = l.length := by rw [List.length_append, mkVs_len, List.length_drop]; omega
    obtain ⟨a', c', he, g1, g2, g3⟩ := id ho
    rw [hel] at he g1
    cases he
    obtain ⟨B, rfl, hr, hrow⟩ := g3.resolve_left (by omega)
    have hcl : l.length ≤ c := hl
    refine Or.inl ((markText_ret (k + 3 * (i : Int)) w (by omega)).mono ?_)
    rintro _ w2 ⟨rfl, x2⟩
    have hr2 := hr.ext x2
    have hm3 : eV.m = 3 := rfl
    rw [hm3] at hr2
    have f0 := hr2 (0 + (i : Int).toNat * 3 + 0) (by show 0 + i * 3 + 0 < c * 3; omega)
    have f1 := (Rmy.setCells (b := B) (o := 0 + (i : Int).toNat * 3) [.string (mkT (k + 3 * (i : Int)))] hr2) (0 + (i : Int).toNat * 3 + 1) (by show 0 + i * 3 + 1 < c * 3; omega)
    have f2 := (Rmy.setCells (b := B) (o := 0 + (i : Int).toNat * 3) [.string (mkT (k + 3 * (i : Int))), .int .i64 (k + 3 * (i : Int) + 1)] hr2) (0 + (i : Int).toNat * 3 + 2) (by show 0 + i * 3 + 2 < c * 3; omega)
    have hset := RAt.set (x := mkV (k + 3 * (i : Int))) (cs := vlc (mkV (k + 3 * (i : Int)))) (i := i) (o := 0 + (i : Int).toNat * 3) (fun b hb e => hb.elim) hr2 (hrow.ext x2) rfl (by show 0 + i * 3 = i * 3; omega) (by rw [List.length_append, mkVs_len, List.length_drop]; omega) (by rw [hm3, List.length_append, mkVs_len, List.length_drop]; omega)
    rw [mkVs_set hil] at hset
    refine ⟨⟨by omega, by omega⟩, f0, ?_⟩
    refine ⟨_, IntWalk.i64_in _ (by omega), ?_⟩
    refine ⟨⟨by omega, by omega⟩, f1, ?_⟩
    refine ⟨_, IntWalk.i64_in _ (by omega), ?_⟩
    refine ⟨⟨by omega, by omega⟩, ?_⟩
    refine ⟨f2, ?_⟩
    refine ⟨_, IntWalk.i64_in _ (by omega), ?_⟩
    refine ⟨_, IntWalk.i64_in _ (by omega), ?_⟩
    refine hK (i + 1) _ _ (vs2 (vint (by show (i : Int) + 1 = ((i + 1 : Nat) : Int); omega)) (vint (by show k + 3 * (i : Int) + 1 + 1 + 1 = k + 3 * ((i + 1 : Nat) : Int); omega))) ⟨⟨(hch.trans (.of x2)).trans (Chg.setCells (S := blk (.slice (some ⟨B, 0, none⟩) l.length c)) (B := B) rfl (vlc (mkV (k + 3 * (i : Int)))) _ _), _, c, by rw [List.length_append, mkVs_len, List.length_drop]; congr 1; omega, by rw [List.length_append, mkVs_len, List.length_drop]; omega, hc, .inr ⟨B, rfl, Rmy.setCells (vlc (mkV (k + 3 * (i : Int)))) hr2, hset⟩⟩, by show i + 1 ≤ l.length; omega⟩ (by show l.length - (i + 1) < l.length - i; omega) ?_
    ((repeat (first | (with_reducible exact Only.refl) | (with_reducible refine Only.skip ?_) | ((with_reducible refine Only.upd ?_ ?_); rfl) | ((with_reducible refine Only.over ?_ ?_ _); rfl) | ((with_reducible refine Only.hav ?_ ?_ ?_); rfl; rfl))))
  · have hie : i = l.length := by omega
    subst hie
    rw [List.drop_length, List.append_nil] at ho
    exact ⟨rfl, ho, hch⟩
end Go.Proofs.YtkoaicjcanplaaaGreat
