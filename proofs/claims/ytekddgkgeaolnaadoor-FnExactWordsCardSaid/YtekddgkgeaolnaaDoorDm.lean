/- Marks on rows of texts: contracts of markStringS, heldStringS. -/
import Derived.Test.YtekddgkgeaolnaaDoorIa
import Derived.Test.YtekddgkgeaolnaaDoorMt
namespace Go.Proofs.YtekddgkgeaolnaaDoor
open Go Go.Vc Go.RowKit
set_option linter.unusedVariables false

def mkS : Nat → Int → List ByteArray
  | 0, _ => []
  | n + 1, k => mkT k :: mkS n (k + 1)
theorem mkS_len : ∀ (n : Nat) (k : Int), (mkS n k).length = n
  | 0, _ => rfl
  | n + 1, k => by rw [mkS, List.length_cons, mkS_len n]
theorem mkS_get : ∀ (n : Nat) (k : Int) (i : Nat), i < n → (mkS n k)[i]? = some (mkT (k + i))
  | n + 1, k, 0, _ => by simp [mkS]
  | n + 1, k, i + 1, h => by
    rw [mkS, List.getElem?_cons_succ, mkS_get n (k + 1) i (by omega)]
    rw [show k + 1 + (i : Int) = k + ((i + 1 : Nat) : Int) from by omega]
theorem mkS_at {n : Nat} {k : Int} {i : Nat} (h : i < n) : (mkS n k)[i]'(by rw [mkS_len]; exact h) = mkT (k + i) := by
  have hget := mkS_get n k i h
  rw [List.getElem?_eq_getElem (by rw [mkS_len]; exact h)] at hget
  exact Option.some.inj hget
theorem mkS_set {n : Nat} {k : Int} {l : List ByteArray} (h : n < l.length) : (mkS n k ++ l.drop n).set n (mkT (k + n)) = mkS (n + 1) k ++ l.drop (n + 1) := by
  have hs : ∀ (n : Nat) (k : Int), mkS (n + 1) k = mkS n k ++ [mkT (k + n)] := by
    intro n
    induction n with
    | zero => intro k; simp [mkS]
    | succ n ih =>
      intro k
      rw [mkS, ih (k + 1), mkS, List.cons_append, show k + 1 + (n : Int) = k + ((n + 1 : Nat) : Int) from by omega]
  rw [List.set_append_right _ _ (by rw [mkS_len]; exact Nat.le_refl _), mkS_len, Nat.sub_self, List.drop_eq_getElem_cons h, List.set_cons_zero, hs]
  simp

set_option maxHeartbeats 4000000 in
theorem markStringS_ret (l : List ByteArray) (s : Value) (k : Int) (W : World) (hs : OwnR eS noB W s l) (h0 : 0 ≤ k) (h1 : k + (l.length : Int) ≤ 1099511627776) :
    Ret Tryd.prog 13 #[s, .int .i64 k] W (fun v w' => v = .int .i64 (k + (l.length : Int)) ∧ OwnR eS noB w' s (mkS l.length k) ∧ Chg (blk s) W w') := by
  obtain ⟨a, c, rfl, hl, hc, hat⟩ := id hs
  have hlm : (maxLen : Int) ≤ 9223372036854775807 := by decide
  refine ret_of_vc ties mixed Tryd.func13 rfl (by kernel_rfl) rfl rfl ?_
  refine loop_rule (σ := Nat) [5, 1] 6 20 (fun i => [.int .i64 i, .int .i64 (k + (i : Int))])
    (fun i w' => (Chg (blk (.slice a l.length c)) W w' ∧ OwnR eS noB w' (.slice a l.length c) (mkS i k ++ l.drop i)) ∧ i ≤ l.length) (fun i => l.length - i) 0 (vs2 rfl (vint (by simp))) ⟨⟨Chg.refl _ _, by simpa [mkS] using hs⟩, Nat.zero_le _⟩ ?_
  rintro i w junk ⟨⟨hch, ho⟩, hi⟩ K hK
  show vc _ _ _ _ (over [5, 1] [.int .i64 i, .int .i64 (k + (i : Int))] _) _
  refine br_dec (fun h3 => ?_) (fun h3 => ?_)
  · have hil : i < l.length := by omega
    have hel : (mkS i k ++ l.drop i).length = l.length := by rw [List.length_append, mkS_len, List.length_drop]; omega
    obtain ⟨a', c', he, g1, g2, g3⟩ := id ho
    rw [hel] at he g1
    cases he
    obtain ⟨B, rfl, hr, hrow⟩ := g3.resolve_left (by omega)
    have hcl : l.length ≤ c := hl
    refine Or.inl ((markText_ret (k + (i : Int)) w (by omega)).mono ?_)
    rintro _ w2 ⟨rfl, x2⟩
    have hr2 := hr.ext x2
    have hm1 : eS.m = 1 := rfl
    rw [hm1] at hr2
    have f0 := hr2 (0 + (i : Int).toNat * 1) (by show 0 + i * 1 < c * 1; omega)
    have hset := RAt.set (x := mkT (k + (i : Int))) (cs := [.string (mkT (k + (i : Int)))]) (i := i) (o := 0 + (i : Int).toNat * 1) (fun b hb e => hb.elim) hr2 (hrow.ext x2) rfl (by show 0 + i * 1 = i * 1; omega) (by rw [List.length_append, mkS_len, List.length_drop]; omega) (by rw [hm1, List.length_append, mkS_len, List.length_drop]; omega)
    rw [mkS_set hil] at hset
    refine ⟨⟨by omega, by omega⟩, f0, ?_⟩
    refine ⟨_, IntWalk.i64_in _ (by omega), ?_⟩
    refine ⟨_, IntWalk.i64_in _ (by omega), ?_⟩
    refine hK (i + 1) _ _ (vs2 (vint (by show (i : Int) + 1 = ((i + 1 : Nat) : Int); omega)) (vint (by show k + (i : Int) + 1 = k + ((i + 1 : Nat) : Int); omega))) ⟨⟨(hch.trans (.of x2)).trans (Chg.setCells (S := blk (.slice (some ⟨B, 0, none⟩) l.length c)) (B := B) rfl [.string (mkT (k + (i : Int)))] _ _), _, c, by rw [List.length_append, mkS_len, List.length_drop]; congr 1; omega, by rw [List.length_append, mkS_len, List.length_drop]; omega, hc, .inr ⟨B, rfl, hr2.setCell, hset⟩⟩, by show i + 1 ≤ l.length; omega⟩ (by show l.length - (i + 1) < l.length - i; omega) ?_
    ((repeat (first | (with_reducible exact Only.refl) | (with_reducible refine Only.skip ?_) | ((with_reducible refine Only.upd ?_ ?_); rfl) | ((with_reducible refine Only.over ?_ ?_ _); rfl) | ((with_reducible refine Only.hav ?_ ?_ ?_); rfl; rfl))))
  · have hie : i = l.length := by omega
    subst hie
    rw [List.drop_length, List.append_nil] at ho
    exact ⟨rfl, ho, hch⟩

set_option maxHeartbeats 4000000 in
theorem heldStringS_ret (n : Nat) (s : Value) (k : Int) (W : World) (hs : SlR eS allB W s (mkS n k)) (h0 : 0 ≤ k) (h1 : k + (n : Int) ≤ 1099511627776) :
    Ret Tryd.prog 14 #[s, .int .i64 k] W (fun v w' => v = .int .i64 (k + (n : Int)) ∧ Ext W w') := by
  have hlm : (maxLen : Int) ≤ 9223372036854775807 := by decide
  obtain ⟨a, c, rfl, hlc, hcm, -⟩ := id hs
  have hml := mkS_len n k
  refine ret_of_vc ties mixed Tryd.func14 rfl (by kernel_rfl) rfl rfl ?_
  refine loop_rule (σ := Nat) [1, 5] 6 22 (fun i => [.int .i64 (k + i), .int .i64 i])
    (fun i w' => Ext W w' ∧ i ≤ n) (fun i => n - i) 0 (by show [_, _] = [_, _]; exact vs2 (vint (by omega)) rfl) ⟨Ext.refl _, Nat.zero_le _⟩ ?_
  rintro i w junk ⟨x, hi⟩ K hK
  refine br_dec (fun h3 => ?_) (fun h3 => ?_)
  · have hin : i < n := by omega
    have hil : i < (mkS n k).length := by omega
    obtain ⟨b, o, c1, cs, he, -, hc, rfl⟩ := hs.at hil
    cases he
    rw [mkS_at hin] at hc
    have hcw := hc.ext x
    refine .inl ⟨by kernel_rfl, ⟨by omega, by omega⟩, _, hcw.1, .string (mkT (k + (i : Int))), fun w' _ => markText_ret _ w' (by omega), ?_⟩
    intro w4 x4
    refine br_dec_false (fun h => h rfl) ?_
    refine ⟨_, IntWalk.i64_in _ (by omega), _, IntWalk.i64_in _ (by omega), ?_⟩
    refine hK (i + 1) _ _ (vs2 (vint (by omega)) (vint (by show (i : Int) + 1 = ((i + 1 : Nat) : Int); omega))) ⟨x.trans x4, by omega⟩ (by omega) ?_
    ((repeat (first | (with_reducible exact Only.refl) | (with_reducible refine Only.skip ?_) | ((with_reducible refine Only.upd ?_ ?_); rfl) | ((with_reducible refine Only.over ?_ ?_ _); rfl) | ((with_reducible refine Only.hav ?_ ?_ ?_); rfl; rfl))))
  · have : i = n := by omega
    subst this
    exact ⟨vint (by omega), x⟩
end Go.Proofs.YtekddgkgeaolnaaDoor
