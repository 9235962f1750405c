/- Contracts of literalsOk, clauseOk, l03Clause, l03Lits, FormulaOk and their like. -/
import Derived.Test.YtfmflffggcphjaaIb
import Derived.Test.YtfmflffggcphjaaSt
namespace Go.Proofs.Ytfmflffggcphjaa
open Go Go.Vc Go.RowKit Go.Sat

theorem l01In_ret (n lo hi : Int) (w : World) : Ret Try.prog 85 #[.int .i64 n, .int .i64 lo, .int .i64 hi] w (fun v w' => v = .bool (decide (lo ≤ n ∧ n ≤ hi)) ∧ w = w') := by
  refine ret_of_vc ties mixed Try.func85 rfl (by kernel_rfl) rfl rfl ?_
  refine br_dec (fun h => ?_) (fun h => ?_)
  · exact ⟨vbool (by simp [h]), rfl⟩
  · exact ⟨vbool (by simp [h]), rfl⟩

theorem isLiteral_ret (x n : Int) (W : World) (h0 : 0 ≤ n) (h1 : n ≤ 400) : Ret Try.prog 119 #[.int .i64 x, .int .i64 n] W (fun v w' => v = .bool (litOk n x) ∧ W = w') := by
  refine ret_of_vc ties mixed Try.func119 rfl (by kernel_rfl) rfl rfl ?_
  refine br_dec (fun h => ?_) (fun h => ?_)
  · refine ⟨_, IntWalk.i64_in _ (by omega), ?_⟩
    refine br_dec (fun h2 => ?_) (fun h2 => ?_)
    · exact ⟨vbool (by unfold litOk; exact decide_eq_decide.2 (by omega)), rfl⟩
    · exact ⟨vbool (decide_eq_false (by omega)).symm, rfl⟩
  · exact ⟨vbool (decide_eq_false (by omega)).symm, rfl⟩

theorem varOf_ret (x : Int) (W : World) (h : litOk 400 x = true) : Ret Try.prog 107 #[.int .i64 x] W (fun v w' => v = .int .i64 (av x) ∧ W = w') := by
  have h := litOk_iff.1 h
  refine ret_of_vc ties mixed Try.func107 rfl (by kernel_rfl) rfl rfl ?_
  refine br_dec (fun h2 => ?_) (fun h2 => ?_)
  · refine ⟨_, IntWalk.i64_in _ (by omega), ?_⟩
    exact ⟨vint (by unfold av; omega), rfl⟩
  · exact ⟨vint (by unfold av; omega), rfl⟩

theorem l03Abs_ret (x : Int) (W : World) (h : -400 ≤ x) : Ret Try.prog 90 #[.int .i64 x] W (fun v w' => v = .int .i64 (av x) ∧ W = w') := by
  refine ret_of_vc ties mixed Try.func90 rfl (by kernel_rfl) rfl rfl ?_
  refine br_dec (fun h2 => ?_) (fun h2 => ?_)
  · refine ⟨_, IntWalk.i64_in _ (by omega), ?_⟩
    exact ⟨vint (by unfold av; omega), rfl⟩
  · exact ⟨vint (by unfold av; omega), rfl⟩

theorem lit400 {n x : Int} (h1 : n ≤ 400) (h : litOk n x = true) : litOk 400 x = true := by rw [litOk_iff] at *; omega

theorem impl_literalsOk (l : List Int) (s : Value) (n : Int) (W : World) (hs : SlR eI allB W s l) (h0 : 0 ≤ n) (h1 : n ≤ 400) :
    Ret Try.prog 80 #[s, .int .i64 n] W (fun v w' => v = .bool (litsOk n l) ∧ W = w') := by
  have hlm : (maxLen : Int) ≤ 9223372036854775807 := by decide
  obtain ⟨a, c, rfl, hlc, hcm, hat⟩ := id hs
  refine ret_of_vc ties mixed Try.func80 rfl (by kernel_rfl) rfl rfl ?_
  refine loop_rule (σ := Nat × Value) [6, 9] 10 18 (fun q => [q.2, .int .i64 q.1])
    (fun q w' => W = w' ∧ q.1 ≤ l.length ∧ (l.take q.1).all (litOk n) = true) (fun q => l.length - q.1) (0, undef) rfl ⟨rfl, Nat.zero_le _, rfl⟩ ?_
  rintro ⟨k, jv⟩ w junk ⟨rfl, hk, hall⟩ K hK
  simp only at hk hall
  refine br_dec (fun h3 => ?_) (fun h3 => ?_)
  · have hkl : k < l.length := by omega
    obtain ⟨b, o, c1, cs, he, _, hc, rfl⟩ := hs.at hkl
    cases he
    refine ⟨⟨by omega, by omega⟩, _, hc.1, ?_⟩
    refine Or.inl ((isLiteral_ret _ n _ h0 h1).mono ?_)
    rintro _ _ ⟨rfl, rfl⟩
    refine br_not (fun h4 => ?_) (fun h4 => ?_)
    · exact ⟨vbool (all_no hkl h4).symm, rfl⟩
    · refine ⟨_, IntWalk.i64_in _ (by omega), ?_⟩
      refine hK (k + 1, _) _ _ (vs2 rfl (vint (by show (k : Int) + 1 = ((k + 1 : Nat) : Int); omega))) ⟨rfl, by show k + 1 ≤ _; omega, all_step hkl hall h4⟩ (by show l.length - (k + 1) < l.length - k; omega) ?_
      ((repeat (first | (with_reducible exact Only.refl) | (with_reducible refine Only.skip ?_) | ((with_reducible refine Only.upd ?_ ?_); rfl) | ((with_reducible refine Only.over ?_ ?_ _); rfl) | ((with_reducible refine Only.hav ?_ ?_ ?_); rfl; rfl))))
  · have : k = l.length := by omega
    subst this
    rw [List.take_length] at hall
    exact ⟨vbool hall.symm, rfl⟩

theorem spec_l03Lits (l : List Int) (s : Value) (n : Int) (W : World) (hs : SlR eI allB W s l) (h0 : 0 ≤ n) (h1 : n ≤ 400) :
    Ret Try.prog 93 #[s, .int .i64 n] W (fun v w' => v = .bool (litsOk n l) ∧ W = w') := by
  have hlm : (maxLen : Int) ≤ 9223372036854775807 := by decide
  obtain ⟨a, c, rfl, hlc, hcm, hat⟩ := id hs
  refine ret_of_vc ties mixed Try.func93 rfl (by kernel_rfl) rfl rfl ?_
  refine loop_rule (σ := Nat × Value) [6, 9] 10 24 (fun q => [q.2, .int .i64 q.1])
    (fun q w' => W = w' ∧ q.1 ≤ l.length ∧ (l.take q.1).all (litOk n) = true) (fun q => l.length - q.1) (0, undef) rfl ⟨rfl, Nat.zero_le _, rfl⟩ ?_
  rintro ⟨k, jv⟩ w junk ⟨rfl, hk, hall⟩ K hK
  simp only at hk hall
  refine br_dec (fun h3 => ?_) (fun h3 => ?_)
  · have hkl : k < l.length := by omega
    obtain ⟨b, o, c1, cs, he, _, hc, rfl⟩ := hs.at hkl
    cases he
    refine ⟨⟨by omega, by omega⟩, _, hc.1, ?_⟩
    refine br_dec (fun h5 => ?_) (fun h5 => ?_)
    · exact ⟨vbool (all_no hkl (by unfold litOk; exact decide_eq_false (by omega))).symm, rfl⟩
    · refine ⟨_, IntWalk.i64_in _ (by omega), ?_⟩
      refine Or.inl ((l01In_ret _ _ _ _).mono ?_)
      rintro _ _ ⟨rfl, rfl⟩
      refine br_not (fun h4 => ?_) (fun h4 => ?_)
      · exact ⟨vbool (all_no hkl (by unfold litOk; have := of_decide_eq_false h4; exact decide_eq_false (by omega))).symm, rfl⟩
      · refine ⟨_, IntWalk.i64_in _ (by omega), ?_⟩
        refine hK (k + 1, _) _ _ (vs2 rfl (vint (by show (k : Int) + 1 = ((k + 1 : Nat) : Int); omega))) ⟨rfl, by show k + 1 ≤ _; omega, all_step hkl hall (by unfold litOk; have := of_decide_eq_true h4; exact decide_eq_true (by omega))⟩ (by show l.length - (k + 1) < l.length - k; omega) ?_
        ((repeat (first | (with_reducible exact Only.refl) | (with_reducible refine Only.skip ?_) | ((with_reducible refine Only.upd ?_ ?_); rfl) | ((with_reducible refine Only.over ?_ ?_ _); rfl) | ((with_reducible refine Only.hav ?_ ?_ ?_); rfl; rfl))))
  · have : k = l.length := by omega
    subst this
    rw [List.take_length] at hall
    exact ⟨vbool hall.symm, rfl⟩

theorem impl_clauseOk (l : List Int) (s : Value) (n : Int) (W : World) (hs : SlR eI allB W s l) (h0 : 0 ≤ n) (h1 : n ≤ 400) :
    Ret Try.prog 88 #[s, .int .i64 n] W (fun v w' => v = .bool (clOk n l) ∧ Ext W w') := by
  have hlm : (maxLen : Int) ≤ 9223372036854775807 := by decide
  obtain ⟨a, c, rfl, hlc, hcm, hat⟩ := id hs
  refine ret_of_vc ties mixed Try.func88 rfl (by kernel_rfl) rfl rfl ?_
  refine Or.inl ((impl_literalsOk l _ n _ hs h0 h1).mono ?_)
  rintro _ _ ⟨rfl, rfl⟩
  refine br_not (fun h4 => ?_) (fun h4 => ?_)
  · refine ⟨vbool ?_, Ext.refl _⟩
    cases hq : clOk n l with
    | false => rfl
    | true => rw [litsOk_iff.2 (clOk_iff.1 hq).1] at h4; cases h4
  have hlit := litsOk_iff.1 h4
  refine loop_rule (σ := Nat) [5] 10 28 (fun k => [.int .i64 (k + 1 : Nat)])
    (fun k w' => Ext W w' ∧ (k = 0 ∨ k + 1 ≤ l.length) ∧ ∀ i, (h : i + 1 < l.length) → i < k → av (l[i]'(by omega)) < av (l[i + 1]'h)) (fun k => l.length - k) 0 rfl ⟨Ext.refl _, .inl rfl, fun i _ hi => by omega⟩ ?_
  rintro k w junk ⟨hx, hk, hall⟩ K hK
  refine br_dec (fun h3 => ?_) (fun h3 => ?_)
  · have hkl : k + 1 < l.length := by omega
    obtain ⟨b, o, c1, cs, he, _, hc, rfl⟩ := hs.at (i := k) (by omega)
    cases he
    obtain ⟨b', o', c1', cs', he', _, hc', rfl⟩ := hs.at hkl
    cases he'
    refine .inl ⟨by kernel_rfl, ?_⟩
    refine ⟨_, IntWalk.i64_in _ (by omega), ⟨by omega, by omega⟩, .int .i64 (l[k]'(by omega)), ?_, ?_⟩
    · have := (hc.ext hx).1
      rwa [show (((k + 1 : Nat) : Int) - 1).toNat = k from by omega]
    refine ⟨.int .i64 (av (l[k]'(by omega))), fun w' hx' => (varOf_ret _ w' (lit400 h1 (hlit _ (List.getElem_mem (by omega))))).mono ?_, ?_⟩
    · rintro _ _ ⟨rfl, rfl⟩; exact ⟨rfl, Ext.refl _⟩
    refine ⟨⟨by omega, by omega⟩, _, (hc'.ext hx).1, ?_⟩
    refine ⟨.int .i64 (av (l[k + 1]'hkl)), fun w' hx' => (varOf_ret _ w' (lit400 h1 (hlit _ (List.getElem_mem hkl)))).mono ?_, ?_⟩
    · rintro _ _ ⟨rfl, rfl⟩; exact ⟨rfl, Ext.refl _⟩
    intro w4 hx4
    refine br_dec (fun h5 => ?_) (fun h5 => ?_)
    · refine ⟨vbool ?_, hx.trans hx4⟩
      cases hq : clOk n l with
      | false => rfl
      | true => have := (clOk_iff.1 hq).2 k hkl; omega
    · refine ⟨_, IntWalk.i64_in _ (by omega), ?_⟩
      refine hK (k + 1) _ _ (vs1 (vint (by omega))) ⟨hx.trans hx4, .inr (by omega), fun i h hi => ?_⟩ (by omega) ?_
      · by_cases e : i = k
        · subst e; omega
        · exact hall i h (by omega)
      · ((repeat (first | (with_reducible exact Only.refl) | (with_reducible refine Only.skip ?_) | ((with_reducible refine Only.upd ?_ ?_); rfl) | ((with_reducible refine Only.over ?_ ?_ _); rfl) | ((with_reducible refine Only.hav ?_ ?_ ?_); rfl; rfl))))
  · exact ⟨vbool (clOk_iff.2 ⟨hlit, fun i h => hall i h (by omega)⟩).symm, hx⟩

theorem spec_l03Clause (l : List Int) (s : Value) (n : Int) (W : World) (hs : SlR eI allB W s l) (h0 : 0 ≤ n) (h1 : n ≤ 400) :
    Ret Try.prog 86 #[s, .int .i64 n] W (fun v w' => v = .bool (clOk n l) ∧ W = w') := by
  have hlm : (maxLen : Int) ≤ 9223372036854775807 := by decide
  obtain ⟨a, c, rfl, hlc, hcm, hat⟩ := id hs
  refine ret_of_vc ties mixed Try.func86 rfl (by kernel_rfl) rfl rfl ?_
  refine loop_rule (σ := Nat × Int × Value) [5, 7, 10] 11 29 (fun q => [.int .i64 q.2.1, q.2.2, .int .i64 q.1])
    (fun q w' => W = w' ∧ q.1 ≤ l.length ∧ clOk n l = clFrom n q.2.1 (l.drop q.1)) (fun q => l.length - q.1) (0, 0, undef) rfl ⟨rfl, Nat.zero_le _, rfl⟩ ?_
  rintro ⟨k, last, jv⟩ w junk ⟨rfl, hk, hcl⟩ K hK
  simp only at hk hcl
  refine br_dec (fun h3 => ?_) (fun h3 => ?_)
  · have hkl : k < l.length := by omega
    obtain ⟨b, o, c1, cs, he, _, hc, rfl⟩ := hs.at hkl
    cases he
    have hst := clFrom_step (n := n) (last := last) hkl
    refine ⟨⟨by omega, by omega⟩, _, hc.1, _, IntWalk.i64_in _ (by omega), ?_⟩
    refine Or.inl ((l01In_ret _ _ _ _).mono ?_)
    rintro _ _ ⟨rfl, rfl⟩
    refine br_not (fun h4 => ?_) (fun h4 => ?_)
    · have := of_decide_eq_false h4
      exact ⟨vbool (by rw [hcl, hst, decide_eq_false (by omega)]; rfl), rfl⟩
    · have h4 := of_decide_eq_true h4
      refine Or.inl ((l03Abs_ret _ _ (by omega)).mono ?_)
      rintro _ _ ⟨rfl, rfl⟩
      refine br_dec (fun h5 => ?_) (fun h5 => ?_) <;> dsimp only at h5
      · exact ⟨vbool (by rw [hcl, hst, decide_eq_false (by omega)]; rfl), rfl⟩
      · refine Or.inl ((l03Abs_ret _ _ (by omega)).mono ?_)
        rintro _ _ ⟨rfl, rfl⟩
        refine ⟨_, IntWalk.i64_in _ (by omega), ?_⟩
        refine hK (k + 1, av (l[k]'hkl), _) _ _ (vs3 rfl rfl (vint (by show (k : Int) + 1 = ((k + 1 : Nat) : Int); omega))) ⟨rfl, by show k + 1 ≤ _; omega, ?_⟩ (by show l.length - (k + 1) < l.length - k; omega) ?_
        · rw [hcl, hst, decide_eq_true (by omega), Bool.true_and]
        · ((repeat (first | (with_reducible exact Only.refl) | (with_reducible refine Only.skip ?_) | ((with_reducible refine Only.upd ?_ ?_); rfl) | ((with_reducible refine Only.over ?_ ?_ _); rfl) | ((with_reducible refine Only.hav ?_ ?_ ?_); rfl; rfl))))
  · have : k = l.length := by omega
    subst this
    rw [List.drop_length] at hcl
    exact ⟨vbool hcl.symm, rfl⟩

theorem impl_FormulaOk (n : Int) (F : List (List Int)) (s : Value) (W : World) (hs : SlR eL allB W s F) :
    Ret Try.prog 36 #[fv n s] W (fun v w' => v = .bool (fOk n F) ∧ Ext W w') := by
  have hlm : (maxLen : Int) ≤ 9223372036854775807 := by decide
  obtain ⟨a, c, rfl, hlc, hcm, hat⟩ := id hs
  have x1 : Ext W (W.alloc (.cells #[.int .i64 n, .slice a F.length c] 25)) := Ext.new _ _
  have hb0 := boxed W #[.int .i64 n, .slice a F.length c] 25 0 _ rfl
  have hb1 := boxed W #[.int .i64 n, .slice a F.length c] 25 1 _ rfl
  have no : ¬ (0 ≤ n ∧ n ≤ 400 ∧ F.length ≤ 1600) → fOk n F = false := fun h => by unfold fOk; rw [decide_eq_false h]; rfl
  refine ret_of_vc ties mixed Try.func36 rfl (by kernel_rfl) rfl rfl ?_
  refine ⟨_, hb0, ?_⟩
  refine br_dec (fun h2 => ?_) (fun h2 => ?_)
  · exact ⟨vbool (no (by omega)).symm, x1⟩
  refine ⟨_, hb0, ?_⟩
  refine br_dec (fun h3 => ?_) (fun h3 => ?_)
  · exact ⟨vbool (no (by omega)).symm, x1⟩
  refine ⟨_, hb1, ?_⟩
  refine br_dec (fun h4 => ?_) (fun h4 => ?_)
  · exact ⟨vbool (no (by omega)).symm, x1⟩
  have hin : 0 ≤ n ∧ n ≤ 400 ∧ F.length ≤ 1600 := by omega
  have yes : fOk n F = F.all (clOk n) := by unfold fOk; rw [decide_eq_true hin]; rfl
  refine ⟨_, hb1, ?_⟩
  refine loop_rule (σ := Nat × Value) [4, 22] 23 32 (fun q => [q.2, .int .i64 q.1])
    (fun q w' => Ext (W.alloc (.cells #[.int .i64 n, .slice a F.length c] 25)) w' ∧ q.1 ≤ F.length ∧ (F.take q.1).all (clOk n) = true) (fun q => F.length - q.1) (0, undef) rfl ⟨Ext.refl _, Nat.zero_le _, rfl⟩ ?_
  rintro ⟨k, jv⟩ w junk ⟨hx, hk, hall⟩ K hK
  simp only at hk hall
  refine br_dec (fun h3 => ?_) (fun h3 => ?_)
  · have hkl : k < F.length := by omega
    obtain ⟨b, o, c1, cs, he, _, hc, s', rfl, hs'⟩ := hs.at hkl
    cases he
    refine ⟨⟨by omega, by omega⟩, s', (hc.ext (x1.trans hx)).1, _, hx.cell hb0, ?_⟩
    refine Or.inl ((impl_clauseOk _ s' n w (hs'.ext (x1.trans hx)) hin.1 hin.2.1).mono ?_)
    rintro _ w4 ⟨rfl, hx4⟩
    refine br_not (fun h4 => ?_) (fun h4 => ?_)
    · exact ⟨vbool (by rw [yes]; exact (all_no hkl h4).symm), (x1.trans hx).trans hx4⟩
    · refine ⟨_, IntWalk.i64_in _ (by omega), ?_⟩
      refine hK (k + 1, _) _ _ (vs2 rfl (vint (by show (k : Int) + 1 = ((k + 1 : Nat) : Int); omega))) ⟨hx.trans hx4, by show k + 1 ≤ _; omega, all_step hkl hall h4⟩ (by show F.length - (k + 1) < F.length - k; omega) ?_
      ((repeat (first | (with_reducible exact Only.refl) | (with_reducible refine Only.skip ?_) | ((with_reducible refine Only.upd ?_ ?_); rfl) | ((with_reducible refine Only.over ?_ ?_ _); rfl) | ((with_reducible refine Only.hav ?_ ?_ ?_); rfl; rfl))))
  · have : k = F.length := by omega
    subst this
    rw [List.take_length] at hall
    exact ⟨vbool (by rw [yes]; exact hall.symm), x1.trans hx⟩

theorem spec_FormulaOk (n : Int) (F : List (List Int)) (s : Value) (W : World) (hs : SlR eL allB W s F) :
    Ret Try.prog 34 #[fv n s] W (fun v w' => v = .bool (fOk n F) ∧ Ext W w') := by
  have hlm : (maxLen : Int) ≤ 9223372036854775807 := by decide
  obtain ⟨a, c, rfl, hlc, hcm, hat⟩ := id hs
  have x1 : Ext W (W.alloc (.cells #[.int .i64 n, .slice a F.length c] 25)) := Ext.new _ _
  have hb0 := boxed W #[.int .i64 n, .slice a F.length c] 25 0 _ rfl
  have hb1 := boxed W #[.int .i64 n, .slice a F.length c] 25 1 _ rfl
  have no : ¬ (0 ≤ n ∧ n ≤ 400 ∧ F.length ≤ 1600) → fOk n F = false := fun h => by unfold fOk; rw [decide_eq_false h]; rfl
  refine ret_of_vc ties mixed Try.func34 rfl (by kernel_rfl) rfl rfl ?_
  refine ⟨_, hb0, ?_⟩
  refine Or.inl ((l01In_ret _ _ _ _).mono ?_)
  rintro _ _ ⟨rfl, rfl⟩
  refine br_not (fun h2 => ?_) (fun h2 => ?_)
  · have := of_decide_eq_false h2
    exact ⟨vbool (no (by omega)).symm, x1⟩
  have h2 := of_decide_eq_true h2
  refine ⟨_, hb1, ?_⟩
  refine br_dec (fun h4 => ?_) (fun h4 => ?_)
  · exact ⟨vbool (no (by omega)).symm, x1⟩
  have hin : 0 ≤ n ∧ n ≤ 400 ∧ F.length ≤ 1600 := by omega
  have yes : fOk n F = F.all (clOk n) := by unfold fOk; rw [decide_eq_true hin]; rfl
  refine ⟨_, hb1, ?_⟩
  refine loop_rule (σ := Nat × Value) [4, 18] 19 28 (fun q => [q.2, .int .i64 q.1])
    (fun q w' => Ext (W.alloc (.cells #[.int .i64 n, .slice a F.length c] 25)) w' ∧ q.1 ≤ F.length ∧ (F.take q.1).all (clOk n) = true) (fun q => F.length - q.1) (0, undef) rfl ⟨Ext.refl _, Nat.zero_le _, rfl⟩ ?_
  rintro ⟨k, jv⟩ w junk ⟨hx, hk, hall⟩ K hK
  simp only at hk hall
  refine br_dec (fun h3 => ?_) (fun h3 => ?_)
  · have hkl : k < F.length := by omega
    obtain ⟨b, o, c1, cs, he, _, hc, s', rfl, hs'⟩ := hs.at hkl
    cases he
    refine ⟨⟨by omega, by omega⟩, s', (hc.ext (x1.trans hx)).1, _, hx.cell hb0, ?_⟩
    refine Or.inl ((spec_l03Clause _ s' n w (hs'.ext (x1.trans hx)) hin.1 hin.2.1).mono ?_)
    rintro _ w4 ⟨rfl, hx4'⟩; have hx4 : Ext w w4 := by cases hx4'; exact Ext.refl _
    refine br_not (fun h4 => ?_) (fun h4 => ?_)
    · exact ⟨vbool (by rw [yes]; exact (all_no hkl h4).symm), (x1.trans hx).trans hx4⟩
    · refine ⟨_, IntWalk.i64_in _ (by omega), ?_⟩
      refine hK (k + 1, _) _ _ (vs2 rfl (vint (by show (k : Int) + 1 = ((k + 1 : Nat) : Int); omega))) ⟨hx.trans hx4, by show k + 1 ≤ _; omega, all_step hkl hall h4⟩ (by show F.length - (k + 1) < F.length - k; omega) ?_
      ((repeat (first | (with_reducible exact Only.refl) | (with_reducible refine Only.skip ?_) | ((with_reducible refine Only.upd ?_ ?_); rfl) | ((with_reducible refine Only.over ?_ ?_ _); rfl) | ((with_reducible refine Only.hav ?_ ?_ ?_); rfl; rfl))))
  · have : k = F.length := by omega
    subst this
    rw [List.take_length] at hall
    exact ⟨vbool (by rw [yes]; exact hall.symm), x1.trans hx⟩

end Go.Proofs.Ytfmflffggcphjaa
