/- Contracts of ResultWidth, CutWord, JoinWords, WidenWord, ApplyUnary; for all arguments of their kinds. (OPTIONAL) -/
import Derived.Test.YtekddgkgeaolnaaWa
namespace Go.Proofs.Ytekddgkgeaolnaa
open Go Go.Vc Go.RowKit

theorem shl_in {a n : Int} (h0 : 0 ≤ n) (h1 : n ≤ 16) (ha : 0 ≤ a) (hb : a ≤ 65536) : IntKind.i64.wrap (a * 2 ^ min n.toNat IntKind.i64.bits) = a * 2 ^ n.toNat := by
  have hm : min n.toNat IntKind.i64.bits = n.toNat := by show min n.toNat 64 = _; omega
  have hp := pow16 h0 h1
  rw [hm]
  have h2 : a * 2 ^ n.toNat ≤ 65536 * 65536 := Int.mul_le_mul hb hp.2 (by omega) (by omega)
  have h3 : 0 ≤ a * 2 ^ n.toNat := Int.mul_nonneg ha (by omega)
  exact IntWalk.i64_in _ (by omega)

theorem cW_no {w a low n : Int} (h : ¬ (wOk w a = true ∧ (0 ≤ low ∧ 1 ≤ n ∧ n ≤ w - low))) : cW w a low n = -1 := by
  rw [cW, if_neg]
  simpa only [Bool.and_eq_true, decide_eq_true_eq] using h

theorem cW_yes {w a low n : Int} (h : wOk w a = true) (h' : 0 ≤ low ∧ 1 ≤ n ∧ n ≤ w - low) : cW w a low n = bitsI .and .i64 (a / 2 ^ low.toNat) (2 ^ n.toNat - 1) := by
  rw [cW, if_pos]
  simpa only [Bool.and_eq_true, decide_eq_true_eq] using ⟨h, h'⟩

theorem impl_CutWord (w a low n : Int) (hl : -9223372036854775808 ≤ low ∧ low ≤ 9223372036854775807) (W : World) : Ret Try.prog 67 #[.int .i64 w, .int .i64 a, .int .i64 low, .int .i64 n] W (fun v w' => v = .int .i64 (cW w a low n) ∧ w' = W) := by
  refine ret_of_vc ties mixed Try.func67 rfl (by kernel_rfl) rfl rfl ?_
  refine Or.inl ((impl_WordOk _ _ _).mono ?_)
  rintro _ _ ⟨rfl, rfl⟩
  refine br_not (fun h => ?_) (fun h => ?_)
  · exact ⟨vint (by rw [cW_no]; simp [h]), rfl⟩
  · have h' := wOk_iff.1 h
    refine br_dec (fun h1 => ?_) (fun h1 => ?_)
    · exact ⟨vint (by rw [cW_no]; omega), rfl⟩
    · refine br_dec (fun h2 => ?_) (fun h2 => ?_)
      · exact ⟨vint (by rw [cW_no]; omega), rfl⟩
      · refine ⟨_, IntWalk.i64_in _ (by omega), ?_⟩
        refine br_dec (fun h3 => ?_) (fun h3 => ?_)
        · exact ⟨vint (by rw [cW_no]; omega), rfl⟩
        · have hp := pow16 (by omega : 0 ≤ n) (by omega)
          refine ⟨_, IntWalk.u64_in _ (by omega), by omega, _, shr_eq h'.2.2.1 (by omega) (by omega), _, IntWalk.u64_in _ (by omega), by omega, _, shl1 (by omega) (by omega), _, IntWalk.i64_in _ (by omega), _, rfl, ?_⟩
          exact ⟨vint (by rw [cW_yes h (by omega)]), rfl⟩

theorem spec_CutWord (w a low n : Int) (hl : -9223372036854775808 ≤ low ∧ low ≤ 9223372036854775807) (W : World) : Ret Try.prog 99 #[.int .i64 w, .int .i64 a, .int .i64 low, .int .i64 n] W (fun v w' => v = .int .i64 (cW w a low n) ∧ w' = W) := by
  refine ret_of_vc ties mixed Try.func99 rfl (by kernel_rfl) rfl rfl ?_
  refine Or.inl ((spec_WordOk _ _ _).mono ?_)
  rintro _ _ ⟨rfl, rfl⟩
  refine br_not (fun h => ?_) (fun h => ?_)
  · exact ⟨vint (by rw [cW_no]; simp [h]), rfl⟩
  · have h' := wOk_iff.1 h
    refine br_dec (fun h1 => ?_) (fun h1 => ?_)
    · exact ⟨vint (by rw [cW_no]; omega), rfl⟩
    · refine br_dec (fun h2 => ?_) (fun h2 => ?_)
      · exact ⟨vint (by rw [cW_no]; omega), rfl⟩
      · refine br_dec (fun h3 => ?_) (fun h3 => ?_)
        · exact ⟨vint (by rw [cW_no]; omega), rfl⟩
        · refine ⟨_, IntWalk.i64_in _ (by omega), ?_⟩
          refine br_dec (fun h4 => ?_) (fun h4 => ?_)
          · exact ⟨vint (by rw [cW_no]; omega), rfl⟩
          · refine ⟨by omega, _, shr_eq h'.2.2.1 (by omega) (by omega), ?_⟩
            refine Or.inl ((spec_WordOf _ _ _).mono ?_)
            rintro _ _ ⟨rfl, rfl⟩
            exact ⟨vint (by rw [cW_yes h (by omega), wOf, if_pos (inR_iff.2 (by omega))]), rfl⟩

theorem jW_no {w a v b : Int} (h : ¬ (wOk w a = true ∧ wOk v b = true ∧ w + v ≤ 16)) : jW w a v b = -1 := by
  rw [jW, if_neg]
  simpa only [Bool.and_eq_true, decide_eq_true_eq, and_assoc] using h

theorem jW_yes {w a v b : Int} (h : wOk w a = true) (h' : wOk v b = true) (h2 : w + v ≤ 16) : jW w a v b = a * 2 ^ v.toNat + b := by
  rw [jW, if_pos]
  simpa only [Bool.and_eq_true, decide_eq_true_eq, and_assoc] using ⟨h, h', h2⟩

theorem impl_JoinWords (w a v b : Int) (W : World) : Ret Try.prog 69 #[.int .i64 w, .int .i64 a, .int .i64 v, .int .i64 b] W (fun x w' => x = .int .i64 (jW w a v b) ∧ w' = W) := by
  refine ret_of_vc ties mixed Try.func69 rfl (by kernel_rfl) rfl rfl ?_
  refine Or.inl ((impl_WordOk _ _ _).mono ?_)
  rintro _ _ ⟨rfl, rfl⟩
  refine br_not (fun h => ?_) (fun h => ?_)
  · exact ⟨vint (by rw [jW_no]; simp [h]), rfl⟩
  · have h' := wOk_iff.1 h
    refine Or.inl ((impl_WordOk _ _ _).mono ?_)
    rintro _ _ ⟨rfl, rfl⟩
    refine br_not (fun h1 => ?_) (fun h1 => ?_)
    · exact ⟨vint (by rw [jW_no]; simp [h1]), rfl⟩
    · have h1' := wOk_iff.1 h1
      refine ⟨_, IntWalk.i64_in _ (by omega), ?_⟩
      refine br_dec (fun h2 => ?_) (fun h2 => ?_)
      · exact ⟨vint (by rw [jW_no]; omega), rfl⟩
      · have hp := pow16 (by omega : 0 ≤ w) (by omega)
        have hq := pow16 (by omega : 0 ≤ v) (by omega)
        have h5 : a * 2 ^ v.toNat ≤ 65536 * 65536 := Int.mul_le_mul (by omega) hq.2 (by omega) (by omega)
        have h6 : 0 ≤ a * 2 ^ v.toNat := Int.mul_nonneg (by omega) (by omega)
        refine ⟨_, IntWalk.u64_in _ (by omega), by omega, _, shl_in (by omega) (by omega) (by omega) (by omega), _, IntWalk.i64_in _ (by omega), ?_⟩
        exact ⟨vint (by rw [jW_yes h h1 (by omega)]), rfl⟩

theorem spec_JoinWords (w a v b : Int) (W : World) : Ret Try.prog 98 #[.int .i64 w, .int .i64 a, .int .i64 v, .int .i64 b] W (fun x w' => x = .int .i64 (jW w a v b) ∧ w' = W) := by
  refine ret_of_vc ties mixed Try.func98 rfl (by kernel_rfl) rfl rfl ?_
  refine Or.inl ((spec_WordOk _ _ _).mono ?_)
  rintro _ _ ⟨rfl, rfl⟩
  refine br_not (fun h => ?_) (fun h => ?_)
  · exact ⟨vint (by rw [jW_no]; simp [h]), rfl⟩
  · have h' := wOk_iff.1 h
    refine Or.inl ((spec_WordOk _ _ _).mono ?_)
    rintro _ _ ⟨rfl, rfl⟩
    refine br_not (fun h1 => ?_) (fun h1 => ?_)
    · exact ⟨vint (by rw [jW_no]; simp [h1]), rfl⟩
    · have h1' := wOk_iff.1 h1
      refine ⟨_, IntWalk.i64_in _ (by omega), ?_⟩
      refine br_dec (fun h2 => ?_) (fun h2 => ?_)
      · exact ⟨vint (by rw [jW_no]; omega), rfl⟩
      · have hp := pow16 (by omega : 0 ≤ w) (by omega)
        have hq := pow16 (by omega : 0 ≤ v) (by omega)
        have h5 : a * 2 ^ v.toNat ≤ 65536 * 65536 := Int.mul_le_mul (by omega) hq.2 (by omega) (by omega)
        have h6 : 0 ≤ a * 2 ^ v.toNat := Int.mul_nonneg (by omega) (by omega)
        refine ⟨by omega, _, shl_in (by omega) (by omega) (by omega) (by omega), _, IntWalk.i64_in _ (by omega), ?_⟩
        exact ⟨vint (by rw [jW_yes h h1 (by omega)]), rfl⟩

theorem wiW_no {w a n : Int} {s : Bool} (h : ¬ (wOk w a = true ∧ w ≤ n ∧ n ≤ 16)) : wiW w a n s = -1 := by
  rw [wiW, if_neg]
  simpa only [Bool.and_eq_true, decide_eq_true_eq] using h

theorem wiW_yes {w a n : Int} {s : Bool} (h : wOk w a = true) (h' : w ≤ n ∧ n ≤ 16) : wiW w a n s = if s then wOf n (sOf w a) else a := by
  rw [wiW, if_pos]
  simpa only [Bool.and_eq_true, decide_eq_true_eq] using ⟨h, h'⟩

theorem impl_WidenWord (w a n : Int) (s : Bool) (W : World) : Ret Try.prog 68 #[.int .i64 w, .int .i64 a, .int .i64 n, .bool s] W (fun x w' => x = .int .i64 (wiW w a n s) ∧ w' = W) := by
  refine ret_of_vc ties mixed Try.func68 rfl (by kernel_rfl) rfl rfl ?_
  refine Or.inl ((impl_WordOk _ _ _).mono ?_)
  rintro _ _ ⟨rfl, rfl⟩
  refine br_not (fun h => ?_) (fun h => ?_)
  · exact ⟨vint (by rw [wiW_no]; simp [h]), rfl⟩
  · have h' := wOk_iff.1 h
    refine Or.inl ((isWidth_ret _ _).mono ?_)
    rintro _ _ ⟨rfl, rfl⟩
    refine br_not (fun h1 => ?_) (fun h1 => ?_)
    · rw [inR_not] at h1
      exact ⟨vint (by rw [wiW_no]; omega), rfl⟩
    · rw [inR_iff] at h1
      refine br_dec (fun h2 => ?_) (fun h2 => ?_)
      · exact ⟨vint (by rw [wiW_no]; omega), rfl⟩
      · refine br_split (fun h3 => ?_) (fun h3 => ?_)
        · refine Or.inl ((impl_SignedOf _ _ _).mono ?_)
          rintro _ _ ⟨rfl, rfl⟩
          refine Or.inl ((impl_WordOf _ _ _).mono ?_)
          rintro _ _ ⟨rfl, rfl⟩
          exact ⟨vint (by rw [wiW_yes h (by omega), if_pos h3]), rfl⟩
        · exact ⟨vint (by rw [wiW_yes h (by omega), h3]; rfl), rfl⟩

theorem spec_WidenWord (w a n : Int) (s : Bool) (W : World) : Ret Try.prog 100 #[.int .i64 w, .int .i64 a, .int .i64 n, .bool s] W (fun x w' => x = .int .i64 (wiW w a n s) ∧ w' = W) := by
  refine ret_of_vc ties mixed Try.func100 rfl (by kernel_rfl) rfl rfl ?_
  refine Or.inl ((spec_WordOk _ _ _).mono ?_)
  rintro _ _ ⟨rfl, rfl⟩
  refine br_not (fun h => ?_) (fun h => ?_)
  · exact ⟨vint (by rw [wiW_no]; simp [h]), rfl⟩
  · have h' := wOk_iff.1 h
    refine br_dec (fun h1 => ?_) (fun h1 => ?_)
    · exact ⟨vint (by rw [wiW_no]; omega), rfl⟩
    · refine br_dec (fun h2 => ?_) (fun h2 => ?_)
      · exact ⟨vint (by rw [wiW_no]; omega), rfl⟩
      · refine br_split (fun h3 => ?_) (fun h3 => ?_)
        · refine Or.inl ((spec_SignedOf _ _ _).mono ?_)
          rintro _ _ ⟨rfl, rfl⟩
          refine Or.inl ((spec_WordOf _ _ _).mono ?_)
          rintro _ _ ⟨rfl, rfl⟩
          exact ⟨vint (by rw [wiW_yes h (by omega), if_pos h3]), rfl⟩
        · exact ⟨vint (by rw [wiW_yes h (by omega), h3]; rfl), rfl⟩

theorem impl_ApplyUnary (op w a : Int) (W : World) : Ret Try.prog 66 #[.int .i64 op, .int .i64 w, .int .i64 a] W (fun x w' => x = .int .i64 (uW op w a) ∧ w' = W) := by
  refine ret_of_vc ties mixed Try.func66 rfl (by kernel_rfl) rfl rfl ?_
  refine Or.inl ((impl_WordOk _ _ _).mono ?_)
  rintro _ _ ⟨rfl, rfl⟩
  refine br_not (fun h => ?_) (fun h => ?_)
  · exact ⟨vint (by simp [uW, h]), rfl⟩
  · have h' := wOk_iff.1 h
    have hp := pow16 (by omega : 0 ≤ w) (by omega)
    refine br_dec (fun h1 => ?_) (fun h1 => ?_)
    · refine ⟨_, IntWalk.u64_in _ (by omega), by omega, _, shl1 (by omega) (by omega), _, IntWalk.i64_in _ (by omega), _, IntWalk.i64_in _ (by omega), ?_⟩
      exact ⟨vint (by simp [uW, h, h1]), rfl⟩
    · refine br_dec (fun h2 => ?_) (fun h2 => ?_)
      · refine ⟨_, IntWalk.i64_in _ (by omega), ?_⟩
        refine Or.inl ((impl_WordOf _ _ _).mono ?_)
        rintro _ _ ⟨rfl, rfl⟩
        exact ⟨vint (by simp [uW, h, h2]), rfl⟩
      · exact ⟨vint (by simp [uW, h1, h2]), rfl⟩

theorem spec_ApplyUnary (op w a : Int) (W : World) : Ret Try.prog 96 #[.int .i64 op, .int .i64 w, .int .i64 a] W (fun x w' => x = .int .i64 (uW op w a) ∧ w' = W) := by
  refine ret_of_vc ties mixed Try.func96 rfl (by kernel_rfl) rfl rfl ?_
  refine Or.inl ((spec_WordOk _ _ _).mono ?_)
  rintro _ _ ⟨rfl, rfl⟩
  refine br_not (fun h => ?_) (fun h => ?_)
  · exact ⟨vint (by simp [uW, h]), rfl⟩
  · have h' := wOk_iff.1 h
    have hp := pow16 (by omega : 0 ≤ w) (by omega)
    refine br_dec (fun h1 => ?_) (fun h1 => ?_)
    · refine ⟨by omega, _, shl1 (by omega) (by omega), _, IntWalk.i64_in _ (by omega), _, IntWalk.i64_in _ (by omega), ?_⟩
      exact ⟨vint (by simp [uW, h, h1]), rfl⟩
    · refine br_dec (fun h2 => ?_) (fun h2 => ?_)
      · refine ⟨_, IntWalk.i64_in _ (by omega), ?_⟩
        refine Or.inl ((spec_WordOf _ _ _).mono ?_)
        rintro _ _ ⟨rfl, rfl⟩
        exact ⟨vint (by simp [uW, h, h2]), rfl⟩
      · exact ⟨vint (by simp [uW, h1, h2]), rfl⟩

end Go.Proofs.Ytekddgkgeaolnaa
