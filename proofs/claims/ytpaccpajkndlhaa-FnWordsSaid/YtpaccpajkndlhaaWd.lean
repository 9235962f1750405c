/- Contracts of IsName; for all strings that are no longer than an int can say. (OPTIONAL: a theorem on a function that the seat lacks is dropped.) -/
import Derived.Test.YtpaccpajkndlhaaWa
namespace Go.Proofs.Ytpaccpajkndlhaa
open Go Go.Vc Go.RowKit

/-! names -/
def okAt (i : Nat) (c : UInt8) : Prop := (97 ≤ (c.toNat : Int) ∧ (c.toNat : Int) ≤ 122) ∨ (0 < i ∧ 48 ≤ (c.toNat : Int) ∧ (c.toNat : Int) ≤ 57)
instance (i : Nat) (c : UInt8) : Decidable (okAt i c) := by unfold okAt; infer_instance
def isNm (s : ByteArray) : Bool := decide (1 ≤ s.size ∧ s.size ≤ 8 ∧ ∀ i, (h : i < s.size) → okAt i (s[i]'h))

theorem isNm_no {s : ByteArray} {i : Nat} (h : i < s.size) (hn : ¬ okAt i (s[i]'h)) : isNm s = false := by
  simp only [isNm, decide_eq_false_iff_not]
  exact fun e => hn (e.2.2 i h)

theorem isNm_len {s : ByteArray} (h : ¬ (1 ≤ s.size ∧ s.size ≤ 8)) : isNm s = false := by
  simp only [isNm, decide_eq_false_iff_not]
  exact fun e => h ⟨e.1, e.2.1⟩

theorem isNm_all {s : ByteArray} (h : ∀ i, (h : i < s.size) → okAt i (s[i]'h)) : isNm s = decide (1 ≤ s.size ∧ s.size ≤ 8) := by
  simp only [isNm, decide_eq_decide]
  exact ⟨fun e => ⟨e.1, e.2.1⟩, fun e => ⟨e.1, e.2, h⟩⟩

theorem impl_IsName (s : ByteArray) (hs : s.size ≤ 9223372036854775807) (W : World) : Ret Try.prog 46 #[.string s] W (fun v w' => v = .bool (isNm s) ∧ w' = W) := by
  refine ret_of_vc ties mixed Try.func46 rfl (by kernel_rfl) rfl rfl ?_
  refine br_dec (fun h => ?_) (fun h => ?_)
  · exact ⟨vbool (isNm_len (by omega)).symm, rfl⟩
  · refine br_dec (fun h1 => ?_) (fun h1 => ?_)
    · exact ⟨vbool (isNm_len (by omega)).symm, rfl⟩
    · refine loop_rule (σ := Nat × Value × Value) [3, 4, 5] 14 50 (fun k => [.int .i64 k.1, k.2.1, k.2.2]) (fun k w' => k.1 ≤ s.size ∧ (∀ i, i < k.1 → (h : i < s.size) → okAt i (s[i]'h)) ∧ w' = W) (fun k => s.size - k.1) (0, undef, undef) rfl ⟨Nat.zero_le _, (fun i hi => absurd hi (Nat.not_lt_zero i)), rfl⟩ ?_
      rintro ⟨k, x, y⟩ w junk ⟨hk, hall, rfl⟩ K hK
      simp only at hk hall
      refine br_dec (fun h2 => ?_) (fun h2 => ?_)
      · have hk' : k < s.size := by omega
        have next : okAt k (s[k]'hk') → ∀ (x y : Value) (ρ' : Fr), evs ρ' [3, 4, 5] = [.int .i64 ((k : Int) + 1), x, y] → Only [3, 4, 5] 14 50 _ ρ' → K ρ' w := fun hok x y ρ' he ho => by
          refine hK (k + 1, x, y) ρ' w ?_ ⟨hk', ?_, rfl⟩ (by show s.size - (k + 1) < s.size - k; omega) ho
          · rw [he]; exact vs3 (vint (by show (k : Int) + 1 = ((k + 1 : Nat) : Int); omega)) rfl rfl
          · intro i hi h
            by_cases e : i = k
            · subst e; exact hok
            · exact hall i (by show i < k; have : i < k + 1 := hi; omega) h
        have stop : ¬ okAt k (s[k]'hk') → isNm s = false := fun hno => isNm_no hk' hno
        repeat' (first | refine br_dec (fun _ => ?_) (fun _ => ?_) | refine br_ndec (fun _ => ?_) (fun _ => ?_) | (refine ix ?_ ?_; (constructor <;> omega)))
        all_goals (try simp only [Int.toNat_natCast] at *)
        all_goals (first
          | exact ⟨vbool (stop (by unfold okAt; omega)).symm, rfl⟩
          | (refine ⟨_, IntWalk.i64_in _ (by omega), next (by unfold okAt; omega) _ _ _ rfl ?_⟩; ((repeat (first | (with_reducible exact Only.refl) | (with_reducible refine Only.skip ?_) | ((with_reducible refine Only.upd ?_ ?_); rfl) | ((with_reducible refine Only.over ?_ ?_ _); rfl) | ((with_reducible refine Only.hav ?_ ?_ ?_); rfl; rfl))))))
      · refine ⟨vbool ?_, rfl⟩
        have e : k = s.size := by omega
        subst e
        rw [isNm_all (fun i h => hall i h h)]
        exact (decide_eq_true ⟨by omega, by omega⟩).symm

theorem spec_IsName (s : ByteArray) (hs : s.size ≤ 9223372036854775807) (W : World) : Ret Try.prog 43 #[.string s] W (fun v w' => v = .bool (isNm s) ∧ w' = W) := by
  refine ret_of_vc ties mixed Try.func43 rfl (by kernel_rfl) rfl rfl ?_
  refine loop_rule (σ := Nat × Value) [3, 4] 5 33 (fun k => [.int .i64 k.1, k.2]) (fun k w' => k.1 ≤ s.size ∧ (∀ i, i < k.1 → (h : i < s.size) → okAt i (s[i]'h)) ∧ w' = W) (fun k => s.size - k.1) (0, undef) rfl ⟨Nat.zero_le _, (fun i hi => absurd hi (Nat.not_lt_zero i)), rfl⟩ ?_
  rintro ⟨k, x⟩ w junk ⟨hk, hall, rfl⟩ K hK
  simp only at hk hall
  refine br_dec (fun h2 => ?_) (fun h2 => ?_)
  · have hk' : k < s.size := by omega
    have next : okAt k (s[k]'hk') → ∀ (x : Value) (ρ' : Fr), evs ρ' [3, 4] = [.int .i64 ((k : Int) + 1), x] → Only [3, 4] 5 33 _ ρ' → K ρ' w := fun hok x ρ' he ho => by
      refine hK (k + 1, x) ρ' w ?_ ⟨hk', ?_, rfl⟩ (by show s.size - (k + 1) < s.size - k; omega) ho
      · rw [he]; exact vs2 (vint (by show (k : Int) + 1 = ((k + 1 : Nat) : Int); omega)) rfl
      · intro i hi h
        by_cases e : i = k
        · subst e; exact hok
        · exact hall i (by show i < k; have : i < k + 1 := hi; omega) h
    have stop : ¬ okAt k (s[k]'hk') → isNm s = false := fun hno => isNm_no hk' hno
    have hc := UInt8.toNat_lt (s[k]'hk')
    refine ⟨⟨by omega, by omega⟩, _, IntWalk.i64_in _ (by simp; omega), ?_⟩
    refine Or.inl ((l01In_ret _ _ _ _).mono ?_)
    rintro _ _ ⟨rfl, rfl⟩
    refine br_not (fun h3 => ?_) (fun h3 => ?_)
    · rw [inR_not] at h3
      refine br_dec (fun h4 => ?_) (fun h4 => ?_)
      · exact ⟨vbool (stop (by unfold okAt; simp at h3 ⊢; omega)).symm, rfl⟩
      · refine ⟨⟨by omega, by omega⟩, _, IntWalk.i64_in _ (by simp; omega), ?_⟩
        refine Or.inl ((l01In_ret _ _ _ _).mono ?_)
        rintro _ _ ⟨rfl, rfl⟩
        refine br_not (fun h5 => ?_) (fun h5 => ?_)
        · rw [inR_not] at h5
          exact ⟨vbool (stop (by unfold okAt; simp at h3 h5 ⊢; omega)).symm, rfl⟩
        · rw [inR_iff] at h5
          refine ⟨_, IntWalk.i64_in _ (by omega), next (by unfold okAt; simp at h3 h5 ⊢; omega) _ _ rfl ?_⟩
          ((repeat (first | (with_reducible exact Only.refl) | (with_reducible refine Only.skip ?_) | ((with_reducible refine Only.upd ?_ ?_); rfl) | ((with_reducible refine Only.over ?_ ?_ _); rfl) | ((with_reducible refine Only.hav ?_ ?_ ?_); rfl; rfl))))
    · rw [inR_iff] at h3
      refine ⟨_, IntWalk.i64_in _ (by omega), next (by unfold okAt; simp at h3 ⊢; omega) _ _ rfl ?_⟩
      ((repeat (first | (with_reducible exact Only.refl) | (with_reducible refine Only.skip ?_) | ((with_reducible refine Only.upd ?_ ?_); rfl) | ((with_reducible refine Only.over ?_ ?_ _); rfl) | ((with_reducible refine Only.hav ?_ ?_ ?_); rfl; rfl))))
  · have e : k = s.size := by omega
    subst e
    refine Or.inl ((l01In_ret _ _ _ _).mono ?_)
    rintro _ _ ⟨rfl, rfl⟩
    refine ⟨vbool ?_, rfl⟩
    rw [isNm_all (fun i h => hall i h h)]
    exact beq_of_iff (by rw [inR_iff, decide_eq_true_eq]; omega)

end Go.Proofs.Ytpaccpajkndlhaa
