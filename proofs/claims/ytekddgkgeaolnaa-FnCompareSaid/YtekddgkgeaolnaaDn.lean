/- Numerals, plainly: what is written is read again. No program in sight. -/
import Derived.Lib.ItoaMem
import Derived.Lib.ItoaLen
import Derived.Lib.AtoiAll
import Derived.Lib.AtoiAllCases
import Derived.Test.YtekddgkgeaolnaaFa
namespace Go.Vc
open Go

def itoaS (n : Int) : ByteArray := ⟨(Lib.itoa n).toArray⟩
def isDig (c : UInt8) : Prop := 48 ≤ c.toNat ∧ c.toNat ≤ 57
/-- What digits spell behind others. -/
def digV (acc : Nat) : List UInt8 → Nat
  | [] => acc
  | c :: r => digV (acc * 10 + (c.toNat - 48)) r
theorem digV_app (l k : List UInt8) : ∀ acc, digV acc (l ++ k) = digV (digV acc l) k := by
  induction l with
  | nil => intro acc; exact rfl
  | cons c l ih => intro acc; exact ih (acc * 10 + (c.toNat - 48))
theorem digV_ge (l : List UInt8) : ∀ acc, acc ≤ digV acc l := by
  induction l with
  | nil => intro acc; exact Nat.le_refl _
  | cons c l ih => intro acc; exact Nat.le_trans (Nat.le_trans (Nat.le_mul_of_pos_right acc (by decide)) (Nat.le_add_right _ _)) (ih (acc * 10 + (c.toNat - 48)))
theorem dd_one {k : Nat} (h : k < 10) : Lib.decDigits k = [UInt8.ofNat (48 + k)] := by
  unfold Lib.decDigits
  rw [dif_pos h]
theorem dd_step {k : Nat} (h : ¬ k < 10) : Lib.decDigits k = Lib.decDigits (k / 10) ++ [UInt8.ofNat (48 + k % 10)] := by
  conv => lhs; unfold Lib.decDigits
  rw [dif_neg h]
theorem dig_nat {d : Nat} (h : d < 10) : (UInt8.ofNat (48 + d)).toNat = 48 + d := by
  rw [UInt8.toNat_ofNat']
  omega
theorem dd_all : ∀ (n k : Nat), k < n → digV 0 (Lib.decDigits k) = k ∧ (∀ c ∈ Lib.decDigits k, isDig c) ∧ Lib.decDigits k ≠ [] := by
  intro n
  induction n with
  | zero => intro k h; omega
  | succ n ih =>
    intro k h
    by_cases hk : k < 10
    · rw [dd_one hk]
      refine ⟨?_, ?_, by simp⟩
      · show 0 * 10 + ((UInt8.ofNat (48 + k)).toNat - 48) = k
        rw [dig_nat hk]; omega
      intro c hc
      simp only [List.mem_singleton] at hc
      subst hc
      simp only [isDig, dig_nat hk]; omega
    · obtain ⟨h1, h2, h3⟩ := ih (k / 10) (by omega)
      have hd : k % 10 < 10 := by omega
      rw [dd_step hk]
      refine ⟨?_, ?_, by simp⟩
      · rw [digV_app, h1]
        show k / 10 * 10 + ((UInt8.ofNat (48 + k % 10)).toNat - 48) = k
        rw [dig_nat hd]; omega
      · intro c hc
        rw [List.mem_append, List.mem_singleton] at hc
        rcases hc with hc | hc
        · exact h2 c hc
        · subst hc; simp only [isDig, dig_nat hd]; omega
theorem dd_val (k : Nat) : digV 0 (Lib.decDigits k) = k := (dd_all (k + 1) k (by omega)).1
theorem dd_dig (k : Nat) : ∀ c ∈ Lib.decDigits k, isDig c := (dd_all (k + 1) k (by omega)).2.1
theorem dd_ne (k : Nat) : Lib.decDigits k ≠ [] := (dd_all (k + 1) k (by omega)).2.2
theorem dd_len : ∀ (m k : Nat), k < 10 ^ m → 1 ≤ m → (Lib.decDigits k).length ≤ m := by
  intro m
  induction m with
  | zero => intro k _ h; omega
  | succ m ih =>
    intro k h _
    by_cases hk : k < 10
    · rw [dd_one hk]; simp
    · rw [dd_step hk, List.length_append, List.length_singleton]
      have hm : 1 ≤ m := by
        rcases m with _ | m
        · simp at h; omega
        · omega
      have := ih (k / 10) (by rw [Nat.pow_succ] at h; omega) hm
      omega
theorem parse_digits : ∀ (l : List UInt8) (acc : Nat), (∀ c ∈ l, isDig c) → digV acc l < 18446744073709551616 → Lib.parseUint10 acc l = .ok (digV acc l) := by
  intro l
  induction l with
  | nil => intro acc _ _; rfl
  | cons c l ih =>
    intro acc hd hv
    have hc : isDig c := hd c (by simp)
    have hge := digV_ge l (acc * 10 + (c.toNat - 48))
    replace hv : digV (acc * 10 + (c.toNat - 48)) l < 18446744073709551616 := hv
    show Lib.parseUint10 acc (c :: l) = .ok (digV (acc * 10 + (c.toNat - 48)) l)
    unfold Lib.parseUint10
    rw [if_pos (show 48 ≤ c.toNat ∧ c.toNat ≤ 57 from hc), if_neg (by omega), if_neg (by omega)]
    exact ih _ (fun x hx => hd x (by simp [hx])) hv
theorem parse_mag {k : Nat} (h : k < 18446744073709551616) : Lib.parseMag (Lib.decDigits k) = .ok k := by
  unfold Lib.parseMag
  rw [if_neg (dd_ne k), parse_digits _ _ (dd_dig k) (by rw [dd_val]; exact h), dd_val]
theorem dd_cons (k : Nat) : ∃ c r, Lib.decDigits k = c :: r ∧ isDig c := by
  cases h : Lib.decDigits k with
  | nil => exact absurd h (dd_ne k)
  | cons c r => exact ⟨c, r, rfl, dd_dig k c (by rw [h]; simp)⟩
theorem atoi_itoa {n : Int} (h0 : -9223372036854775808 ≤ n) (h1 : n ≤ 9223372036854775807) : Lib.atoiAll (Lib.itoa n) = .ok n := by
  by_cases hn : n < 0
  · obtain ⟨u, rfl⟩ : ∃ u : Nat, n = -(u : Int) := ⟨n.natAbs, by omega⟩
    rw [Lib.itoa_neg u (by omega), Lib.atoiAll_minus, parse_mag (by omega)]
    simp only [Lib.signed]
    rw [if_neg (by omega)]
  · obtain ⟨u, rfl⟩ : ∃ u : Nat, n = (u : Int) := ⟨n.toNat, by omega⟩
    obtain ⟨c, r, hc, hd⟩ := dd_cons u
    have hm := parse_mag (k := u) (by omega)
    rw [Lib.itoa_nonneg, hc] at *
    unfold isDig at hd
    rw [Lib.atoiAll_plain c r (by omega) (by omega), hm]
    simp only [Lib.signless]
    rw [if_neg (by omega)]
theorem itoaS_list (n : Int) : (itoaS n).data.toList = Lib.itoa n := by simp [itoaS]
theorem itoaS_inj {n m : Int} (h0 : -9223372036854775808 ≤ n ∧ n ≤ 9223372036854775807) (h1 : -9223372036854775808 ≤ m ∧ m ≤ 9223372036854775807) (h : itoaS n = itoaS m) : n = m := by
  have e : Lib.itoa n = Lib.itoa m := by rw [← itoaS_list, ← itoaS_list, h]
  have a := atoi_itoa h0.1 h0.2
  rw [e, atoi_itoa h1.1 h1.2] at a
  cases a
  rfl
/-- A text that is a number as it is written. -/
def Num (s : ByteArray) (n : Int) : Prop := (-9223372036854775808 ≤ n ∧ n ≤ 9223372036854775807) ∧ itoaS n = s
open Classical in
noncomputable def pI (s : ByteArray) : Int × Bool := if h : ∃ n, Num s n then (Classical.choose h, true) else (0, false)
theorem pI_yes {s : ByteArray} {n : Int} (h : Num s n) : pI s = (n, true) := by
  have hx : ∃ n, Num s n := ⟨n, h⟩
  unfold pI
  rw [dif_pos hx]
  have hc := Classical.choose_spec hx
  rw [itoaS_inj hc.1 h.1 (hc.2.trans h.2.symm)]
theorem pI_no {s : ByteArray} (h : ∀ n, ¬ Num s n) : pI s = (0, false) := by
  unfold pI
  rw [dif_neg (fun ⟨n, hn⟩ => h n hn)]
end Go.Vc
