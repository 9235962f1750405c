/- Counts of models, plainly: numbers as models, both ways round. No program in sight. -/
import Derived.Test.YtfmflffggcphjaaTh
namespace Go.Sat
open Go.Vc

theorem bit_is {k i : Nat} (hi : i ≤ 63) (hk : k < 4611686018427387904) : bitAt k i = decide (k / 2 ^ i % 2 = 1) := by
  unfold bitAt
  have e1 : min (Int.toNat (i : Int)) IntKind.i64.bits = i := by
    show min (Int.toNat (i : Int)) 64 = i
    rw [Int.toNat_natCast]; omega
  have e2 : (k : Int).fdiv (2 ^ i) = ((k / 2 ^ i : Nat) : Int) := by
    rw [Int.fdiv_eq_ediv_of_nonneg _ (by exact_mod_cast Nat.zero_le _)]
    push_cast
    rfl
  have hq : k / 2 ^ i < 4611686018427387904 := Nat.lt_of_le_of_lt (Nat.div_le_self _ _) hk
  rw [e1, e2]
  generalize k / 2 ^ i = q at hq
  have e3 : bitsI .and .i64 (q : Int) 1 = ((q % 2 : Nat) : Int) := by
    unfold bitsI
    simp only
    rw [BitVec.toNat_and]
    have a : (BitVec.ofInt IntKind.i64.bits (q : Int)).toNat = q := by
      rw [BitVec.toNat_ofInt]
      show ((q : Int) % ((2 ^ 64 : Nat) : Int)).toNat = q
      omega
    have b : (BitVec.ofInt IntKind.i64.bits 1).toNat = 1 := by decide
    rw [a, b, Nat.and_one_is_mod, IntWalk.i64_in _ (by omega)]
  rw [e3]
  exact decide_eq_decide.2 (by omega)

/-- The first n bits of a number, the greatest first. -/
def rbits : Nat → Nat → List Bool
  | 0, _ => []
  | n + 1, k => decide (k / 2 ^ n % 2 = 1) :: rbits n k
theorem rbits_len : ∀ n k, (rbits n k).length = n
  | 0, _ => rfl
  | n + 1, k => by simp [rbits, rbits_len n k]
theorem rbits_get : ∀ {n k i : Nat}, i < n → (rbits n k)[i]? = some (decide (k / 2 ^ (n - 1 - i) % 2 = 1))
  | n + 1, k, 0, _ => by simp [rbits]
  | n + 1, k, i + 1, h => by
    rw [rbits, List.getElem?_cons_succ, rbits_get (by omega), show n + 1 - 1 - (i + 1) = n - 1 - i by omega]
theorem num_rbits : ∀ n k, num (rbits n k) = k % 2 ^ n
  | 0, k => by simp [rbits, num, Nat.mod_one]
  | n + 1, k => by
    rw [rbits, num, num_rbits n k, rbits_len, Nat.mod_pow_succ]
    have : k / 2 ^ n % 2 = 0 ∨ k / 2 ^ n % 2 = 1 := by omega
    rcases this with h | h <;> simp [h, Nat.add_comm]
theorem num_inj : ∀ {m m' : List Bool}, m.length = m'.length → num m = num m' → m = m'
  | [], [], _, _ => rfl
  | b :: l, b' :: l', hl, h => by
    have hl' : l.length = l'.length := by simpa using hl
    have h1 := num_lt l
    have h2 := num_lt l'
    rw [num, num, hl'] at h
    rw [hl'] at h1
    cases b <;> cases b' <;> simp at h
    · rw [num_inj hl' h]
    · omega
    · omega
    · rw [num_inj hl' h]
  | [], _ :: _, h, _ => by simp at h
  | _ :: _, [], h, _ => by simp at h
theorem rbits_num {m : List Bool} {n : Nat} (h : m.length = n) : rbits n (num m) = m := by
  refine num_inj (by rw [rbits_len, h]) ?_
  rw [num_rbits, Nat.mod_eq_of_lt (h ▸ num_lt m)]
theorem rbits_low {n a k : Nat} (h : n ≤ a) : rbits n (2 ^ a + k) = rbits n k := by
  induction n with
  | zero => rfl
  | succ n ih =>
    rw [rbits, rbits, ih (by omega)]
    have : (2 ^ a + k) / 2 ^ n % 2 = k / 2 ^ n % 2 := by
      have e : 2 ^ a = 2 ^ n * (2 * 2 ^ (a - n - 1)) := by
        rw [← Nat.pow_succ', ← Nat.pow_add]; congr 1; omega
      rw [e, Nat.mul_add_div (Nat.two_pow_pos n)]
      omega
    rw [this]
theorem bitsOf_succ (n k : Nat) : bitsOf (n + 1) k = bitsOf n k ++ [bitAt k n] := by simp [bitsOf, List.range_succ]

/-- Numbers below K. -/
def cntK (Q : Nat → Bool) : Nat → Nat
  | 0 => 0
  | k + 1 => cntK Q k + if Q k then 1 else 0
theorem cntK_le (Q : Nat → Bool) : ∀ k, cntK Q k ≤ k
  | 0 => Nat.le_refl _
  | k + 1 => by have := cntK_le Q k; rw [cntK]; split <;> omega
theorem cntK_add (Q : Nat → Bool) (a : Nat) : ∀ b, cntK Q (a + b) = cntK Q a + cntK (fun k => Q (a + k)) b
  | 0 => rfl
  | b + 1 => by rw [Nat.add_succ, cntK, cntK_add Q a b, cntK, Nat.add_assoc]
theorem cntK_congr {Q R : Nat → Bool} : ∀ {K : Nat}, (∀ k, k < K → Q k = R k) → cntK Q K = cntK R K
  | 0, _ => rfl
  | k + 1, h => by rw [cntK, cntK, cntK_congr fun j hj => h j (by omega), h k (by omega)]
def cntA : Nat → (List Bool → Bool) → Nat
  | 0, P => if P [] then 1 else 0
  | n + 1, P => cntA n (fun l => P (false :: l)) + cntA n (fun l => P (true :: l))
theorem cntA_snoc : ∀ (n : Nat) (P : List Bool → Bool), cntA (n + 1) P = cntA n (fun l => P (l ++ [false])) + cntA n (fun l => P (l ++ [true]))
  | 0, P => rfl
  | n + 1, P => by
    rw [cntA, cntA_snoc n (fun l => P (false :: l)), cntA_snoc n (fun l => P (true :: l))]
    simp only [cntA, List.cons_append]
    omega
theorem cnt_rbits : ∀ (n : Nat) (P : List Bool → Bool), cntK (fun k => P (rbits n k)) (2 ^ n) = cntA n P
  | 0, P => by simp [cntK, cntA, rbits]
  | n + 1, P => by
    rw [Nat.pow_succ, Nat.mul_two, cntK_add, cntA, ← cnt_rbits n, ← cnt_rbits n]
    congr 1
    · refine cntK_congr fun k hk => ?_
      rw [rbits, Nat.div_eq_of_lt hk]; rfl
    · refine cntK_congr fun k hk => ?_
      rw [rbits, rbits_low (Nat.le_refl _), Nat.add_div_left _ (Nat.two_pow_pos n), Nat.div_eq_of_lt hk]; rfl
theorem bitsOf_low {n a k : Nat} (h : n ≤ a) (ha : a ≤ 60) (hk : k < 2 ^ a) : bitsOf n (2 ^ a + k) = bitsOf n k := by
  have hp : 2 ^ a ≤ 2 ^ 60 := Nat.pow_le_pow_right (by decide) ha
  have h60 : (2 : Nat) ^ 60 = 1152921504606846976 := rfl
  rw [h60] at hp
  clear h60
  have hk' : 2 ^ a + k < 4611686018427387904 := by omega
  have hk2 : k < 4611686018427387904 := by omega
  clear hp
  induction n with
  | zero => simp [bitsOf]
  | succ n ih =>
    rw [bitsOf_succ, bitsOf_succ, ih (by omega), bit_is (by omega) hk', bit_is (by omega) hk2]
    have : (2 ^ a + k) / 2 ^ n % 2 = k / 2 ^ n % 2 := by
      have e : 2 ^ a = 2 ^ n * (2 * 2 ^ (a - n - 1)) := by
        rw [← Nat.pow_succ', ← Nat.pow_add]; congr 1; omega
      rw [e, Nat.mul_add_div (Nat.two_pow_pos n)]
      omega
    rw [this]
theorem cnt_bitsOf : ∀ (n : Nat) (P : List Bool → Bool), n ≤ 60 → cntK (fun k => P (bitsOf n k)) (2 ^ n) = cntA n P
  | 0, P, _ => by simp [cntK, cntA, bitsOf]
  | n + 1, P, hn => by
    have hp : 2 ^ n ≤ 2 ^ 60 := Nat.pow_le_pow_right (by decide) (by omega)
    have h60 : (2 : Nat) ^ 60 = 1152921504606846976 := rfl
    rw [h60] at hp
    clear h60
    rw [Nat.pow_succ, Nat.mul_two, cntK_add, cntA_snoc, ← cnt_bitsOf n _ (by omega), ← cnt_bitsOf n _ (by omega)]
    congr 1
    · refine cntK_congr fun k hk => ?_
      rw [bitsOf_succ, bit_is (by omega) (by omega), Nat.div_eq_of_lt hk]; rfl
    · refine cntK_congr fun k hk => ?_
      rw [bitsOf_succ, bitsOf_low (Nat.le_refl _) (by omega) hk, bit_is (by omega) (by omega), Nat.add_div_left _ (Nat.two_pow_pos n), Nat.div_eq_of_lt hk]; rfl
theorem cntF_K (n : Nat) (F : Cnf) : ∀ K, cntF n F K = cntK (fun k => evF F (bitsOf n k)) K
  | 0 => rfl
  | K + 1 => by rw [cntF, cntK, cntF_K n F K]
theorem cntM_A {n : Nat} {F : Cnf} (h : fOk n F = true) (hn : n ≤ 12) : cntM n F = cntA n (evF F) := by
  unfold cntM
  rw [if_pos ⟨h, by omega⟩, Int.toNat_natCast, cntF_K, cnt_bitsOf n (evF F) (by omega)]
theorem cntA_zero : ∀ {n : Nat} {P : List Bool → Bool}, cntA n P = 0 ↔ ∀ m : List Bool, m.length = n → P m = false
  | 0, P => by
    rw [cntA]
    constructor
    · intro h m hm
      rw [List.length_eq_zero_iff.1 hm]
      cases hp : P [] with
      | false => rfl
      | true => simp [hp] at h
    · intro h; rw [h [] rfl]; rfl
  | n + 1, P => by
    rw [cntA, Nat.add_eq_zero_iff, cntA_zero, cntA_zero]
    constructor
    · rintro ⟨h1, h2⟩ m hm
      match m, hm with
      | false :: l, hm => exact h1 l (by simpa using hm)
      | true :: l, hm => exact h2 l (by simpa using hm)
    · exact fun h => ⟨fun l hl => h _ (by simp [hl]), fun l hl => h _ (by simp [hl])⟩
theorem cntA_le : ∀ {n : Nat} {P Q : List Bool → Bool}, (∀ m : List Bool, m.length = n → P m = true → Q m = true) → cntA n P ≤ cntA n Q ∧ (cntA n P = cntA n Q ↔ ∀ m : List Bool, m.length = n → P m = Q m)
  | 0, P, Q, h => by
    have := h [] rfl
    rw [cntA, cntA]
    cases hp : P [] <;> cases hq : Q [] <;> simp [hp, hq] at this ⊢
    all_goals exact fun m hm => by rw [hm, hp, hq]
  | n + 1, P, Q, h => by
    have h1 := cntA_le (n := n) (P := fun l => P (false :: l)) (Q := fun l => Q (false :: l)) fun l hl => h _ (by simp [hl])
    have h2 := cntA_le (n := n) (P := fun l => P (true :: l)) (Q := fun l => Q (true :: l)) fun l hl => h _ (by simp [hl])
    rw [cntA, cntA]
    refine ⟨by omega, fun e => ?_, fun e => ?_⟩
    · have e1 := h1.2.1 (by omega)
      have e2 := h2.2.1 (by omega)
      intro m hm
      match m, hm with
      | false :: l, hm => exact e1 l (by simpa using hm)
      | true :: l, hm => exact e2 l (by simpa using hm)
    · have e1 := h1.2.2 fun l hl => e _ (by simp [hl])
      have e2 := h2.2.2 fun l hl => e _ (by simp [hl])
      omega
theorem cntM_zero {n : Nat} {F : Cnf} (h : fOk n F = true) (hn : n ≤ 12) : cntM n F = 0 ↔ ∀ m : List Bool, m.length = n → evF F m = false := by
  rw [cntM_A h hn, ← cntA_zero]; omega
theorem evF_sub {F G : Cnf} {m : List Bool} (h : ∀ c ∈ F, c ∈ G) (he : evF G m = true) : evF F m = true := evF_iff.2 fun c hc => evF_iff.1 he c (h c hc)
theorem evF_app {F G : Cnf} {m : List Bool} : evF (F ++ G) m = (evF F m && evF G m) := by simp [evF]
theorem cntM_more {n : Nat} {F : Cnf} {c : Cl} (h : fOk n F = true) (h' : fOk n (F ++ [c]) = true) (hn : n ≤ 12) : cntM n (F ++ [c]) = cntM n F ↔ ∀ m : List Bool, m.length = n → evF F m = true → satC m c = true := by
  rw [cntM_A h hn, cntM_A h' hn]
  have := (cntA_le (n := n) (P := evF (F ++ [c])) (Q := evF F) fun m _ => evF_sub fun d hd => List.mem_append_left _ hd).2
  constructor
  · intro e m hm he
    have := this.1 (by omega) m hm
    rw [evF_app, he] at this
    simpa [evF] using this
  · intro e
    have := this.2 fun m hm => by
      rw [evF_app]
      cases he : evF F m with
      | false => rfl
      | true => simp [evF, e m hm he]
    omega
theorem rbits_snoc {n k i : Nat} (hi : i < n) (hn : n ≤ 60) (hk : k < 4611686018427387904 := by omega) : (rbits n k).take (i + 1) = (rbits n k).take i ++ [bitAt k ((n : Int) - 1 - i)] := by
  have hl : i < (rbits n k).length := by rw [rbits_len]; exact hi
  rw [List.take_succ_eq_append_getElem hl]
  have h1 := rbits_get (k := k) hi
  rw [List.getElem?_eq_getElem hl] at h1
  rw [Option.some.inj h1, show (n : Int) - 1 - i = ((n - 1 - i : Nat) : Int) by omega, bit_is (by omega) hk]
/-- The first model, met on the way up. -/
theorem first_is {n k : Nat} {M : List Bool} (hM : M.length = n) (hk : k < 2 ^ n) (h1 : k ≤ num M) (h2 : num M ≤ num (rbits n k)) : M = rbits n k := by
  rw [num_rbits, Nat.mod_eq_of_lt hk] at h2
  rw [← rbits_num hM, show num M = k by omega]
theorem all_next {α : Type} {p : α → Bool} {l : List α} {k : Nat} (h : k < l.length) : (l.take (k + 1)).all p = ((l.take k).all p && p (l[k]'h)) := by
  rw [List.take_succ_eq_append_getElem h, List.all_append]; simp
end Go.Sat
