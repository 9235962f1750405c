/- Marks on rows of numbers (turned from XMi, for a seat without marks on truths and without l02Vars). -/
import Derived.Test.YtekddgkgeaolnaaDoorIa
namespace Go.Proofs.YtekddgkgeaolnaaDoor
open Go Go.Vc Go.RowKit
set_option linter.unusedVariables false

def mkI : Nat → Int → List Int
  | 0, _ => []
  | n + 1, k => k :: mkI n (k + 1)
theorem mkI_len : ∀ (n : Nat) (k : Int), (mkI n k).length = n
  | 0, _ => rfl
  | n + 1, k => by rw [mkI, List.length_cons, mkI_len n]
theorem mkI_get : ∀ (n : Nat) (k : Int) (i : Nat), i < n → (mkI n k)[i]? = some (k + i)
  | n + 1, k, 0, _ => by simp [mkI]
  | n + 1, k, i + 1, h => by
    rw [mkI, List.getElem?_cons_succ, mkI_get n (k + 1) i (by omega)]
    rw [show k + 1 + (i : Int) = k + ((i + 1 : Nat) : Int) from by omega]

/-- A slice whose elements may be written. -/
def Wr (w : World) (s : Value) (n : Nat) : Prop := ∃ a c, s = .slice a n c ∧ n ≤ c ∧ c ≤ maxLen ∧ (n = 0 ∨ ∃ B, a = some ⟨B, 0, none⟩ ∧ Rmy w B n)
def KeepR (w w' : World) : Prop := ∀ B m, Rmy w B m → Rmy w' B m

theorem markIntS_wr (n : Nat) (s : Value) (k : Int) (W : World) (hs : Wr W s n) (h0 : 0 ≤ k) (h1 : k + (n : Int) ≤ 1099511627776) :
    Ret Tryd.prog 35 #[s, .int .i64 k] W (fun v w' => v = .int .i64 (k + n) ∧ Chg (blk s) W w' ∧ KeepR W w' ∧ w'.heap.size = W.heap.size ∧ (n = 0 → W = w') ∧ ∀ B a c, s = .slice (some ⟨B, a, none⟩) n c → 0 < n → RAt eI noB w' (mkI n k) B 0) := by
  have hlm : (maxLen : Int) ≤ 9223372036854775807 := by decide
  obtain ⟨a, c, rfl, hlc, hcm, hat⟩ := hs
  refine ret_of_vc ties mixed Tryd.func35 rfl (by kernel_rfl) rfl rfl ?_
  refine loop_rule (σ := Nat) [1, 5] 6 18 (fun i => [.int .i64 (k + i), .int .i64 i])
    (fun i w' => i ≤ n ∧ Chg (blk (.slice a n c)) W w' ∧ KeepR W w' ∧ w'.heap.size = W.heap.size ∧ (n = 0 → W = w') ∧ ∀ B o, a = some ⟨B, o, none⟩ → 0 < n → RAt eI noB w' ((mkI n k).take i) B 0)
    (fun i => n - i) 0 (by show [_, _] = [_, _]; exact vs2 (vint (by omega)) rfl) ⟨Nat.zero_le _, Chg.refl _ _, fun _ _ h => h, rfl, fun _ => rfl, fun _ _ _ _ => trivial⟩ ?_
  rintro i w junk ⟨hi, hch, hkr, hsz, hz, hra⟩ K hK
  refine br_dec (fun h3 => ?_) (fun h3 => ?_)
  · have hin : i < n := by omega
    obtain ⟨B, rfl, hr⟩ := hat.resolve_left (by omega)
    have hrw := hkr B n hr
    refine ⟨⟨by omega, by omega⟩, hrw _ (by show 0 + (i : Int).toNat * 1 < n; omega), _, IntWalk.i64_in _ (by omega), _, IntWalk.i64_in _ (by omega), ?_⟩
    refine hK (i + 1) _ _ (vs2 (vint (by omega)) (vint (by show (i : Int) + 1 = ((i + 1 : Nat) : Int); omega))) ⟨by omega, hch.trans (Chg.setCell _ (by rfl) _), fun B' m h => (hkr B' m h).setCell, by simpa [World.setCell] using hsz, fun h => by omega, fun B' o he hn => ?_⟩ (by omega) ?_
    · cases he
      have hlen : ((mkI n k).take i).length = i := by rw [List.length_take, mkI_len]; omega
      have hget := mkI_get n k i hin
      have hil : i < (mkI n k).length := by rw [mkI_len]; exact hin
      have hge : (mkI n k)[i]'hil = (k + i) := by rw [List.getElem?_eq_getElem hil] at hget; exact Option.some.inj hget
      rw [take_snoc hil, hge]
      exact RAt.fill (cs := [.int .i64 (k + i)]) noB_ne hrw (hra B 0 rfl hn) rfl (by rw [hlen]; show 0 + (i : Int).toNat * 1 = i * 1; omega) (by rw [hlen]; show (i + 1) * 1 ≤ _; omega)
    · ((repeat (first | (with_reducible exact Only.refl) | (with_reducible refine Only.skip ?_) | ((with_reducible refine Only.upd ?_ ?_); rfl) | ((with_reducible refine Only.over ?_ ?_ _); rfl) | ((with_reducible refine Only.hav ?_ ?_ ?_); rfl; rfl))))
  · have : i = n := by omega
    subst this
    refine ⟨rfl, hch, hkr, hsz, hz, fun B o c' he hn => ?_⟩
    cases he
    have := hra B o rfl hn
    rwa [List.take_of_length_le (by rw [mkI_len]; exact Nat.le_refl _)] at this

theorem markIntS_ret (l : List _) (s : Value) (k : Int) (W : World) (hs : OwnR eI noB W s l) (h0 : 0 ≤ k) (h1 : k + (l.length : Int) ≤ 1099511627776) :
    Ret Tryd.prog 35 #[s, .int .i64 k] W (fun v w' => v = .int .i64 (k + l.length) ∧ OwnR eI noB w' s (mkI l.length k) ∧ Chg (blk s) W w' ∧ (l.length = 0 → W = w')) := by
  obtain ⟨a, c, rfl, g1, g2, g3⟩ := hs
  have hwr : Wr W (.slice a l.length c) l.length := by
    refine ⟨a, c, rfl, g1, g2, ?_⟩
    rcases g3 with h | ⟨B, rfl, h, _⟩
    · exact .inl (by omega)
    · exact .inr ⟨B, rfl, fun i hi => h i (by rw [show (eI).m = 1 from rfl]; omega)⟩
  refine (markIntS_wr l.length _ k W hwr h0 h1).mono ?_
  rintro v w' ⟨rfl, h1, h2, h3, hz, h4⟩
  refine ⟨rfl, ⟨a, c, by rw [mkI_len], by rw [mkI_len]; exact g1, g2, ?_⟩, h1, hz⟩
  rcases g3 with h | ⟨B, rfl, h, _⟩
  · exact .inl h
  · refine .inr ⟨B, rfl, h2 B _ h, ?_⟩
    by_cases h0 : l.length = 0
    · rw [h0]; trivial
    · exact h4 B 0 c rfl (by omega)


theorem heldIntS_ret (n : Nat) (s : Value) (k : Int) (W : World) (hs : SlR eI allB W s (mkI n k)) (h0 : 0 ≤ k) (h1 : k + (n : Int) ≤ 1099511627776) :
    Ret Tryd.prog 36 #[s, .int .i64 k] W (fun v w' => v = .int .i64 (k + n) ∧ W = w') := by
  have hlm : (maxLen : Int) ≤ 9223372036854775807 := by decide
  obtain ⟨a, c, rfl, hlc, hcm, -⟩ := id hs
  have hml := mkI_len n k
  refine ret_of_vc ties mixed Tryd.func36 rfl (by kernel_rfl) rfl rfl ?_
  refine loop_rule (σ := Nat) [1, 5] 6 20 (fun i => [.int .i64 (k + i), .int .i64 i])
    (fun i w' => W = w' ∧ i ≤ n) (fun i => n - i) 0 (by show [_, _] = [_, _]; exact vs2 (vint (by omega)) rfl) ⟨rfl, Nat.zero_le _⟩ ?_
  rintro i w junk ⟨rfl, hi⟩ K hK
  refine br_dec (fun h3 => ?_) (fun h3 => ?_)
  · have hin : i < n := by omega
    have hil : i < (mkI n k).length := by omega
    have hget := mkI_get n k i hin
    have hge : (mkI n k)[i]'hil = (k + i) := by rw [List.getElem?_eq_getElem hil] at hget; exact Option.some.inj hget
    obtain ⟨b, o, c1, cs, he, -, hc, rfl⟩ := hs.at hil
    cases he
    rw [hge] at hc
    refine ⟨⟨by omega, by omega⟩, _, hc.1, ?_⟩
    refine br_dec (fun h => absurd rfl h) (fun _ => ?_)
    refine ⟨_, IntWalk.i64_in _ (by omega), _, IntWalk.i64_in _ (by omega), ?_⟩
    refine hK (i + 1) _ _ (vs2 (vint (by omega)) (vint (by show (i : Int) + 1 = ((i + 1 : Nat) : Int); omega))) ⟨rfl, by omega⟩ (by omega) ?_
    ((repeat (first | (with_reducible exact Only.refl) | (with_reducible refine Only.skip ?_) | ((with_reducible refine Only.upd ?_ ?_); rfl) | ((with_reducible refine Only.over ?_ ?_ _); rfl) | ((with_reducible refine Only.hav ?_ ?_ ?_); rfl; rfl))))
  · have : i = n := by omega
    subst this
    exact ⟨rfl, rfl⟩


theorem markIntS_r (l : List Int) (s : Value) (k : Int) (W : World) (hs : OwnR eI noB W s l) (h0 : 0 ≤ k) (h1 : k + (l.length : Int) ≤ 1099511627776) :
    Ret Tryd.prog 35 #[s, .int .i64 k] W (fun v w' => v = .int .i64 (k + l.length) ∧ OwnR eI noB w' s (mkI l.length k) ∧ Chg (blk s) W w') :=
  (markIntS_ret l s k W hs h0 h1).mono fun _ _ h => ⟨h.1, h.2.1, h.2.2.1⟩
theorem heldIntS_r (n : Nat) (s : Value) (k : Int) (W : World) (hs : SlR eI allB W s (mkI n k)) (h0 : 0 ≤ k) (h1 : k + (n : Int) ≤ 1099511627776) :
    Ret Tryd.prog 36 #[s, .int .i64 k] W (fun v w' => v = .int .i64 (k + n) ∧ Ext W w') :=
  (heldIntS_ret n s k W hs h0 h1).mono fun _ _ h => ⟨h.1, h.2 ▸ Ext.refl _⟩
end Go.Proofs.YtekddgkgeaolnaaDoor
