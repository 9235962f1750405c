/- FormatInt: both contracts. -/
import Derived.Test.YtekddgkgeaolnaaDoorGi
import Derived.Test.YtekddgkgeaolnaaDoorTt
import Derived.Test.YtekddgkgeaolnaaDoorRw
import Derived.Test.YtekddgkgeaolnaaDoorVl
import Derived.Lib.ItoaLen
import Derived.Lib.AppendIntMem
import Derived.Test.YtekddgkgeaolnaaDoorVk
namespace Go.Proofs.YtekddgkgeaolnaaDoor
open Go Go.Vc Go.RowKit
set_option linter.unusedVariables false

def itoaB (n : Int) : ByteArray := ⟨(Lib.itoa n).toArray⟩
theorem impl_FormatInt (n : Int) (hn : -9223372036854775808 ≤ n ∧ n ≤ 9223372036854775807) (W : World) (htab : Lib.TabIs Tryd.prog W "internal/strconv.uint64pow10" .u64 Lib.pow10Tab) :
    Ret Tryd.prog 41 #[.int .i64 n] W (fun v w' => v = .string (itoaB n) ∧ Ext W w') := by
  have hI : Ret Tryd.prog 52 #[.int .i64 n] W (fun v w' => v = .string (itoaB n) ∧ Ext W w') := by
    refine ⟨⟨_, Tryd.func52, by kernel_rfl, by kernel_rfl⟩, ?_⟩
    refine (Any.strconv_Itoa (P := Tryd.prog) (ρ := Tryd.itoaL_ren) Tryd.itoaL n hn.1 hn.2 W htab).mono fun e w' h => ⟨_, h.1, rfl, ?_⟩
    obtain ⟨_, k, os, rfl⟩ := h
    exact Lib.below_grow _ _ (Nat.le_refl _) k os
  refine ret_of_vc ties mixed Tryd.func41 rfl (by kernel_rfl) rfl rfl ?_
  refine Or.inl ((hI).mono ?_)
  rintro _ w2 ⟨rfl, x2⟩
  exact ⟨rfl, x2⟩

theorem u8_in {x : Int} (h : 0 ≤ x ∧ x ≤ 255) : IntKind.u8.wrap x = x := by
  have : IntKind.u8.wrap x = x % 256 := rfl
  rw [this]; omega
theorem dec_step {k : Nat} (h : ¬ k < 10) : Lib.decDigits k = Lib.decDigits (k / 10) ++ [UInt8.ofNat (48 + k % 10)] := by
  conv => lhs; unfold Lib.decDigits
  rw [dif_neg h]
theorem dec_one {k : Nat} (h : k < 10) : Lib.decDigits k = [UInt8.ofNat (48 + k)] := by
  unfold Lib.decDigits
  rw [dif_pos h]
theorem cat_toList (a b : ByteArray) : (a ++ b).data.toList = a.data.toList ++ b.data.toList := by simp [ByteArray.data_append]

/-- What the operations of region 4 give (n = -m, m of two digits or more). -/
def fact (m : Nat) : Nat → List Value → (Nat → Prop) → World → Prop
  | 0, vs, _, _ => vs = [.int .i64 (-(m : Int))]
  | 1, vs, _, _ => vs = [.int .i64 (-((m / 10 : Nat) : Int))]
  | 2, vs, _, _ => vs = [.string (itoaB (-((m / 10 : Nat) : Int)))]
  | 3, vs, _, _ => vs = [.int .i64 (-(m : Int))]
  | 4, vs, _, _ => vs = [.int .i64 (-((m % 10 : Nat) : Int))]
  | 5, vs, _, _ => vs = [.int .i64 (48 - -((m % 10 : Nat) : Int))]
  | 6, vs, _, _ => vs = [.int .u8 (48 - -((m % 10 : Nat) : Int))]
  | 7, vs, B, w => ∃ b, vs = [.slice (some ⟨b, 0, none⟩) 1 1] ∧ CellsAt w b 0 [.int .u8 (48 - -((m % 10 : Nat) : Int))] ∧ B b
  | 8, vs, _, _ => vs = [.string ⟨#[UInt8.ofNat (48 - -((m % 10 : Nat) : Int)).toNat]⟩]
  | 9, vs, _, _ => vs = [.string (itoaB (-(m : Int)))]
  | 10, vs, _, _ => vs = [.string (itoaB (-(m : Int)))]
  | _, _, _, _ => False
theorem fact_stab (W : World) (m : Nat) : ∀ i vs B S w1 w2, fact m i vs B w1 → Chg S w1 w2 → (∀ b, B b → ¬ S b) → (∀ b, S b → W.heap.size ≤ b) → fact m i vs B w2 := by
  intro i vs B S w1 w2 h hc hB hS
  match i, h with
  | 0, h => exact h
  | 1, h => exact h
  | 2, h => exact h
  | 3, h => exact h
  | 4, h => exact h
  | 5, h => exact h
  | 6, h => exact h
  | 7, ⟨b, h1, h2, h3⟩ => exact ⟨b, h1, hc.cells (hB b h3) h2, h3⟩
  | 8, h => exact h
  | 9, h => exact h
  | 10, h => exact h
def frk : Frk := [([], [15]), ([0], [16]), ([1], [17]), ([], [18]), ([3], [19]), ([4], [20]), ([5], [21]), ([6], [22]), ([7], [23]), ([2, 8], [24]), ([9], [2])]
theorem itoa_tens {m : Nat} (h : 10 ≤ m) : itoaB (-((m / 10 : Nat) : Int)) ++ ⟨#[UInt8.ofNat (48 - -((m % 10 : Nat) : Int)).toNat]⟩ = itoaB (-(m : Int)) := by
  unfold itoaB
  apply ByteArray.ext
  apply Array.ext'
  rw [cat_toList, Lib.itoa_neg m (by omega), Lib.itoa_neg (m / 10) (by omega), dec_step (k := m) (by omega), show (48 - -((m % 10 : Nat) : Int)).toNat = 48 + m % 10 by omega]
  rfl

set_option maxRecDepth 200000 in
theorem spec_FormatInt : ∀ (fuel : Nat) (n : Int), -9223372036854775808 ≤ n ∧ n ≤ 9223372036854775807 → n.natAbs < fuel → ∀ W, Ret Tryd.prog 39 #[.int .i64 n] W (fun v w' => v = .string (itoaB n) ∧ Ext W w') := by
  intro fuel
  induction fuel with
  | zero => intro n _ h; omega
  | succ fuel ih =>
    intro n hn hf W
    have hlen := Lib.itoa_length_le n hn.1 hn.2
    refine ret_of_vc ties mixed Tryd.func39 rfl (by kernel_rfl) rfl rfl ?_
    refine br_dec (fun h => ?_) (fun h => ?_)
    · obtain ⟨m, rfl⟩ : ∃ m : Nat, n = -(m : Int) := ⟨(-n).toNat, by omega⟩
      have hq : (-(m : Int)).tdiv 10 = -((m / 10 : Nat) : Int) := by rw [Int.neg_tdiv, Int.tdiv_eq_ediv_of_nonneg (by omega)]; omega
      have hr : (-(m : Int)).tmod 10 = -((m % 10 : Nat) : Int) := by rw [Int.neg_tmod, Int.tmod_eq_emod_of_nonneg (by omega)]; omega
      refine ⟨by decide, _, (congrArg _ hq).trans (IntWalk.i64_in _ (by omega)), ?_⟩
      refine br_dec (fun h1 => ?_) (fun h1 => ?_)
      · refine ⟨_, IntWalk.i64_in _ (by omega), _, u8_in (by omega), ?_⟩
        refine raw_byte rfl Tryd.underlying64 Tryd.underlying5 Tryd.underlying9 rfl ?_
        refine ⟨by show 1 + 1 ≤ _; omega, ?_⟩
        refine ⟨vstr ?_, Ext.new _ _⟩
        unfold itoaB
        apply ByteArray.ext
        apply Array.ext'
        rw [cat_toList, Lib.itoa_neg m (by omega), dec_one (by omega), show (48 - -(m : Int)).toNat = 48 + m by omega]
        rfl
      · have h10 : 10 ≤ m := by omega
        have hl := Lib.itoa_length_le (-((m / 10 : Nat) : Int)) (by omega) (by omega)
        refine .inr (.inr (fork_rule ties mixed frk 10 15 25 (fact m) (by kernel_rfl) (fact_stab W m) ?_ ?_))
        · intro i o ho ρ' w1 x1 hs Bs hu hd
          match i, ho with
          | 0, ho =>
            have := Option.some.inj ho
            subst this
            rw [at_slot ((hs 0 (by kernel_rfl)).trans rfl : ρ' 0 = .int .i64 (-(m : Int)))]
            exact ⟨fun _ => False, Chg.refl _ _, rfl, fun b h => h.elim⟩
          | 1, ho =>
            have := Option.some.inj ho
            subst this
            rw [at_slot ((List.cons.inj (hu 0 (by decide)).1).1 : ρ' 15 = .int .i64 (-(m : Int)))]
            exact ⟨by decide, _, (congrArg _ hq).trans (IntWalk.i64_in _ (by omega)), fun _ => False, Chg.refl _ _, rfl, fun b h => h.elim⟩
          | 2, ho =>
            have := Option.some.inj ho
            subst this
            rw [at_slot ((List.cons.inj (hu 1 (by decide)).1).1 : ρ' 16 = .int .i64 (-((m / 10 : Nat) : Int)))]
            refine Or.inl ((ih (-((m / 10 : Nat) : Int)) (by omega) (by omega) w1).mono ?_)
            rintro _ w2 ⟨rfl, x2⟩
            exact ⟨fun _ => False, .of x2, rfl, fun b h => h.elim⟩
          | 3, ho =>
            have := Option.some.inj ho
            subst this
            rw [at_slot ((hs 0 (by kernel_rfl)).trans rfl : ρ' 0 = .int .i64 (-(m : Int)))]
            exact ⟨fun _ => False, Chg.refl _ _, rfl, fun b h => h.elim⟩
          | 4, ho =>
            have := Option.some.inj ho
            subst this
            rw [at_slot ((List.cons.inj (hu 3 (by decide)).1).1 : ρ' 18 = .int .i64 (-(m : Int)))]
            exact ⟨by decide, _, hr, fun _ => False, Chg.refl _ _, rfl, fun b h => h.elim⟩
          | 5, ho =>
            have := Option.some.inj ho
            subst this
            rw [at_slot ((List.cons.inj (hu 4 (by decide)).1).1 : ρ' 19 = .int .i64 (-((m % 10 : Nat) : Int)))]
            exact ⟨_, IntWalk.i64_in _ (by omega), fun _ => False, Chg.refl _ _, rfl, fun b h => h.elim⟩
          | 6, ho =>
            have := Option.some.inj ho
            subst this
            rw [at_slot ((List.cons.inj (hu 5 (by decide)).1).1 : ρ' 20 = .int .i64 (48 - -((m % 10 : Nat) : Int)))]
            exact ⟨_, u8_in (by omega), fun _ => False, Chg.refl _ _, rfl, fun b h => h.elim⟩
          | 7, ho =>
            have := Option.some.inj ho
            subst this
            rw [at_slot ((List.cons.inj (hu 6 (by decide)).1).1 : ρ' 21 = .int .u8 (48 - -((m % 10 : Nat) : Int)))]
            exact ⟨fun b => b = w1.heap.size, Chg.alloc _ _, ⟨_, rfl, boxedAll w1 [.int .u8 (48 - -((m % 10 : Nat) : Int))] _, rfl⟩, fun b h => .inr ⟨by omega, by rw [h, World.size_alloc]; omega⟩⟩
          | 8, ho =>
            have := Option.some.inj ho
            subst this
            obtain ⟨b, h1, h2, h3⟩ := (hu 7 (by decide)).1
            have e22 : ρ' 22 = .slice (some ⟨b, 0, none⟩) 1 1 := (List.cons.inj h1).1
            rw [at_slot e22]
            refine raw_byte_at rfl Tryd.underlying64 Tryd.underlying5 Tryd.underlying9 rfl h2 ?_
            exact ⟨fun _ => False, Chg.refl _ _, rfl, fun b h => h.elim⟩
          | 9, ho =>
            have := Option.some.inj ho
            subst this
            have e17 := (List.cons.inj (hu 2 (by decide)).1).1
            have e23 := (List.cons.inj (hu 8 (by decide)).1).1
            rw [at_slot (show ρ' 17 = _ from e17), at_slot (show upd ρ' (some 17) _ 23 = _ from e23)]
            refine ⟨?_, fun _ => False, Chg.refl _ _, ?_, fun b h => h.elim⟩
            · show (Lib.itoa (-((m / 10 : Nat) : Int))).toArray.size + 1 ≤ _
              rw [List.size_toArray]; omega
            · exact congrArg (fun x => [Value.string x]) (itoa_tens h10)
          | 10, ho =>
            have := Option.some.inj ho
            subst this
            rw [at_slot ((List.cons.inj (hu 9 (by decide)).1).1 : ρ' 24 = .string (itoaB (-(m : Int))))]
            exact ⟨fun _ => False, Chg.refl _ _, rfl, fun b h => h.elim⟩
          | n + 11, ho => cases ho
        · intro vs junk w2 B x2 hfa hb
          have hfa : vs = [.string (itoaB (-(m : Int)))] := hfa
          subst hfa
          exact ⟨rfl, x2⟩
    · have hit : Lib.itoa n = Lib.decDigits n.toNat := by unfold Lib.itoa; rw [if_neg h]
      refine loop_rule (σ := Nat × ByteArray) [0, 3] 25 44 (fun q => [.int .i64 q.1, .string q.2]) (fun q w' => Ext W w' ∧ q.1 ≤ n.toNat ∧ Lib.decDigits n.toNat = Lib.decDigits q.1 ++ q.2.data.toList) (fun q => q.1) (n.toNat, ⟨#[]⟩) (vs2 (vint (by omega)) rfl) ⟨Ext.refl _, Nat.le_refl _, by simp⟩ ?_
      rintro ⟨k, s⟩ w junk ⟨hx, hk, hd⟩ K hK
      simp only at hk hd
      show vc _ _ _ _ (over [0, 3] [.int .i64 k, .string s] _) _
      have hsz : s.size ≤ 21 := by
        have h1 := congrArg List.length hd
        rw [← hit, List.length_append] at h1
        have h2 : s.data.toList.length = s.size := rfl
        omega
      refine br_dec (fun h3 => ?_) (fun h3 => ?_)
      · have hr : (k : Int).tmod 10 = (k : Int) % 10 := Int.tmod_eq_emod_of_nonneg (by omega)
        have hq : (k : Int).tdiv 10 = (k : Int) / 10 := Int.tdiv_eq_ediv_of_nonneg (by omega)
        refine ⟨by decide, _, hr, _, IntWalk.i64_in _ (by omega), _, u8_in (by omega), ?_⟩
        refine raw_byte rfl Tryd.underlying64 Tryd.underlying5 Tryd.underlying9 rfl ?_
        refine ⟨by show 1 + s.size ≤ _; omega, by decide, _, (congrArg _ hq).trans (IntWalk.i64_in _ (by omega)), ?_⟩
        refine hK (k / 10, ⟨#[UInt8.ofNat (48 + (k : Int) % 10).toNat]⟩ ++ s) _ _ (vs2 (vint (by show (k : Int) / 10 = ((k / 10 : Nat) : Int); omega)) rfl) ⟨hx.trans (Ext.new _ _), by show k / 10 ≤ _; omega, ?_⟩ (by show k / 10 < k; omega) ?_
        · show Lib.decDigits n.toNat = Lib.decDigits (k / 10) ++ (⟨#[UInt8.ofNat (48 + (k : Int) % 10).toNat]⟩ ++ s : ByteArray).data.toList
          rw [hd, dec_step (by omega), cat_toList, List.append_assoc, show (48 + (k : Int) % 10).toNat = 48 + k % 10 by omega]
        · ((repeat (first | (with_reducible exact Only.refl) | (with_reducible refine Only.skip ?_) | ((with_reducible refine Only.upd ?_ ?_); rfl) | ((with_reducible refine Only.over ?_ ?_ _); rfl) | ((with_reducible refine Only.hav ?_ ?_ ?_); rfl; rfl))))
      · refine ⟨_, IntWalk.i64_in _ (by omega), _, u8_in (by omega), ?_⟩
        refine raw_byte rfl Tryd.underlying64 Tryd.underlying5 Tryd.underlying9 rfl ?_
        refine ⟨by show 1 + s.size ≤ _; omega, ?_⟩
        refine ⟨vstr ?_, hx.trans (Ext.new _ _)⟩
        unfold itoaB
        apply ByteArray.ext
        apply Array.ext'
        rw [cat_toList, hit, hd, dec_one (by omega), show (48 + (k : Int)).toNat = 48 + k by omega]
end Go.Proofs.YtekddgkgeaolnaaDoor
