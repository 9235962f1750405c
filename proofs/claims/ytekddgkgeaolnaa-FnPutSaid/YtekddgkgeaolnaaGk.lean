/- FormatInt of the reference, of numbers that are not negative (turned from XDs). -/
import Derived.Test.YtekddgkgeaolnaaTt
import Derived.Test.YtekddgkgeaolnaaVl
import Derived.Lib.ItoaLen
import Derived.Lib.ItoaMem
namespace Go.Proofs.Ytekddgkgeaolnaa.Fn
open Go Go.Vc Go.RowKit
set_option linter.unusedVariables false

theorem u8_in {x : Int} (h : 0 ≤ x ∧ x ≤ 255) : IntKind.u8.wrap x = x := by
  have : IntKind.u8.wrap x = x % 256 := rfl
  rw [this]; omega
theorem dec_step {k : Nat} (h : ¬ k < 10) : Lib.decDigits k = Lib.decDigits (k / 10) ++ [UInt8.ofNat (48 + k % 10)] := by
  conv => lhs; unfold Lib.decDigits
  rw [dif_neg h]
theorem dec_one {k : Nat} (h : k < 10) : Lib.decDigits k = [UInt8.ofNat (48 + k)] := by
  unfold Lib.decDigits
  rw [dif_pos h]
theorem cat_toList (a b : ByteArray) : (a ++ b).data.toList = a.data.toList ++ b.data.toList := by simp [ByteArray.data_append]
set_option maxRecDepth 100000 in
theorem fmtN (n : Int) (hn : -9223372036854775808 ≤ n ∧ n ≤ 9223372036854775807) (h : ¬ n < 0) (W : World) : Ret Try.prog 20 #[.int .i64 n] W (fun v w' => v = .string ⟨(Lib.itoa n).toArray⟩ ∧ Ext W w') := by
  have hlen := Lib.itoa_length_le n hn.1 hn.2
  refine ret_of_vc ties mixed Try.func20 rfl (by kernel_rfl) rfl rfl ?_
  refine br_dec_false h ?_
  have hit : Lib.itoa n = Lib.decDigits n.toNat := by unfold Lib.itoa; rw [if_neg h]
  refine loop_rule (σ := Nat × ByteArray) [0, 3] 25 44 (fun q => [.int .i64 q.1, .string q.2]) (fun q w' => Ext W w' ∧ q.1 ≤ n.toNat ∧ Lib.decDigits n.toNat = Lib.decDigits q.1 ++ q.2.data.toList) (fun q => q.1) (n.toNat, ⟨#[]⟩) (vs2 (vint (by omega)) rfl) ⟨Ext.refl _, Nat.le_refl _, by simp⟩ ?_
  rintro ⟨k, s⟩ w junk ⟨hx, hk, hd⟩ K hK
  simp only at hk hd
  show vc _ _ _ _ (over [0, 3] [.int .i64 k, .string s] _) _
  have hsz : s.size ≤ 21 := by
    have h1 := congrArg List.length hd
    rw [← hit, List.length_append] at h1
    have h2 : s.data.toList.length = s.size := rfl
    omega
  refine br_dec (fun h3 => ?_) (fun h3 => ?_)
  · have hr : (k : Int).tmod 10 = (k : Int) % 10 := Int.tmod_eq_emod_of_nonneg (by omega)
    have hq : (k : Int).tdiv 10 = (k : Int) / 10 := Int.tdiv_eq_ediv_of_nonneg (by omega)
    refine ⟨by decide, _, hr, _, IntWalk.i64_in _ (by omega), _, u8_in (by omega), ?_⟩
    refine raw_byte rfl Try.underlying22 Try.underlying5 Try.underlying9 rfl ?_
    refine ⟨by show 1 + s.size ≤ _; omega, by decide, _, (congrArg _ hq).trans (IntWalk.i64_in _ (by omega)), ?_⟩
    refine hK (k / 10, ⟨#[UInt8.ofNat (48 + (k : Int) % 10).toNat]⟩ ++ s) _ _ (vs2 (vint (by show (k : Int) / 10 = ((k / 10 : Nat) : Int); omega)) rfl) ⟨hx.trans (Ext.new _ _), by show k / 10 ≤ _; omega, ?_⟩ (by show k / 10 < k; omega) ?_
    · show Lib.decDigits n.toNat = Lib.decDigits (k / 10) ++ (⟨#[UInt8.ofNat (48 + (k : Int) % 10).toNat]⟩ ++ s : ByteArray).data.toList
      rw [hd, dec_step (by omega), cat_toList, List.append_assoc, show (48 + (k : Int) % 10).toNat = 48 + k % 10 by omega]
    · ((repeat (first | (with_reducible exact Only.refl) | (with_reducible refine Only.skip ?_) | ((with_reducible refine Only.upd ?_ ?_); rfl) | ((with_reducible refine Only.over ?_ ?_ _); rfl) | ((with_reducible refine Only.hav ?_ ?_ ?_); rfl; rfl))))
  · refine ⟨_, IntWalk.i64_in _ (by omega), _, u8_in (by omega), ?_⟩
    refine raw_byte rfl Try.underlying22 Try.underlying5 Try.underlying9 rfl ?_
    refine ⟨by show 1 + s.size ≤ _; omega, ?_⟩
    refine ⟨vstr ?_, hx.trans (Ext.new _ _)⟩
    apply ByteArray.ext
    apply Array.ext'
    rw [cat_toList, hit, hd, dec_one (by omega), show (48 + (k : Int)).toNat = 48 + k by omega]
end Go.Proofs.Ytekddgkgeaolnaa.Fn
