/- Marks: the text of a mark; contract of markText. -/
import Derived.Test.YtkoaicjcanplaaaTt
import Derived.Test.YtkoaicjcanplaaaFa
namespace Go.Vc
open Go Go.RowKit
/-- 'string([]byte{c})'. -/
theorem raw_bytec {P : Program} {T : Tab} (hT : Ties P T) {o : Oper} {ρ : Fr} {w : World} {K : Value → World → Prop} {src dst e b off c : Nat} {Y : Operand} {r q u : TRow} {n : Int} (ho : o.op = .convert src dst Y)
    (hr : look T src = some r) (ha : r.agg = false) (hd : r.desc = .slice e) (hq : look T e = some q) (hqa : q.agg = false) (hqd : q.desc = .int .u8) (hu : look T dst = some u) (hua : u.agg = false) (hud : u.desc = .string)
    (hY : ev ρ Y = .slice (some ⟨b, off, none⟩) 1 c) (hc : w.cell? ⟨b, off, none⟩ = some (.int .u8 n)) (hK : K (.string ⟨#[UInt8.ofNat n.toNat]⟩) w) : Raw P o ρ w K := by
  have h1 := ((ties_look hT hr).plain ha).trans (congrArg some hd)
  have h2 := ((ties_look hT hq).plain hqa).trans (congrArg some hqd)
  have h3 := ((ties_look hT hu).plain hua).trans (congrArg some hud)
  have h4 := run_cells (P := P) (w := w) (b := b) (o := off) (vs := [.int .u8 n]) ⟨hc, trivial⟩
  refine ⟨.value _, _, w, ?_, rfl, hK⟩
  simp only [List.length_singleton] at h4
  simp [execOp, ho, hY, convert, run_underlying h1, run_underlying h2, run_underlying h3, Conv.bytesToString, h4]
  rfl
end Go.Vc
namespace Go.Proofs.Ytkoaicjcanplaaa
open Go Go.Vc Go.RowKit

def digB (k : Nat) : ByteArray := ⟨#[UInt8.ofNat (IntKind.u8.wrap (48 + (k : Int).tmod 10)).toNat]⟩
def mkD (k : Nat) (out : ByteArray) : ByteArray := if _h : k = 0 then out else mkD (k / 10) (digB k ++ out)
termination_by k
decreasing_by omega
theorem mkD_zero (out : ByteArray) : mkD 0 out = out := by rw [mkD]; simp
theorem mkD_pos {k : Nat} (h : 0 < k) (out : ByteArray) : mkD k out = mkD (k / 10) (digB k ++ out) := by rw [mkD, dif_neg (by omega)]
def mkT (k : Int) : ByteArray := if k ≤ 0 then ⟨#[109, 48]⟩ else ⟨#[109]⟩ ++ mkD k.toNat ByteArray.empty
theorem digB_size (k : Nat) : (digB k).size = 1 := rfl
theorem mkD_size : ∀ (n k : Nat) (out : ByteArray), k < n → (mkD k out).size ≤ k + out.size := by
  intro n
  induction n with
  | zero => intro k _ h; omega
  | succ n ih =>
    intro k out h
    by_cases h0 : k = 0
    · subst h0; rw [mkD_zero]; omega
    · rw [mkD_pos (by omega)]
      have := ih (k / 10) (digB k ++ out) (by omega)
      rw [ByteArray.size_append, digB_size] at this
      omega

theorem markText_ret (k : Int) (W : World) (h1 : k ≤ 1099511627776) : Ret Try.prog 87 #[.int .i64 k] W (fun v w' => v = .string (mkT k) ∧ Ext W w') := by
  refine ret_of_vc ties mixed Try.func87 rfl (by kernel_rfl) rfl rfl ?_
  refine br_dec (fun h => ?_) (fun h => ?_)
  · exact ⟨vstr (by simp [mkT, h]), Ext.refl _⟩
  obtain ⟨N, rfl⟩ : ∃ N : Nat, k = N := ⟨k.toNat, by omega⟩
  refine loop_rule (σ := Nat × ByteArray) [0, 3] 6 18 (fun q => [.int .i64 q.1, .string q.2])
    (fun q w' => Ext W w' ∧ q.1 + q.2.size ≤ N ∧ mkD q.1 q.2 = mkD N ByteArray.empty) (fun q => q.1) (N, ByteArray.empty) rfl ⟨Ext.refl _, by simp, rfl⟩ ?_
  rintro ⟨m, out⟩ w junk ⟨hx, hsz, hm⟩ K hK
  simp only at hsz hm
  refine br_dec (fun h2 => ?_) (fun h2 => ?_) <;> dsimp only at h2
  · have hm0 : 0 < m := by omega
    have htm : (m : Int).tmod 10 = ((m % 10 : Nat) : Int) := by rw [Int.tmod_eq_emod_of_nonneg (by omega)]; omega
    have htd : (m : Int).tdiv 10 = ((m / 10 : Nat) : Int) := by rw [Int.tdiv_eq_ediv_of_nonneg (by omega)]; omega
    refine ⟨by decide, _, rfl, _, IntWalk.i64_in _ (by rw [htm]; omega), _, rfl, ?_⟩
    refine raw_bytec ties rfl rfl rfl rfl rfl rfl rfl rfl rfl rfl rfl (boxed _ _ _ _ _ rfl) ?_
    refine ⟨by show (digB m).size + out.size ≤ _; rw [digB_size]; omega, by decide, _, IntWalk.i64_in _ (by rw [htd]; omega), ?_⟩
    refine hK (m / 10, digB m ++ out) _ _ (vs2 (vint htd) rfl) ⟨hx.trans (Ext.new _ _), by simp only [ByteArray.size_append, digB_size]; omega, ?_⟩ (by show m / 10 < m; omega) ?_
    · show mkD (m / 10) (digB m ++ out) = _
      rw [← mkD_pos hm0]; exact hm
    · ((repeat (first | (with_reducible exact Only.refl) | (with_reducible refine Only.skip ?_) | ((with_reducible refine Only.upd ?_ ?_); rfl) | ((with_reducible refine Only.over ?_ ?_ _); rfl) | ((with_reducible refine Only.hav ?_ ?_ ?_); rfl; rfl))))
  · have : m = 0 := by omega
    subst this
    rw [mkD_zero] at hm
    refine ⟨by show (⟨#[109]⟩ : ByteArray).size + out.size ≤ _; have : (⟨#[109]⟩ : ByteArray).size = 1 := rfl; omega, vstr ?_, hx⟩
    simp only [mkT, if_neg h]
    rw [hm]; rfl

end Go.Proofs.Ytkoaicjcanplaaa
