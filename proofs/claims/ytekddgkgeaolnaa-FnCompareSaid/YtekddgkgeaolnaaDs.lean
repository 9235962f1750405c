/- Draws: FormatInt of numbers that are not negative (turned from XDi), l01In, l01Pick, l01Str, l02Var. Draws: l02Var. -/
import Derived.Test.YtekddgkgeaolnaaDa
import Derived.Test.YtekddgkgeaolnaaVl
import Derived.Test.YtekddgkgeaolnaaCt
import Derived.Lib.ItoaLen
import Derived.Test.YtekddgkgeaolnaaQx
namespace Go.Proofs.Ytekddgkgeaolnaa.Dr
open Go Go.Vc Go.RowKit
set_option linter.unusedVariables false

def itoaB (n : Int) : ByteArray := ⟨(Lib.itoa n).toArray⟩
theorem u8_in {x : Int} (h : 0 ≤ x ∧ x ≤ 255) : IntKind.u8.wrap x = x := by
  have : IntKind.u8.wrap x = x % 256 := rfl
  rw [this]; omega
theorem dec_step {k : Nat} (h : ¬ k < 10) : Lib.decDigits k = Lib.decDigits (k / 10) ++ [UInt8.ofNat (48 + k % 10)] := by
  conv => lhs; unfold Lib.decDigits
  rw [dif_neg h]
theorem dec_one {k : Nat} (h : k < 10) : Lib.decDigits k = [UInt8.ofNat (48 + k)] := by
  unfold Lib.decDigits
  rw [dif_pos h]
theorem cat_toList (a b : ByteArray) : (a ++ b).data.toList = a.data.toList ++ b.data.toList := by simp [ByteArray.data_append]
set_option maxRecDepth 100000 in
theorem spec_FormatNat (n : Int) (hn : -9223372036854775808 ≤ n ∧ n ≤ 9223372036854775807) (h : ¬ n < 0) (W : World) : Ret Try.prog 20 #[.int .i64 n] W (fun v w' => v = .string (itoaB n) ∧ Ext W w') := by
  have hlen := Lib.itoa_length_le n hn.1 hn.2
  refine ret_of_vc ties mixed Try.func20 rfl (by kernel_rfl) rfl rfl ?_
  refine br_dec_false h ?_
  have hit : Lib.itoa n = Lib.decDigits n.toNat := by unfold Lib.itoa; rw [if_neg h]
  refine loop_rule (σ := Nat × ByteArray) [0, 3] 25 44 (fun q => [.int .i64 q.1, .string q.2]) (fun q w' => Ext W w' ∧ q.1 ≤ n.toNat ∧ Lib.decDigits n.toNat = Lib.decDigits q.1 ++ q.2.data.toList) (fun q => q.1) (n.toNat, ⟨#[]⟩) (vs2 (vint (by omega)) rfl) ⟨Ext.refl _, Nat.le_refl _, by simp⟩ ?_
  rintro ⟨k, s⟩ w junk ⟨hx, hk, hd⟩ K hK
  simp only at hk hd
  show vc _ _ _ _ (over [0, 3] [.int .i64 k, .string s] _) _
  have hsz : s.size ≤ 21 := by
    have h1 := congrArg List.length hd
    rw [← hit, List.length_append] at h1
    have h2 : s.data.toList.length = s.size := rfl
    omega
  refine br_dec (fun h3 => ?_) (fun h3 => ?_)
  · have hr : (k : Int).tmod 10 = (k : Int) % 10 := Int.tmod_eq_emod_of_nonneg (by omega)
    have hq : (k : Int).tdiv 10 = (k : Int) / 10 := Int.tdiv_eq_ediv_of_nonneg (by omega)
    refine ⟨by decide, _, hr, _, IntWalk.i64_in _ (by omega), _, u8_in (by omega), ?_⟩
    refine raw_byte rfl Try.underlying22 Try.underlying5 Try.underlying9 rfl ?_
    refine ⟨by show 1 + s.size ≤ _; omega, by decide, _, (congrArg _ hq).trans (IntWalk.i64_in _ (by omega)), ?_⟩
    refine hK (k / 10, ⟨#[UInt8.ofNat (48 + (k : Int) % 10).toNat]⟩ ++ s) _ _ (vs2 (vint (by show (k : Int) / 10 = ((k / 10 : Nat) : Int); omega)) rfl) ⟨hx.trans (Ext.new _ _), by show k / 10 ≤ _; omega, ?_⟩ (by show k / 10 < k; omega) ?_
    · show Lib.decDigits n.toNat = Lib.decDigits (k / 10) ++ (⟨#[UInt8.ofNat (48 + (k : Int) % 10).toNat]⟩ ++ s : ByteArray).data.toList
      rw [hd, dec_step (by omega), cat_toList, List.append_assoc, show (48 + (k : Int) % 10).toNat = 48 + k % 10 by omega]
    · ((repeat (first | (with_reducible exact Only.refl) | (with_reducible refine Only.skip ?_) | ((with_reducible refine Only.upd ?_ ?_); rfl) | ((with_reducible refine Only.over ?_ ?_ _); rfl) | ((with_reducible refine Only.hav ?_ ?_ ?_); rfl; rfl))))
  · refine ⟨_, IntWalk.i64_in _ (by omega), _, u8_in (by omega), ?_⟩
    refine raw_byte rfl Try.underlying22 Try.underlying5 Try.underlying9 rfl ?_
    refine ⟨by show 1 + s.size ≤ _; omega, ?_⟩
    refine ⟨vstr ?_, hx.trans (Ext.new _ _)⟩
    unfold itoaB
    apply ByteArray.ext
    apply Array.ext'
    rw [cat_toList, hit, hd, dec_one (by omega), show (48 + (k : Int)).toNat = 48 + k by omega]
  
theorem in_ret (n lo hi : Int) (W : World) : Ret Try.prog 53 #[.int .i64 n, .int .i64 lo, .int .i64 hi] W (fun v w' => v = .bool (decide (lo ≤ n ∧ n ≤ hi)) ∧ w' = W) := by
  by_cases h1 : lo ≤ n
  · by_cases h2 : n ≤ hi
    · rw [decide_eq_true ⟨h1, h2⟩]
      refine ret_of_vc ties mixed Try.func53 rfl (by kernel_rfl) rfl rfl ?_
      repeat refine br_dec_true h1 ?_
      exact ⟨vbool (decide_eq_true h2), rfl⟩
    · rw [decide_eq_false (fun h => h2 h.2)]
      refine ret_of_vc ties mixed Try.func53 rfl (by kernel_rfl) rfl rfl ?_
      repeat refine br_dec_true h1 ?_
      exact ⟨vbool (decide_eq_false h2), rfl⟩
  · rw [decide_eq_false (fun h => h1 h.1)]
    refine ret_of_vc ties mixed Try.func53 rfl (by kernel_rfl) rfl rfl ?_
    repeat refine br_dec_false h1 ?_
    exact ⟨rfl, rfl⟩
theorem str_ret (C : Nat) (l : List Int) (W : World) (hC : Cur C W l) (L : List ByteArray) (sl : Value) (hs : SlR eS (fun b => b ≠ C) W sl L) (h0 : 1 ≤ L.length) :
    Ret Try.prog 76 #[.pointer (some ⟨C, 0, none⟩), sl] W (fun v w' => (∃ i, ∃ h : i < L.length, v = .string (L[i]'h)) ∧ Drw C l W w') := by
  obtain ⟨a, c, rfl, _, _, _⟩ := id hs
  refine ret_of_vc ties mixed Try.func76 rfl (by kernel_rfl) rfl rfl ?_
  refine Or.inl ((below_ret C l _ W hC).mono ?_)
  rintro _ w2 ⟨⟨x, rfl, hx0, hx1, hxn⟩, hd⟩
  have hx : x < L.length := hxn (by omega)
  obtain ⟨i, rfl⟩ : ∃ i : Nat, x = i := ⟨x.toNat, by omega⟩
  have hs2 := hs.chg (S := fun b => b = C) (fun b hb => hb) hd.1
  have hil : i < L.length := by omega
  obtain ⟨b, o, c1, cs, he, -, hc, hcs⟩ := hs2.at hil
  cases he
  cases hcs
  refine ⟨⟨by omega, by omega⟩, _, hc.1, ?_⟩
  exact ⟨⟨i, hil, rfl⟩, hd⟩
theorem pick_ret (C : Nat) (l : List Int) (W : World) (hC : Cur C W l) (L : List Int) (sl : Value) (hs : SlR eI (fun b => b ≠ C) W sl L) (h0 : 1 ≤ L.length) :
    Ret Try.prog 51 #[.pointer (some ⟨C, 0, none⟩), sl] W (fun v w' => (∃ i, ∃ h : i < L.length, v = .int .i64 (L[i]'h)) ∧ Drw C l W w') := by
  obtain ⟨a, c, rfl, _, _, _⟩ := id hs
  refine ret_of_vc ties mixed Try.func51 rfl (by kernel_rfl) rfl rfl ?_
  refine Or.inl ((below_ret C l _ W hC).mono ?_)
  rintro _ w2 ⟨⟨x, rfl, hx0, hx1, hxn⟩, hd⟩
  have hx : x < L.length := hxn (by omega)
  obtain ⟨i, rfl⟩ : ∃ i : Nat, x = i := ⟨x.toNat, by omega⟩
  have hs2 := hs.chg (S := fun b => b = C) (fun b hb => hb) hd.1
  have hil : i < L.length := by omega
  obtain ⟨b, o, c1, cs, he, -, hc, hcs⟩ := hs2.at hil
  cases he
  cases hcs
  refine ⟨⟨by omega, by omega⟩, _, hc.1, ?_⟩
  exact ⟨⟨i, hil, rfl⟩, hd⟩
end Go.Proofs.Ytekddgkgeaolnaa.Dr
namespace Go.Proofs.Ytekddgkgeaolnaa.Dr
open Go Go.Vc Go.RowKit
set_option linter.unusedVariables false

def lets : List ByteArray := [⟨#[97]⟩, ⟨#[98]⟩, ⟨#[120]⟩]
/-- A change of what is new, later. -/
theorem Chg.later {S S' : Nat → Prop} {W w w' : World} (h : Chg S W w) (k : Chg S' w w') (hS : ∀ b, S' b → S b ∨ W.heap.size ≤ b) : Chg S W w' :=
  ⟨k.os.trans h.os, k.tape.trans h.tape, k.output.trans h.output, Nat.le_trans h.size k.size, fun i hi hn => (k.block i (Nat.lt_of_lt_of_le hi h.size) fun hs => (hS i hs).elim hn fun e => by omega).trans (h.block i hi hn)⟩
theorem Cur.lt {C : Nat} {w : World} {l : List Int} (h : Cur C w l) : C < w.heap.size := by
  obtain ⟨⟨cs, i, hh, h1, _⟩, _⟩ := h
  exact World.block_lt_of_cell? _ _ h1.1
set_option maxRecDepth 100000 in
theorem var_ret (C : Nat) (l : List Int) (W : World) (hC : Cur C W l) (n : Int) (hn : 0 ≤ n ∧ n ≤ 1000) :
    Ret Try.prog 52 #[.pointer (some ⟨C, 0, none⟩), .int .i64 n] W (fun v w' => (∃ s ∈ lets, v = tv (varL n (s ++ itoaB n)) (.slice none 0 0)) ∧ Drw C l W w') := by
  have x1 : Ext W (bzW W) := bz_ext W
  have r1 := bz_rmy W
  have hlt := hC.lt
  have z1 : (bzW W).heap.size = W.heap.size + 1 := bz_size W
  have x2 : Ext (bzW W) ((bzW W).alloc (.cells [Value.string ⟨#[97]⟩, .string ⟨#[98]⟩, .string ⟨#[120]⟩].toArray 9)) := Ext.new _ _
  have hbx := boxedAll (bzW W) [Value.string ⟨#[97]⟩, .string ⟨#[98]⟩, .string ⟨#[120]⟩] 9
  have hrow : SlR eS (fun b => b ≠ C) ((bzW W).alloc (.cells [Value.string ⟨#[97]⟩, .string ⟨#[98]⟩, .string ⟨#[120]⟩].toArray 9)) (.slice (some ⟨(bzW W).heap.size, 0, none⟩) 3 3) lets :=
    ⟨_, 3, rfl, Nat.le_refl _, by decide, .inr ⟨_, 0, rfl, by omega, ⟨⟨[.string ⟨#[97]⟩], ⟨hbx.1, trivial⟩, rfl⟩, ⟨[.string ⟨#[98]⟩], ⟨hbx.2.1, trivial⟩, rfl⟩, ⟨[.string ⟨#[120]⟩], ⟨hbx.2.2.1, trivial⟩, rfl⟩, trivial⟩⟩⟩
  have hlen := Lib.itoa_length_le n (by omega) (by omega)
  have hl1 : ∀ i (h : i < lets.length), (lets[i]'h).size = 1 := by decide
  refine ret_of_vc ties mixed Try.func52 rfl (by kernel_rfl) rfl rfl ?_
  refine Or.inl ((str_ret C l _ (hC.ext (x1.trans x2)) lets _ hrow (by decide)).mono ?_)
  rintro _ w3 ⟨⟨i, hi, rfl⟩, hd⟩
  refine Or.inl ((spec_FormatNat n (by omega) (by omega) w3).mono ?_)
  rintro _ w4 ⟨rfl, x4⟩
  have hli := hl1 i hi
  have hsz : (itoaB n).size = (Lib.itoa n).length := by show (Lib.itoa n).toArray.size = _; rw [List.size_toArray]
  have r4 := (hd.1.rmy (S := fun b => b = C) (by omega) (r1.ext x2)).ext x4
  have hch : Chg (fun b => b = C) W w4 := ((Chg.of (x1.trans x2)).trans hd.1).trans (.of x4)
  have hst : ∀ s : ByteArray, Chg (fun b => b = W.heap.size) w4 (setCells w4 W.heap.size 0 (tc (varL n s) (.slice none 0 0))) := fun s => Chg.setCells (S := fun b => b = W.heap.size) rfl _ _ _
  have hfin : ∀ s ∈ lets, Drw C l W (setCells w4 W.heap.size 0 (tc (varL n (s ++ itoaB n)) (.slice none 0 0))) := fun s _ => by
    refine ⟨Chg.later hch (hst _) (fun b hb => .inr (by omega)), ?_⟩
    exact (hd.2.ext x4).chg (S := fun b => b = W.heap.size) (fun b h1 h2 => by omega) (hst _)
  refine ⟨by show lets[i].size + (itoaB n).size ≤ _; omega, ?_⟩
  refine ⟨r4.all _ 0 (Nat.le_refl 5) rfl, tc (varL n (lets[i]'hi ++ itoaB n)) (.slice none 0 0), rfl, setCells_at _ _ 0 5 r4 (Nat.le_refl 5), ?_⟩
  exact ⟨⟨_, List.getElem_mem hi, rfl⟩, hfin _ (List.getElem_mem hi)⟩
end Go.Proofs.Ytekddgkgeaolnaa.Dr
