/- The reference's ParseInt. -/
import Derived.Test.YtekddgkgeaolnaaDoorGn
namespace Go.Proofs.YtekddgkgeaolnaaDoor
open Go Go.Vc Go.RowKit
set_option linter.unusedVariables false

def sgn (s : ByteArray) : Bool := match s.data.toList with
  | c :: _ => decide (c = 45)
  | [] => false
def txt (s : ByteArray) : ByteArray := if sgn s then s.extract 1 s.size else s
theorem sgn_nil {s : ByteArray} (h : ¬ 0 < s.size) : sgn s = false := by
  have h0 : s.data.toList = [] := List.eq_nil_of_length_eq_zero (show s.size = 0 by omega)
  unfold sgn
  rw [h0]
theorem sgn_cons {s : ByteArray} (h : 0 < s.size) : sgn s = decide (((s[0]'h).toNat : Int) = 45) := by
  rcases s with ⟨⟨l⟩⟩
  cases l with
  | nil => exact absurd h (Nat.lt_irrefl 0)
  | cons c r =>
    show decide (c = 45) = decide ((c.toNat : Int) = 45)
    rw [decide_eq_decide]
    exact ⟨fun h => by rw [h]; rfl, fun h => UInt8.toNat_inj.1 (by show c.toNat = 45; omega)⟩
theorem txt_list (s : ByteArray) : s.data.toList = if sgn s = true then 45 :: (txt s).data.toList else (txt s).data.toList := by
  by_cases h : sgn s = true
  · rw [if_pos h]
    unfold txt
    rw [if_pos h, extract_toList]
    unfold sgn at h
    cases hl : s.data.toList with
    | nil => rw [hl] at h; cases h
    | cons c r =>
      rw [hl] at h
      have h : c = 45 := of_decide_eq_true h
      have hz : s.size = r.length + 1 := by have : s.data.toList.length = s.size := rfl; rw [hl, List.length_cons] at this; omega
      rw [h, List.drop_succ_cons, List.drop_zero, List.take_of_length_le (by omega)]
  · rw [if_neg h]
    unfold txt
    rw [if_neg h]
theorem num_txt {s : ByteArray} {m : Int} (h : Num s m) : (txt s).data.toList = Lib.decDigits m.natAbs ∧ (sgn s = true ↔ m < 0) := by
  have ht := txt_list s
  have hs : s.data.toList = Lib.itoa m := by rw [← h.2, itoaS_list]
  by_cases hm : m < 0
  · obtain ⟨u, rfl⟩ : ∃ u : Nat, m = -(u : Int) := ⟨m.natAbs, by omega⟩
    rw [Lib.itoa_neg u (by omega)] at hs
    have hg : sgn s = true := by unfold sgn; rw [hs]; rfl
    rw [hs, if_pos hg] at ht
    exact ⟨by rw [← (List.cons.inj ht).2]; congr 1; omega, ⟨fun _ => hm, fun _ => hg⟩⟩
  · obtain ⟨u, rfl⟩ : ∃ u : Nat, m = (u : Int) := ⟨m.toNat, by omega⟩
    rw [Lib.itoa_nonneg] at hs
    obtain ⟨c, r, hc, hd⟩ := dd_cons u
    have hg : sgn s = false := by
      unfold sgn
      rw [hs, hc]
      refine decide_eq_false fun e => ?_
      subst e
      have : 48 ≤ (45 : UInt8).toNat := hd.1
      revert this
      decide
    rw [hs, if_neg (by rw [hg]; decide)] at ht
    exact ⟨by rw [← ht]; congr 1, ⟨fun h' => absurd (hg.symm.trans h') (by decide), fun h' => absurd h' hm⟩⟩
/-- The value of the first digits. -/
def pv (t : ByteArray) (i : Nat) : Nat := digV 0 (t.data.toList.take i)
theorem pv_step {t : ByteArray} {i : Nat} (h : i < t.size) : pv t (i + 1) = pv t i * 10 + ((t[i]'h).toNat - 48) := by
  have e : t[i]'h = t.data.toList[i]'h := rfl
  unfold pv
  rw [List.take_succ_eq_append_getElem (show i < t.data.toList.length from h), digV_app, e]
  rfl
theorem pv_le {t : ByteArray} (i : Nat) : pv t i ≤ digV 0 t.data.toList := by
  have h : digV 0 t.data.toList = digV (pv t i) (t.data.toList.drop i) := by
    unfold pv
    rw [← digV_app, List.take_append_drop]
  rw [h]
  exact digV_ge _ _
theorem num_pv {s : ByteArray} {m : Int} (h : Num s m) (i : Nat) : pv (txt s) i ≤ m.natAbs := by
  have h1 := pv_le (t := txt s) i
  rw [(num_txt h).1, dd_val] at h1
  exact h1
theorem num_all {s : ByteArray} {m : Int} (h : Num s m) : pv (txt s) (txt s).size = m.natAbs := by
  unfold pv
  rw [List.take_of_length_le (show (txt s).data.toList.length ≤ (txt s).size from Nat.le_refl _), (num_txt h).1, dd_val]
theorem num_dig {s : ByteArray} {m : Int} (h : Num s m) {i : Nat} (hi : i < (txt s).size) : 48 ≤ (((txt s)[i]'hi).toNat : Int) ∧ (((txt s)[i]'hi).toNat : Int) ≤ 57 := by
  have e : (txt s)[i]'hi = (txt s).data.toList[i]'hi := rfl
  have hm : (txt s)[i]'hi ∈ Lib.decDigits m.natAbs := by rw [← (num_txt h).1, e]; exact List.getElem_mem _
  have := dd_dig _ _ hm
  unfold isDig at this
  omega
theorem num_len {s : ByteArray} {m : Int} (h : Num s m) : 1 ≤ (txt s).size ∧ (txt s).size ≤ 19 := by
  have e : (txt s).data.toList.length = (txt s).size := rfl
  rw [(num_txt h).1] at e
  have h1 := h.1
  have h2 := dd_len 19 m.natAbs (by omega) (by decide)
  have h3 := List.length_pos_iff.2 (dd_ne m.natAbs)
  omega
theorem guard_eq {d : Int} (h : 0 ≤ d ∧ d ≤ 9) : (-9223372036854775808 + d).tdiv 10 = -((9223372036854775808 - d) / 10) := by
  have e : -9223372036854775808 + d = -(9223372036854775808 - d) := by omega
  rw [e, Int.neg_tdiv, Int.tdiv_eq_ediv_of_nonneg (by omega)]
theorem in_ret (n lo hi : Int) (W : World) : Ret Tryd.prog 50 #[.int .i64 n, .int .i64 lo, .int .i64 hi] W (fun v w' => v = .bool (decide (lo ≤ n ∧ n ≤ hi)) ∧ w' = W) := by
  by_cases h1 : lo ≤ n
  · by_cases h2 : n ≤ hi
    · rw [decide_eq_true ⟨h1, h2⟩]
      refine ret_of_vc ties mixed Tryd.func50 rfl (by kernel_rfl) rfl rfl ?_
      repeat refine br_dec_true h1 ?_
      exact ⟨vbool (decide_eq_true h2), rfl⟩
    · rw [decide_eq_false (fun h => h2 h.2)]
      refine ret_of_vc ties mixed Tryd.func50 rfl (by kernel_rfl) rfl rfl ?_
      repeat refine br_dec_true h1 ?_
      exact ⟨vbool (decide_eq_false h2), rfl⟩
  · rw [decide_eq_false (fun h => h1 h.1)]
    refine ret_of_vc ties mixed Tryd.func50 rfl (by kernel_rfl) rfl rfl ?_
    repeat refine br_dec_false h1 ?_
    exact ⟨rfl, rfl⟩
set_option maxHeartbeats 1000000 in
theorem spec_ParseInt (s : ByteArray) (W : World) (hs : s.size ≤ 1048576) : Ret Tryd.prog 26 #[.string s] W (PiR s W) := by
  have htz : (txt s).size ≤ 1048576 := by
    unfold txt
    split
    · have h1 : (s.extract 1 s.size).size = s.size - 1 := by rw [ByteArray.size_extract]; omega
      omega
    · exact hs
  refine ret_of_vc ties mixed Tryd.func26 rfl (by kernel_rfl) rfl rfl ?_
  refine seq_k fun K hK => hK _ _ ?_
  show vc _ _ (Code.seq _ _) _ _ _
  refine seq_cut (σ := Bool) [4] 9 17 (fun b => [.bool b]) (fun b w' => W = w' ∧ b = sgn s) (fun K hK => ?_) (fun b w1 junk hJ => ?_)
  · by_cases h0 : 0 < s.size
    · refine br_dec_true (show (0 : Int) < (s.size : Int) by omega) ?_
      refine ⟨⟨by decide, h0⟩, ?_⟩
      refine hK _ _ _ (vs1 rfl) ⟨rfl, (sgn_cons h0).symm⟩ ?_
      ((repeat (first | (with_reducible exact Only.refl) | (with_reducible refine Only.skip ?_) | ((with_reducible refine Only.upd ?_ ?_); rfl) | ((with_reducible refine Only.over ?_ ?_ _); rfl) | ((with_reducible refine Only.hav ?_ ?_ ?_); rfl; rfl))))
    · refine br_dec_false (show ¬ (0 : Int) < (s.size : Int) by omega) ?_
      refine hK false _ _ rfl ⟨rfl, (sgn_nil h0).symm⟩ ?_
      ((repeat (first | (with_reducible exact Only.refl) | (with_reducible refine Only.skip ?_) | ((with_reducible refine Only.upd ?_ ?_); rfl) | ((with_reducible refine Only.over ?_ ?_ _); rfl) | ((with_reducible refine Only.hav ?_ ?_ ?_); rfl; rfl))))
  obtain ⟨rfl, rfl⟩ := hJ
  refine seq_k fun K hK => hK _ _ ?_
  show vc _ _ (Code.seq _ _) _ _ _
  refine seq_cut (σ := ByteArray) [5] 18 21 (fun t => [.string t]) (fun t w' => W = w' ∧ t = txt s) (fun K hK => ?_) (fun t w1 junk2 hJ => ?_)
  · refine br_split (fun hb => ?_) (fun hb => ?_)
    · have h0 : 0 < s.size := Decidable.byContradiction fun h => by rw [sgn_nil h] at hb; cases hb
      refine ⟨⟨by decide, by omega, by omega⟩, ?_⟩
      refine hK _ _ _ (vs1 rfl) ⟨rfl, ?_⟩ ?_
      · unfold txt; rw [if_pos hb]; rfl
      · ((repeat (first | (with_reducible exact Only.refl) | (with_reducible refine Only.skip ?_) | ((with_reducible refine Only.upd ?_ ?_); rfl) | ((with_reducible refine Only.over ?_ ?_ _); rfl) | ((with_reducible refine Only.hav ?_ ?_ ?_); rfl; rfl))))
    · refine hK _ _ _ (vs1 rfl) ⟨rfl, ?_⟩ ?_
      · unfold txt; rw [if_neg (by rw [hb]; decide)]
      · ((repeat (first | (with_reducible exact Only.refl) | (with_reducible refine Only.skip ?_) | ((with_reducible refine Only.upd ?_ ?_); rfl) | ((with_reducible refine Only.over ?_ ?_ _); rfl) | ((with_reducible refine Only.hav ?_ ?_ ?_); rfl; rfl))))
  obtain ⟨rfl, ht⟩ := hJ
  rw [← ht] at htz
  have hyes : ∀ {n : Int} {w : World}, Num s n → Ext W w → PiR s W (.tuple #[.int .i64 n, .bool true]) w := fun h x => piR_yes h x
  have hno : ∀ {w : World}, (∀ n, ¬ Num s n) → Ext W w → PiR s W (.tuple #[.int .i64 0, .bool false]) w := fun h x => piR_no h x
  have hlen : ∀ m, Num s m → 1 ≤ t.size ∧ t.size ≤ 19 := fun m hm => by rw [ht]; exact num_len hm
  refine br_dec (fun h => ?_) (fun h1 => ?_)
  · exact hno (fun m hm => by have := hlen m hm; omega) (Ext.refl _)
  refine br_dec (fun h => ?_) (fun h2 => ?_)
  · exact hno (fun m hm => by have := hlen m hm; omega) (Ext.refl _)
  have h19 : t.size ≤ 19 := by omega
  refine loop_rule (σ := Nat × Value) [6, 7, 8] 29 54 (fun q => [.int .i64 (-(pv t q.1 : Int)), .int .i64 q.1, q.2]) (fun q w' => Ext W w' ∧ q.1 ≤ t.size ∧ pv t q.1 ≤ 9223372036854775808) (fun q => t.size - q.1) (0, undef) rfl
    ⟨Ext.refl _, Nat.zero_le _, by show digV 0 [] ≤ _; decide⟩ ?_
  rintro ⟨i, g8⟩ w junk3 ⟨hx, hi, hv⟩ K hK
  simp only at hi hv
  show vc _ _ _ _ (over [6, 7, 8] [.int .i64 (-(pv t i : Int)), .int .i64 i, g8] _) _
  refine br_dec (fun h3 => ?_) (fun h3 => ?_)
  · have hil : i < t.size := by omega
    have hst := pv_step hil
    obtain ⟨c, hc⟩ : ∃ c : Nat, (t[i]'hil).toNat = c := ⟨_, rfl⟩
    have hc8 : c < 256 := by rw [← hc]; exact UInt8.toNat_lt _
    have hdig : ∀ m, Num s m → 48 ≤ c ∧ c ≤ 57 := fun m hm => by
      subst ht
      have := num_dig hm hil
      omega
    have hle : ∀ m, Num s m → pv t (i + 1) ≤ m.natAbs := fun m hm => by rw [ht]; exact num_pv hm _
    refine ⟨⟨by omega, by show i < t.size; omega⟩, ?_⟩
    refine ⟨(c : Int), (congrArg (fun n : Nat => IntKind.i64.wrap (n : Int)) hc).trans (IntWalk.i64_in _ (by omega)), ?_⟩
    refine ⟨(c : Int) - 48, IntWalk.i64_in _ (by omega), ?_⟩
    refine Or.inl ((in_ret ((c : Int) - 48) 0 9 w).mono ?_)
    rintro _ _ ⟨rfl, rfl⟩
    by_cases hd : 0 ≤ (c : Int) - 48 ∧ (c : Int) - 48 ≤ 9
    · refine br_ndec (fun h => absurd hd h) (fun _ => ?_)
      have hc48 : 48 ≤ c := by omega
      have hst' : pv t (i + 1) = pv t i * 10 + (c - 48) := by rw [hst, hc]
      refine ⟨_, IntWalk.i64_in _ (by omega), ?_⟩
      refine ⟨by decide, _, (congrArg _ (guard_eq hd)).trans (IntWalk.i64_in _ (by omega)), ?_⟩
      refine br_dec (fun h4 => ?_) (fun h4 => ?_)
      · exact hno (fun m hm => by have h5 := hle m hm; have h6 := hm.1; omega) hx
      · refine ⟨_, IntWalk.i64_in _ (by omega), _, IntWalk.i64_in _ (by omega), _, IntWalk.i64_in _ (by omega), ?_⟩
        refine hK (i + 1, _) _ _ (vs3 (vint (by show -(pv t i : Int) * 10 - ((c : Int) - 48) = -(pv t (i + 1) : Int); rw [hst']; omega)) (vint (by show (i : Int) + 1 = ((i + 1 : Nat) : Int); omega)) rfl) ⟨hx, by show i + 1 ≤ t.size; omega, by show pv t (i + 1) ≤ _; omega⟩ (by show t.size - (i + 1) < t.size - i; omega) ?_
        ((repeat (first | (with_reducible exact Only.refl) | (with_reducible refine Only.skip ?_) | ((with_reducible refine Only.upd ?_ ?_); rfl) | ((with_reducible refine Only.over ?_ ?_ _); rfl) | ((with_reducible refine Only.hav ?_ ?_ ?_); rfl; rfl))))
    · refine br_ndec (fun _ => ?_) (fun h => absurd h hd)
      exact hno (fun m hm => by have := hdig m hm; omega) hx
  · have hie : i = t.size := by omega
    subst hie
    have hall : ∀ m, Num s m → pv t t.size = m.natAbs ∧ (sgn s = true ↔ m < 0) := fun m hm => by
      have h1 := num_all hm
      rw [← ht] at h1
      exact ⟨h1, (num_txt hm).2⟩
    refine br_not (fun hb => ?_) (fun hb => ?_)
    · have hall : ∀ m, Num s m → m = (pv t t.size : Int) := fun m hm => by
        have h1 := hall m hm
        have h2 : ¬ m < 0 := fun h => by have := h1.2.2 h; rw [hb] at this; cases this
        omega
      refine br_dec (fun h5 => ?_) (fun h5 => ?_)
      · exact hno (fun m hm => by have h1 := hall m hm; have h6 := hm.1; omega) hx
      refine ⟨(pv t t.size : Int), (IntWalk.i64_in _ (by omega)).trans (by omega), ?_⟩
      refine Or.inl ((spec_FormatInt (pv t t.size + 1) (pv t t.size : Int) (by omega) (by omega) w).mono ?_)
      rintro _ w2 ⟨rfl, x2⟩
      refine br_dec (fun h6 => ?_) (fun h6 => ?_)
      · exact hno (fun m hm => h6 (by rw [← hall m hm]; exact hm.2)) (hx.trans x2)
      · exact hyes ⟨by omega, Decidable.byContradiction h6⟩ (hx.trans x2)
    · have hall : ∀ m, Num s m → m = -(pv t t.size : Int) := fun m hm => by
        have h1 := hall m hm
        have h2 := h1.2.1 hb
        omega
      refine Or.inl ((spec_FormatInt (pv t t.size + 1) (-(pv t t.size : Int)) (by omega) (by omega) w).mono ?_)
      rintro _ w2 ⟨rfl, x2⟩
      refine br_dec (fun h6 => ?_) (fun h6 => ?_)
      · exact hno (fun m hm => h6 (by rw [← hall m hm]; exact hm.2)) (hx.trans x2)
      · exact hyes ⟨by omega, Decidable.byContradiction h6⟩ (hx.trans x2)
end Go.Proofs.YtekddgkgeaolnaaDoor
