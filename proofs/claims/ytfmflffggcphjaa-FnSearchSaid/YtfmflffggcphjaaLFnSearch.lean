/- The law FnSearch: whatever the bytes, it returns true; all that was there is as it was. No condition. -/
import Derived.Test.YtfmflffggcphjaaDp
import Derived.Test.YtfmflffggcphjaaTh
import Derived.Test.YtfmflffggcphjaaZw
import Derived.WalkKit
import Derived.ProofKit
import Derived.OpenShut
import Derived.ShutString
import Derived.ChangeOld
import Derived.Below
namespace Go.Proofs.Ytfmflffggcphjaa.lawFnSearch
open Go Go.Vc Go.ChangeShapes Go.WideShapes Go.ChangeAt Go.RowKit Go.Sat Go.Proofs.Ytfmflffggcphjaa.Dr
set_option linter.unusedVariables false

/-- What is known of a search's answer. -/
def Ans (n : Nat) (F : Cnf) (lits : List Int) (c : Int) (M : List Bool) : Prop :=
  (c = 2 ∧ M = [] ∧ ∀ m : List Bool, m.length = n → evF F m = true → ¬ Hol m (fun x => x ∈ lits)) ∨
  (c = 1 ∧ M.length = n ∧ evF F M = true ∧ Hol M (fun x => x ∈ lits) ∧ ∀ m : List Bool, m.length = n → evF F m = true → Hol m (fun x => x ∈ lits) → num M ≤ num m)
theorem ans_of {n : Nat} {F : Cnf} {lits : List Int} {r : Res} (hn : n ≤ 6) (hF : fOk n F = true) (hl : ∀ x ∈ lits, litOk n x = true) (h : SeaO n F lits 3000 r) : Ans n F lits r.code (modL r) := by
  unfold Ans modL
  rcases sea_small hn hF hl h with ⟨h1, h2⟩ | ⟨h1, h2⟩
  · exact .inl ⟨h1, by rw [if_neg (by rw [h1]; decide)], h2⟩
  · rw [if_pos h1]; exact .inr ⟨h1, h2⟩

set_option maxRecDepth 200000 in
set_option maxHeartbeats 4000000 in
theorem walk (W : World) (L : List Int) (v0 : Value) (HS : SlR eU allB W v0 L) : Ret Try.prog 11 #[v0] W (fun v w' => v = .bool true ∧ Ext W w') := by
  have hlm : (maxLen : Int) ≤ 9223372036854775807 := by decide
  obtain ⟨a, cp, rfl, hlc, hcm, hat⟩ := id HS
  refine ret_of_vc ties mixed Try.func11 rfl (by kernel_rfl) rfl rfl ?_
  refine br_dec (fun h => ⟨rfl, Ext.refl _⟩) (fun _ => ?_)
  refine Or.inl ((giveFormula_ret L 0 (by decide) _ W HS).mono ?_)
  rintro _ w1 ⟨x1, n, gv, F, rfl, hn1, hn6, hF, hFl, hgv⟩
  have hgv : SlR eL allB w1 gv F := hgv.mono fun _ _ => trivial
  have r2 := Rmy.new w1 [.int .i64 0, .slice none 0 0] 25
  refine ⟨r2.all [.int .i64 n, gv] 0 (Nat.le_refl 2) (by simp only [List.all_cons, hgv.oneB]; rfl), ?_⟩
  have x2 : Ext w1 (setCells (w1.alloc (.cells #[.int .i64 0, .slice none 0 0] 25)) w1.heap.size 0 [.int .i64 n, gv]) := Ext.setCells _ (Ext.new _ _) (Nat.le_refl _)
  have hc2 := setCells_at [.int .i64 n, gv] _ 0 2 r2 (Nat.le_refl 2)
  refine ⟨[.int .i64 n, gv], rfl, hc2, ?_⟩
  refine Or.inl ((giveLits_ret L 90 (by decide) n (by omega) gv _ _ (HS.ext (x1.trans x2))).mono ?_)
  rintro tv w3 ⟨x3, lits, hlo, hlit, hll, -⟩
  have hls : SlR eI allB w3 tv lits := hlo.sl (fun _ _ => trivial) (fun _ _ => trivial)
  refine ⟨[.int .i64 n, gv], rfl, hc2.ext x3, ?_⟩
  refine Or.inl ((impl_Search n F lits 3000 gv tv w3 (hgv.ext (x2.trans x3)) hls (by omega)).mono ?_)
  rintro _ w4 ⟨x4, r, hr, sv, rfl, hsv, -⟩
  have hans := ans_of hn6 hF hlit hr
  have hmade : (0 : Int) ≤ (r.made : Int) := by omega
  have hsv : SlR eB allB w4 sv (modL r) := hsv.sl (fun _ _ => trivial) (fun _ _ => trivial)
  generalize (r.made : Int) = md at hmade
  generalize r.code = c at hans
  generalize modL r = M at hans hsv
  have x14 : Ext W w4 := (((x1.trans x2).trans x3).trans x4)
  have hc4 := hc2.ext (x3.trans x4)
  have hgv4 := hgv.ext ((x2.trans x3).trans x4)
  have hls4 := hls.ext x4
  generalize w1.heap.size = G at hc4
  clear hc2 r2 hls hgv hlo hr HS hat x1 x2 x3 x4
  obtain ⟨la, lc, rfl, hlc2, hlm2, -⟩ := id hls4
  obtain ⟨sa, sc, rfl, hsc2, hsm2, -⟩ := id hsv
  refine loop_rule (σ := Nat × Nat × Value × Value × Value × Value × Value × Value) [8, 9, 10, 11, 12, 14, 15, 16] 32 142 (fun q => [.int .i64 q.2.1, .int .i64 q.1, q.2.2.1, q.2.2.2.1, q.2.2.2.2.1, q.2.2.2.2.2.1, q.2.2.2.2.2.2.1, q.2.2.2.2.2.2.2])
    (fun q w' => Ext w4 w' ∧ q.1 ≤ 2 ^ n ∧ q.2.1 = cntK (fun k => evF F (rbits n k)) q.1 ∧ (c = 1 → q.1 ≤ num M)) (fun q => 2 ^ n - q.1) (0, 0, undef, undef, undef, undef, undef, undef) rfl
    ⟨Ext.refl _, Nat.zero_le _, rfl, fun _ => Nat.zero_le _⟩ ?_
  rintro ⟨k, cnt, j10, j11, j12, j14, j15, j16⟩ w junk ⟨hx, hk, hc, hmin⟩ K hK
  simp only at hk hc hmin
  have hp := pow12 n (by omega)
  have hcl : cnt ≤ k := by rw [hc]; exact cntK_le _ _
  show vc _ _ _ _ (over [8, 9, 10, 11, 12, 14, 15, 16] [.int .i64 cnt, .int .i64 k, j10, j11, j12, j14, j15, j16] _) _
  refine ⟨_, (hc4.ext hx).1, by omega, _, shl12 n (by omega), ?_⟩
  refine br_dec (fun h3 => ?_) (fun h3 => ?_)
  · have hk2 : k < 2 ^ n := by exact_mod_cast h3
    have xn : Ext w (w.alloc (.cells #[] 4)) := Ext.new _ _
    refine ⟨_, (hc4.ext (hx.trans xn)).1, _, IntWalk.i64_in _ (by omega), ?_⟩
    refine loop_rule (σ := Nat × Value) [10, 11] 43 142 (fun q => [q.2, .int .i64 ((n : Int) - 1 - q.1)])
      (fun q w' => Ext w w' ∧ q.1 ≤ n ∧ OwnR eB noB w' q.2 ((rbits n k).take q.1) ∧ ∀ b, blk q.2 b → w.heap.size ≤ b) (fun q => n - q.1) (0, .slice (some ⟨w.heap.size, 0, none⟩) 0 0) (vs2 rfl (vint (by omega))) ⟨xn, Nat.zero_le _, OwnR.nil _ _ _ _, fun b hb => by cases hb; exact Nat.le_refl _⟩ ?_
    rintro ⟨i, mv⟩ w5 junk ⟨hx5, hi, ho, hob⟩ K' hK'
    simp only at hi ho hob
    show vc _ _ _ _ (over [10, 11] [mv, .int .i64 ((n : Int) - 1 - i)] _) _
    refine br_dec (fun h4 => ?_) (fun h4 => ?_)
    · have hin : i < n := by omega
      have hlen : ((rbits n k).take i).length = i := by rw [List.length_take, rbits_len]; omega
      refine ⟨by omega, _, rfl, _, rfl, ?_⟩
      refine raw_push (E := eB) (ok := noB) (x := bitAt k ((n : Int) - 1 - i)) ties rfl rfl rfl rfl rfl rfl rfl rfl rfl rfl rfl ho rfl noB_blk (by rw [hlen]; show (i + 1) * 1 ≤ _; omega) (by omega) ?_
      intro v w6 hv hch hsz hvb
      refine ⟨_, IntWalk.i64_in _ (by omega), ?_⟩
      refine hK' (i + 1, v) _ _ (vs2 rfl (vint (by show (n : Int) - 1 - i - 1 = (n : Int) - 1 - (i + 1 : Nat); omega))) ⟨hx5.chg hch hob, by show i + 1 ≤ n; omega, ?_, fun b hb => ?_⟩ (by show n - (i + 1) < n - i; omega) ?_
      · show OwnR eB noB w6 v ((rbits n k).take (i + 1))
        rw [rbits_snoc hin (by omega)]
        exact hv
      · rcases hvb b hb with h | h
        · exact hob b h
        · exact Nat.le_trans hx5.size (Nat.le_of_lt h.1)
      · ((repeat (first | (with_reducible exact Only.refl) | (with_reducible refine Only.skip ?_) | ((with_reducible refine Only.upd ?_ ?_); rfl) | ((with_reducible refine Only.over ?_ ?_ _); rfl) | ((with_reducible refine Only.hav ?_ ?_ ?_); rfl; rfl))))
    have hin : n = i := by omega
    subst hin
    rw [List.take_of_length_le (by rw [rbits_len]; exact Nat.le_refl _)] at ho
    have hm : SlR eB allB w5 mv (rbits n k) := ho.sl (fun _ _ => trivial) (fun _ _ => trivial)
    clear ho hob hK'
    have hx5 := hx.trans hx5
    refine ⟨[.int .i64 n, gv], rfl, hc4.ext hx5, ?_⟩
    refine Or.inl ((spec_EvalFormula n F _ gv _ _ (hgv4.ext hx5) hm).mono ?_)
    rintro _ w6 ⟨rfl, x6⟩
    have hev : evalF n F (rbits n k) = evF F (rbits n k) := by simp [evalF, hF, rbits_len]
    have hx6 := hx5.trans x6
    refine Exists.elim (bools_cells (hm.ext x6) (by rw [rbits_len]; omega)) fun B h => Exists.elim h fun O h => Exists.elim h fun C h => ?_
    have hme := h.1
    have hmc := h.2
    rw [rbits_len] at hme hmc
    clear h
    clear hm
    subst hme
    rw [hev]
    have hmin' : ¬ (evF F (rbits n k) = true ∧ Hol (rbits n k) (fun x => x ∈ lits)) → c = 1 → k + 1 ≤ num M := fun h hc1 => by
      rcases Nat.lt_or_ge k (num M) with g | g
      · exact g
      · rcases hans with ⟨h1, _⟩ | ⟨_, h2, h3, h4, _⟩
        · omega
        · have := first_is h2 hk2 (hmin hc1) (by rw [num_rbits, Nat.mod_eq_of_lt hk2]; exact g)
          exact absurd ⟨this ▸ h3, this ▸ h4⟩ h
    refine br_not (fun h5 => ?_) (fun h5 => ?_)
    · refine ⟨_, IntWalk.i64_in _ (by omega), ?_⟩
      refine hK (k + 1, cnt, _, _, j12, j14, j15, j16) _ _ (by show [_, _, _, _, _, _, _, _] = [_, _, _, _, _, _, _, _]; exact vs8 (vint rfl) (vint (by show (k : Int) + 1 = ((k + 1 : Nat) : Int); omega)) rfl rfl rfl rfl rfl rfl) ⟨hx6, by show k + 1 ≤ _; omega, ?_, fun h => hmin' (fun h => by rw [h5] at h; cases h.1) h⟩ (by show 2 ^ n - (k + 1) < 2 ^ n - k; omega) ?_
      · show cnt = cntK _ (k + 1)
        rw [cntK, h5, hc]; rfl
      · ((repeat (first | (with_reducible exact Only.refl) | (with_reducible refine Only.skip ?_) | ((with_reducible refine Only.upd ?_ ?_); rfl) | ((with_reducible refine Only.over ?_ ?_ _); rfl) | ((with_reducible refine Only.hav ?_ ?_ ?_); rfl; rfl))))
    refine ⟨_, IntWalk.i64_in _ (by omega), ?_⟩
    have hcel := ints_cells (hls4.ext hx6)
    refine loop_rule (σ := Nat × Bool × Value) [12, 14, 63] 64 142 (fun q => [.bool q.2.1, q.2.2, .int .i64 q.1])
      (fun q w' => w' = w6 ∧ q.1 ≤ lits.length ∧ q.2.1 = (lits.take q.1).all (satL (rbits n k))) (fun q => lits.length - q.1) (0, true, j14) rfl ⟨rfl, Nat.zero_le _, rfl⟩ ?_
    rintro ⟨i, fit, y14⟩ w7 junk ⟨rfl, hi, hfit⟩ K' hK'
    simp only at hi hfit
    show vc _ _ _ _ (over [12, 14, 63] [.bool fit, y14, .int .i64 i] _) _
    refine br_dec (fun h6 => ?_) (fun h6 => ?_)
    · have hil : i < lits.length := by omega
      refine Exists.elim (hcel i hil) fun b1 h => Exists.elim h fun o1 h => Exists.elim h fun x h => ?_
      have hla := h.1
      have hxe := h.2.1
      have hc1 := h.2.2
      clear h
      subst hla
      refine ⟨⟨by omega, by omega⟩, _, hc1, ?_⟩
      have hst := all_next (p := satL (rbits n k)) hil
      have hlx := litOk_iff.1 (hlit _ (List.getElem_mem hil))
      rw [hxe] at hst hlx
      cases fit with
      | false =>
        refine ⟨_, IntWalk.i64_in _ (by omega), ?_⟩
        refine hK' (i + 1, false, _) _ _ (vs3 rfl rfl (vint (by show (i : Int) + 1 = ((i + 1 : Nat) : Int); omega))) ⟨rfl, by show i + 1 ≤ _; omega, ?_⟩ (by show lits.length - (i + 1) < lits.length - i; omega) ?_
        · show false = _
          rw [hst, ← hfit, Bool.false_and]
        · ((repeat (first | (with_reducible exact Only.refl) | (with_reducible refine Only.skip ?_) | ((with_reducible refine Only.upd ?_ ?_); rfl) | ((with_reducible refine Only.over ?_ ?_ _); rfl) | ((with_reducible refine Only.hav ?_ ?_ ?_); rfl; rfl))))
      | true =>
        by_cases hx0 : 0 < x
        · refine br_dec_true hx0 ?_
          refine ⟨_, IntWalk.i64_in _ (by omega), ⟨by omega, by omega⟩, _, hmc _ (by omega) (by omega), ?_⟩
          refine br_split (fun hb => ?_) (fun hb => ?_)
          · refine ⟨_, IntWalk.i64_in _ (by omega), ?_⟩
            refine hK' (i + 1, true, _) _ _ (vs3 rfl rfl (vint (by show (i : Int) + 1 = ((i + 1 : Nat) : Int); omega))) ⟨rfl, by show i + 1 ≤ _; omega, ?_⟩ (by show lits.length - (i + 1) < lits.length - i; omega) ?_
            · show true = _
              rw [hst, ← hfit, satL_pos hx0, hb, Bool.true_and]
            · ((repeat (first | (with_reducible exact Only.refl) | (with_reducible refine Only.skip ?_) | ((with_reducible refine Only.upd ?_ ?_); rfl) | ((with_reducible refine Only.over ?_ ?_ _); rfl) | ((with_reducible refine Only.hav ?_ ?_ ?_); rfl; rfl))))
          · refine br_dec_false (show ¬ x < 0 by omega) ?_
            refine ⟨_, IntWalk.i64_in _ (by omega), ?_⟩
            refine hK' (i + 1, false, _) _ _ (vs3 rfl rfl (vint (by show (i : Int) + 1 = ((i + 1 : Nat) : Int); omega))) ⟨rfl, by show i + 1 ≤ _; omega, ?_⟩ (by show lits.length - (i + 1) < lits.length - i; omega) ?_
            · show false = _
              rw [hst, ← hfit, satL_pos hx0, hb, Bool.true_and]
            · ((repeat (first | (with_reducible exact Only.refl) | (with_reducible refine Only.skip ?_) | ((with_reducible refine Only.upd ?_ ?_); rfl) | ((with_reducible refine Only.over ?_ ?_ _); rfl) | ((with_reducible refine Only.hav ?_ ?_ ?_); rfl; rfl))))
        · have hx1 : x < 0 := by omega
          refine br_dec_false hx0 ?_
          refine br_dec_true hx1 ?_
          refine ⟨-x, (congrArg _ (Int.zero_sub _)).trans (IntWalk.i64_in _ (by omega)), ?_⟩
          refine ⟨_, IntWalk.i64_in _ (by omega), ⟨by omega, by omega⟩, _, hmc _ (by omega) (by omega), ?_⟩
          · refine ⟨_, IntWalk.i64_in _ (by omega), ?_⟩
            refine hK' (i + 1, !(rbits n k).getD (-x - 1).toNat false, _) _ _ (vs3 rfl rfl (vint (by show (i : Int) + 1 = ((i + 1 : Nat) : Int); omega))) ⟨rfl, by show i + 1 ≤ _; omega, ?_⟩ (by show lits.length - (i + 1) < lits.length - i; omega) ?_
            · show (!(rbits n k).getD (-x - 1).toNat false) = _
              rw [hst, ← hfit, satL_not hx1, Bool.true_and]
            · ((repeat (first | (with_reducible exact Only.refl) | (with_reducible refine Only.skip ?_) | ((with_reducible refine Only.upd ?_ ?_); rfl) | ((with_reducible refine Only.over ?_ ?_ _); rfl) | ((with_reducible refine Only.hav ?_ ?_ ?_); rfl; rfl))))
    have hil : lits.length = i := by omega
    subst hil
    rw [List.take_length] at hfit
    refine br_not (fun hfit0 => ?_) (fun hfit1 => ?_)
    · subst hfit0
      refine ⟨_, IntWalk.i64_in _ (by omega), ?_⟩
      refine hK (k + 1, cnt + 1, _, _, _, _, j15, j16) _ _ (by show [_, _, _, _, _, _, _, _] = [_, _, _, _, _, _, _, _]; exact vs8 (vint (by show (cnt : Int) + 1 = ((cnt + 1 : Nat) : Int); omega)) (vint (by show (k : Int) + 1 = ((k + 1 : Nat) : Int); omega)) rfl rfl rfl rfl rfl rfl) ⟨hx6, by show k + 1 ≤ _; omega, ?_, fun h => hmin' (fun h => ?_) h⟩ (by show 2 ^ n - (k + 1) < 2 ^ n - k; omega) ?_
      · show cnt + 1 = cntK _ (k + 1)
        rw [cntK, h5, hc]; rfl
      · have := List.all_eq_true.2 fun l hl => h.2 l hl
        rw [← hfit] at this; cases this
      · ((repeat (first | (with_reducible exact Only.refl) | (with_reducible refine Only.skip ?_) | ((with_reducible refine Only.upd ?_ ?_); rfl) | ((with_reducible refine Only.over ?_ ?_ _); rfl) | ((with_reducible refine Only.hav ?_ ?_ ?_); rfl; rfl))))
    subst hfit1
    have hhol : Hol (rbits n k) (fun x => x ∈ lits) := fun l hl => List.all_eq_true.1 hfit.symm l hl
    have hres : c = 1 ∧ M = rbits n k := by
      rcases hans with ⟨_, _, h⟩ | ⟨h1, h2, h3, h4, hh⟩
      · exact absurd hhol (h _ (rbits_len _ _) h5)
      · exact ⟨h1, first_is h2 hk2 (hmin h1) (hh _ (rbits_len _ _) h5 hhol)⟩
    have hres1 := hres.1
    have hres2 := hres.2
    clear hres hans
    subst hres1
    subst hres2
    rw [rbits_len] at hsv
    refine br_dec_false (by rw [rbits_len]; omega) ?_
    refine br_dec_false (fun h => h (by rw [rbits_len])) ?_
    refine Exists.elim (bools_cells (hsv.ext hx6) (by rw [rbits_len]; omega)) fun B' h => Exists.elim h fun O' h => Exists.elim h fun C' h => ?_
    have hse := h.1
    have hsc := h.2
    rw [rbits_len] at hse hsc
    clear h
    have hsa := (Value.slice.inj hse).1
    clear hse
    subst hsa
    refine loop_rule (σ := Nat × Value × Value) [15, 16, 115] 116 142 (fun q => [q.2.1, q.2.2, .int .i64 q.1])
      (fun q w' => w' = w7 ∧ q.1 ≤ n) (fun q => n - q.1) (0, j15, j16) rfl ⟨rfl, Nat.zero_le _⟩ ?_
    rintro ⟨i, y15, y16⟩ w8 junk ⟨rfl, hi⟩ K' hK'
    simp only at hi
    show vc _ _ _ _ (over [15, 16, 115] [y15, y16, .int .i64 i] _) _
    refine br_dec (fun h7 => ?_) (fun h7 => ?_)
    · have hin : i < n := by omega
      refine ⟨⟨by omega, by omega⟩, _, hmc i (by omega) (by omega), ?_⟩
      refine ⟨⟨by omega, by rw [rbits_len]; omega⟩, _, hsc i (by omega) (by omega), ?_⟩
      refine br_false (by simp) ?_
      refine ⟨_, IntWalk.i64_in _ (by omega), ?_⟩
      refine hK' (i + 1, _, _) _ _ (vs3 rfl rfl (vint (by show (i : Int) + 1 = ((i + 1 : Nat) : Int); omega))) ⟨rfl, by show i + 1 ≤ n; omega⟩ (by show n - (i + 1) < n - i; omega) ?_
      ((repeat (first | (with_reducible exact Only.refl) | (with_reducible refine Only.skip ?_) | ((with_reducible refine Only.upd ?_ ?_); rfl) | ((with_reducible refine Only.over ?_ ?_ _); rfl) | ((with_reducible refine Only.hav ?_ ?_ ?_); rfl; rfl))))
    · exact ⟨vbool (decide_eq_true hmade), x14.trans hx6⟩
  · have hke : k = 2 ^ n := by
      have h4 : ¬ k < 2 ^ n := fun e => h3 (by exact_mod_cast e)
      omega
    rcases hans with ⟨h1, h2, _⟩ | ⟨h1, h2, _⟩
    · subst h1
      subst h2
      refine ⟨[.int .i64 n, gv], rfl, hc4.ext hx, ?_⟩
      refine Or.inl ((impl_CountModels n F gv _ (hgv4.ext hx)).mono ?_)
      rintro _ w9 ⟨rfl, x9⟩
      exact ⟨vbool (decide_eq_true (by rw [cntM_A hF (by omega), hc, hke, cnt_rbits])), (x14.trans hx).trans x9⟩
    · have := num_lt M
      have := hmin h1
      rw [h2] at *
      omega
theorem own : ownKnob Try.prog.godebug = none := by kernel_rfl
theorem laidOut : laidOutB Try.prog = true := by kernel_rfl
set_option maxRecDepth 100000 in
theorem lifted (os : Os) (started : os.Started) (H : Type) (enc : TypeId × Value → H) :
    ReturnsInHanded {} Try.checked os 11 .any (Rows.fnSearchSpec.pre6 enc Try.prog Try.f11 Rows.fnSearchRow.domain false) (Rows.fnSearchSpec.post enc Try.prog Try.f11 false true false false) := by
  refine returnsInHanded_of_change (C := Try.checked) own started (by kernel_rfl) Try.func11
    (ChangeSpec.witness6 (enc := enc) (C := Try.checked) false ⟨#[], #[.slice none 0 0], []⟩ 8 (by kernel_rfl) (by kernel_rfl) (by kernel_rfl) (by kernel_rfl)) ?_
  intro W base args ds gs before hval0 hW hcnd _
  have hval : ∀ (j : Nat) t v, Try.f11.params[j]? = some t → args[j]? = some v → Value.okWide Try.prog W .any base t v := hval0
  have hW' := hW
  obtain ⟨p, q, hA0, hV, rfl, hfz, hnd⟩ := hW
  have hA : DataW.TrodAll enc Try.prog W 0 (fun _ => true) true Try.f11.params.toList args.toList ds p := hA0
  rw [Try.params11] at hA hval
  obtain ⟨v0, vs0, d0, ds0, p0, q0, hargs, rfl, rfl, h0, r0⟩ := trodAll_cons hA
  obtain ⟨rfl, rfl, rfl⟩ := trodAll_nil r0
  obtain rfl : args = #[v0] := by cases args; simp_all
  obtain ⟨rfl, rfl⟩ := trodVars_none hV
  have k0 := h0
  have lt0 : ∀ x ∈ p0, x.block < W.heap.size := by obtain ⟨m, hm⟩ := k0; exact DataW.trod_lt m _ _ _ hm
  obtain ⟨L0, HS0⟩ := open_Bytes (hval 0 22 v0 rfl rfl) h0
  clear hA0 hval0
  refine (walk W L0 v0 HS0).calls.mono fun e W' ⟨v, he, hv, bel⟩ => ?_
  subst hv
  subst he
  exact ⟨_, rfl, _, _, _, [], _, [], hW', trodAll_mk1 (shut_bool Try.underlying4 _), (trodAll_cons_mk (Below.trod laidOut (by kernel_rfl) (of_decide_eq_true (by kernel_rfl)) k0 bel lt0) trodAll_mk0), rfl, bel.frame _, fun h => by cases h⟩
theorem band {a b : Bool} (h1 : a = true) (h2 : b = true) : (a && b) = true := by rw [h1, h2]; rfl
theorem lifted_ok : (Rows.fnSearchRow.lifted == Try.pinned.checked.prog.liftsFinal) = true := by rw [head_final]; rfl
theorem make_ok : (Try.pinned.checked.prog.make == some Rows.fnSearchRow.make) = true := by rw [head_make]; rfl
set_option maxHeartbeats 4000000 in
theorem closed : joinedFacts Try.pinned.checked.prog 11 Try.f11 Rows.fnSearchSpec Rows.fnSearchRow = true := by
  unfold joinedFacts
  repeat' (with_reducible refine band ?_ ?_)
  all_goals (first | with_reducible exact head_enter | with_reducible exact lifted_ok | with_reducible exact make_ok | (as_aux_lemma => kernel_rfl))
theorem holds : Rows.fnSearchRow.holds Try.pinned (OpenSpec.ofChange Rows.fnSearchSpec) :=
  OpenClaim.holds_of_wide 11 Try.f11 rfl rfl rfl rfl rfl rfl rfl ⟨rfl, rfl, rfl, rfl, rfl⟩ rfl rfl rfl rfl rfl (by as_aux_lemma => kernel_rfl) Try.func11 closed
    (of_decide_eq_true (by as_aux_lemma => kernel_rfl)) (by unfold Func.isWrapper; first | (rw [if_pos (by decide +kernel)]; kernel_rfl) | (rw [if_neg (by decide +kernel)]; exact ⟨rfl, rfl⟩))
    (fun os started H enc _ => lifted os started H enc)
/-- The statement. -/
theorem proved : Rows.FnSearchSaid := holds
#print axioms proved
end Go.Proofs.Ytfmflffggcphjaa.lawFnSearch
