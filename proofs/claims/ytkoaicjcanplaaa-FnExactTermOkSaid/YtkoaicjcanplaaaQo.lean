/- TermOk of the program. -/
import Derived.Test.YtkoaicjcanplaaaQn
namespace Go.Proofs.Ytkoaicjcanplaaa
open Go Go.Vc Go.RowKit
set_option linter.unusedVariables false

theorem skip_k {P : Program} {T : Tab} {K : Fr → World → Prop} {Q : Post} {ρ : Fr} {w : World} (h : K ρ w) : vc P T .skip (seqP K Q) ρ w := h
theorem Good_node (cnt : Nat) (vs : Vs) (x : Lab) (k : TF) : Good cnt vs (.cons x k .nil) ↔ (cnt + 1 ≤ 240 ∧ NodeOk x (hdF k) ∧ (x.op = 22 → ∀ n, lk x.name vs = some n → n = x.w)) ∧ Good (cnt + 1) (vs ++ (if x.op = 22 then [(x.name, x.w)] else [])) k := by
  simp only [Good, Fo.size, OkF, varsF, List.append_nil, consB_app]
  constructor
  · rintro ⟨h1, ⟨⟨h2, h3⟩, _⟩, h4, h5⟩
    refine ⟨⟨by omega, h2, fun h => ?_⟩, by omega, h3, h5⟩
    rw [if_pos h] at h4
    exact h4.1
  · rintro ⟨⟨h1, h2, h3⟩, h4, h5, h6⟩
    refine ⟨by omega, ⟨⟨h2, h5⟩, trivial⟩, ?_, h6⟩
    split
    · rename_i h; exact ⟨h3 h, trivial⟩
    · trivial
theorem vars_node (x : Lab) (k : TF) : varsF (.cons x k .nil) = (if x.op = 22 then [(x.name, x.w)] else []) ++ varsF k := by simp [varsF]
theorem Good_nil {cnt : Nat} {vs : Vs} (h : cnt ≤ 240) : Good cnt vs .nil := ⟨by simpa [Fo.size] using h, trivial, trivial⟩
theorem kc_le (op : Int) : kc op ≤ 3 := by
  unfold kc
  split
  · omega
  split
  · omega
  split
  · omega
  split <;> omega
def NdS (f : TF) : Prop := ∀ (n0 B cnt : Nat) (vs : Vs) (x : Lab) (s : Value) (W : World), CkS n0 B cnt vs W → cnt ≤ 240 → TSl (fun b => b < n0) W s f → okL x → f.All okL →
    Ret Try.prog 80 #[.pointer (some ⟨B, 0, none⟩), tv x s] W (CkR n0 B (cnt + (f.size + 1)) (vs ++ varsF (.cons x f .nil)) W (Good cnt vs (.cons x f .nil)))
set_option maxHeartbeats 8000000 in
theorem node_all : ∀ (n : Nat) (k : TF), k.size < n → NdS k := by
  intro n
  induction n with
  | zero => intro k hk; omega
  | succ n ih =>
    intro k hkn n0 B cnt vs x s W hS hcnt hs hx hp
    obtain ⟨hlo, hrm, mv, hcell, hmv⟩ := id hS
    have hlm : (maxLen : Int) ≤ 9223372036854775807 := by decide
    have hBW : B < W.heap.size := World.block_lt_of_cell? _ _ hcell.1
    have x1 : Ext W (W.alloc (.cells (tc x s).toArray 25)) := Ext.new _ _
    have hb := boxedAll W (tc x s) 25
    have hc1 := hcell.ext x1
    have ch2 : Chg (fun i => i = B) (W.alloc (.cells (tc x s).toArray 25)) ((W.alloc (.cells (tc x s).toArray 25)).setCell ⟨B, 0, none⟩ (.int .i64 ((cnt : Int) + 1))) := Chg.setCell (S := fun i => i = B) (p := ⟨B, 0, none⟩) _ rfl _
    have cm2 : Cm n0 B W ((W.alloc (.cells (tc x s).toArray 25)).setCell ⟨B, 0, none⟩ (.int .i64 ((cnt : Int) + 1))) := (Cm.of x1).trans (Cm.own ch2 hlo)
    have hb2 : CellsAt ((W.alloc (.cells (tc x s).toArray 25)).setCell ⟨B, 0, none⟩ (.int .i64 ((cnt : Int) + 1))) W.heap.size 0 (tc x s) := ch2.cells (S := fun i => i = B) (by omega) hb
    have hs2 := cm2.sl hs
    have hcc := World.cell?_setCell_same (W.alloc (.cells (tc x s).toArray 25)) ⟨B, 0, none⟩ (.int .i64 ((cnt : Int) + 1)) hc1.1
    have hS2 : CkS n0 B (cnt + 1) vs ((W.alloc (.cells (tc x s).toArray 25)).setCell ⟨B, 0, none⟩ (.int .i64 ((cnt : Int) + 1))) := by
      refine ⟨hlo, (hrm.ext x1).setCell, mv, ⟨hcc, (World.cell?_setCell_other _ _ _ _ (by simp)).trans hc1.2.1, trivial⟩, ?_⟩
      refine (hmv.ext x1).imp id fun ⟨m, al, h1, h2, h3, h4, h5⟩ => ⟨m, al, h1, h2, h3, h4.chg (S := fun i => i = B) h2 ch2, h5⟩
    obtain ⟨w2, hw2⟩ : ∃ w2, (W.alloc (.cells (tc x s).toArray 25)).setCell ⟨B, 0, none⟩ (.int .i64 ((cnt : Int) + 1)) = w2 := ⟨_, rfl⟩
    -- what fails
    by_cases h240 : (240 : Int) < (cnt : Int) + 1
    · have hbad : ¬ Good cnt vs (.cons x k .nil) := fun h => by have := h.1; simp only [Fo.size] at this; omega
      refine ret_of_vc ties mixed Try.func80 rfl (by kernel_rfl) rfl rfl ?_
      refine ⟨_, hc1.1, _, IntWalk.i64_in _ (by omega), (hrm.ext x1) 0 (by decide), ?_⟩
      refine .inl ⟨by kernel_rfl, _, hcc, ?_⟩
      repeat refine br_dec_true h240 ?_
      intro w3 hw3
      exact CkR.no (cm2.trans (.of hw3)) hbad
    cases hwid : inR x.w 1 16 with
    | false =>
      have hbad : ¬ Good cnt vs (.cons x k .nil) := fun h => inR_not.1 hwid ((Good_node _ _ _ _).1 h).1.2.1.width
      refine ret_of_vc ties mixed Try.func80 rfl (by kernel_rfl) rfl rfl ?_
      refine ⟨_, hc1.1, _, IntWalk.i64_in _ (by omega), (hrm.ext x1) 0 (by decide), ?_⟩
      refine .inl ⟨by kernel_rfl, _, hcc, ?_⟩
      repeat refine br_dec_false h240 ?_
      refine ⟨_, hb2.2.1, ?_⟩
      repeat refine br_dec_false h240 ?_
      refine ⟨.bool false, fun w' _ => (isWidth_ret _ _).mono fun v w'' h => ⟨by rw [h.1, hwid], by rw [h.2]; exact Ext.refl _⟩, ?_⟩
      repeat refine br_dec_false h240 ?_
      intro w3 hw3
      exact CkR.no (cm2.trans (.of hw3)) hbad
    | true =>
    by_cases hlen : (k.len : Int) = kc x.op
    case neg =>
      have hbad : ¬ Good cnt vs (.cons x k .nil) := fun h => hlen (by rw [← ((Good_node _ _ _ _).1 h).1.2.1.count, hdF_len])
      obtain ⟨a, c, rfl, hl, hat⟩ := hs
      refine ret_of_vc ties mixed Try.func80 rfl (by kernel_rfl) rfl rfl ?_
      refine ⟨_, hc1.1, _, IntWalk.i64_in _ (by omega), (hrm.ext x1) 0 (by decide), ?_⟩
      refine .inl ⟨by kernel_rfl, _, hcc, ?_⟩
      repeat refine br_dec_false h240 ?_
      refine ⟨_, hb2.2.1, ?_⟩
      repeat refine br_dec_false h240 ?_
      refine ⟨.bool true, fun w' _ => (isWidth_ret _ _).mono fun v w'' h => ⟨by rw [h.1, hwid], by rw [h.2]; exact Ext.refl _⟩, ?_⟩
      repeat refine br_dec_false h240 ?_
      refine ⟨_, hb2.2.2.2.2.1, _, hb2.1, .int .i64 (kc x.op), fun w' _ => (kidCount_ret _ _).mono fun v w'' h => ⟨h.1, by rw [h.2]; exact Ext.refl _⟩, ?_⟩
      intro w3 hw3
      refine br_dec_true hlen ?_
      exact CkR.no (cm2.trans (.of hw3)) hbad
    have hwid := inR_iff.1 hwid
    obtain ⟨a, c, rfl, hl, hat⟩ := id hs
    have hkl : k.len ≤ 3 := by
      have := kc_le x.op
      omega
    have kid : ∀ (w : World), Cm n0 B W w → ∀ i, i < k.len → ∃ b o t, a = some ⟨b, o, none⟩ ∧ w.cell? ⟨b, o + i * 5 + 1, none⟩ = some (.int .i64 t) ∧ kw (hdF k) i = t := fun w hw i hi => by
      obtain ⟨t, h1, h2⟩ := tms_get hi
      obtain ⟨b, o, c', s', e, _, _, _, hc, _⟩ := (hw.sl hs).kid h1
      cases e
      exact ⟨b, o, t.1.w, rfl, hc.2.1, h2⟩
    refine ret_of_vc ties mixed Try.func80 rfl (by kernel_rfl) rfl rfl ?_
    refine ⟨_, hc1.1, _, IntWalk.i64_in _ (by omega), (hrm.ext x1) 0 (by decide), ?_⟩
    refine .inl ⟨by kernel_rfl, _, hcc, ?_⟩
    repeat refine br_dec_false h240 ?_
    refine ⟨_, hb2.2.1, ?_⟩
    repeat refine br_dec_false h240 ?_
    refine ⟨.bool true, fun w' _ => (isWidth_ret _ _).mono fun v w'' h => ⟨by rw [h.1, inR_iff.2 hwid], by rw [h.2]; exact Ext.refl _⟩, ?_⟩
    repeat refine br_dec_false h240 ?_
    refine ⟨_, hb2.2.2.2.2.1, _, hb2.1, .int .i64 (kc x.op), fun w' _ => (kidCount_ret _ _).mono fun v w'' h => ⟨h.1, by rw [h.2]; exact Ext.refl _⟩, ?_⟩
    intro w3 hw3
    refine br_dec_false (fun e => e hlen) ?_
    have cm3 := cm2.trans (.of hw3)
    replace hb2 := hb2.ext hw3
    replace hS2 := hS2.ext hw3
    replace hs2 := hs2.ext hw3
    refine ⟨_, hb2.2.2.2.2.1, ?_⟩
    refine loop_rule (σ := Nat × Value) [37, 5] 38 49 (fun q => [.int .i64 q.1, q.2])
      (fun q w' => w' = w3 ∧ q.1 ≤ k.len ∧ ∀ i, i < q.1 → inR (kw (hdF k) i) 1 16 = true)
      (fun q => k.len - q.1) (0, undef) rfl ⟨rfl, Nat.zero_le _, fun i h => absurd h (Nat.not_lt_zero _)⟩ ?_
    rintro ⟨i, jv⟩ w junk ⟨rfl, hi, hall⟩ K hK
    simp only at hi hall
    show vc _ _ _ _ (over [37, 5] [.int .i64 i, jv] _) _
    refine br_dec (fun h => ?_) (fun h => ?_)
    · obtain ⟨b, o, t, rfl, hct, hkw⟩ := kid w cm3 i (by omega)
      refine ⟨_, hb2.2.2.2.2.1, ⟨by omega, by omega⟩, _, by rw [Int.toNat_natCast]; exact hct, ?_⟩
      refine Or.inl ((isWidth_ret _ _).mono ?_)
      rintro _ _ ⟨rfl, rfl⟩
      refine br_not (fun h' => ?_) (fun h' => ?_)
      · refine CkR.no cm3 (fun hg => ?_)
        have hN := ((Good_node _ _ _ _).1 hg).1.2.1
        have hlt : i < (hdF k).length := by rw [hdF_len]; omega
        have := hN.kids (hdF k)[i] (List.getElem_mem hlt)
        refine inR_not.1 h' ?_
        rw [← hkw, kw, List.getD_eq_getElem?_getD, List.getElem?_eq_getElem hlt]
        exact this
      · refine ⟨_, IntWalk.i64_in _ (by omega), ?_⟩
        refine hK (i + 1, _) _ _ (vs2 (vint (by show (i : Int) + 1 = ((i + 1 : Nat) : Int); omega)) rfl) ⟨rfl, by show i + 1 ≤ k.len; omega, fun j hj => ?_⟩ (by show k.len - (i + 1) < k.len - i; omega) ?_
        · by_cases e : j = i
          · subst e; rw [hkw]; exact h'
          · exact hall j (by have : j < i + 1 := hj; omega)
        · ((repeat (first | (with_reducible exact Only.refl) | (with_reducible refine Only.skip ?_) | ((with_reducible refine Only.upd ?_ ?_); rfl) | ((with_reducible refine Only.over ?_ ?_ _); rfl) | ((with_reducible refine Only.hav ?_ ?_ ?_); rfl; rfl))))
    have hkids : ∀ y ∈ hdF k, 1 ≤ y.w ∧ y.w ≤ 16 := fun y hy => by
      obtain ⟨j, hj, rfl⟩ := List.getElem_of_mem hy
      have := inR_iff.1 (hall j (by rw [hdF_len] at hj; omega))
      rwa [kw, List.getD_eq_getElem?_getD, List.getElem?_eq_getElem hj] at this
    have hxn := hx.2.2.1
    refine ⟨tc x (.slice a k.len c), rfl, hb2, ?_⟩
    refine Or.inl ((widthsFit_ret x k _ _ (hs2.mono fun _ _ => trivial) hlen hwid hkids hxn).mono ?_)
    rintro _ w4 ⟨rfl, x4⟩
    have cm4 := cm3.trans (.of x4)
    replace hb2 := hb2.ext x4
    replace hS2 := hS2.ext x4
    replace hs2 := hs2.ext x4
    refine br_not (fun h' => ?_) (fun hfit => ?_)
    · refine CkR.no cm4 (fun hg => ?_)
      have := ((Good_node _ _ _ _).1 hg).1.2.1.fits
      rw [h'] at this; cases this
    refine skip_k (P := Try.prog) (T := T) ?_
    refine seq_cut (x := .seq (.region 12 _ _) _) (σ := Unit) [] 52 63 (fun _ => []) (fun _ w' => w' = w4 ∧ (x.op = 0 → wOk x.w x.n = true)) (fun K hK => ?_) (fun _ w5 junk hJ => ?_)
    · refine ⟨_, hb2.1, ?_⟩
      refine br_dec (fun h0 => ?_) (fun h0 => ?_)
      · refine ⟨_, hb2.2.1, _, hb2.2.2.1, ?_⟩
        refine Or.inl ((impl_WordOk _ _ _).mono ?_)
        rintro _ _ ⟨rfl, rfl⟩
        refine br_not (fun h' => ?_) (fun h' => ?_)
        · refine CkR.no cm4 (fun hg => ?_)
          have := ((Good_node _ _ _ _).1 hg).1.2.1.const h0
          rw [h'] at this; cases this
        · refine hK () _ _ rfl ⟨rfl, fun _ => h'⟩ ?_
          ((repeat (first | (with_reducible exact Only.refl) | (with_reducible refine Only.skip ?_) | ((with_reducible refine Only.upd ?_ ?_); rfl) | ((with_reducible refine Only.over ?_ ?_ _); rfl) | ((with_reducible refine Only.hav ?_ ?_ ?_); rfl; rfl))))
      · refine hK () _ _ rfl ⟨rfl, fun h => absurd h h0⟩ ?_
        ((repeat (first | (with_reducible exact Only.refl) | (with_reducible refine Only.skip ?_) | ((with_reducible refine Only.upd ?_ ?_); rfl) | ((with_reducible refine Only.over ?_ ?_ _); rfl) | ((with_reducible refine Only.hav ?_ ?_ ?_); rfl; rfl))))
    obtain ⟨rfl, hconst⟩ := hJ
    refine seq_cut (x := .seq (.region 14 _ _) _) (σ := Unit) [] 63 76 (fun _ => []) (fun _ w' => w' = w5 ∧ (x.op ≠ 0 → x.op ≠ 19 → x.n = 0)) (fun K hK => ?_) (fun _ w6 junk hJ => ?_)
    · refine ⟨_, hb2.1, ?_⟩
      refine br_dec (fun h0 => ?_) (fun h0 => ?_)
      · refine ⟨_, hb2.1, ?_⟩
        refine br_dec (fun h1 => ?_) (fun h1 => ?_)
        · refine ⟨_, hb2.2.2.1, ?_⟩
          refine br_dec (fun h2 => ?_) (fun h2 => ?_)
          · exact CkR.no cm4 (fun hg => h2 (((Good_node _ _ _ _).1 hg).1.2.1.num h0 h1))
          · refine hK () _ _ rfl ⟨rfl, fun _ _ => Classical.not_not.1 h2⟩ ?_
            ((repeat (first | (with_reducible exact Only.refl) | (with_reducible refine Only.skip ?_) | ((with_reducible refine Only.upd ?_ ?_); rfl) | ((with_reducible refine Only.over ?_ ?_ _); rfl) | ((with_reducible refine Only.hav ?_ ?_ ?_); rfl; rfl))))
        · refine hK () _ _ rfl ⟨rfl, fun _ h => absurd h h1⟩ ?_
          ((repeat (first | (with_reducible exact Only.refl) | (with_reducible refine Only.skip ?_) | ((with_reducible refine Only.upd ?_ ?_); rfl) | ((with_reducible refine Only.over ?_ ?_ _); rfl) | ((with_reducible refine Only.hav ?_ ?_ ?_); rfl; rfl))))
      · refine hK () _ _ rfl ⟨rfl, fun h => absurd h h0⟩ ?_
        ((repeat (first | (with_reducible exact Only.refl) | (with_reducible refine Only.skip ?_) | ((with_reducible refine Only.upd ?_ ?_); rfl) | ((with_reducible refine Only.over ?_ ?_ _); rfl) | ((with_reducible refine Only.hav ?_ ?_ ?_); rfl; rfl))))
    obtain ⟨rfl, hnum⟩ := hJ
    refine seq_cut (x := .seq (.region 16 _ _) _) (σ := Unit) [] 76 86 (fun _ => []) (fun _ w' => Cm n0 B W w' ∧ CkS n0 B (cnt + 1) (vs ++ (if x.op = 22 then [(x.name, x.w)] else [])) w' ∧ CellsAt w' W.heap.size 0 (tc x (.slice a k.len c)) ∧ (x.op ≠ 22 → x.name = ByteArray.empty) ∧ (x.op = 22 → isNm x.name = true) ∧ (x.op = 22 → ∀ n, lk x.name vs = some n → n = x.w)) (fun K hK => ?_) (fun _ w7 junk hJ => ?_)
    · refine ⟨_, hb2.1, ?_⟩
      refine br_dec (fun h0 => ?_) (fun h0 => ?_)
      · refine ⟨_, hb2.2.2.2.1, ?_⟩
        refine br_dec (fun h1 => ?_) (fun h1 => ?_)
        · exact CkR.no cm4 (fun hg => h1 (((Good_node _ _ _ _).1 hg).1.2.1.noname h0))
        · refine hK () _ _ rfl ⟨cm4, by rw [if_neg h0, List.append_nil]; exact hS2, hb2, fun _ => Classical.not_not.1 h1, fun h => absurd h h0, fun h => absurd h h0⟩ ?_
          ((repeat (first | (with_reducible exact Only.refl) | (with_reducible refine Only.skip ?_) | ((with_reducible refine Only.upd ?_ ?_); rfl) | ((with_reducible refine Only.over ?_ ?_ _); rfl) | ((with_reducible refine Only.hav ?_ ?_ ?_); rfl; rfl))))
      · have h0 := Classical.not_not.1 h0
        have hnm : x.name.size ≤ 9223372036854775807 := by have := hx.2.2.2; omega
        refine ⟨tc x (.slice a k.len c), rfl, hb2, ?_⟩
        refine Or.inl ((variable_ret n0 B (cnt + 1) vs x _ _ hS2 hnm).mono ?_)
        rintro _ w8 ⟨b, rfl, cm8, hiff, hS8⟩
        refine br_not (fun h' => ?_) (fun h' => ?_)
        · refine CkR.no (cm4.trans cm8) (fun hg => ?_)
          have hg' := ((Good_node _ _ _ _).1 hg).1
          have := hiff.2 ⟨hg'.2.1.name h0, hg'.2.2 h0⟩
          rw [h'] at this; cases this
        · have hp' := hiff.1 h'
          refine hK () _ _ rfl ⟨cm4.trans cm8, by rw [if_pos h0]; exact hS8 h', cm8.cells (by omega) hb2, fun h => absurd h0 h, fun _ => hp'.1, fun _ => hp'.2⟩ ?_
          ((repeat (first | (with_reducible exact Only.refl) | (with_reducible refine Only.skip ?_) | ((with_reducible refine Only.upd ?_ ?_); rfl) | ((with_reducible refine Only.over ?_ ?_ _); rfl) | ((with_reducible refine Only.hav ?_ ?_ ?_); rfl; rfl))))
    obtain ⟨cm7, hS7, hb7, hnoname, hname, hcons⟩ := hJ
    have hN : NodeOk x (hdF k) := ⟨hwid, by rw [hdF_len]; exact hlen, hkids, hfit, hconst, hnum, hnoname, hname⟩
    have hGN : Good cnt vs (.cons x k .nil) ↔ Good (cnt + 1) (vs ++ (if x.op = 22 then [(x.name, x.w)] else [])) k := by
      rw [Good_node]
      exact ⟨fun h => h.2, fun h => ⟨⟨by omega, hN, hcons⟩, h⟩⟩
    obtain ⟨vs', hvs⟩ : ∃ vs', vs ++ (if x.op = 22 then [(x.name, x.w)] else []) = vs' := ⟨_, rfl⟩
    rw [hvs] at hS7 hGN
    have hfin : CkS n0 B (cnt + 1 + k.size) (vs' ++ varsF k) = CkS n0 B (cnt + (k.size + 1)) (vs ++ varsF (.cons x k .nil)) := by
      rw [vars_node, ← List.append_assoc, hvs, show cnt + 1 + k.size = cnt + (k.size + 1) from by omega]
    refine ⟨_, hb7.2.2.2.2.1, ?_⟩
    refine loop_rule (σ := Nat × TF × TF × Value) [89, 6] 90 101 (fun q => [.int .i64 q.1, q.2.2.2])
      (fun q w' => Cm n0 B W w' ∧ CkS n0 B (cnt + 1 + q.2.1.size) (vs' ++ varsF q.2.1) w' ∧ CellsAt w' W.heap.size 0 (tc x (.slice a k.len c)) ∧ q.1 + q.2.2.1.len = k.len ∧ q.2.1.app q.2.2.1 = k ∧ Good (cnt + 1) vs' q.2.1 ∧ q.2.2.1.All okL ∧ (q.2.2.1.len = 0 ∨ ∃ b o, a = some ⟨b, o, none⟩ ∧ TAt (fun b => b < n0) W q.2.2.1 b (o + q.1 * 5) ∧ b < n0))
      (fun q => q.2.2.1.len) (0, .nil, k, undef) rfl ⟨cm7, by simpa [varsF, Fo.size] using hS7, hb7, by simp, rfl, Good_nil (by omega), hp, ?_⟩ ?_
    · rcases hat with hat | ⟨b, o, ha, hbn, hat⟩
      · exact .inl hat
      · exact .inr ⟨b, o, ha, by simpa using hat, hbn⟩
    rintro ⟨i, d, g, j6⟩ w8 junk' ⟨cm8, hS8, hb8, hi, happ, hgd, hpg, hga⟩ K hK
    simp only at hS8 hi happ hgd hpg hga
    show vc _ _ _ _ (over [89, 6] [.int .i64 i, j6] _) _
    refine br_dec (fun h => ?_) (fun h => ?_)
    · match g with
      | .nil => simp only [Fo.len] at hi; omega
      | .cons x' kk r =>
        obtain ⟨b, o, rfl, hga', hbn⟩ := hga.resolve_left (by simp [Fo.len])
        have hga8 := Fo.At.chg (S := fun i => n0 ≤ i ∧ (i = B ∨ ∃ es c, W.heap[i]? = some (.map es c))) (fun b hb e => by omega) cm8 (fun e => by omega) hga'
        obtain ⟨⟨s', hc, hs'⟩, hr⟩ := hga8.sl
        obtain ⟨hpx, hpk, hpr⟩ := hpg
        have hsz : d.size + (kk.size + r.size + 1) = k.size := by rw [← happ, Fo.size_app]; rfl
        simp only [Fo.len] at hi
        have ei : o + (i : Int).toNat * 5 = o + i * 5 := by omega
        have hcd : cnt + 1 + d.size ≤ 240 := hgd.1
        refine ⟨_, hb8.2.2.2.2.1, ⟨by omega, by omega⟩, [.int .i64 x'.op, .int .i64 x'.w, .int .i64 x'.n, .string x'.name, s'], rfl, by rw [ei]; exact hc, ?_⟩
        refine Or.inl ((ih kk (by omega) n0 B _ _ x' s' _ hS8 hcd hs' hpx hpk).mono ?_)
        rintro _ w9 ⟨bb, rfl, cm9, hiff, hS9⟩
        refine br_not (fun h' => ?_) (fun h' => ?_)
        · refine CkR.no (cm8.trans cm9) (fun hg => ?_)
          have h1 := hGN.1 hg
          rw [← happ, Good_app, Good_cons] at h1
          have := hiff.2 h1.2.1
          rw [h'] at this; cases this
        · have hG := hiff.1 h'
          have hS9 := hS9 h'
          refine ⟨_, IntWalk.i64_in _ (by omega), ?_⟩
          refine hK (i + 1, d.app (.cons x' kk .nil), r, _) _ _ (vs2 (vint (by show (i : Int) + 1 = ((i + 1 : Nat) : Int); omega)) rfl) ⟨cm8.trans cm9, ?_, cm9.cells (by omega) hb8, by show i + 1 + r.len = k.len; omega, by show (d.app (.cons x' kk .nil)).app r = k; rw [Fo.app_assoc]; exact happ, (Good_app _ _ _ _).2 ⟨hgd, hG⟩, hpr, .inr ⟨b, o, rfl, ?_, hbn⟩⟩ (by show r.len < r.len + 1; omega) ?_
          · show CkS n0 B (cnt + 1 + (d.app (.cons x' kk .nil)).size) (vs' ++ varsF (d.app (.cons x' kk .nil))) w9
            rw [Fo.size_app, varsF_app, ← List.append_assoc, ← Nat.add_assoc]
            exact hS9
          · show TAt _ W r b (o + (i + 1) * 5)
            rw [show o + (i + 1) * 5 = o + i * 5 + 5 from by omega]
            exact hga'.sl.2
          · ((repeat (first | (with_reducible exact Only.refl) | (with_reducible refine Only.skip ?_) | ((with_reducible refine Only.upd ?_ ?_); rfl) | ((with_reducible refine Only.over ?_ ?_ _); rfl) | ((with_reducible refine Only.hav ?_ ?_ ?_); rfl; rfl))))
    · have := Fo.len_zero (f := g) (by omega)
      subst this
      rw [Fo.app_nil] at happ
      subst happ
      exact CkR.yes cm8 (hGN.2 hgd) (hfin ▸ hS8)

theorem impl_TermOk (x : Lab) (k : TF) (s : Value) (W : World) (hs : TSl anyB W s k) (hx : okL x) (hp : k.All okL) : Ret Try.prog 33 #[tv x s] W (fun v w' => v = .bool (decide (TOk x k)) ∧ Ext W w') := by
  have hb := boxedAll W (tc x s) 25
  have x1 : Ext W (W.alloc (.cells (tc x s).toArray 25)) := Ext.new _ _
  have x2 : Ext (W.alloc (.cells (tc x s).toArray 25)) ((W.alloc (.cells (tc x s).toArray 25)).alloc (.cells #[.int .i64 0, .map none] 93)) := Ext.new _ _
  have hb2 := boxedAll (W.alloc (.cells (tc x s).toArray 25)) [.int .i64 0, .map none] 93
  have r2 := Rmy.new (W.alloc (.cells (tc x s).toArray 25)) [.int .i64 0, .map none] 93
  have hsz := x1.size
  refine ret_of_vc ties mixed Try.func33 rfl (by kernel_rfl) rfl rfl ?_
  refine ⟨tc x s, rfl, hb.ext x2, ?_⟩
  refine Or.inl ((node_all _ k (Nat.lt_succ_self _) W.heap.size _ 0 [] x s _ ⟨hsz, r2, _, hb2, .inl ⟨rfl, rfl⟩⟩ (by decide) ((hs.lt.mono fun b hb => hb.2).ext (x1.trans x2)) hx hp).mono ?_)
  rintro _ w' ⟨b, rfl, cm, hiff, _⟩
  refine ⟨vbool ?_, (x1.trans x2).chg cm (fun i hi => hi.1)⟩
  refine beq_of_iff ?_
  rw [hiff, decide_eq_true_iff, TOk_good]
end Go.Proofs.Ytkoaicjcanplaaa
