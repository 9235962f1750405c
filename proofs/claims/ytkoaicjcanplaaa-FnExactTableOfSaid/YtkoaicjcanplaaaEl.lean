/- The reference's TableOf. -/
import Derived.Test.YtkoaicjcanplaaaEk
namespace Go.Proofs.Ytkoaicjcanplaaa
open Go Go.Vc Go.RowKit
set_option linter.unusedVariables false

theorem nilI (W : World) : SlR eI allB W (.slice none 0 0) [] := ⟨none, 0, rfl, Nat.le_refl _, Nat.zero_le _, .inl rfl⟩
theorem row_in {vs : Vs} (hg : VsG vs) (r : Nat) : ∀ v ∈ rowV vs r, (1 ≤ v.w ∧ v.w ≤ 16) ∧ inI v.n := fun v hv => by
  obtain ⟨i, hi, rfl⟩ := List.mem_iff_getElem.1 hv
  rw [rowV_len] at hi
  rw [rowV_get hi]
  have h := hg.2 _ (List.getElem_mem hi)
  have hp := pow16n (vs[i]'hi).2.toNat (by omega)
  have h1 : digV vs r i < 2 ^ (vs[i]'hi).2.toNat := by
    unfold digV
    rw [List.getElem?_eq_getElem hi]
    exact Nat.mod_lt _ (Nat.pow_pos (by decide))
  have h2 : ((2 ^ (vs[i]'hi).2.toNat : Nat) : Int) = 2 ^ (vs[i]'hi).2.toNat := by rw [Int.natCast_pow]; rfl
  refine ⟨h.2, ?_⟩
  show -9223372036854775808 ≤ (digV vs r i : Int) ∧ (digV vs r i : Int) ≤ 9223372036854775807
  omega
theorem vls_in {vs : Vs} (hg : VsG vs) : ∀ v ∈ vls vs, 1 ≤ v.w ∧ v.w ≤ 16 := fun v hv => by
  obtain ⟨p, hp, rfl⟩ := List.mem_map.1 hv
  exact (hg.2 p hp).2
theorem tbl_snoc (f : Nat → Int) (r : Nat) : (List.range (r + 1)).map f = (List.range r).map f ++ [f r] := by rw [List.range_succ, List.map_append]; rfl
structure TbJ (W0 : World) (B1 : Nat) (vs : Vs) (f : Nat → Int) (vl out : Value) (r : Nat) (w : World) : Prop where
  ext : Ext W0 w
  row : Ow W0.heap.size w vl (rowV vs r)
  lo : ∀ b, blk vl b → b < B1
  own : OwnR eI noB w out ((List.range r).map f)
  hi : ∀ b, blk out b → B1 ≤ b
  lt : r < 2 ^ sumW (wsV vs)
  sz : B1 ≤ w.heap.size
set_option maxRecDepth 100000 in
set_option maxHeartbeats 8000000 in
theorem spec_TableOf (x : Lab) (k : TF) (s : Value) (W : World) (hs : TSl anyB W s k) (hx : okL x) (hp : k.All okL) :
    Ret Try.prog 54 #[tv x s] W (fun v w' => Ext W w' ∧ SlR eI allB w' v (tblP x k)) := by
  have x1 := bx_ext W x s
  have hb := bx_at W x s
  have hok := fun w (xw : Ext W w) => spec_TermOk x k s w (hs.ext xw) hx hp
  have hv := fun w (xw : Ext W w) => spec_VarsOf_new x k s w (hs.ext xw) hx hp
  by_cases ht : TOk x k
  rotate_left
  · simp only [decide_eq_false ht] at hok
    rw [tblP_no (fun h => ht h.1)]
    obtain ⟨a, c, rfl, _, _⟩ := id hs
    refine ret_of_vc ties mixed Try.func54 rfl (by kernel_rfl) rfl rfl ?_
    refine ⟨tc x _, rfl, hb, ?_⟩
    refine Or.inl ((hv _ x1).mono ?_)
    rintro vl w2 ⟨x2, _⟩
    refine ⟨tc x _, rfl, hb.ext x2, ?_⟩
    refine Or.inl ((hok w2 (x1.trans x2)).mono ?_)
    rintro _ w3 ⟨rfl, x3⟩
    exact ⟨x1.trans (x2.trans x3), nilI _⟩
  simp only [decide_eq_true ht] at hok
  have hg := vs_good ht
  rw [varsP_yes ht] at hv
  have hev := fun r w vl (xw : Ext W w) (h : SlR eV allB w vl (rowV (vsT (x, k)) r)) => l02Eval_all (rowV (vsT (x, k)) r) _ (x, k) s vl w (Nat.le_refl _) (tok_okT ht) (hs.ext xw) h
  unfold EvR at hev
  simp only [row_ev ht] at hev
  have hvlen := vls_len (vsT (x, k))
  have hvl2 := vsT_len (x, k)
  have hsz : Tm.sz (x, k) = k.size + 1 := rfl
  have hk := ht.1
  have hbits := fun w vl (h : SlR eV allB w vl (vls (vsT (x, k)))) => l02Bits_ret (vls (vsT (x, k))) vl w h (vls_in hg) (by omega)
  rw [sw_vls] at hbits
  by_cases h10 : sumW (wsV (vsT (x, k))) ≤ 10
  rotate_left
  · rw [tblP_no (fun h => h10 h.2)]
    obtain ⟨a, c, rfl, _, _⟩ := id hs
    refine ret_of_vc ties mixed Try.func54 rfl (by kernel_rfl) rfl rfl ?_
    refine ⟨tc x _, rfl, hb, ?_⟩
    refine Or.inl ((hv _ x1).mono ?_)
    rintro vl w2 ⟨x2, ho⟩
    refine ⟨tc x _, rfl, hb.ext x2, ?_⟩
    refine Or.inl ((hok w2 (x1.trans x2)).mono ?_)
    rintro _ w3 ⟨rfl, x3⟩
    refine Or.inl ((hbits w3 vl (ho.sl.ext x3)).mono ?_)
    rintro _ w4 ⟨rfl, x4⟩
    refine br_dec_true (show (10 : Int) < _ by omega) ?_
    exact ⟨x1.trans (x2.trans (x3.trans x4)), nilI _⟩
  rw [tblP_yes ht h10]
  have hp10 := pow10 _ h10
  obtain ⟨vs, hvs⟩ : ∃ vs, vsT (x, k) = vs := ⟨_, rfl⟩
  obtain ⟨f, hf⟩ : ∃ f : Nat → Int, (fun r => evT (envL (rowV vs r)) (x, k)) = f := ⟨_, rfl⟩
  have hft : tbl x k = (List.range (2 ^ sumW (wsV vs))).map f := by rw [← hf, ← hvs]; rfl
  have hfr : ∀ r, evT (envL (rowV vs r)) (x, k) = f r := fun r => by rw [← hf]
  rw [hft]
  rw [hvs] at hv hbits h10 hp10 hg
  simp only [hvs, hfr] at hev
  clear hft hfr hf
  have hnx := fun r w vl B0 (h : Ow B0 w vl (rowV vs r)) => l02Next_ret B0 (rowV vs r) vl w h (row_in hg r)
  obtain ⟨a, c, rfl, _, _⟩ := id hs
  refine ret_of_vc ties mixed Try.func54 rfl (by kernel_rfl) rfl rfl ?_
  refine ⟨tc x _, rfl, hb, ?_⟩
  refine Or.inl ((hv _ x1).mono ?_)
  rintro vl w2 ⟨x2, ho⟩
  refine ⟨tc x _, rfl, hb.ext x2, ?_⟩
  refine Or.inl ((hok w2 (x1.trans x2)).mono ?_)
  rintro _ w3 ⟨rfl, x3⟩
  refine Or.inl ((hbits w3 vl (ho.sl.ext x3)).mono ?_)
  rintro _ w4 ⟨rfl, x4⟩
  refine br_dec_false (show ¬ (10 : Int) < _ by omega) ?_
  have X4 := (x2.trans x3).trans x4
  have x5 : Ext w4 (w4.alloc (.cells #[] 3)) := Ext.new _ _
  refine loop_rule (σ := Nat × Value × Value × Value × Value) [4, 5, 6, 18] 19 32 (fun q => [q.2.1, q.2.2.1, q.2.2.2.1, q.2.2.2.2])
    (fun q w' => TbJ (bxW W x (.slice a k.len c)) w4.heap.size vs f vl q.2.1 q.1 w') (fun q => 2 ^ sumW (wsV vs) - q.1) (0, _, undef, undef, undef) rfl ⟨X4.trans x5, by rw [rowV_zero]; exact ho.ext (x3.trans (x4.trans x5)), fun b hb => Nat.lt_of_lt_of_le (ho.2 b hb).2 (x3.trans x4).size, OwnR.nil _ _ _ _, fun b hb => Nat.le_of_eq hb, Nat.lt_of_lt_of_le Nat.zero_lt_one hp10.1, x5.size⟩ ?_
  rintro ⟨r, out, j5, j6, j18⟩ w5 junk hj K hK
  simp only at hj
  show vc _ _ _ _ (over [4, 5, 6, 18] [out, j5, j6, j18] _) _
  have X5 := hj.ext
  have hrlt := hj.lt
  refine ⟨tc x _, rfl, hb.ext X5, ?_⟩
  refine Or.inl ((hev r w5 vl (x1.trans X5) hj.row.sl).mono ?_)
  rintro _ w6 ⟨rfl, x6⟩
  have hlen : ((List.range r).map f).length = r := by rw [List.length_map, List.length_range]
  refine raw_push (E := eI) (x := f r) (cs := [.int .i64 (f r)]) ties rfl rfl rfl rfl rfl rfl rfl rfl rfl rfl rfl (hj.own.ext x6) rfl noB_blk (by rw [hlen]; show (r + 1) * 8 ≤ _; omega) (by omega) ?_
  intro v w7 hv7 hch7 hsz7 hvb7
  rw [← tbl_snoc] at hv7
  have hB1 : ∀ b, blk out b → w4.heap.size ≤ b := hj.hi
  have z4 := X4.size
  have X7 : Ext (bxW W x (.slice a k.len c)) w7 := (X5.trans x6).chg hch7 (fun b hb => by have := hB1 b hb; omega)
  have z56 : w4.heap.size ≤ w6.heap.size := Nat.le_trans hj.sz x6.size
  have hi7 : ∀ b, blk v b → w4.heap.size ≤ b := fun b hb => (hvb7 b hb).elim (hB1 b) fun e => by omega
  have hrow7 : Ow (bxW W x (.slice a k.len c)).heap.size w7 vl (rowV vs r) := ⟨OwnR.chg (fun b hb => hb.elim) (fun b hb e => by have h1 := hj.lo b hb; have h2 := hB1 b e; omega) hch7 (hj.row.1.ext x6), fun b hb => ⟨(hj.row.2 b hb).1, Nat.lt_trans (Nat.lt_of_lt_of_le (hj.row.2 b hb).2 x6.size) hsz7⟩⟩
  have hn := hnx r w7 vl _ hrow7
  rw [nxtV_row hrlt] at hn
  have hend : ∀ w8, Chg (blk vl) w7 w8 → Ext (bxW W x (.slice a k.len c)) w8 ∧ OwnR eI noB w8 v ((List.range (r + 1)).map f) := fun w8 h => ⟨X7.chg h (fun b hb => (hj.row.2 b hb).1), OwnR.chg (fun b hb => hb.elim) (fun b hb e => by have h1 := hj.lo b e; have h2 := hi7 b hb; omega) h hv7⟩
  by_cases hlt : r + 1 < 2 ^ sumW (wsV vs)
  · rw [decide_eq_true hlt] at hn
    refine Or.inl ((hn).mono ?_)
    rintro _ w8 ⟨rfl, ho8, hch8⟩
    have he := hend w8 hch8
    refine hK (r + 1, v, _, _, _) _ _ rfl ⟨he.1, ho8, hj.lo, he.2, hi7, hlt, Nat.le_trans (Nat.le_of_lt (Nat.lt_of_le_of_lt z56 hsz7)) hch8.size⟩ (by show 2 ^ sumW (wsV vs) - (r + 1) < 2 ^ sumW (wsV vs) - r; omega) ?_
    ((repeat (first | (with_reducible exact Only.refl) | (with_reducible refine Only.skip ?_) | ((with_reducible refine Only.upd ?_ ?_); rfl) | ((with_reducible refine Only.over ?_ ?_ _); rfl) | ((with_reducible refine Only.hav ?_ ?_ ?_); rfl; rfl))))
  · rw [decide_eq_false hlt] at hn
    refine Or.inl ((hn).mono ?_)
    rintro _ w8 ⟨rfl, ho8, hch8⟩
    have he := hend w8 hch8
    have hr1 : r + 1 = 2 ^ sumW (wsV vs) := by omega
    rw [hr1] at he
    exact ⟨x1.trans he.1, he.2.sl (fun _ _ => trivial) (fun _ _ => trivial)⟩
end Go.Proofs.Ytkoaicjcanplaaa
