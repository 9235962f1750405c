/- AllOf: both contracts. -/
import Derived.Test.YtkoaicjcanplaaaN7
namespace Go.Proofs.Ytkoaicjcanplaaa
open Go Go.Vc Go.RowKit
set_option linter.unusedVariables false

noncomputable def accO : Tm → List Tm → Option Tm
  | acc, [] => some acc
  | acc, t :: l => match mkO (mkn 8 1 0, mkTF [acc, t]) with
    | none => none
    | some u => accO u l
def allP (l : List Tm) : Prop := ∀ t ∈ l, TOk t.1 t.2 ∧ t.1.w = 1
noncomputable def allO (l : List Tm) : Option Tm := @ite _ (allP l) (Classical.propDecidable _) (accO (conT 1 1) l) none
theorem allO_yes {l : List Tm} (h : allP l) : allO l = accO (conT 1 1) l := by unfold allO; exact if_pos h
theorem allO_no {l : List Tm} (h : ¬ allP l) : allO l = none := by unfold allO; exact if_neg h
theorem accO_sz : ∀ (l : List Tm) (acc u : Tm), acc.2.size ≤ 240 → accO acc l = some u → u.2.size ≤ 240
  | [], acc, u, h, e => by rw [accO] at e; rw [← Option.some.inj e]; exact h
  | t :: l, acc, u, h, e => by
    rw [accO] at e
    cases hm : mkO (mkn 8 1 0, mkTF [acc, t]) with
    | none => rw [hm] at e; cases e
    | some v => rw [hm] at e; exact accO_sz l v u (mkO_sz hm).1 e
theorem allO_sz (l : List Tm) : ((allO l).getD zeroT).2.size ≤ 240 := by
  by_cases h : allP l
  · rw [allO_yes h]
    cases he : accO (conT 1 1) l with
    | none => exact Nat.zero_le _
    | some u => exact accO_sz l _ u (Nat.zero_le _) he
  · rw [allO_no h]; exact Nat.zero_le _
theorem accO_at {l : List Tm} {i : Nat} {t acc : Tm} (h : l[i]? = some t) : accO acc (l.drop i) = match mkO (mkn 8 1 0, mkTF [acc, t]) with | none => none | some u => accO u (l.drop (i + 1)) := by
  obtain ⟨hi, e⟩ := List.getElem?_eq_some_iff.1 h
  rw [List.drop_eq_getElem_cons hi, accO, e]
theorem mkT2 {ok : Nat → Prop} {w : World} {a b : Tm} {sa sb : Value} (h : TSl ok w sa a.2) (h' : TSl ok w sb b.2) : Ext w (w.alloc (.cells (tc a.1 sa ++ tc b.1 sb).toArray 25)) ∧
    TSl (fun q => ok q ∨ q = w.heap.size) (w.alloc (.cells (tc a.1 sa ++ tc b.1 sb).toArray 25)) (.slice (some ⟨w.heap.size, 0, none⟩) 2 2) (mkTF [a, b]) := by
  have x : Ext w (w.alloc (.cells (tc a.1 sa ++ tc b.1 sb).toArray 25)) := Ext.new _ _
  have hc := (boxedAll w (tc a.1 sa ++ tc b.1 sb) 25).split
  have h1 : TSl (fun q => ok q ∨ q = w.heap.size) (w.alloc (.cells (tc a.1 sa ++ tc b.1 sb).toArray 25)) sa a.2 := (h.ext x).mono fun q hq => .inl hq
  have h2 : TSl (fun q => ok q ∨ q = w.heap.size) (w.alloc (.cells (tc a.1 sa ++ tc b.1 sb).toArray 25)) sb b.2 := (h'.ext x).mono fun q hq => .inl hq
  exact ⟨x, some ⟨w.heap.size, 0, none⟩, 2, rfl, by show 2 ≤ maxLen; decide, .inr ⟨w.heap.size, 0, rfl, .inr rfl, at1 hc.1 h1 (at1 hc.2 h2 trivial)⟩⟩
/-- A new variable, made at any time, that takes a term. -/
theorem term_made {B : Nat} {w9 w10 : World} {t : Tm} {s : Value} {ok : Nat → Prop} (hm : Made (.cells z5.toArray 25) B w10) (hs : TSl ok w9 s t.2) (hx : Ext w9 w10) (hok : ∀ b, ok b → b ≠ B) :
    FreeAll w10 B 0 (tc t.1 s) ∧ Chg (fun b => b = B) w10 (setCells w10 B 0 (tc t.1 s)) ∧ ∀ w11, Ext (setCells w10 B 0 (tc t.1 s)) w11 → CellsAt w11 B 0 (tc t.1 s) ∧ TSl ok w11 s t.2 := by
  have hr := hm.rmy (l := z5)
  have hch : Chg (fun b => b = B) w10 (setCells w10 B 0 (tc t.1 s)) := Chg.setCells (S := fun b => b = B) rfl _ _ _
  refine ⟨hr.all _ 0 (Nat.le_refl 5) (tc_one hs), hch, fun w11 x11 => ⟨(setCells_at (tc t.1 s) _ 0 5 hr (Nat.le_refl 5)).ext x11, ?_⟩⟩
  exact Fo.Sl.ext x11 (Fo.Sl.chg (fun b hb e => hok b hb e) hch (Fo.Sl.ext hx hs))
/-- What the loop holds: the accumulator in its variable, the row apart. -/
structure AccJ (W : World) (l : List Tm) (A B i : Nat) (w : World) : Prop where
  ext : Ext W w
  ra : Rmy w A 5
  rb : Rmy w B 5
  lt : A < w.heap.size ∧ B < w.heap.size ∧ A ≠ B
  le : i ≤ l.length
  acc : ∃ (acc : Tm) (sa : Value), CellsAt w A 0 (tc acc.1 sa) ∧ TSl (fun b => b ≠ A ∧ b ≠ B) w sa acc.2 ∧ OkT acc ∧ accO (conT 1 1) l = accO acc (l.drop i)
theorem AccJ.fin {W w : World} {l : List Tm} {A B : Nat} (h : AccJ W l A B l.length w) (hall : allP l) (hB : W.heap.size ≤ B) : ∃ (acc : Tm) (sa : Value), CellsAt w A 0 (tc acc.1 sa) ∧ (tc acc.1 sa).all oneB = true ∧ FreeAll w B 0 (tc acc.1 sa) ∧ ∃ vs, vs.length = 5 ∧ CellsAt (setCells w B 0 (tc acc.1 sa)) B 0 vs ∧ FirR anyB (allO l).isSome ((allO l).getD zeroT) W (.tuple #[.agg vs.toArray, .bool true]) (setCells w B 0 (tc acc.1 sa)) := by
  obtain ⟨acc, sa, h1, h2, h3, h4⟩ := h.acc
  have e : allO l = some acc := by rw [allO_yes hall, h4, List.drop_length]; rfl
  rw [e]
  have h5 := fin5t (ok := anyB) (y := acc.1) (k := acc.2) true h.rb hB h.ext (h2.mono fun b hb => ⟨hb.2, .inl trivial⟩)
  exact ⟨acc, sa, h1, tc_one h2, h5⟩
section
variable (k : TF) (s : Value) (W : World) (hs : TSl anyB W s k) (hp : k.All okL)
include hs hp
set_option maxRecDepth 100000 in
set_option maxHeartbeats 16000000 in
theorem allOf_ret : Ret Try.prog 104 #[s] W (FirR anyB (allO (tms k)).isSome ((allO (tms k)).getD zeroT) W) := by
  have x0 : Ext W (bzW W) := bz_ext W
  have r0 := bz_rmy W
  have hlt : W.heap.size < (bzW W).heap.size := by rw [bz_size]; omega
  have hc1 := con_ret (show wOk 1 1 = true by decide) (bzW W)
  obtain ⟨a, c, rfl, hl, hat⟩ := id hs
  have hl' : k.len ≤ 9223372036854775807 := hl
  have hkp := all_mk (l := tms k) (by rw [mk_tms]; exact hp)
  have kidAt : ∀ (i : Nat), i < k.len → ∃ t p o s', a = some ⟨p, o, none⟩ ∧ (tms k)[i]? = some t ∧ t ∈ tms k ∧ okL t.1 ∧ t.2.All okL ∧ (∀ w, Ext W w → CellsAt w p (o + (i : Int).toNat * 5) (tc t.1 s') ∧ TSl (fun b => b < W.heap.size) w s' t.2) := fun i hi => by
    obtain ⟨t, ht, _⟩ := tms_get hi
    obtain ⟨p, o, c', s', e, _, _, _, hc, hs'⟩ := TSl.kid hs.lt ht
    cases e
    have hm : t ∈ tms k := List.mem_of_getElem? ht
    exact ⟨t, p, o, s', rfl, ht, hm, (hkp t hm).1, (hkp t hm).2, fun w xw => ⟨hc.ext xw, (hs'.ext xw).mono fun b hb => hb.2⟩⟩
  refine ret_of_vc ties mixed Try.func104 rfl (by kernel_rfl) rfl rfl ?_
  refine Or.inl ((hc1).mono ?_)
  rintro _ w1 ⟨rfl, x1⟩
  obtain ⟨f2, c2, x2⟩ := keep5 (W := w1) (x := constL 1 1) (s := .slice none 0 0) rfl
  refine ⟨f2, ?_⟩
  have r2 := r0.ext (x1.trans x2)
  have ra2 : Rmy (setCells (w1.alloc (.cells #[.int .i64 0, .int .i64 0, .int .i64 0, .string ByteArray.empty, .slice none 0 0] 25)) w1.heap.size 0 (tc (constL 1 1) (.slice none 0 0))) w1.heap.size 5 := Rmy.setCells _ (bz_rmy w1)
  have x02 : Ext W (setCells (w1.alloc (.cells #[.int .i64 0, .int .i64 0, .int .i64 0, .string ByteArray.empty, .slice none 0 0] 25)) w1.heap.size 0 (tc (constL 1 1) (.slice none 0 0))) := x0.trans (x1.trans x2)
  have zlt : w1.heap.size < (setCells (w1.alloc (.cells #[.int .i64 0, .int .i64 0, .int .i64 0, .string ByteArray.empty, .slice none 0 0] 25)) w1.heap.size 0 (tc (constL 1 1) (.slice none 0 0))).heap.size := World.block_lt_of_cell? _ _ c2.1
  have zw1 := x1.size
  have hne : w1.heap.size ≠ W.heap.size := by omega
  -- all are terms of width 1
  refine loop_rule (σ := Nat × Value) [12, 5] 13 31 (fun q => [.int .i64 q.1, q.2])
    (fun q w' => Ext (setCells (w1.alloc (.cells #[.int .i64 0, .int .i64 0, .int .i64 0, .string ByteArray.empty, .slice none 0 0] 25)) w1.heap.size 0 (tc (constL 1 1) (.slice none 0 0))) w' ∧ q.1 ≤ k.len ∧ ∀ j, j < q.1 → ∀ t, (tms k)[j]? = some t → TOk t.1 t.2 ∧ t.1.w = 1)
    (fun q => k.len - q.1) (0, undef) rfl ⟨Ext.refl _, Nat.zero_le _, fun j hj => absurd hj (Nat.not_lt_zero j)⟩ ?_
  rintro ⟨i, j5⟩ w3 junk ⟨x3, hi, hall⟩ K hK
  simp only at hi hall
  show vc _ _ _ _ (over [12, 5] [.int .i64 i, j5] _) _
  have x03 := x02.trans x3
  have no : ∀ t, (tms k)[i]? = some t → ¬ (TOk t.1 t.2 ∧ t.1.w = 1) → allO (tms k) = none := fun t ht hn => allO_no fun e => hn (e t (List.mem_of_getElem? ht))
  refine br_dec (fun hlt' => ?_) (fun hge => ?_)
  · obtain ⟨t, p, o, s', rfl, ht, hm, ho1, ho2, hkid⟩ := kidAt i (by omega)
    have hok := fun w (xw : Ext W w) => impl_TermOk t.1 t.2 s' w ((hkid w xw).2.mono fun _ _ => trivial) ho1 ho2
    by_cases htk : TOk t.1 t.2
    · simp only [decide_eq_true htk] at hok
      refine ⟨⟨by omega, by omega⟩, tc t.1 s', rfl, (hkid w3 x03).1, ?_⟩
      refine Or.inl ((hok _ x03).mono ?_)
      rintro _ w4 ⟨rfl, x4⟩
      refine ⟨⟨by omega, by omega⟩, _, (hkid w4 (x03.trans x4)).1.2.1, ?_⟩
      refine br_dec (fun hw => ?_) (fun hw => ?_)
      · have e := no t ht (fun e => hw e.2)
        rw [e]
        have xx := (x1.trans x2).trans (x3.trans x4)
        exact fin5t (ok := anyB) (y := zeroL) (k := .nil) false (r0.ext xx) (Nat.le_refl _) (x0.trans xx) (nil_in _ _ _ _)
      · refine ⟨_, IntWalk.i64_in _ (by omega), ?_⟩
        refine hK (i + 1, _) _ _ (vs2 (vint (by show (i : Int) + 1 = ((i + 1 : Nat) : Int); omega)) rfl) ⟨x3.trans x4, by show i + 1 ≤ k.len; omega, fun j hj u hu => ?_⟩ (by show k.len - (i + 1) < k.len - i; omega) ?_
        · by_cases e : j = i
          · subst e; rw [ht] at hu; rw [← Option.some.inj hu]; exact ⟨htk, Decidable.not_not.1 hw⟩
          · exact hall j (by have : j < i + 1 := hj; omega) u hu
        · ((repeat (first | (with_reducible exact Only.refl) | (with_reducible refine Only.skip ?_) | ((with_reducible refine Only.upd ?_ ?_); rfl) | ((with_reducible refine Only.over ?_ ?_ _); rfl) | ((with_reducible refine Only.hav ?_ ?_ ?_); rfl; rfl))))
    · simp only [decide_eq_false htk] at hok
      refine ⟨⟨by omega, by omega⟩, tc t.1 s', rfl, (hkid w3 x03).1, ?_⟩
      refine Or.inl ((hok _ x03).mono ?_)
      rintro _ w4 ⟨rfl, x4⟩
      have e := no t ht (fun e => htk e.1)
      rw [e]
      have xx := (x1.trans x2).trans (x3.trans x4)
      exact fin5t (ok := anyB) (y := zeroL) (k := .nil) false (r0.ext xx) (Nat.le_refl _) (x0.trans xx) (nil_in _ _ _ _)
  have hallp : allP (tms k) := fun t ht => by
    obtain ⟨j, hj⟩ := List.mem_iff_getElem?.1 ht
    have hjl := (List.getElem?_eq_some_iff.1 hj).1
    rw [tms_len] at hjl
    exact hall j (by omega) t hj
  have x13 := (x1.trans x2).trans x3
  have z3 := x3.size
  have z13 := x13.size
  have j0 : AccJ W (tms k) w1.heap.size W.heap.size 0 w3 := ⟨x03, ra2.ext x3, r0.ext x13, ⟨by omega, by omega, hne⟩, Nat.zero_le _, conT 1 1, .slice none 0 0, c2.ext x3, nil_sl _ _, ok_con (by decide), rfl⟩
  clear hall c2 ra2 hK no x2 x3 x13
  refine loop_rule (σ := Nat × Value × Value × Value) [33, 6, 7, 8] 34 51 (fun q => [.int .i64 q.1, q.2.1, q.2.2.1, q.2.2.2])
    (fun q w' => AccJ W (tms k) w1.heap.size W.heap.size q.1 w')
    (fun q => k.len - q.1) (0, undef, undef, undef) rfl j0 ?_
  rintro ⟨i, j6, j7, j8⟩ w5 junk hJ K hK
  simp only at hJ
  show vc _ _ _ _ (over [33, 6, 7, 8] [.int .i64 i, j6, j7, j8] _) _
  have hi : i ≤ k.len := by have := hJ.le; rw [tms_len] at this; exact this
  refine br_dec (fun hlt' => ?_) (fun hge => ?_)
  ·
    as_aux_lemma =>
      obtain ⟨t, p, o, s', rfl, ht, hm, ho1, ho2, hkid⟩ := kidAt i (by omega)
      obtain ⟨acc, sa, hca, hsa, hao, hacc⟩ := hJ.acc
      have hkp2 : (mkTF [acc, t]).All okL := ⟨(okL_T hao).1, (okL_T hao).2, ho1, ho2, trivial⟩
      have hct := (hkid w5 hJ.ext).1
      have hst := (hkid w5 hJ.ext).2
      have hlts := hJ.lt
      have hat := accO_at (acc := acc) ht
      have zW := hJ.ext.size
      refine .inr (.inr (hyb_ruleA ties mixed 10 7 25 [(0, .quiet), (1, .quiet), (2, .quiet), (3, .quiet), (4, .quiet), (5, .loud), (6, .loud), (7, .quiet), (8, .quiet), (9, .pure), (11, .wild), (12, .quiet)] rfl rfl rfl rfl rfl (by kernel_rfl) ?_))
      refine ⟨tc acc.1 sa, rfl, hca, ⟨by omega, by omega⟩, tc t.1 s', rfl, hct, ?_⟩
      intro w6 x6
      have ha6 : TSl (fun b => (b ≠ w1.heap.size ∧ b ≠ W.heap.size) ∧ b < w5.heap.size) w6 sa acc.2 := (hsa.lt.ext x6)
      have ht6 : TSl (fun b => (b ≠ w1.heap.size ∧ b ≠ W.heap.size) ∧ b < w5.heap.size) w6 s' t.2 := (hst.ext x6).mono fun b hb => by omega
      obtain ⟨x7, hk7⟩ := mkT2 (a := acc) (b := t) ha6 ht6
      refine ⟨x7, ?_⟩
      intro w8 x8
      have z6 := x6.size
      have z8 : w6.heap.size + 1 ≤ w8.heap.size := by have := x8.size; rw [World.size_alloc] at this; omega
      have hk8 := (hk7.ext x8).mono (ok' := fun b => (b ≠ w1.heap.size ∧ b ≠ W.heap.size) ∧ (b < w5.heap.size ∨ b = w6.heap.size)) fun b hb => by omega
      refine Or.inl ((makeTerm_ret 8 1 0 (mkTF [acc, t]) _ w8 ⟨⟨by decide, by decide⟩, ⟨by decide, by decide⟩, ⟨by decide, by decide⟩⟩ hkp2 _ hk8).mono ?_)
      rintro _ w9 ⟨v9, rfl, x9, s9, rfl, hs9⟩
      refine ⟨x9, ?_⟩
      intro B2 w10 hm10 hcl10 x10
      have h0 := hcl10 (0, w5.heap.size) (by simp)
      have h1 := hcl10 (w6.heap.size, (w6.alloc (.cells (tc acc.1 sa ++ tc t.1 s').toArray 25)).heap.size) (by simp)
      have h2 := hcl10 (w8.heap.size, w9.heap.size) (by simp)
      simp only [World.size_alloc] at h0 h1 h2
      have hB2 : w5.heap.size ≤ B2 := by omega
      obtain ⟨o, hmo⟩ : ∃ o, mkO (mkn 8 1 0, mkTF [acc, t]) = o := ⟨_, rfl⟩
      rw [hmo] at hs9 hat ⊢
      have hs9' : TSl (fun b => b ≠ B2 ∧ b ≠ w1.heap.size ∧ b ≠ W.heap.size) w9 s9 (o.getD zeroT).2 := hs9.lt.mono fun b hb => by
        have hb1 := hb.1
        have hb2 := hb.2
        rcases hb1 with hb1 | hb1
        · exact ⟨by omega, hb1.1⟩
        · exact ⟨by omega, by omega, by omega⟩
      obtain ⟨g1, g2, g3⟩ := term_made (t := o.getD zeroT) hm10 hs9' x10 (fun b hb => hb.1)
      have X10 : Ext w5 w10 := (((x6.trans x7).trans x8).trans x9).trans x10
      refine ⟨g1, Ext.setCells _ X10 hB2, ?_⟩
      intro w11 x11
      obtain ⟨c11, hs11⟩ := g3 w11 x11
      have X11 : Ext w5 w11 := (X10.chg g2 (fun b hb => by rw [hb]; exact hB2)).trans x11
      have z11 := X11.size
      clear g1 g2 g3 hm10 hcl10 X10 x10 x11 hs9 hs9' ha6 ht6 hk7 hk8 x6 x7 x8 x9
      refine br_not (fun hb => ?_) (fun hb => ?_)
      · have ho : o = none := Option.not_isSome_iff_eq_none.1 (by rw [hb]; decide)
        subst ho
        have e : allO (tms k) = none := by rw [allO_yes hallp, hacc, hat]
        rw [e]
        exact fin5t (ok := anyB) (y := zeroL) (k := .nil) false (hJ.rb.ext X11) (Nat.le_refl _) (hJ.ext.trans X11) (nil_in _ _ _ _)
      · obtain ⟨u, ho⟩ := Option.isSome_iff_exists.1 hb
        subst ho
        have hra := hJ.ra.ext X11
        have hch : Chg (fun b => b = w1.heap.size) w11 (setCells w11 w1.heap.size 0 (tc u.1 s9)) := Chg.setCells (S := fun b => b = w1.heap.size) rfl _ _ _
        have zch := hch.size
        refine ⟨tc u.1 s9, rfl, c11, hra.all _ 0 (Nat.le_refl 5) (tc_one hs11), ?_⟩
        refine ⟨_, IntWalk.i64_in _ (by omega), ?_⟩
        refine hK (i + 1, _, _, _) _ _ (vs4 (vint (by show (i : Int) + 1 = ((i + 1 : Nat) : Int); omega)) rfl rfl rfl) ⟨Ext.setCells _ (hJ.ext.trans X11) (by omega), Rmy.setCells _ hra, Rmy.setCells _ (hJ.rb.ext X11), ⟨Nat.lt_of_lt_of_le (by omega : w1.heap.size < w11.heap.size) zch, Nat.lt_of_lt_of_le (by omega : W.heap.size < w11.heap.size) zch, hne⟩, by rw [tms_len]; show i + 1 ≤ k.len; omega, u, s9, setCells_at (tc u.1 s9) _ 0 5 hra (Nat.le_refl 5), (Fo.Sl.chg (fun b hb e => hb.2.1 e) hch hs11).mono fun b hb => hb.2, (mkO_sz hmo).2, hacc.trans hat⟩ (by show k.len - (i + 1) < k.len - i; omega) ?_
        ((repeat (first | (with_reducible exact Only.refl) | (with_reducible refine Only.skip ?_) | ((with_reducible refine Only.upd ?_ ?_); rfl) | ((with_reducible refine Only.over ?_ ?_ _); rfl) | ((with_reducible refine Only.hav ?_ ?_ ?_); rfl; rfl))))
  · have hik : i = (tms k).length := by rw [tms_len]; omega
    rw [hik] at hJ
    obtain ⟨acc, sa, h1, h2, h3, h4⟩ := hJ.fin hallp (Nat.le_refl _)
    refine ⟨tc acc.1 sa, rfl, h1, h3, ?_⟩
    exact h4
set_option maxHeartbeats 4000000 in
theorem impl_AllOf : Ret Try.prog 60 #[s] W (CFir (allO (tms k)).isSome ((allO (tms k)).getD zeroT) W) := by
  have x0 : Ext W (bzW W) := bz_ext W
  have r0 := bz_rmy W
  have hlt : W.heap.size < (bzW W).heap.size := by rw [bz_size]; omega
  have hmk := allOf_ret k s (bzW W) (hs.ext x0) hp
  have hz := allO_sz (tms k)
  obtain ⟨o, h0⟩ : ∃ o, allO (tms k) = o := ⟨_, rfl⟩
  rw [h0] at hmk hz ⊢
  have hcp := fun s' w' (h : TSl anyB w' s' (o.getD zeroT).2) => copyTerm_sep (o.getD zeroT).2 (o.getD zeroT).1 s' w' h (by omega)
  clear h0
  cases o with
  | none =>
    refine ret_of_vc ties mixed Try.func60 rfl (by kernel_rfl) rfl rfl ?_
    refine Or.inl ((hmk).mono ?_)
    rintro _ w2 ⟨v2, rfl, x2, s2, rfl, hs2⟩
    obtain ⟨f3, c3, x3⟩ := keep5 (W := w2) (x := zeroT.1) (s := s2) (tc_one hs2)
    refine ⟨f3, ?_⟩
    have x23 := x2.trans x3
    exact fin6t (t := zeroT) false (r0.ext x23) (Nat.le_refl _) (x0.trans x23) (Nat.lt_succ_self _) (zero_sep _ _ _)
  | some u =>
    refine ret_of_vc ties mixed Try.func60 rfl (by kernel_rfl) rfl rfl ?_
    refine Or.inl ((hmk).mono ?_)
    rintro _ w2 ⟨v2, rfl, x2, s2, rfl, hs2⟩
    obtain ⟨f3, c3, x3⟩ := keep5 (W := w2) (x := u.1) (s := s2) (tc_one hs2)
    refine ⟨f3, ?_⟩
    have x23 := x2.trans x3
    refine ⟨_, rfl, c3, ?_⟩
    refine Or.inl ((hcp s2 _ ((hs2.mono fun _ _ => trivial).ext x3)).mono ?_)
    rintro _ w4 ⟨x4, s4, rfl, hs4⟩
    have x24 := x23.trans x4
    exact fin6t (t := u) true (r0.ext x24) (Nat.le_refl _) (x0.trans x24) (Nat.lt_of_lt_of_le hlt x23.size) hs4
set_option maxRecDepth 100000 in
set_option maxHeartbeats 16000000 in
theorem spec_AllOf : Ret Try.prog 59 #[s] W (FirR anyB (allO (tms k)).isSome ((allO (tms k)).getD zeroT) W) := by
  have x0 : Ext W (bzW W) := bz_ext W
  have r0 := bz_rmy W
  have hlt : W.heap.size < (bzW W).heap.size := by rw [bz_size]; omega
  obtain ⟨a, c, rfl, hl, hat⟩ := id hs
  have hl' : k.len ≤ 9223372036854775807 := hl
  have hkp := all_mk (l := tms k) (by rw [mk_tms]; exact hp)
  have kidAt : ∀ (i : Nat), i < k.len → ∃ t p o s', a = some ⟨p, o, none⟩ ∧ (tms k)[i]? = some t ∧ t ∈ tms k ∧ okL t.1 ∧ t.2.All okL ∧ (∀ w, Ext W w → CellsAt w p (o + (i : Int).toNat * 5) (tc t.1 s') ∧ TSl anyB w s' t.2) := fun i hi => by
    obtain ⟨t, ht, _⟩ := tms_get hi
    obtain ⟨p, o, c', s', e, _, _, _, hc, hs'⟩ := TSl.kid hs ht
    cases e
    have hm : t ∈ tms k := List.mem_of_getElem? ht
    exact ⟨t, p, o, s', rfl, ht, hm, (hkp t hm).1, (hkp t hm).2, fun w xw => ⟨hc.ext xw, hs'.ext xw⟩⟩
  refine ret_of_vc ties mixed Try.func59 rfl (by kernel_rfl) rfl rfl ?_
  refine loop_rule (σ := Nat × Value) [13, 5] 14 27 (fun q => [.int .i64 q.1, q.2])
    (fun q w' => Ext (bzW W) w' ∧ q.1 ≤ k.len ∧ ∀ j, j < q.1 → ∀ t, (tms k)[j]? = some t → TOk t.1 t.2 ∧ t.1.w = 1)
    (fun q => k.len - q.1) (0, undef) rfl ⟨Ext.refl _, Nat.zero_le _, fun j hj => absurd hj (Nat.not_lt_zero j)⟩ ?_
  rintro ⟨i, j5⟩ w3 junk ⟨x3, hi, hall⟩ K hK
  simp only at hi hall
  show vc _ _ _ _ (over [13, 5] [.int .i64 i, j5] _) _
  have x03 := x0.trans x3
  have no : ∀ t, (tms k)[i]? = some t → ¬ (TOk t.1 t.2 ∧ t.1.w = 1) → allO (tms k) = none := fun t ht hn => allO_no fun e => hn (e t (List.mem_of_getElem? ht))
  refine br_dec (fun hlt' => ?_) (fun hge => ?_)
  · obtain ⟨t, p, o, s', rfl, ht, hm, ho1, ho2, hkid⟩ := kidAt i (by omega)
    have hok := fun w (xw : Ext W w) => spec_TermOk t.1 t.2 s' w (hkid w xw).2 ho1 ho2
    obtain ⟨f4, c4, x4⟩ := keep5 (W := w3) (x := t.1) (s := s') (tc_one (hkid w3 x03).2)
    by_cases htk : TOk t.1 t.2
    · simp only [decide_eq_true htk] at hok
      refine ⟨⟨by omega, by omega⟩, tc t.1 s', rfl, (hkid w3 x03).1, f4, ?_⟩
      refine ⟨tc t.1 s', rfl, c4, ?_⟩
      refine Or.inl ((hok _ (x03.trans x4)).mono ?_)
      rintro _ w5 ⟨rfl, x5⟩
      refine ⟨_, x5.cell c4.2.1, ?_⟩
      refine br_dec (fun hw => ?_) (fun hw => ?_)
      · have e := no t ht (fun e => hw e.2)
        rw [e]
        have xx := x3.trans (x4.trans x5)
        exact fin5t (ok := anyB) (y := zeroL) (k := .nil) false (r0.ext xx) (Nat.le_refl _) (x0.trans xx) (nil_in _ _ _ _)
      · refine ⟨_, IntWalk.i64_in _ (by omega), ?_⟩
        refine hK (i + 1, _) _ _ (vs2 (vint (by show (i : Int) + 1 = ((i + 1 : Nat) : Int); omega)) rfl) ⟨x3.trans (x4.trans x5), by show i + 1 ≤ k.len; omega, fun j hj u hu => ?_⟩ (by show k.len - (i + 1) < k.len - i; omega) ?_
        · by_cases e : j = i
          · subst e; rw [ht] at hu; rw [← Option.some.inj hu]; exact ⟨htk, Decidable.not_not.1 hw⟩
          · exact hall j (by have : j < i + 1 := hj; omega) u hu
        · ((repeat (first | (with_reducible exact Only.refl) | (with_reducible refine Only.skip ?_) | ((with_reducible refine Only.upd ?_ ?_); rfl) | ((with_reducible refine Only.over ?_ ?_ _); rfl) | ((with_reducible refine Only.hav ?_ ?_ ?_); rfl; rfl))))
    · simp only [decide_eq_false htk] at hok
      refine ⟨⟨by omega, by omega⟩, tc t.1 s', rfl, (hkid w3 x03).1, f4, ?_⟩
      refine ⟨tc t.1 s', rfl, c4, ?_⟩
      refine Or.inl ((hok _ (x03.trans x4)).mono ?_)
      rintro _ w5 ⟨rfl, x5⟩
      have e := no t ht (fun e => htk e.1)
      rw [e]
      have xx := x3.trans (x4.trans x5)
      exact fin5t (ok := anyB) (y := zeroL) (k := .nil) false (r0.ext xx) (Nat.le_refl _) (x0.trans xx) (nil_in _ _ _ _)
  have hallp : allP (tms k) := fun t ht => by
    obtain ⟨j, hj⟩ := List.mem_iff_getElem?.1 ht
    have hjl := (List.getElem?_eq_some_iff.1 hj).1
    rw [tms_len] at hjl
    exact hall j (by omega) t hj
  refine Or.inl ((l02Const_ret _ _ _).mono ?_)
  rintro _ w1 ⟨rfl, x1⟩
  obtain ⟨f2, c2, x2⟩ := keep5 (W := w1) (x := constL 1 1) (s := .slice none 0 0) rfl
  refine ⟨f2, ?_⟩
  have ra2 : Rmy (setCells (w1.alloc (.cells #[.int .i64 0, .int .i64 0, .int .i64 0, .string ByteArray.empty, .slice none 0 0] 25)) w1.heap.size 0 (tc (constL 1 1) (.slice none 0 0))) w1.heap.size 5 := Rmy.setCells _ (bz_rmy w1)
  have x13 := (x3.trans x1).trans x2
  have z13 := (x3.trans x1).size
  have z2 := x2.size
  have hne : w1.heap.size ≠ W.heap.size := by omega
  have zlt : w1.heap.size < (setCells (w1.alloc (.cells #[.int .i64 0, .int .i64 0, .int .i64 0, .string ByteArray.empty, .slice none 0 0] 25)) w1.heap.size 0 (tc (constL 1 1) (.slice none 0 0))).heap.size := World.block_lt_of_cell? _ _ c2.1
  have j0 : AccJ W (tms k) w1.heap.size W.heap.size 0 (setCells (w1.alloc (.cells #[.int .i64 0, .int .i64 0, .int .i64 0, .string ByteArray.empty, .slice none 0 0] 25)) w1.heap.size 0 (tc (constL 1 1) (.slice none 0 0))) := ⟨x0.trans x13, ra2, r0.ext x13, ⟨zlt, by omega, hne⟩, Nat.zero_le _, conT 1 1, .slice none 0 0, c2, nil_sl _ _, ok_con (by decide), rfl⟩
  clear hall c2 ra2 hK no x2 x3 x13 x1 f2
  refine loop_rule (σ := Nat × Value × Value × Value) [30, 8, 9, 10] 31 46 (fun q => [.int .i64 q.1, q.2.1, q.2.2.1, q.2.2.2])
    (fun q w' => AccJ W (tms k) w1.heap.size W.heap.size q.1 w')
    (fun q => k.len - q.1) (0, undef, undef, undef) rfl j0 ?_
  rintro ⟨i, j8, j9, j10⟩ w5 junk hJ K hK
  simp only at hJ
  show vc _ _ _ _ (over [30, 8, 9, 10] [.int .i64 i, j8, j9, j10] _) _
  have hi : i ≤ k.len := by have := hJ.le; rw [tms_len] at this; exact this
  refine br_dec (fun hlt' => ?_) (fun hge => ?_)
  ·
    as_aux_lemma =>
      obtain ⟨t, p, o, s', rfl, ht, hm, ho1, ho2, hkid⟩ := kidAt i (by omega)
      obtain ⟨acc, sa, hca, hsa, hao, hacc⟩ := hJ.acc
      have hkp2 : (mkTF [acc, t]).All okL := ⟨(okL_T hao).1, (okL_T hao).2, ho1, ho2, trivial⟩
      have hct := (hkid w5 hJ.ext).1
      have hst := (hkid w5 hJ.ext).2
      have hlts := hJ.lt
      have hat := accO_at (acc := acc) ht
      have zW := hJ.ext.size
      obtain ⟨f6, c6, x6⟩ := keep5 (W := w5) (x := t.1) (s := s') (tc_one hst)
      refine ⟨⟨by omega, by omega⟩, tc t.1 s', rfl, hct, f6, ?_⟩
      obtain ⟨x7, hk7⟩ := mkT2 (ok := anyB) (a := acc) (b := t) ((hsa.ext x6).mono fun _ _ => trivial) (hst.ext x6)
      refine ⟨tc acc.1 sa, rfl, hca.ext x6, tc t.1 s', rfl, c6, ?_⟩
      obtain ⟨om, hmo⟩ : ∃ om, mkO (mkn 8 1 0, mkTF [acc, t]) = om := ⟨_, rfl⟩
      have hcall := spec_MakeTerm 8 1 0 (mkTF [acc, t]) _ _ ⟨⟨by decide, by decide⟩, ⟨by decide, by decide⟩, ⟨by decide, by decide⟩⟩ hkp2 (hk7.mono fun _ _ => trivial)
      rw [hmo] at hat hcall
      refine Or.inl ((hcall).mono ?_)
      rintro _ w9 ⟨v9, rfl, x9, s9, rfl, hs9⟩
      obtain ⟨f10, c10, x10⟩ := keep5 (W := w9) (x := (om.getD zeroT).1) (s := s9) (tc_one hs9)
      refine ⟨f10, ?_⟩
      have X8 := x6.trans x7
      have X10 := (X8.trans x9).trans x10
      have z8 := X8.size
      have z10 := X10.size
      have hs10 : TSl (fun b => b ≠ w1.heap.size ∧ b ≠ W.heap.size) _ s9 (om.getD zeroT).2 := (hs9.ext x10).mono fun b hb => by
        rcases hb with hb | hb
        · exact hb.elim
        · have := Nat.le_trans z8 hb; omega
      refine br_not (fun hb => ?_) (fun hb => ?_)
      · have ho : om = none := Option.not_isSome_iff_eq_none.1 (by rw [hb]; decide)
        subst ho
        have e : allO (tms k) = none := by rw [allO_yes hallp, hacc, hat]
        rw [e]
        exact fin5t (ok := anyB) (y := zeroL) (k := .nil) false (hJ.rb.ext X10) (Nat.le_refl _) (hJ.ext.trans X10) (nil_in _ _ _ _)
      · obtain ⟨u, ho⟩ := Option.isSome_iff_exists.1 hb
        subst ho
        have hra := hJ.ra.ext X10
        have hch := Chg.setCells (S := fun b => b = w1.heap.size) (B := w1.heap.size) rfl (tc u.1 s9) (setCells (w9.alloc (.cells #[.int .i64 0, .int .i64 0, .int .i64 0, .string ByteArray.empty, .slice none 0 0] 25)) w9.heap.size 0 (tc u.1 s9)) 0
        have zch := hch.size
        refine ⟨tc u.1 s9, rfl, c10, hra.all _ 0 (Nat.le_refl 5) (tc_one hs10), ?_⟩
        refine ⟨_, IntWalk.i64_in _ (by omega), ?_⟩
        refine hK (i + 1, _, _, _) _ _ (vs4 (vint (by show (i : Int) + 1 = ((i + 1 : Nat) : Int); omega)) rfl rfl rfl) ⟨Ext.setCells _ (hJ.ext.trans X10) (by omega), Rmy.setCells _ hra, Rmy.setCells _ (hJ.rb.ext X10), ⟨Nat.lt_of_lt_of_le hlts.1 (Nat.le_trans z10 zch), Nat.lt_of_lt_of_le hlts.2.1 (Nat.le_trans z10 zch), hne⟩, by rw [tms_len]; show i + 1 ≤ k.len; omega, u, s9, setCells_at (tc u.1 s9) _ 0 5 hra (Nat.le_refl 5), Fo.Sl.chg (fun b hb e => hb.1 e) hch hs10, (mkO_sz hmo).2, hacc.trans hat⟩ (by show k.len - (i + 1) < k.len - i; omega) ?_
        ((repeat (first | (with_reducible exact Only.refl) | (with_reducible refine Only.skip ?_) | ((with_reducible refine Only.upd ?_ ?_); rfl) | ((with_reducible refine Only.over ?_ ?_ _); rfl) | ((with_reducible refine Only.hav ?_ ?_ ?_); rfl; rfl))))
  · have hik : i = (tms k).length := by rw [tms_len]; omega
    rw [hik] at hJ
    obtain ⟨acc, sa, h1, h2, h3, h4⟩ := hJ.fin hallp (Nat.le_refl _)
    refine ⟨tc acc.1 sa, rfl, h1, h3, ?_⟩
    exact h4
end
end Go.Proofs.Ytkoaicjcanplaaa
