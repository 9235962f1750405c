/- Draws: l02Draw. -/
import Derived.Test.YtekddgkgeaolnaaD2
namespace Go.Proofs.Ytekddgkgeaolnaa.Dr
open Go Go.Vc Go.RowKit
set_option linter.unusedVariables false

theorem and_word {w n : Int} (h : 1 ≤ w ∧ w ≤ 16) : wOk w (bitsI .and .i64 n (2 ^ w.toNat - 1)) = true := by
  have hp := pow16 (w := w) (by omega) h.2
  have hm := and_mask (a := n) (m := 2 ^ w.toNat - 1) (by omega) (by omega)
  rw [wOk_iff]
  omega
theorem DrR.more {C : Nat} {l : List Int} {w : Int} {m : Nat} {W w1 w2 : World} {v : Value} (h : DrR C l w m W v w1) (x : Ext w1 w2) : DrR C l w m W v w2 :=
  ⟨⟨h.1.1.trans (.of x), h.1.2.ext x⟩, h.2.imp fun _ ht => ht.imp fun _ hs => ⟨hs.1, hs.2.1, hs.2.2.ext x⟩⟩
/-- A leaf is given. -/
theorem leaf_fin {C B : Nat} {l : List Int} {W w : World} {n : Int} {m : Nat} {y : Lab} (hB : W.heap.size ≤ B) (hC : C < W.heap.size) (hch : Chg (fun b => b = C) W w) (hc : Cur C w l) (hr : Rmy w B 5) (hp : DrP n m (y, .nil)) :
    FreeAll w B 0 (tc y (.slice none 0 0)) ∧ CellsAt (setCells w B 0 (tc y (.slice none 0 0))) B 0 (tc y (.slice none 0 0)) ∧ DrR C l n m W (tv y (.slice none 0 0)) (setCells w B 0 (tc y (.slice none 0 0))) := by
  have hst : Chg (fun b => b = B) w (setCells w B 0 (tc y (.slice none 0 0))) := Chg.setCells (S := fun b => b = B) rfl _ _ _
  exact ⟨hr.all _ 0 (Nat.le_refl 5) rfl, setCells_at _ _ 0 5 hr (Nat.le_refl 5), ⟨Chg.later hch hst (fun b hb => .inr (by omega)), hc.chg (fun b hb e => by omega) hst⟩, (y, .nil), _, rfl, hp, none, 0, rfl, Nat.zero_le _, .inl rfl⟩
theorem in_cases (op lo hi : Int) : decide (lo ≤ op ∧ op ≤ hi) = true ↔ lo ≤ op ∧ op ≤ hi := decide_eq_true_iff
set_option maxRecDepth 200000 in
set_option maxHeartbeats 4000000 in
theorem draw_all : ∀ m, m ≤ 4 → DrawS m := by
  intro m
  induction m with
  | zero =>
    intro _ C l w W hC hw
    have hw16 : 1 ≤ w ∧ w ≤ 16 := by omega
    have hp := pow16 (w := w) (by omega) hw16.2
    have hlt := hC.lt
    have xz := bz_ext W
    have cx : Chg (fun b => b = C) W (bzW W) := .of xz
    have rz := bz_rmy W
    have cz := hC.ext xz
    refine ret_of_vc ties mixed Try.func24 rfl (by kernel_rfl) rfl rfl ?_
    refine Or.inl ((once_ret C l 3 _ cz).mono ?_)
    rintro _ w2 ⟨⟨b2, rfl⟩, d2⟩
    have c2 : Chg (fun b => b = C) W w2 := cx.trans d2.1
    have r2 := d2.1.rmy (S := fun b => b = C) (by omega) rz
    refine br_split (fun _ => ?_) (fun _ => ?_)
    · refine .inr (.inr (hyb_ruleS (fun b => b = C) ties mixed [(0, .quiet), (1, .quiet), (2, .quiet), (3, .quiet), (4, .quiet), (5, .quiet), (6, .quiet), (7, .quiet), (11, .quiet), (12, .quiet), (13, .quiet), (8, .loud), (9, .loud), (10, .loud), (14, .loud), (15, .loud), (16, .wild)] (by kernel_rfl) ?_))
      refine ⟨by omega, _, shl1 (by omega) hw16.2, _, IntWalk.i64_in _ (by omega), by omega, _, shl1 (by omega) hw16.2, by omega, _, shl1 (by omega) hw16.2, _, IntWalk.i64_in _ (by omega), ?_⟩
      intro w3 x3
      refine Or.inl ((below_ret C l _ w3 (d2.2.ext x3)).mono ?_)
      rintro _ w4 ⟨⟨n4, rfl, -, -, -⟩, d4⟩
      refine ⟨d4.1, ?_⟩
      intro w5 x5
      refine ⟨Chg.alloc _ _, ?_⟩
      intro w6 x6
      have hbx := boxedAll w5 [.int .i64 0, .int .i64 1, .int .i64 (2 ^ w.toNat - 1), .int .i64 n4] 3
      have hl5 : C < w5.heap.size := (d4.2.ext x5).lt
      have hrow : SlR eI (fun b => b ≠ C) (w5.alloc (.cells [Value.int .i64 0, .int .i64 1, .int .i64 (2 ^ w.toNat - 1), .int .i64 n4].toArray 3)) (.slice (some ⟨w5.heap.size, 0, none⟩) 4 4) [0, 1, 2 ^ w.toNat - 1, n4] :=
        ⟨_, 4, rfl, Nat.le_refl _, (by decide : 4 ≤ maxLen), .inr ⟨_, 0, rfl, by omega, ⟨⟨[_], ⟨hbx.1, trivial⟩, rfl⟩, ⟨[_], ⟨hbx.2.1, trivial⟩, rfl⟩, ⟨[_], ⟨hbx.2.2.1, trivial⟩, rfl⟩, ⟨[_], ⟨hbx.2.2.2.1, trivial⟩, rfl⟩, trivial⟩⟩⟩
      have xn : Ext w5 (w5.alloc (.cells [Value.int .i64 0, .int .i64 1, .int .i64 (2 ^ w.toNat - 1), .int .i64 n4].toArray 3)) := Ext.new _ _
      refine Or.inl ((pick_ret C l w6 (((d4.2.ext x5).ext xn).ext x6) [0, 1, 2 ^ w.toNat - 1, n4] _ (hrow.ext x6) (show 1 ≤ 4 by decide)).mono ?_)
      rintro _ w7 ⟨⟨i7, hi7, rfl⟩, d7⟩
      refine ⟨d7.1, ?_⟩
      intro w8 x8
      refine ⟨_, rfl, Chg.refl _ _, ?_⟩
      intro w9 x9
      refine Or.inl ((l02Const_ret w _ w9).mono ?_)
      rintro _ w10 ⟨rfl, x10⟩
      refine ⟨.of x10, ?_⟩
      intro w11 x11
      have cA : Chg (fun b => b = C) W w11 := ((((((((c2.trans (.of x3)).trans d4.1).trans (.of x5)).trans (.of xn)).trans (.of x6)).trans d7.1).trans (.of x8)).trans (.of x9)).trans ((Chg.of x10).trans (.of x11))
      have uA := (((d7.2.ext x8).ext x9).ext x10).ext x11
      have rA := ((((d7.1.rmy (S := fun b => b = C) (by omega) (((d4.1.rmy (S := fun b => b = C) (by omega) (r2.ext x3)).ext x5 |>.ext xn).ext x6)).ext x8).ext x9).ext x10).ext x11
      have f := leaf_fin (B := W.heap.size) (Nat.le_refl _) hlt cA uA rA (drp_const 0 (and_word hw16 (n := [0, 1, 2 ^ w.toNat - 1, n4][i7]'hi7)))
      refine ⟨f.1, ?_⟩
      intro w12 x12
      exact ⟨_, rfl, f.2.1.ext x12, f.2.2.more x12⟩
    · refine Or.inl ((var_ret C l w2 d2.2 w (by omega)).mono ?_)
      rintro _ w3 ⟨⟨s, hs, rfl⟩, d3⟩
      have f := leaf_fin (B := W.heap.size) (Nat.le_refl _) hlt (c2.trans d3.1) d3.2 (d3.1.rmy (S := fun b => b = C) (by omega) r2) (drp_var 0 hs hw16)
      exact ⟨f.1, _, rfl, f.2.1, f.2.2⟩
  | succ m ih =>
    intro hm4 C l w W hC hw
    have hw16 : 1 ≤ w ∧ w ≤ 16 := by omega
    have hp := pow16 (w := w) (by omega) hw16.2
    have hlt := hC.lt
    have xz := bz_ext W
    have cx : Chg (fun b => b = C) W (bzW W) := .of xz
    have rz := bz_rmy W
    have cz := hC.ext xz
    refine ret_of_vc ties mixed Try.func24 rfl (by kernel_rfl) rfl rfl ?_
    refine Or.inl ((once_ret C l 6 _ cz).mono ?_)
    rintro _ w0 ⟨⟨b0, rfl⟩, d0⟩
    replace cz := d0.2
    replace cx := cx.trans d0.1
    replace rz := d0.1.rmy (S := fun b => b = C) (by omega) rz
    refine br_split (fun _ => ?_) (fun _ => ?_)
    ·
      as_aux_lemma =>
        refine Or.inl ((once_ret C l 3 _ cz).mono ?_)
        rintro _ w2 ⟨⟨b2, rfl⟩, d2⟩
        have c2 : Chg (fun b => b = C) W w2 := cx.trans d2.1
        have r2 := d2.1.rmy (S := fun b => b = C) (by omega) rz
        refine br_split (fun _ => ?_) (fun _ => ?_)
        · refine .inr (.inr (hyb_ruleS (fun b => b = C) ties mixed [(0, .quiet), (1, .quiet), (2, .quiet), (3, .quiet), (4, .quiet), (5, .quiet), (6, .quiet), (7, .quiet), (11, .quiet), (12, .quiet), (13, .quiet), (8, .loud), (9, .loud), (10, .loud), (14, .loud), (15, .loud), (16, .wild)] (by kernel_rfl) ?_))
          refine ⟨by omega, _, shl1 (by omega) hw16.2, _, IntWalk.i64_in _ (by omega), by omega, _, shl1 (by omega) hw16.2, by omega, _, shl1 (by omega) hw16.2, _, IntWalk.i64_in _ (by omega), ?_⟩
          intro w3 x3
          refine Or.inl ((below_ret C l _ w3 (d2.2.ext x3)).mono ?_)
          rintro _ w4 ⟨⟨n4, rfl, -, -, -⟩, d4⟩
          refine ⟨d4.1, ?_⟩
          intro w5 x5
          refine ⟨Chg.alloc _ _, ?_⟩
          intro w6 x6
          have hbx := boxedAll w5 [.int .i64 0, .int .i64 1, .int .i64 (2 ^ w.toNat - 1), .int .i64 n4] 3
          have hl5 : C < w5.heap.size := (d4.2.ext x5).lt
          have hrow : SlR eI (fun b => b ≠ C) (w5.alloc (.cells [Value.int .i64 0, .int .i64 1, .int .i64 (2 ^ w.toNat - 1), .int .i64 n4].toArray 3)) (.slice (some ⟨w5.heap.size, 0, none⟩) 4 4) [0, 1, 2 ^ w.toNat - 1, n4] :=
            ⟨_, 4, rfl, Nat.le_refl _, (by decide : 4 ≤ maxLen), .inr ⟨_, 0, rfl, by omega, ⟨⟨[_], ⟨hbx.1, trivial⟩, rfl⟩, ⟨[_], ⟨hbx.2.1, trivial⟩, rfl⟩, ⟨[_], ⟨hbx.2.2.1, trivial⟩, rfl⟩, ⟨[_], ⟨hbx.2.2.2.1, trivial⟩, rfl⟩, trivial⟩⟩⟩
          have xn : Ext w5 (w5.alloc (.cells [Value.int .i64 0, .int .i64 1, .int .i64 (2 ^ w.toNat - 1), .int .i64 n4].toArray 3)) := Ext.new _ _
          refine Or.inl ((pick_ret C l w6 (((d4.2.ext x5).ext xn).ext x6) [0, 1, 2 ^ w.toNat - 1, n4] _ (hrow.ext x6) (show 1 ≤ 4 by decide)).mono ?_)
          rintro _ w7 ⟨⟨i7, hi7, rfl⟩, d7⟩
          refine ⟨d7.1, ?_⟩
          intro w8 x8
          refine ⟨_, rfl, Chg.refl _ _, ?_⟩
          intro w9 x9
          refine Or.inl ((l02Const_ret w _ w9).mono ?_)
          rintro _ w10 ⟨rfl, x10⟩
          refine ⟨.of x10, ?_⟩
          intro w11 x11
          have cA : Chg (fun b => b = C) W w11 := ((((((((c2.trans (.of x3)).trans d4.1).trans (.of x5)).trans (.of xn)).trans (.of x6)).trans d7.1).trans (.of x8)).trans (.of x9)).trans ((Chg.of x10).trans (.of x11))
          have uA := (((d7.2.ext x8).ext x9).ext x10).ext x11
          have rA := ((((d7.1.rmy (S := fun b => b = C) (by omega) (((d4.1.rmy (S := fun b => b = C) (by omega) (r2.ext x3)).ext x5 |>.ext xn).ext x6)).ext x8).ext x9).ext x10).ext x11
          have f := leaf_fin (B := W.heap.size) (Nat.le_refl _) hlt cA uA rA (drp_const (m + 1) (and_word hw16 (n := [0, 1, 2 ^ w.toNat - 1, n4][i7]'hi7)))
          refine ⟨f.1, ?_⟩
          intro w12 x12
          exact ⟨_, rfl, f.2.1.ext x12, f.2.2.more x12⟩
        · refine Or.inl ((var_ret C l w2 d2.2 w (by omega)).mono ?_)
          rintro _ w3 ⟨⟨s, hs, rfl⟩, d3⟩
          have f := leaf_fin (B := W.heap.size) (Nat.le_refl _) hlt (c2.trans d3.1) d3.2 (d3.1.rmy (S := fun b => b = C) (by omega) r2) (drp_var (m + 1) hs hw16)
          exact ⟨f.1, _, rfl, f.2.1, f.2.2⟩
    refine Or.inl ((below_ret C l 21 _ cz).mono ?_)
    rintro _ w1 ⟨⟨y1, rfl, hy0, hy1, hyn⟩, d1⟩
    replace cz := d1.2
    replace cx := cx.trans d1.1
    replace rz := d1.1.rmy (S := fun b => b = C) (by omega) rz
    have hyn := hyn (by decide)
    obtain ⟨op, hop⟩ : ∃ op : Int, 1 + y1 = op := ⟨_, rfl⟩
    refine ⟨op, (IntWalk.i64_in _ (by omega)).trans hop, ?_⟩
    have hz1 : W.heap.size < w1.heap.size := by have := bz_size W; have := d0.1.size; have := d1.1.size; omega
    have mk := Nd.make (B := W.heap.size) (Nat.le_refl _) hlt rz hz1 cx cz (mkn op w 0)
    refine ⟨mk.1, ?_⟩
    have nd1 := mk.2
    refine Or.inl ((in_ret op 14 16 _).mono ?_)
    rintro _ _ ⟨rfl, rfl⟩
    refine br_dec (fun hin => ?_) (fun hin1 => ?_)
    ·
      as_aux_lemma =>
        refine Or.inl ((below_ret C l 4 _ nd1.cur).mono ?_)
        rintro _ w2 ⟨⟨y2, rfl, hy2, -, hy2n⟩, d2⟩
        have hy2n := hy2n (by decide)
        have nd2 := nd1.draw d2
        refine ⟨_, IntWalk.i64_in _ (by omega), ?_⟩
        refine ⟨nd2.rA 1 (by decide), ?_⟩
        have nd4 := nd2.width 1
        refine ⟨(m : Int), (IntWalk.i64_in _ (by omega)).trans (by omega), ?_⟩
        refine Or.inl ((ih (by omega) C l (1 + y2) _ nd4.cur (by omega)).mono ?_)
        rintro _ w5 ⟨d5, t5, s5, rfl, p5, q5⟩
        have z5 := nd4.lt
        replace q5 : TSl (fun b => w1.heap.size < b) w5 s5 t5.2 := q5.mono fun b hb => Nat.lt_of_lt_of_le z5 hb
        have nd5 := nd4.draw d5
        refine ⟨(m : Int), (IntWalk.i64_in _ (by omega)).trans (by omega), ?_⟩
        refine Or.inl ((ih (by omega) C l (1 + y2) _ nd5.cur (by omega)).mono ?_)
        rintro _ w6 ⟨d6, t6, s6, rfl, p6, q6⟩
        have z6 := nd5.lt
        replace q6 : TSl (fun b => w1.heap.size < b) w6 s6 t6.2 := q6.mono fun b hb => Nat.lt_of_lt_of_le z6 hb
        have nd6 := nd5.draw d6
        replace q5 := nd5.keepS q5 d6
        have rw7 := row2 q5 q6 nd6.lt
        have nd7 := nd6.ext rw7.1
        refine ⟨nd7.rA 4 (by decide), ?_⟩
        have nd8 := nd7.kids (.slice (some ⟨w6.heap.size, 0, none⟩) 2 2)
        have ro8 := rw7.2.chg (S := fun b => b = w1.heap.size) (fun b hb => by omega) (Chg.setCell (S := fun b => b = w1.heap.size) _ (p := ⟨w1.heap.size, 0 + 4, none⟩) rfl (.slice (some ⟨w6.heap.size, 0, none⟩) 2 2))
        refine Or.inl ((once_ret C l 6 _ nd8.cur).mono ?_)
        rintro _ w9 ⟨⟨b9, rfl⟩, d9⟩
        have nd9 := nd8.draw d9
        have ro9 := ro8.chg (S := fun b => b = C) (fun b hb => by have := nd8.hC; have := nd8.hB; have := nd8.hA; omega) d9.1
        refine br_split (fun _ => ?_) (fun _ => ?_)
        · have al := ro9.alias
          have ndA := nd9.high (S := fun b => b = w6.heap.size) (fun b hb => by have := ro9.hK; omega) al.2.1
          refine .inr (.inr (hyb_rule ties mixed [(0, .quiet), (1, .quiet), (2, .quiet), (3, .quiet), (4, .quiet), (5, .quiet), (6, .quiet), (7, .wild)] (by kernel_rfl) ?_))
          refine ⟨_, nd9.ca.2.2.2.2.1, _, nd9.ca.2.2.2.2.1, ⟨by decide, by decide⟩, tc t5.1 s5, rfl, ro9.ca, ⟨by decide, by decide⟩, ?_⟩
          intro wA xA
          have alA := (ro9.chg (S := fun _ => False) (fun _ hb => hb.elim) (Chg.of xA)).alias
          have ndB := (nd9.ext xA).high (S := fun b => b = w6.heap.size) (fun b hb => by have := ro9.hK; omega) alA.2.1
          refine ⟨alA.1, ?_⟩
          intro wB xB
          have nd10 := ndB.ext xB
          have ro10 := alA.2.2.chg (S := fun _ => False) (fun _ hb => hb.elim) (Chg.of xB)
          have p10 := p5
          refine br_dec (fun hw1 => ?_) (fun hw1 => ?_)
          · have rw11 := row1 (a := (⟨op, 1, 0, ByteArray.empty⟩, mkTF [t5, t5])) ro10.sl nd10.lt
            have nd11 := nd10.ext rw11.1
            refine ⟨tc _ _, rfl, nd10.ca, ?_⟩
            have g := fin_other nd11 rw11.2 (drp_cgrow (w := w) ⟨hin.1, hin.2⟩ (by omega) p5 p10 hw16)
            exact ⟨g.1, _, rfl, g.2.1, g.2.2⟩
          · have hw1 : w = 1 := by omega
            subst hw1
            refine ⟨tc _ _, rfl, nd10.ca, ?_⟩
            have f := nd10.fin ro10.sl (drp_cmp ⟨hin.1, hin.2⟩ (by omega) p5 p10)
            exact ⟨f.1, _, rfl, f.2.1, f.2.2⟩
        · have nd10 := nd9
          have ro10 := ro9
          have p10 := p6
          refine br_dec (fun hw1 => ?_) (fun hw1 => ?_)
          · have rw11 := row1 (a := (⟨op, 1, 0, ByteArray.empty⟩, mkTF [t5, t6])) ro10.sl nd10.lt
            have nd11 := nd10.ext rw11.1
            refine ⟨tc _ _, rfl, nd10.ca, ?_⟩
            have g := fin_other nd11 rw11.2 (drp_cgrow (w := w) ⟨hin.1, hin.2⟩ (by omega) p5 p10 hw16)
            exact ⟨g.1, _, rfl, g.2.1, g.2.2⟩
          · have hw1 : w = 1 := by omega
            subst hw1
            refine ⟨tc _ _, rfl, nd10.ca, ?_⟩
            have f := nd10.fin ro10.sl (drp_cmp ⟨hin.1, hin.2⟩ (by omega) p5 p10)
            exact ⟨f.1, _, rfl, f.2.1, f.2.2⟩
    refine Or.inl ((in_ret op 3 13 _).mono ?_)
    rintro _ _ ⟨rfl, rfl⟩
    refine br_dec (fun hin2 => ?_) (fun hin2 => ?_)
    ·
      as_aux_lemma =>
        refine ⟨(m : Int), (IntWalk.i64_in _ (by omega)).trans (by omega), ?_⟩
        refine Or.inl ((ih (by omega) C l (w) _ nd1.cur (by omega)).mono ?_)
        rintro _ w5 ⟨d5, t5, s5, rfl, p5, q5⟩
        have z5 := nd1.lt
        replace q5 : TSl (fun b => w1.heap.size < b) w5 s5 t5.2 := q5.mono fun b hb => Nat.lt_of_lt_of_le z5 hb
        have nd5 := nd1.draw d5
        refine ⟨(m : Int), (IntWalk.i64_in _ (by omega)).trans (by omega), ?_⟩
        refine Or.inl ((ih (by omega) C l (w) _ nd5.cur (by omega)).mono ?_)
        rintro _ w6 ⟨d6, t6, s6, rfl, p6, q6⟩
        have z6 := nd5.lt
        replace q6 : TSl (fun b => w1.heap.size < b) w6 s6 t6.2 := q6.mono fun b hb => Nat.lt_of_lt_of_le z6 hb
        have nd6 := nd5.draw d6
        replace q5 := nd5.keepS q5 d6
        have rw7 := row2 q5 q6 nd6.lt
        have nd7 := nd6.ext rw7.1
        refine ⟨nd7.rA 4 (by decide), ?_⟩
        have nd8 := nd7.kids (.slice (some ⟨w6.heap.size, 0, none⟩) 2 2)
        have ro8 := rw7.2.chg (S := fun b => b = w1.heap.size) (fun b hb => by omega) (Chg.setCell (S := fun b => b = w1.heap.size) _ (p := ⟨w1.heap.size, 0 + 4, none⟩) rfl (.slice (some ⟨w6.heap.size, 0, none⟩) 2 2))
        refine Or.inl ((once_ret C l 8 _ nd8.cur).mono ?_)
        rintro _ w9 ⟨⟨b9, rfl⟩, d9⟩
        have nd9 := nd8.draw d9
        have ro9 := ro8.chg (S := fun b => b = C) (fun b hb => by have := nd8.hC; have := nd8.hB; have := nd8.hA; omega) d9.1
        refine br_split (fun _ => ?_) (fun _ => ?_)
        · have al := ro9.alias
          have ndA := nd9.high (S := fun b => b = w6.heap.size) (fun b hb => by have := ro9.hK; omega) al.2.1
          refine .inr (.inr (hyb_rule ties mixed [(0, .quiet), (1, .quiet), (2, .quiet), (3, .quiet), (4, .quiet), (5, .quiet), (6, .quiet), (7, .wild)] (by kernel_rfl) ?_))
          refine ⟨_, nd9.ca.2.2.2.2.1, _, nd9.ca.2.2.2.2.1, ⟨by decide, by decide⟩, tc t5.1 s5, rfl, ro9.ca, ⟨by decide, by decide⟩, ?_⟩
          intro wA xA
          have alA := (ro9.chg (S := fun _ => False) (fun _ hb => hb.elim) (Chg.of xA)).alias
          have ndB := (nd9.ext xA).high (S := fun b => b = w6.heap.size) (fun b hb => by have := ro9.hK; omega) alA.2.1
          refine ⟨alA.1, ?_⟩
          intro wB xB
          have nd10 := ndB.ext xB
          have ro10 := alA.2.2.chg (S := fun _ => False) (fun _ hb => hb.elim) (Chg.of xB)
          have p10 := p5
          refine ⟨tc _ _, rfl, nd10.ca, ?_⟩
          have f := nd10.fin ro10.sl (drp_bin ⟨hin2.1, hin2.2⟩ hw16 p5 p10)
          exact ⟨f.1, _, rfl, f.2.1, f.2.2⟩
        · have nd10 := nd9
          have ro10 := ro9
          have p10 := p6
          refine ⟨tc _ _, rfl, nd10.ca, ?_⟩
          have f := nd10.fin ro10.sl (drp_bin ⟨hin2.1, hin2.2⟩ hw16 p5 p10)
          exact ⟨f.1, _, rfl, f.2.1, f.2.2⟩
    refine br_dec (fun hle => ?_) (fun hle => ?_)
    ·
      as_aux_lemma =>
        refine ⟨(m : Int), (IntWalk.i64_in _ (by omega)).trans (by omega), ?_⟩
        refine Or.inl ((ih (by omega) C l (w) _ nd1.cur (by omega)).mono ?_)
        rintro _ w5 ⟨d5, t5, s5, rfl, p5, q5⟩
        have z5 := nd1.lt
        replace q5 : TSl (fun b => w1.heap.size < b) w5 s5 t5.2 := q5.mono fun b hb => Nat.lt_of_lt_of_le z5 hb
        have nd5 := nd1.draw d5
        have rw7 := row1 q5 nd5.lt
        have nd7 := nd5.ext rw7.1
        refine ⟨nd7.rA 4 (by decide), ?_⟩
        have nd8 := nd7.kids (.slice (some ⟨w5.heap.size, 0, none⟩) 1 1)
        have ts8 := Fo.Sl.chg (S := fun b => b = w1.heap.size) (fun b hb e => by omega) (Chg.setCell (S := fun b => b = w1.heap.size) _ (p := ⟨w1.heap.size, 0 + 4, none⟩) rfl (.slice (some ⟨w5.heap.size, 0, none⟩) 1 1)) rw7.2
        refine ⟨tc _ _, rfl, nd8.ca, ?_⟩
        have f := nd8.fin ts8 (drp_un (by omega) hw16 p5)
        exact ⟨f.1, _, rfl, f.2.1, f.2.2⟩
    refine br_dec (fun h17 => ?_) (fun h17 => ?_)
    ·
      as_aux_lemma =>
        refine ⟨(m : Int), (IntWalk.i64_in _ (by omega)).trans (by omega), ?_⟩
        refine Or.inl ((ih (by omega) C l (1) _ nd1.cur (by omega)).mono ?_)
        rintro _ w5 ⟨d5, t5, s5, rfl, p5, q5⟩
        have z5 := nd1.lt
        replace q5 : TSl (fun b => w1.heap.size < b) w5 s5 t5.2 := q5.mono fun b hb => Nat.lt_of_lt_of_le z5 hb
        have nd5 := nd1.draw d5
        refine ⟨(m : Int), (IntWalk.i64_in _ (by omega)).trans (by omega), ?_⟩
        refine Or.inl ((ih (by omega) C l (w) _ nd5.cur (by omega)).mono ?_)
        rintro _ w6 ⟨d6, t6, s6, rfl, p6, q6⟩
        have z6 := nd5.lt
        replace q6 : TSl (fun b => w1.heap.size < b) w6 s6 t6.2 := q6.mono fun b hb => Nat.lt_of_lt_of_le z6 hb
        have nd6 := nd5.draw d6
        replace q5 := nd5.keepS q5 d6
        refine ⟨(m : Int), (IntWalk.i64_in _ (by omega)).trans (by omega), ?_⟩
        refine Or.inl ((ih (by omega) C l (w) _ nd6.cur (by omega)).mono ?_)
        rintro _ w7 ⟨d7, t7, s7, rfl, p7, q7⟩
        have z7 := nd6.lt
        replace q7 : TSl (fun b => w1.heap.size < b) w7 s7 t7.2 := q7.mono fun b hb => Nat.lt_of_lt_of_le z7 hb
        have nd7 := nd6.draw d7
        replace q5 := nd6.keepS q5 d7
        replace q6 := nd6.keepS q6 d7
        have rw8 := row3 q5 q6 q7 nd7.lt
        have nd8 := nd7.ext rw8.1
        refine ⟨nd8.rA 4 (by decide), ?_⟩
        have nd9 := nd8.kids (.slice (some ⟨w7.heap.size, 0, none⟩) 3 3)
        have ts9 := Fo.Sl.chg (S := fun b => b = w1.heap.size) (fun b hb e => by omega) (Chg.setCell (S := fun b => b = w1.heap.size) _ (p := ⟨w1.heap.size, 0 + 4, none⟩) rfl (.slice (some ⟨w7.heap.size, 0, none⟩) 3 3)) rw8.2
        subst h17
        refine ⟨tc _ _, rfl, nd9.ca, ?_⟩
        have f := nd9.fin ts9 (drp_if hw16 p5 p6 p7)
        exact ⟨f.1, _, rfl, f.2.1, f.2.2⟩
    by_cases h18 : op = 18
    · refine br_dec_true h18 ?_
      refine br_dec (fun hw1 => ?_) (fun hw1 => ?_)
      ·
        as_aux_lemma =>
          refine ⟨_, IntWalk.i64_in _ (by omega), ?_⟩
          refine Or.inl ((below_ret C l (w - 1) _ nd1.cur).mono ?_)
          rintro _ w2 ⟨⟨y2, rfl, hy2, -, hy2n⟩, d2⟩
          have hy2n := hy2n (by omega)
          have nd4 := nd1.draw d2
          refine ⟨_, IntWalk.i64_in _ (by omega), ?_⟩
          refine ⟨_, IntWalk.i64_in _ (by omega), ?_⟩
          refine ⟨(m : Int), (IntWalk.i64_in _ (by omega)).trans (by omega), ?_⟩
          refine Or.inl ((ih (by omega) C l (w - (1 + y2)) _ nd4.cur (by omega)).mono ?_)
          rintro _ w5 ⟨d5, t5, s5, rfl, p5, q5⟩
          have z5 := nd4.lt
          replace q5 : TSl (fun b => w1.heap.size < b) w5 s5 t5.2 := q5.mono fun b hb => Nat.lt_of_lt_of_le z5 hb
          have nd5 := nd4.draw d5
          refine ⟨(m : Int), (IntWalk.i64_in _ (by omega)).trans (by omega), ?_⟩
          refine Or.inl ((ih (by omega) C l (1 + y2) _ nd5.cur (by omega)).mono ?_)
          rintro _ w6 ⟨d6, t6, s6, rfl, p6, q6⟩
          have z6 := nd5.lt
          replace q6 : TSl (fun b => w1.heap.size < b) w6 s6 t6.2 := q6.mono fun b hb => Nat.lt_of_lt_of_le z6 hb
          have nd6 := nd5.draw d6
          replace q5 := nd5.keepS q5 d6
          have rw7 := row2 q5 q6 nd6.lt
          have nd7 := nd6.ext rw7.1
          refine ⟨nd7.rA 4 (by decide), ?_⟩
          have nd8 := nd7.kids (.slice (some ⟨w6.heap.size, 0, none⟩) 2 2)
          have ro8 := rw7.2.chg (S := fun b => b = w1.heap.size) (fun b hb => by omega) (Chg.setCell (S := fun b => b = w1.heap.size) _ (p := ⟨w1.heap.size, 0 + 4, none⟩) rfl (.slice (some ⟨w6.heap.size, 0, none⟩) 2 2))
          subst h18
          refine ⟨tc _ _, rfl, nd8.ca, ?_⟩
          have f := nd8.fin ro8.sl (drp_join hw16 ⟨by omega, by omega⟩ p5 p6)
          exact ⟨f.1, _, rfl, f.2.1, f.2.2⟩
      · repeat refine br_dec_false (show ¬ op = 19 by omega) ?_
        refine Or.inl ((in_ret op 20 21 _).mono ?_)
        rintro _ _ ⟨rfl, rfl⟩
        refine br_dec_false (by omega) ?_
        refine Or.inl ((var_ret C l _ nd1.cur w (by omega)).mono ?_)
        rintro _ w2 ⟨⟨s, hs, rfl⟩, d2⟩
        have nd2 := nd1.draw d2
        have f := leaf_fin (B := W.heap.size) (Nat.le_refl _) hlt nd2.chg nd2.cur nd2.rB (drp_var (m + 1) hs hw16)
        exact ⟨f.1, _, rfl, f.2.1, f.2.2⟩
    refine br_dec_false h18 ?_
    refine br_dec (fun h19 => ?_) (fun h19 => ?_)
    ·
      as_aux_lemma =>
        refine Or.inl ((below_ret C l 3 _ nd1.cur).mono ?_)
        rintro _ w2 ⟨⟨y2, rfl, hy2, -, hy2n⟩, d2⟩
        have hy2n := hy2n (by decide)
        have nd2 := nd1.draw d2
        refine ⟨_, IntWalk.i64_in _ (by omega), _, IntWalk.i64_in _ (by omega), _, IntWalk.i64_in _ (by omega), ?_⟩
        refine Or.inl ((below_ret C l (w + y2 - w + 1) _ nd2.cur).mono ?_)
        rintro _ w3 ⟨⟨y3, rfl, hy3, -, hy3n⟩, d3⟩
        have hy3n := hy3n (by omega)
        have nd3 := nd2.draw d3
        refine ⟨nd3.rA 2 (by decide), ?_⟩
        have nd4 := nd3.numb y3
        refine ⟨(m : Int), (IntWalk.i64_in _ (by omega)).trans (by omega), ?_⟩
        refine Or.inl ((ih (by omega) C l (w + y2) _ nd4.cur (by omega)).mono ?_)
        rintro _ w5 ⟨d5, t5, s5, rfl, p5, q5⟩
        have z5 := nd4.lt
        replace q5 : TSl (fun b => w1.heap.size < b) w5 s5 t5.2 := q5.mono fun b hb => Nat.lt_of_lt_of_le z5 hb
        have nd5 := nd4.draw d5
        have rw7 := row1 q5 nd5.lt
        have nd7 := nd5.ext rw7.1
        refine ⟨nd7.rA 4 (by decide), ?_⟩
        have nd8 := nd7.kids (.slice (some ⟨w5.heap.size, 0, none⟩) 1 1)
        have ts8 := Fo.Sl.chg (S := fun b => b = w1.heap.size) (fun b hb e => by omega) (Chg.setCell (S := fun b => b = w1.heap.size) _ (p := ⟨w1.heap.size, 0 + 4, none⟩) rfl (.slice (some ⟨w5.heap.size, 0, none⟩) 1 1)) rw7.2
        subst h19
        refine ⟨tc _ _, rfl, nd8.ca, ?_⟩
        have f := nd8.fin ts8 (drp_cut (w := w) (v := w + y2) (n := y3) hw16 ⟨by omega, by omega⟩ ⟨by omega, by omega⟩ p5)
        exact ⟨f.1, _, rfl, f.2.1, f.2.2⟩
    refine Or.inl ((in_ret op 20 21 _).mono ?_)
    rintro _ _ ⟨rfl, rfl⟩
    refine br_dec_true (by omega) ?_
    refine Or.inl ((below_ret C l w _ nd1.cur).mono ?_)
    rintro _ w2 ⟨⟨y2, rfl, hy2, -, hy2n⟩, d2⟩
    have hy2n := hy2n (by omega)
    have nd4 := nd1.draw d2
    refine ⟨_, IntWalk.i64_in _ (by omega), ?_⟩
    refine ⟨(m : Int), (IntWalk.i64_in _ (by omega)).trans (by omega), ?_⟩
    refine Or.inl ((ih (by omega) C l (1 + y2) _ nd4.cur (by omega)).mono ?_)
    rintro _ w5 ⟨d5, t5, s5, rfl, p5, q5⟩
    have z5 := nd4.lt
    replace q5 : TSl (fun b => w1.heap.size < b) w5 s5 t5.2 := q5.mono fun b hb => Nat.lt_of_lt_of_le z5 hb
    have nd5 := nd4.draw d5
    have rw7 := row1 q5 nd5.lt
    have nd7 := nd5.ext rw7.1
    refine ⟨nd7.rA 4 (by decide), ?_⟩
    have nd8 := nd7.kids (.slice (some ⟨w5.heap.size, 0, none⟩) 1 1)
    have ts8 := Fo.Sl.chg (S := fun b => b = w1.heap.size) (fun b hb e => by omega) (Chg.setCell (S := fun b => b = w1.heap.size) _ (p := ⟨w1.heap.size, 0 + 4, none⟩) rfl (.slice (some ⟨w5.heap.size, 0, none⟩) 1 1)) rw7.2
    refine ⟨tc _ _, rfl, nd8.ca, ?_⟩
    have f := nd8.fin ts8 (drp_wid (by omega) hw16 (by omega) p5)
    exact ⟨f.1, _, rfl, f.2.1, f.2.2⟩
end Go.Proofs.Ytekddgkgeaolnaa.Dr
