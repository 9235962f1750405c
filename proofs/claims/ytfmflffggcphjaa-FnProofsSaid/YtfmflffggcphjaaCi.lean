/- CoreOf: contract of the program's. -/
import Derived.Test.YtfmflffggcphjaaCo
namespace Go.Sat
open Go.Vc
theorem set_getD {o : List Bool} {i k : Nat} : (o.set i true).getD k true = if k = i then true else o.getD k true := by
  rw [List.getD_eq_getElem?_getD, List.getD_eq_getElem?_getD]
  by_cases h : k = i
  · subst h
    rw [if_pos rfl]
    by_cases hl : k < o.length
    · rw [List.getElem?_set_self hl]; rfl
    · rw [List.getElem?_eq_none (by rw [List.length_set]; omega)]; rfl
  · rw [if_neg h, List.getElem?_set_ne (Ne.symm h)]
end Go.Sat
namespace Go.Proofs.Ytfmflffggcphjaa
open Go Go.Vc Go.RowKit Go.Sat
set_option linter.unusedVariables false

theorem cl_cells {ok : Nat → Prop} {w : World} {s : Value} {F : Cnf} (hs : SlR eL ok w s F) : ∃ a cp, s = .slice a F.length cp ∧ F.length ≤ maxLen ∧ ∀ k, k < F.length → ∃ b o ka kl kc, a = some ⟨b, o, none⟩ ∧ w.cell? ⟨b, o + k * 1, none⟩ = some (.slice ka kl kc) ∧ eL.R ok w (F.getD k []) [.slice ka kl kc] := by
  obtain ⟨a, cp, rfl, h1, h2, h3⟩ := id hs
  refine ⟨a, cp, rfl, by omega, fun k hk => ?_⟩
  obtain ⟨b, o, c1, cs1, he, -, hcell, hr⟩ := hs.at hk
  cases he
  obtain ⟨s', rfl, hsl⟩ := id hr
  obtain ⟨ka, kc, rfl, -⟩ := id hsl
  refine ⟨b, o, ka, _, kc, rfl, hcell.1, ?_⟩
  rw [List.getD_eq_getElem?_getD, List.getElem?_eq_getElem hk]
  exact hr
theorem bool_at {w : World} {o : List Bool} {B k : Nat} (h : RAt eB noB w o B 0) (hk : k < o.length) : w.cell? ⟨B, 0 + k * 1, none⟩ = some (.bool (o.getD k true)) := by
  obtain ⟨cs, hc, hr⟩ := h.get (List.getElem?_eq_getElem hk)
  cases hr
  rw [List.getD_eq_getElem?_getD, List.getElem?_eq_getElem hk]
  exact hc.1
theorem rep_false {w : World} {B : Nat} : ∀ (q o : Nat), CellsAt w B o (zs q [.bool false]) → RAt eB noB w (List.replicate q false) B o := by
  intro q
  induction q with
  | zero => intro o _; trivial
  | succ q ih => intro o h; exact ⟨⟨[.bool false], ⟨h.1, trivial⟩, rfl⟩, ih (o + 1) h.2⟩

set_option maxHeartbeats 4000000 in
theorem impl_CoreOf (n : Int) (F : Cnf) (limit : Int) (s : Value) (W : World) (hs : SlR eL allB W s F) :
    Ret Try.prog 22 #[fv n s, .int .i64 limit] W (CorR n F limit W) := by
  have hlm : (maxLen : Int) ≤ 9223372036854775807 := by decide
  have hsO : SlR eL (oldB W.heap.size) W s F := hs.lt.mono fun b hb => hb.2
  obtain ⟨a0, c0, rfl, hlc0, hcells⟩ := cl_cells hsO
  have x1 : Ext W (W.alloc (.cells #[.int .i64 n, .slice a0 F.length c0] 25)) := Ext.new _ _
  have hb := boxedAll W [.int .i64 n, .slice a0 F.length c0] 25
  refine ret_of_vc ties mixed Try.func22 rfl (by kernel_rfl) rfl rfl ?_
  refine ⟨[.int .i64 n, .slice a0 F.length c0], rfl, hb, ?_⟩
  refine Or.inl ((impl_Search n F [] limit (.slice a0 F.length c0) (.slice none 0 0) _ (hs.ext x1) (SlR.nil _ _ _ _ _ (Nat.zero_le _)) (Nat.zero_le _)).mono ?_)
  rintro _ w2 ⟨x2, R0, hSR, sv, rfl, -, -⟩
  have x12 := x1.trans x2
  have hse := seaF_eq hSR
  refine br_dec (fun h => ?_) (fun h => ?_)
  · exact CorR.no x12 (by unfold corO; rw [if_neg (by omega)])
  have hse2 : seaF n F limit = 2 := by omega
  have hF := (seaF_two hse2).1
  have hlim := (seaF_two hse2).2
  have hn := fOk_n' hF
  clear h hSR hse
  obtain ⟨N, rfl⟩ : ∃ N : Nat, n = N := ⟨n.toNat, by omega⟩
  obtain ⟨m, rfl⟩ : ∃ m : Nat, limit = m := ⟨limit.toNat, by omega⟩
  have hz1 := x1.size
  have hz2 := x2.size
  have hnew : Ext w2 (w2.alloc (.cells (zs ((F.length : Int)).toNat [.bool false]).toArray 4)) := Ext.new _ _
  have hroom : Rmy (w2.alloc (.cells (zs ((F.length : Int)).toNat [.bool false]).toArray 4)) w2.heap.size F.length := by
    have := Rmy.new w2 (zs ((F.length : Int)).toNat [.bool false]) 4
    rwa [zs_length, List.length_singleton, Nat.mul_one, Int.toNat_natCast] at this
  have hrat : RAt eB noB (w2.alloc (.cells (zs ((F.length : Int)).toNat [.bool false]).toArray 4)) (List.replicate F.length false) w2.heap.size 0 := by
    have := rep_false _ _ (boxedAll w2 (zs ((F.length : Int)).toNat [.bool false]) 4)
    rwa [Int.toNat_natCast] at this
  refine ⟨_, (hb.ext x2).2.1, ⟨by omega, by omega, by omega, by show (1 : Int) * (F.length : Int) ≤ _; omega⟩, ?_⟩
  refine ⟨_, (hb.ext (x2.trans hnew)).2.1, ?_⟩
  refine loop_rule (σ := Nat × List Bool × Value × Value × Value × Value × Value × Value × Value) [10, 11, 12, 13, 14, 15, 16, 35] 36 83 (fun q => [q.2.2.1, q.2.2.2.1, q.2.2.2.2.1, q.2.2.2.2.2.1, q.2.2.2.2.2.2.1, q.2.2.2.2.2.2.2.1, q.2.2.2.2.2.2.2.2, .int .i64 q.1])
    (fun q w' => Ext (W.alloc (.cells #[.int .i64 N, .slice a0 F.length c0] 25)) w' ∧ q.1 ≤ F.length ∧ corF N F m q.1 = some q.2.1 ∧ Rmy w' w2.heap.size F.length ∧ RAt eB noB w' q.2.1 w2.heap.size 0)
    (fun q => F.length - q.1) (0, List.replicate F.length false, undef, undef, undef, undef, undef, undef, undef) rfl ⟨x2.trans hnew, Nat.zero_le _, rfl, hroom, hrat⟩ ?_
  · clear hroom hrat
    rintro ⟨i, o, j10, j11, j12, j13, j14, j15, j16⟩ w junk ⟨hx, hi, hcor, hrm, hra⟩ K hK
    simp only at hi hcor hrm hra
    show vc _ _ _ _ (over [10, 11, 12, 13, 14, 15, 16, 35] [j10, j11, j12, j13, j14, j15, j16, .int .i64 i] _) _
    have hinv := corF_inv _ _ hcor
    have hob : w2.heap.size < w.heap.size ∨ F.length = 0 := by
      by_cases h0 : F.length = 0
      · exact .inr h0
      · exact .inl (World.block_lt_of_cell? _ _ (hrm 0 (by omega)).1.choose_spec)
    refine br_dec (fun h3 => ?_) (fun h3 => ?_)
    · have hil : i < F.length := by omega
      have hol : (o.set i true).length = F.length := by rw [List.length_set]; exact hinv.1
      have hob1 : w2.heap.size < w.heap.size := by omega
      have hzx := hx.size
      refine ⟨_, (hb.ext hx).1, ?_⟩
      have rG := Rmy.new w [.int .i64 0, .slice none 0 0] 25
      refine ⟨rG.all [.int .i64 N, .slice none 0 0] 0 (Nat.le_refl 2) rfl, ?_⟩
      have xg : Ext w (Vc.setCells (w.alloc (.cells #[.int .i64 0, .slice none 0 0] 25)) w.heap.size 0 [.int .i64 N, .slice none 0 0]) := Ext.setCells _ (Ext.new _ _) (Nat.le_refl _)
      have hcg := setCells_at [.int .i64 N, .slice none 0 0] _ 0 2 rG (Nat.le_refl 2)
      have hrg := Rmy.setCells (b := w.heap.size) (o := 0) [.int .i64 N, .slice none 0 0] rG
      refine ⟨_, (hb.ext (hx.trans xg)).2.1, ?_⟩
      refine loop_rule (σ := Nat × Value × Value × Value) [12, 13, 44] 45 66 (fun q => [q.2.2.1, q.2.2.2, .int .i64 q.1])
        (fun q w' => Ext w w' ∧ q.1 ≤ F.length ∧ Rmy w' w.heap.size 2 ∧ CellsAt w' w.heap.size 0 [.int .i64 N, q.2.1] ∧ OwnR eL (oldB W.heap.size) w' q.2.1 (filt (F.take q.1) ((o.set i true).take q.1)) ∧ ∀ b, blk q.2.1 b → w.heap.size < b)
        (fun q => F.length - q.1) (0, .slice none 0 0, j12, j13) rfl ⟨xg, Nat.zero_le _, hrg, hcg, by simp only [List.take_zero, filt]; exact OwnR.nil _ _ _ _, fun b hb => hb.elim⟩ ?_
      clear rG xg hcg hrg
      rintro ⟨k, gv, i12, i13⟩ w' junk2 ⟨hx', hk, hrG, hcG, hog, hgb⟩ K2 hK2
      simp only at hk hcG hog hgb
      show vc _ _ _ _ (over [12, 13, 44] [i12, i13, .int .i64 k] _) _
      refine br_dec (fun h4 => ?_) (fun h4 => ?_)
      · have hkl : k < F.length := by omega
        refine Exists.elim (hcells k hkl) fun b h => Exists.elim h fun o0 h => Exists.elim h fun ka h => Exists.elim h fun kl h => Exists.elim h fun kc hh => ?_
        have hae := hh.1
        subst hae
        have hcell := (x1.trans (hx.trans hx')).cell hh.2.1
        have hft := filt_take hol hkl
        have hfl := filt_len (F.take k) ((o.set i true).take k)
        rw [List.length_take] at hfl
        refine ⟨⟨by omega, by omega⟩, _, hcell, ?_⟩
        refine br_dec (fun hki => ?_) (fun hki => ?_)
        · rw [set_getD, if_neg (show ¬ k = i by omega)] at hft
          refine ⟨⟨by omega, by omega⟩, _, bool_at (hra.ext hx') (by omega), ?_⟩
          refine br_not (fun hok => ?_) (fun hok => ?_)
          · rw [if_neg (by rw [show o.getD k true = false from hok]; decide)] at hft
            refine ⟨_, hcG.2.1, ?_⟩
            refine raw_push (E := eL) (ok := oldB W.heap.size) (x := F.getD k []) (cs := [.slice ka kl kc]) ties rfl rfl rfl rfl rfl rfl rfl rfl rfl rfl rfl hog (Rep.ext eL (x1.trans (hx.trans hx')) hh.2.2) (fun b' hb' e => by have := hgb b' e; unfold oldB at hb'; omega) (by show ((filt (F.take k) ((o.set i true).take k)).length + 1) * 24 ≤ _; omega) (by omega) ?_
            intro v8 w8 hv8 hch8 hsz8 hvb8
            refine Exists.elim (own_ptr hv8 (by rw [List.length_append]; exact Nat.succ_ne_zero _)) fun B8 h => Exists.elim h fun cp8 he8 => ?_
            subst he8
            have hng : ¬ blk gv w.heap.size := fun e => by have := hgb _ e; omega
            have hrG8 := hch8.rmy hng hrG
            have hcG8 := hch8.cells hng hcG
            have hz8 := hx'.size
            have hv8b : ∀ b', blk (.slice (some ⟨B8, 0, none⟩) (filt (F.take k) ((o.set i true).take k) ++ [F.getD k []]).length cp8) b' → w.heap.size < b' := fun b' hb' => by
              rcases hvb8 b' hb' with h | h
              · exact hgb b' h
              · omega
            have hown9 : OwnR eL (oldB W.heap.size) (w8.setCell ⟨w.heap.size, 0 + 1, none⟩ (.slice (some ⟨B8, 0, none⟩) (filt (F.take k) ((o.set i true).take k) ++ [F.getD k []]).length cp8)) (.slice (some ⟨B8, 0, none⟩) (filt (F.take k) ((o.set i true).take k) ++ [F.getD k []]).length cp8) (filt (F.take (k + 1)) ((o.set i true).take (k + 1))) := by
              rw [hft]
              exact hv8.chg (S := fun b => b = w.heap.size) (fun b' hb' e => by unfold oldB at hb'; omega) (fun b' hb' e => by have := hv8b b' hb'; omega) (Chg.setCell (S := fun b => b = w.heap.size) _ rfl _)
            refine ⟨hrG8 1 (by decide), ?_⟩
            refine ⟨_, IntWalk.i64_in _ (by omega), ?_⟩
            refine hK2 (k + 1, _, _, _) _ _ (vs3 rfl rfl (vint (by show (k : Int) + 1 = ((k + 1 : Nat) : Int); omega))) ⟨(hx'.chg hch8 (fun b' hb' => Nat.le_of_lt (hgb b' hb'))).set (Nat.le_refl _) _, by show k + 1 ≤ _; omega, hrG8.setCell, ⟨(World.cell?_setCell_other _ _ _ _ (by simp)).trans hcG8.1, World.cell?_setCell_same _ _ _ hcG8.2.1, trivial⟩, hown9, hv8b⟩ (by show F.length - (k + 1) < F.length - k; omega) ?_
            ((repeat (first | (with_reducible exact Only.refl) | (with_reducible refine Only.skip ?_) | ((with_reducible refine Only.upd ?_ ?_); rfl) | ((with_reducible refine Only.over ?_ ?_ _); rfl) | ((with_reducible refine Only.hav ?_ ?_ ?_); rfl; rfl))))
          · rw [if_pos (show o.getD k true = true from hok), List.append_nil] at hft
            refine ⟨_, IntWalk.i64_in _ (by omega), ?_⟩
            refine hK2 (k + 1, gv, _, _) _ _ (vs3 rfl rfl (vint (by show (k : Int) + 1 = ((k + 1 : Nat) : Int); omega))) ⟨hx', by show k + 1 ≤ _; omega, hrG, hcG, by show OwnR eL _ w' gv (filt (F.take (k + 1)) ((o.set i true).take (k + 1))); rw [hft]; exact hog, hgb⟩ (by show F.length - (k + 1) < F.length - k; omega) ?_
            ((repeat (first | (with_reducible exact Only.refl) | (with_reducible refine Only.skip ?_) | ((with_reducible refine Only.upd ?_ ?_); rfl) | ((with_reducible refine Only.over ?_ ?_ _); rfl) | ((with_reducible refine Only.hav ?_ ?_ ?_); rfl; rfl))))
        · rw [set_getD, if_pos (show k = i by omega), if_pos rfl, List.append_nil] at hft
          refine ⟨_, IntWalk.i64_in _ (by omega), ?_⟩
          refine hK2 (k + 1, gv, _, _) _ _ (vs3 rfl rfl (vint (by show (k : Int) + 1 = ((k + 1 : Nat) : Int); omega))) ⟨hx', by show k + 1 ≤ _; omega, hrG, hcG, by show OwnR eL _ w' gv (filt (F.take (k + 1)) ((o.set i true).take (k + 1))); rw [hft]; exact hog, hgb⟩ (by show F.length - (k + 1) < F.length - k; omega) ?_
          ((repeat (first | (with_reducible exact Only.refl) | (with_reducible refine Only.skip ?_) | ((with_reducible refine Only.upd ?_ ?_); rfl) | ((with_reducible refine Only.over ?_ ?_ _); rfl) | ((with_reducible refine Only.hav ?_ ?_ ?_); rfl; rfl))))
      · have hke : k = F.length := by omega
        rw [hke, List.take_length, List.take_of_length_le (by omega)] at hog
        have hFl := filt_ok hF (o.set i true)
        refine ⟨[.int .i64 N, gv], rfl, hcG, ?_⟩
        refine Or.inl ((newSolver_ret N (filt F (o.set i true)) gv w' (hog.sl (fun _ _ => trivial) (fun _ _ => trivial)) hFl).mono ?_)
        intro sp w10 hS
        refine Or.inl ((search_ret N (filt F (o.set i true)) m [] (.slice none 0 0) sp _ hS.2 (SlR.nil _ _ _ _ _ (Nat.zero_le _)) hFl (fun l h => absurd h (List.not_mem_nil)) (Nat.zero_le _) (by omega)).mono ?_)
        intro r w11 hr
        refine Exists.elim hr.2 fun o' hR => Exists.elim hR.2 fun sv hsv => ?_
        have hre := hsv.1
        subst hre
        have hSR : SeaO N (filt F (o.set i true)) [] m (seaRes (filt F (o.set i true)) N m o') := by
          unfold SeaO
          rw [if_pos ⟨hFl, rfl, hlim⟩]
          exact ⟨o', by rw [Int.toNat_natCast]; exact hR.1, by rw [Int.toNat_natCast, Int.toNat_natCast]⟩
        have hs7 := seaF_eq hSR
        have x11 := (hx'.trans hS.1).trans hr.1
        have hrm11 := hrm.ext x11
        have hra11 := hra.ext x11
        have hcor' : corF N F m (i + 1) = if (seaRes (filt F (o.set i true)) N m o').code = 3 then none else some (if (seaRes (filt F (o.set i true)) N m o').code = 2 then o.set i true else o) := by rw [corF, hcor]; simp only; rw [hs7]
        refine br_dec (fun h5 => ?_) (fun h5 => ?_)
        · rw [if_neg (by omega), if_pos h5] at hcor'
          refine ⟨⟨by omega, by omega⟩, hrm11 (0 + (i : Int).toNat * 1) (by omega), ?_⟩
          refine ⟨_, IntWalk.i64_in _ (by omega), ?_⟩
          refine hK (i + 1, o.set i true, _, _, _, _, _, _, _) _ _ (vs8 rfl rfl rfl rfl rfl rfl rfl (vint (by show (i : Int) + 1 = ((i + 1 : Nat) : Int); omega))) ⟨(hx.trans x11).set hz2 _, by show i + 1 ≤ _; omega, hcor', hrm11.setCell, ?_⟩ (by show F.length - (i + 1) < F.length - i; omega) ?_
          · exact RAt.set (E := eB) (cs := [.bool true]) (n := F.length) noB_ne hrm11 hra11 rfl (by show 0 + (i : Int).toNat * 1 = i * 1; omega) (by have := hinv.1; omega) (by show o.length * 1 ≤ _; have := hinv.1; omega)
          · ((repeat (first | (with_reducible exact Only.refl) | (with_reducible refine Only.skip ?_) | ((with_reducible refine Only.upd ?_ ?_); rfl) | ((with_reducible refine Only.over ?_ ?_ _); rfl) | ((with_reducible refine Only.hav ?_ ?_ ?_); rfl; rfl))))
        · rw [if_neg h5] at hcor'
          refine br_dec (fun h6 => ?_) (fun h6 => ?_)
          · rw [if_pos h6] at hcor'
            refine CorR.no (x1.trans (hx.trans x11)) ?_
            unfold corO
            rw [if_pos hse2, corF_none hcor' F.length (by omega)]
            rfl
          · rw [if_neg h6] at hcor'
            refine ⟨_, IntWalk.i64_in _ (by omega), ?_⟩
            refine hK (i + 1, o, _, _, _, _, _, _, _) _ _ (vs8 rfl rfl rfl rfl rfl rfl rfl (vint (by show (i : Int) + 1 = ((i + 1 : Nat) : Int); omega))) ⟨hx.trans x11, by show i + 1 ≤ _; omega, hcor', hrm11, hra11⟩ (by show F.length - (i + 1) < F.length - i; omega) ?_
            ((repeat (first | (with_reducible exact Only.refl) | (with_reducible refine Only.skip ?_) | ((with_reducible refine Only.upd ?_ ?_); rfl) | ((with_reducible refine Only.over ?_ ?_ _); rfl) | ((with_reducible refine Only.hav ?_ ?_ ?_); rfl; rfl))))
    · have hie : i = F.length := by omega
      rw [hie] at hcor
      refine loop_rule (σ := Nat × Value × Value) [17, 18, 85] 86 98 (fun q => [q.2.1, q.2.2, .int .i64 q.1])
        (fun q w' => Ext w w' ∧ q.1 ≤ F.length ∧ OwnR eI noB w' q.2.1 (keepK o q.1) ∧ ∀ b, blk q.2.1 b → w.heap.size ≤ b)
        (fun q => F.length - q.1) (0, .slice none 0 0, undef) rfl ⟨Ext.refl _, Nat.zero_le _, OwnR.nil _ _ _ _, fun b hb => hb.elim⟩ ?_
      rintro ⟨k, tv, i18⟩ w' junk2 ⟨hx', hk, hot, htb⟩ K2 hK2
      simp only at hk hot htb
      show vc _ _ _ _ (over [17, 18, 85] [tv, i18, .int .i64 k] _) _
      have hkl := keepK_le o k
      refine br_dec (fun h4 => ?_) (fun h4 => ?_)
      · have hkF : k < o.length := by have := hinv.1; omega
        refine ⟨⟨by omega, by omega⟩, _, bool_at (hra.ext hx') hkF, ?_⟩
        refine br_not (fun hok => ?_) (fun hok => ?_)
        · refine raw_push (E := eI) (ok := noB) (x := (k : Int)) ties rfl rfl rfl rfl rfl rfl rfl rfl rfl rfl rfl hot rfl noB_blk (by show ((keepK o k).length + 1) * 8 ≤ _; omega) (by omega) ?_
          intro v8 w8 hv8 hch8 hsz8 hvb8
          refine ⟨_, IntWalk.i64_in _ (by omega), ?_⟩
          refine hK2 (k + 1, v8, _) _ _ (vs3 rfl rfl (vint (by show (k : Int) + 1 = ((k + 1 : Nat) : Int); omega))) ⟨hx'.chg hch8 htb, by show k + 1 ≤ _; omega, by show OwnR eI noB w8 v8 (keepK o (k + 1)); rw [keepK, if_neg (by rw [show o.getD k true = false from hok]; decide)]; exact hv8, fun b hb => ?_⟩ (by show F.length - (k + 1) < F.length - k; omega) ?_
          · rcases hvb8 b hb with h | h
            · exact htb b h
            · exact Nat.le_trans hx'.size (Nat.le_of_lt h.1)
          · ((repeat (first | (with_reducible exact Only.refl) | (with_reducible refine Only.skip ?_) | ((with_reducible refine Only.upd ?_ ?_); rfl) | ((with_reducible refine Only.over ?_ ?_ _); rfl) | ((with_reducible refine Only.hav ?_ ?_ ?_); rfl; rfl))))
        · refine ⟨_, IntWalk.i64_in _ (by omega), ?_⟩
          refine hK2 (k + 1, tv, _) _ _ (vs3 rfl rfl (vint (by show (k : Int) + 1 = ((k + 1 : Nat) : Int); omega))) ⟨hx', by show k + 1 ≤ _; omega, by show OwnR eI noB w' tv (keepK o (k + 1)); rw [keepK, if_pos (show o.getD k true = true from hok), List.append_nil]; exact hot, htb⟩ (by show F.length - (k + 1) < F.length - k; omega) ?_
          ((repeat (first | (with_reducible exact Only.refl) | (with_reducible refine Only.skip ?_) | ((with_reducible refine Only.upd ?_ ?_); rfl) | ((with_reducible refine Only.over ?_ ?_ _); rfl) | ((with_reducible refine Only.hav ?_ ?_ ?_); rfl; rfl))))
      · have hke : k = F.length := by omega
        rw [hke] at hot
        exact CorR.yes (x1.trans (hx.trans hx')) (by unfold corO; rw [if_pos hse2, hcor]; rfl) hot (fun b hb => Nat.le_trans (x1.trans hx).size (htb b hb))

end Go.Proofs.Ytfmflffggcphjaa
