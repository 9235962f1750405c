/- Reference: l02Two (from l02Make at smaller terms). Reference: l02Make. -/
import Derived.Test.YtkoaicjcanplaaaGreatU8
namespace Go.Proofs.YtkoaicjcanplaaaGreat
open Go Go.Vc Go.RowKit
set_option linter.unusedVariables false
section
variable {n : Nat} {x : Lab} {a b d : Tm} {s : Value} {ok : Nat → Prop} {W : World}
def tnW (op : Int) : Bool := decide (op = 3 ∨ op = 5 ∨ (8 ≤ op ∧ op ≤ 10))
theorem tnW_swp {op : Int} (h : 3 ≤ op ∧ op ≤ 16) : (swp op = true ↔ tnW op = true ∨ op = 14) ∧ (swp op = true ∧ op ≠ 14 ↔ tnW op = true) := by
  unfold swp tnW
  simp only [decide_eq_true_eq]
  omega
theorem lab_mkn {x : Lab} {l : List Lab} (h : NodeOk x l) (ho : 3 ≤ x.op ∧ x.op ≤ 16) : x = mkn x.op x.w 0 := by
  have h1 := h.num (by omega) (by omega)
  have h2 := h.noname (by omega)
  obtain ⟨o, w, m, nm⟩ := x
  simp only at h1 h2
  subst h1
  subst h2
  rfl
theorem eqO_rest {x : Lab} {a b : Tm} (m1 : ¬ (isC b 0 = true ∧ (x.op = 4 ∨ x.op = 11 ∨ x.op = 12 ∨ x.op = 13))) (m2 : ¬ (isC b 0 = true ∧ x.op = 15)) (hc : cmpT a b = 0) :
    (∀ u, eqO x a = some u → stRest (x, mkTF [a, b]) a b = .inl u) ∧ (eqO x a = none → ¬ (cmpT a b = 0 ∧ (x.op = 8 ∨ x.op = 9)) ∧ ¬ (cmpT a b = 0 ∧ (x.op = 4 ∨ x.op = 10 ∨ x.op = 15 ∨ x.op = 16)) ∧ ¬ (cmpT a b = 0 ∧ x.op = 14)) := by
  unfold eqO
  by_cases h1 : x.op = 8 ∨ x.op = 9
  · rw [if_pos h1]
    refine ⟨fun u hu => ?_, fun hu => by cases hu⟩
    rw [← Option.some.inj hu]
    unfold stRest
    rw [if_neg m1, if_neg m2, if_pos ⟨hc, h1⟩]
  rw [if_neg h1]
  by_cases h2 : x.op = 4 ∨ x.op = 10 ∨ x.op = 15 ∨ x.op = 16
  · rw [if_pos h2]
    refine ⟨fun u hu => ?_, fun hu => by cases hu⟩
    rw [← Option.some.inj hu]
    unfold stRest
    rw [if_neg m1, if_neg m2, if_neg (fun e => h1 e.2), if_pos ⟨hc, h2⟩]
  rw [if_neg h2]
  by_cases h3 : x.op = 14
  · rw [if_pos h3]
    refine ⟨fun u hu => ?_, fun hu => by cases hu⟩
    rw [← Option.some.inj hu]
    unfold stRest
    rw [if_neg m1, if_neg m2, if_neg (fun e => h1 e.2), if_neg (fun e => h2 e.2), if_pos ⟨hc, h3⟩]
  rw [if_neg h3]
  exact ⟨fun u hu => (by cases hu), fun _ => ⟨fun e => h1 e.2, fun e => h2 e.2, fun e => h3 e.2⟩⟩
set_option maxRecDepth 100000 in
set_option maxHeartbeats 16000000 in
theorem l02Two_of (hR : RedS 54 n) (h : OkT (x, mkTF [a, b])) (ho : 3 ≤ x.op ∧ x.op ≤ 16) (hm : ms (x, mkTF [a, b]) < n + 1) (hs : TSl ok W s (mkTF [a, b])) :
    Ret Tryz.prog 65 #[tv x s] W (TRes ok (outT (stBin (x, mkTF [a, b]) a b)) W) := by
  have hg := bin_good h ho
  have htn := tnW_swp ho
  have hlab := lab_mkn h.1 ho
  have ha : OkT a := h.2.1
  have hb : OkT b := h.2.2.1
  obtain ⟨p, o, c, sa, sb, hs0, hca, hcb, hsa, hsb⟩ := kids2 hs
  obtain ⟨s0, rfl⟩ : ∃ s0, s0 = s := ⟨_, rfl⟩
  have x2 : Ext W (bzW (bxW W x s0)) := (bx_ext W x s0).trans (bz_ext _)
  have hb2 := (bx_at W x s0).ext (bz_ext (bxW W x s0))
  obtain ⟨f3, c3, x3⟩ := keep5 (W := (bzW (bxW W x s0))) (x := a.1) (s := sa) (tc_one hsa)
  obtain ⟨f4, c4, x4⟩ := keep5 (W := (setCells (bzW (bzW (bxW W x s0))) (bzW (bxW W x s0)).heap.size 0 (tc a.1 sa))) (x := b.1) (s := sb) (tc_one hsb)
  have hca2 : CellsAt (bzW (bxW W x s0)) p o (tc a.1 sa) := hca.ext x2
  have hcb3 : CellsAt (setCells (bzW (bzW (bxW W x s0))) (bzW (bxW W x s0)).heap.size 0 (tc a.1 sa)) p (o + 5) (tc b.1 sb) := hcb.ext (x2.trans x3)
  have hb3 := hb2.ext x3
  have P0 : Pre2 W x s0 (mkTF [a, b]) a b sa sb ok (bxW W x s0).heap.size (bzW (bxW W x s0)).heap.size (setCells (bzW (bzW (bxW W x s0))) (bzW (bxW W x s0)).heap.size 0 (tc a.1 sa)).heap.size (setCells (bzW (setCells (bzW (bzW (bxW W x s0))) (bzW (bxW W x s0)).heap.size 0 (tc a.1 sa))) (setCells (bzW (bzW (bxW W x s0))) (bzW (bxW W x s0)).heap.size 0 (tc a.1 sa)).heap.size 0 (tc b.1 sb)) := pre2 hs hsa hsb (x3.trans x4) (c3.ext x4) c4
  have X0 : Ext (bxW W x s0) (setCells (bzW (setCells (bzW (bzW (bxW W x s0))) (bzW (bxW W x s0)).heap.size 0 (tc a.1 sa))) (setCells (bzW (bzW (bxW W x s0))) (bzW (bxW W x s0)).heap.size 0 (tc a.1 sa)).heap.size 0 (tc b.1 sb)) := (bz_ext _).trans (x3.trans x4)
  have hrb : Rmy (bxW W x s0) W.heap.size 5 := Rmy.new W (tc x s0) 30
  have l2 := hb2.2.2.2.2.1.trans (congrArg some hs0)
  have l3 := hb3.2.2.2.2.1.trans (congrArg some hs0)
  have hBs : (bxW W x s0).heap.size = W.heap.size + 1 := bx_size _ _ _
  obtain ⟨out, hout⟩ : ∃ out, outT (stBin (x, mkTF [a, b]) a b) = out := ⟨_, rfl⟩
  rw [hout]
  -- what the rules say
  have r1 : swp x.op = true → cmpT a b = 1 → stBin (x, mkTF [a, b]) a b = .inr (mkn x.op x.w 0, mkTF [b, a]) := fun h1 h2 => by unfold stBin; rw [if_pos ⟨h1, h2⟩]
  have r2 : ¬ (swp x.op = true ∧ cmpT a b = 1) → a.1.op = 0 → ∀ st, stFirst x.op x.w a b = some st → stBin (x, mkTF [a, b]) a b = st := fun h1 h2 st h3 => by
    unfold stBin; rw [if_neg h1]; simp only [if_pos h2, h3]
  have r3 : ¬ (swp x.op = true ∧ cmpT a b = 1) → (if a.1.op = 0 then stFirst x.op x.w a b else none) = none → stBin (x, mkTF [a, b]) a b = stRest (x, mkTF [a, b]) a b := fun h1 h2 => by
    unfold stBin; rw [if_neg h1]
    simp only [h2]
  have hF : ∀ B W', TSl (okB B W ok) W' s0 (mkTF [a, b]) → a.1.op = 0 → Ret Tryz.prog 93 #[tv x s0] W' (FirR (okB B W ok) (stFirst x.op x.w a b).isSome (((stFirst x.op x.w a b).map outT).getD (x, mkTF [a, b])) W') := fun B W' h1 h3 => l02First_of hR h ho h3 hm h1
  have hI8 := fun w => l01In_ret x.op 8 10 w
  have hI11 := fun w => l01In_ret x.op 11 13 w
  -- the turned kids
  have turn : ∀ B b3 b4 w, Pre2 W x s0 (mkTF [a, b]) a b sa sb ok B b3 b4 w → B = W.heap.size + 1 → Ext (bxW W x s0) w → swp x.op = true → cmpT a b = 1 → Free (w.alloc (.cells (tc b.1 sb ++ tc a.1 sa).toArray 30)) ⟨W.heap.size, 4, none⟩ ∧ CellsAt (setCells (w.alloc (.cells (tc b.1 sb ++ tc a.1 sa).toArray 30)) W.heap.size 4 [(.slice (some ⟨w.heap.size, 0, none⟩) 2 2)]) W.heap.size 0 (tc x (.slice (some ⟨w.heap.size, 0, none⟩) 2 2)) ∧ Ret Tryz.prog 54 #[tv x (.slice (some ⟨w.heap.size, 0, none⟩) 2 2)] (setCells (w.alloc (.cells (tc b.1 sb ++ tc a.1 sa).toArray 30)) W.heap.size 4 [(.slice (some ⟨w.heap.size, 0, none⟩) 2 2)]) (Fin B ok out W) := fun B b3 b4 w P hB X hsw hc => by
    have e := r1 hsw hc
    rw [e] at hg hout
    have hg' : Keeps (x, mkTF [a, b]) (mkn x.op x.w 0, mkTF [b, a]) ∧ ms (mkn x.op x.w 0, mkTF [b, a]) < ms (x, mkTF [a, b]) ∧ _ := hg
    have hz := P.ext.size
    have hzX := X.size
    have hzb : (bxW W x s0).heap.size = W.heap.size + 1 := hBs
    have hl := P.lt
    have ia : TSl (okB B (bxW W x s0) (fun b => ok b ∧ b < W.heap.size)) w sa a.2 := (hsa.lt.ext P.ext).mono fun b hb => ⟨by omega, .inl hb⟩
    have ib : TSl (okB B (bxW W x s0) (fun b => ok b ∧ b < W.heap.size)) w sb b.2 := (hsb.lt.ext P.ext).mono fun b hb => ⟨by omega, .inl hb⟩
    obtain ⟨x6, hk6⟩ := mk2 ib ia hl hzX
    have hrw := (hrb.ext X).ext x6
    have hch : Chg (fun b => b = W.heap.size) (w.alloc (.cells (tc b.1 sb ++ tc a.1 sa).toArray 30)) (setCells (w.alloc (.cells (tc b.1 sb ++ tc a.1 sa).toArray 30)) W.heap.size 4 [(.slice (some ⟨w.heap.size, 0, none⟩) 2 2)]) := Chg.setCells (S := fun b => b = W.heap.size) rfl _ _ _
    have hk7 : TSl (okB B W ok) (setCells (w.alloc (.cells (tc b.1 sb ++ tc a.1 sa).toArray 30)) W.heap.size 4 [(.slice (some ⟨w.heap.size, 0, none⟩) 2 2)]) (.slice (some ⟨w.heap.size, 0, none⟩) 2 2) (mkTF [b, a]) :=
      (Fo.Sl.chg (fun b hb e => by have h1 := hb.2; rw [hzb] at h1; omega) hch hk6).mono fun b hb => ⟨hb.1, hb.2.imp And.left fun e => by rw [hzb] at e; omega⟩
    have hxe : (mkn x.op x.w 0, mkTF [b, a]) = (x, mkTF [b, a]) := by rw [← hlab]
    rw [hxe] at hg' hout
    have hcall := hR (x, mkTF [b, a]) _ (okB B W ok) _ (by omega) hg'.1.ok hk7
    have hz6 := x6.size
    have hX : Ext W (setCells (w.alloc (.cells (tc b.1 sb ++ tc a.1 sa).toArray 30)) W.heap.size 4 [(.slice (some ⟨w.heap.size, 0, none⟩) 2 2)]) := Ext.setCells _ (P.ext.trans x6) (Nat.le_refl _)
    refine ⟨hrw 4 (by decide), reslice hrw (P.hb.ext x6), ?_⟩
    have hfin := fin_of (Rmy.setCells _ (P.r.ext x6)) P.hB (by have := hch.size; omega) hX hcall
    rw [← hout]
    exact hfin
  clear hb3 hca hcb hs hb2
  refine ret_of_vc ties mixed Tryz.func65 rfl (by kernel_rfl) rfl rfl ?_
  refine ⟨_, l2, ⟨by decide, by decide⟩, tc a.1 sa, rfl, hca2, f3, ?_⟩
  refine ⟨_, l3, ⟨by decide, by decide⟩, tc b.1 sb, rfl, hcb3, f4, ?_⟩
  show vc _ _ (Code.seq _ _) _ _ _
  refine seq_cut (x := .region 3 _ _) (σ := Unit) [5] 19 32 (fun _ => [.bool (tnW x.op)]) (fun _ w' => Pre2 W x s0 (mkTF [a, b]) a b sa sb ok (bxW W x s0).heap.size (bzW (bxW W x s0)).heap.size (setCells (bzW (bzW (bxW W x s0))) (bzW (bxW W x s0)).heap.size 0 (tc a.1 sa)).heap.size w' ∧ Ext (bxW W x s0) w') (fun K hK => ?_) (fun q w5 junk hJ => ?_)
  · clear turn hF r1 r2 r3 hI11
    by_cases h3 : x.op = 3
    · have et : tnW x.op = true := decide_eq_true (by omega)
      refine ⟨_, P0.hb.1, ?_⟩
      repeat refine br_dec_true h3 ?_
      refine hK () _ _ (vs1 (vbool et.symm)) ⟨P0, X0⟩ ?_
      ((repeat (first | (with_reducible exact Only.refl) | (with_reducible refine Only.skip ?_) | ((with_reducible refine Only.upd ?_ ?_); rfl) | ((with_reducible refine Only.over ?_ ?_ _); rfl) | ((with_reducible refine Only.hav ?_ ?_ ?_); rfl; rfl))))
    by_cases h5 : x.op = 5
    · have et : tnW x.op = true := decide_eq_true (by omega)
      refine ⟨_, P0.hb.1, ?_⟩
      repeat refine br_dec_false h3 ?_
      refine ⟨_, P0.hb.1, ?_⟩
      repeat refine br_dec_false h3 ?_
      repeat refine br_dec_true h5 ?_
      refine hK () _ _ (vs1 (vbool et.symm)) ⟨P0, X0⟩ ?_
      ((repeat (first | (with_reducible exact Only.refl) | (with_reducible refine Only.skip ?_) | ((with_reducible refine Only.upd ?_ ?_); rfl) | ((with_reducible refine Only.over ?_ ?_ _); rfl) | ((with_reducible refine Only.hav ?_ ?_ ?_); rfl; rfl))))
    · have et : tnW x.op = inR x.op 8 10 := beq_of_iff (by rw [inR_iff]; exact decide_eq_true_iff.trans (by omega))
      refine ⟨_, P0.hb.1, ?_⟩
      repeat refine br_dec_false h3 ?_
      refine ⟨_, P0.hb.1, ?_⟩
      repeat refine br_dec_false h3 ?_
      repeat refine br_dec_false h5 ?_
      refine ⟨_, P0.hb.1, ?_⟩
      repeat refine br_dec_false h5 ?_
      refine Or.inl ((hI8 _).mono ?_)
      rintro _ _ ⟨rfl, rfl⟩
      repeat refine br_dec_false h5 ?_
      refine hK () _ _ (vs1 (vbool et.symm)) ⟨P0, X0⟩ ?_
      ((repeat (first | (with_reducible exact Only.refl) | (with_reducible refine Only.skip ?_) | ((with_reducible refine Only.upd ?_ ?_); rfl) | ((with_reducible refine Only.over ?_ ?_ _); rfl) | ((with_reducible refine Only.hav ?_ ?_ ?_); rfl; rfl))))
  obtain ⟨P1, X1⟩ := hJ
  clear P0 X0 f3 f4 hca2 hcb3 c3 c4 x3 x4 l2 l3 hI8
  -- the order of the kids
  have hcmp := spec_Compare a b sa sb
  refine seq_cut (x := .seq (.region 4 _ _) _) (σ := Unit) [] 32 50 (fun _ => []) (fun _ w' => Pre2 W x s0 (mkTF [a, b]) a b sa sb ok (bxW W x s0).heap.size (bzW (bxW W x s0)).heap.size (setCells (bzW (bzW (bxW W x s0))) (bzW (bxW W x s0)).heap.size 0 (tc a.1 sa)).heap.size w' ∧ ¬ (swp x.op = true ∧ cmpT a b = 1)) (fun K hK => ?_) (fun _ w6 junk hJ => ?_)
  · clear hF r2 r3
    have fin : ∀ w, Pre2 W x s0 (mkTF [a, b]) a b sa sb ok (bxW W x s0).heap.size (bzW (bxW W x s0)).heap.size (setCells (bzW (bzW (bxW W x s0))) (bzW (bxW W x s0)).heap.size 0 (tc a.1 sa)).heap.size w → Ext (bxW W x s0) w → swp x.op = true → 0 < cmpT a b → _ := fun w P X hsw hc => turn (bxW W x s0).heap.size (bzW (bxW W x s0)).heap.size (setCells (bzW (bzW (bxW W x s0))) (bzW (bxW W x s0)).heap.size 0 (tc a.1 sa)).heap.size w P hBs X hsw (by have := cmpT_val a b; omega)
    have no : ¬ 0 < cmpT a b → ¬ (swp x.op = true ∧ cmpT a b = 1) := fun h e => by omega
    rcases Bool.eq_false_or_eq_true (tnW x.op) with ht | ht
    · have hsw := htn.1.2 (.inl ht)
      repeat refine br_true ht ?_
      refine ⟨tc a.1 sa, rfl, P1.ca, ?_⟩
      repeat refine br_true ht ?_
      refine ⟨tc b.1 sb, rfl, P1.cb, ?_⟩
      repeat refine br_true ht ?_
      refine Or.inl ((hcmp _ (P1.sa.mono fun _ _ => trivial) (P1.sb.mono fun _ _ => trivial)).mono ?_)
      rintro _ w6 ⟨rfl, x6⟩
      have P := P1.step x6
      repeat refine br_true ht ?_
      refine br_dec (fun hc => ?_) (fun hc => ?_)
      · have hf := fin w6 P (X1.trans x6) hsw hc
        refine ⟨tc b.1 sb, rfl, P.cb, tc a.1 sa, rfl, P.ca, hf.1, ?_⟩
        refine ⟨tc x _, rfl, hf.2.1, ?_⟩
        refine Or.inl ((hf.2.2).mono ?_)
        rintro _ w7 ⟨s7, rfl, h7⟩
        exact h7
      · refine hK () _ _ rfl ⟨P, no hc⟩ ?_
        ((repeat (first | (with_reducible exact Only.refl) | (with_reducible refine Only.skip ?_) | ((with_reducible refine Only.upd ?_ ?_); rfl) | ((with_reducible refine Only.over ?_ ?_ _); rfl) | ((with_reducible refine Only.hav ?_ ?_ ?_); rfl; rfl))))
    by_cases h14 : x.op = 14
    · have hsw := htn.1.2 (.inr h14)
      repeat refine br_false ht ?_
      refine ⟨_, P1.hb.1, ?_⟩
      repeat refine br_false ht ?_
      repeat refine br_dec_true h14 ?_
      refine ⟨tc a.1 sa, rfl, P1.ca, ?_⟩
      repeat refine br_dec_true h14 ?_
      refine ⟨tc b.1 sb, rfl, P1.cb, ?_⟩
      repeat refine br_dec_true h14 ?_
      refine Or.inl ((hcmp _ (P1.sa.mono fun _ _ => trivial) (P1.sb.mono fun _ _ => trivial)).mono ?_)
      rintro _ w6 ⟨rfl, x6⟩
      have P := P1.step x6
      repeat refine br_dec_true h14 ?_
      refine br_dec (fun hc => ?_) (fun hc => ?_)
      · have hf := fin w6 P (X1.trans x6) hsw hc
        refine ⟨tc b.1 sb, rfl, P.cb, tc a.1 sa, rfl, P.ca, hf.1, ?_⟩
        refine ⟨tc x _, rfl, hf.2.1, ?_⟩
        refine Or.inl ((hf.2.2).mono ?_)
        rintro _ w7 ⟨s7, rfl, h7⟩
        exact h7
      · refine hK () _ _ rfl ⟨P, no hc⟩ ?_
        ((repeat (first | (with_reducible exact Only.refl) | (with_reducible refine Only.skip ?_) | ((with_reducible refine Only.upd ?_ ?_); rfl) | ((with_reducible refine Only.over ?_ ?_ _); rfl) | ((with_reducible refine Only.hav ?_ ?_ ?_); rfl; rfl))))
    · have hsw : ¬ swp x.op = true := fun e => (htn.1.1 e).elim (fun e => by rw [e] at ht; cases ht) h14
      repeat refine br_false ht ?_
      refine ⟨_, P1.hb.1, ?_⟩
      repeat refine br_false ht ?_
      repeat refine br_dec_false h14 ?_
      refine hK () _ _ rfl ⟨P1, fun e => hsw e.1⟩ ?_
      ((repeat (first | (with_reducible exact Only.refl) | (with_reducible refine Only.skip ?_) | ((with_reducible refine Only.upd ?_ ?_); rfl) | ((with_reducible refine Only.over ?_ ?_ _); rfl) | ((with_reducible refine Only.hav ?_ ?_ ?_); rfl; rfl))))
  obtain ⟨P2, n1⟩ := hJ
  clear turn r1 hcmp P1 X1
  -- a constant as the first kid
  refine seq_cut (x := .seq (.region 7 _ _) _) (σ := Value × Value) [6, 7] 50 60 (fun q => [q.1, q.2]) (fun _ w' => Pre2 W x s0 (mkTF [a, b]) a b sa sb ok (bxW W x s0).heap.size (bzW (bxW W x s0)).heap.size (setCells (bzW (bzW (bxW W x s0))) (bzW (bxW W x s0)).heap.size 0 (tc a.1 sa)).heap.size w' ∧ (if a.1.op = 0 then stFirst x.op x.w a b else none) = none) (fun K hK => ?_) (fun _ w7 junk hJ => ?_)
  · refine ⟨_, P2.ca.1, ?_⟩
    refine br_dec (fun h0 => ?_) (fun h0 => ?_)
    · refine ⟨tc x s0, rfl, P2.hb, ?_⟩
      refine Or.inl ((hF _ _ P2.s h0).mono ?_)
      rintro _ w7 ⟨v1, rfl, hres⟩
      obtain ⟨x7, s7, rfl, hs7⟩ := res_in hres P2.lt P2.ext.size
      obtain ⟨f8, c8, x8⟩ := keep5 (W := w7) (x := (((stFirst x.op x.w a b).map outT).getD (x, mkTF [a, b])).1) (tc_one hs7)
      refine ⟨f8, ?_⟩
      have P8 := (P2.step x7).step x8
      refine br_split (fun hb' => ?_) (fun hb' => ?_)
      · obtain ⟨st, hst⟩ := Option.isSome_iff_exists.1 hb'
        have e := r2 n1 h0 st hst
        have e' : ((stFirst x.op x.w a b).map outT).getD (x, mkTF [a, b]) = out := by rw [hst, ← hout, e]; rfl
        subst e'
        refine ⟨_, rfl, c8, ?_⟩
        exact fin5 P8.r P8.hB P8.ext (hs7.ext x8)
      · refine hK (_, _) _ _ rfl ⟨P8, ?_⟩ ?_
        · rw [if_pos h0]; exact Option.not_isSome_iff_eq_none.1 (by rw [hb']; decide)
        · ((repeat (first | (with_reducible exact Only.refl) | (with_reducible refine Only.skip ?_) | ((with_reducible refine Only.upd ?_ ?_); rfl) | ((with_reducible refine Only.over ?_ ?_ _); rfl) | ((with_reducible refine Only.hav ?_ ?_ ?_); rfl; rfl))))
    · refine hK (_, _) _ _ rfl ⟨P2, by rw [if_neg h0]⟩ ?_
      ((repeat (first | (with_reducible exact Only.refl) | (with_reducible refine Only.skip ?_) | ((with_reducible refine Only.upd ?_ ?_); rfl) | ((with_reducible refine Only.over ?_ ?_ _); rfl) | ((with_reducible refine Only.hav ?_ ?_ ?_); rfl; rfl))))
  obtain ⟨P3, n2⟩ := hJ
  have hrest := r3 n1 n2
  rw [hrest] at hg hout
  clear r2 r3 hrest hF P2 n1 n2
  have q0 : ∀ {u : St}, stRest (x, mkTF [a, b]) a b = u → outT u = out := fun e => by rw [← hout, e]
  -- zero as the second kid
  have hI0 := fun w => l02Is_ret b.1 b.2 sb 0 w
  refine seq_cut (x := .seq (.region 11 _ _) _) (σ := Unit) [] 60 75 (fun _ => []) (fun _ w' => Pre2 W x s0 (mkTF [a, b]) a b sa sb ok (bxW W x s0).heap.size (bzW (bxW W x s0)).heap.size (setCells (bzW (bzW (bxW W x s0))) (bzW (bxW W x s0)).heap.size 0 (tc a.1 sa)).heap.size w' ∧ ¬ (isC b 0 = true ∧ (x.op = 4 ∨ x.op = 11 ∨ x.op = 12 ∨ x.op = 13)) ∧ ¬ (isC b 0 = true ∧ x.op = 15)) (fun K hK => ?_) (fun _ w8 junk hJ => ?_)
  · refine ⟨tc b.1 sb, rfl, P3.cb, ?_⟩
    refine Or.inl ((hI0 _).mono ?_)
    rintro _ w8 ⟨rfl, x8⟩
    have P := P3.step x8
    refine br_split (fun hc => ?_) (fun hc => ?_)
    · have eA : (x.op = 4 ∨ x.op = 11 ∨ x.op = 12 ∨ x.op = 13) → a = out := fun h1 => q0 (u := .inl a) (by unfold stRest; rw [if_pos ⟨hc, h1⟩])
      have eB : x.op = 15 → conT 1 0 = out := fun h1 => q0 (u := .inl (conT 1 0)) (by unfold stRest; rw [if_neg (fun h => by have := h.2; simp only at this; omega), if_pos ⟨hc, h1⟩])
      have hI : ∀ b', inR x.op 11 13 = b' → ∀ w, Ret Tryz.prog 53 #[.int .i64 x.op, .int .i64 11, .int .i64 13] w (fun v w' => v = .bool b' ∧ w' = w) := fun b' e w => by rw [← e]; exact hI11 w
      have retA : ∀ w, Pre2 W x s0 (mkTF [a, b]) a b sa sb ok (bxW W x s0).heap.size (bzW (bxW W x s0)).heap.size (setCells (bzW (bzW (bxW W x s0))) (bzW (bxW W x s0)).heap.size 0 (tc a.1 sa)).heap.size w → (x.op = 4 ∨ x.op = 11 ∨ x.op = 12 ∨ x.op = 13) → FreeAll w (bxW W x s0).heap.size 0 (tc a.1 sa) ∧ ∃ vs, vs.length = 5 ∧ CellsAt (setCells w (bxW W x s0).heap.size 0 (tc a.1 sa)) (bxW W x s0).heap.size 0 vs ∧ TRes ok out W (.agg vs.toArray) (setCells w (bxW W x s0).heap.size 0 (tc a.1 sa)) := fun w P h => by
        rw [← eA h]
        exact fin5 P.r P.hB P.ext P.sa
      refine ⟨_, P.hb.1, ?_⟩
      by_cases h4 : x.op = 4
      · repeat refine br_dec_true h4 ?_
        refine ⟨tc a.1 sa, rfl, P.ca, ?_⟩
        exact retA _ P (by omega)
      by_cases h11 : 11 ≤ x.op ∧ x.op ≤ 13
      · repeat refine br_dec_false h4 ?_
        refine ⟨_, P.hb.1, ?_⟩
        repeat refine br_dec_false h4 ?_
        refine Or.inl ((hI true (inR_yes h11) _).mono ?_)
        rintro _ _ ⟨rfl, rfl⟩
        repeat refine br_dec_false h4 ?_
        refine ⟨tc a.1 sa, rfl, P.ca, ?_⟩
        exact retA _ P (by omega)
      repeat refine br_dec_false h4 ?_
      refine ⟨_, P.hb.1, ?_⟩
      repeat refine br_dec_false h4 ?_
      refine Or.inl ((hI false (inR_no h11) _).mono ?_)
      rintro _ _ ⟨rfl, rfl⟩
      repeat refine br_dec_false h4 ?_
      refine ⟨_, P.hb.1, ?_⟩
      refine br_dec (fun h15 => ?_) (fun h15 => ?_)
      · have e := eB h15
        subst e
        refine Or.inl ((l02Const_ret _ _ _).mono ?_)
        rintro _ w9 ⟨rfl, x9⟩
        have P9 := P.step x9
        exact fin5 (y := constL 1 0) (s := .slice none 0 0) (k := .nil) P9.r P9.hB P9.ext (nil_in _ _ _ _)
      · refine hK () _ _ rfl ⟨P, fun h => by omega, fun h => by omega⟩ ?_
        ((repeat (first | (with_reducible exact Only.refl) | (with_reducible refine Only.skip ?_) | ((with_reducible refine Only.upd ?_ ?_); rfl) | ((with_reducible refine Only.over ?_ ?_ _); rfl) | ((with_reducible refine Only.hav ?_ ?_ ?_); rfl; rfl))))
    · refine hK () _ _ rfl ⟨P, fun h => (by rw [show isC b 0 = false from hc] at h; cases h.1), fun h => (by rw [show isC b 0 = false from hc] at h; cases h.1)⟩ ?_
      ((repeat (first | (with_reducible exact Only.refl) | (with_reducible refine Only.skip ?_) | ((with_reducible refine Only.upd ?_ ?_); rfl) | ((with_reducible refine Only.over ?_ ?_ _); rfl) | ((with_reducible refine Only.hav ?_ ?_ ?_); rfl; rfl))))
  obtain ⟨P4, m1, m2⟩ := hJ
  clear P3 hI11 hI0
  -- equal kids
  have hsame := l02Same_ret a b sa sb
  have hE : ∀ w, TSl (okB (bxW W x s0).heap.size W ok) w s0 (mkTF [a, b]) → Ret Tryz.prog 95 #[tv x s0] w (FirR (okB (bxW W x s0).heap.size W ok) (eqO x a).isSome ((eqO x a).getD (x, mkTF [a, b])) w) := fun w h => l02Equal_ret h
  refine seq_cut (x := .seq (.region 16 _ _) _) (σ := Value × Value) [8, 9] 75 85 (fun q => [q.1, q.2]) (fun _ w' => Pre2 W x s0 (mkTF [a, b]) a b sa sb ok (bxW W x s0).heap.size (bzW (bxW W x s0)).heap.size (setCells (bzW (bzW (bxW W x s0))) (bzW (bxW W x s0)).heap.size 0 (tc a.1 sa)).heap.size w' ∧ ¬ (cmpT a b = 0 ∧ (x.op = 8 ∨ x.op = 9)) ∧ ¬ (cmpT a b = 0 ∧ (x.op = 4 ∨ x.op = 10 ∨ x.op = 15 ∨ x.op = 16)) ∧ ¬ (cmpT a b = 0 ∧ x.op = 14)) (fun K hK => ?_) (fun _ w9 junk hJ => ?_)
  · refine ⟨tc a.1 sa, rfl, P4.ca, tc b.1 sb, rfl, P4.cb, ?_⟩
    refine Or.inl ((hsame _ (P4.sa.mono fun _ _ => trivial) (P4.sb.mono fun _ _ => trivial)).mono ?_)
    rintro _ w9 ⟨rfl, x9⟩
    have P := P4.step x9
    refine br_dec (fun hc => ?_) (fun hc => ?_)
    · have hq := eqO_rest m1 m2 hc
      refine ⟨tc x s0, rfl, P.hb, ?_⟩
      refine Or.inl ((hE _ P.s).mono ?_)
      rintro _ w10 ⟨v1, rfl, hres⟩
      obtain ⟨x10, s10, rfl, hs10⟩ := res_in hres P.lt P.ext.size
      obtain ⟨f11, c11, x11⟩ := keep5 (W := w10) (x := ((eqO x a).getD (x, mkTF [a, b])).1) (tc_one hs10)
      refine ⟨f11, ?_⟩
      have P11 := (P.step x10).step x11
      refine br_split (fun hb' => ?_) (fun hb' => ?_)
      · obtain ⟨u, hu⟩ := Option.isSome_iff_exists.1 hb'
        have e' : (eqO x a).getD (x, mkTF [a, b]) = out := by rw [hu]; exact q0 (hq.1 u hu)
        subst e'
        refine ⟨_, rfl, c11, ?_⟩
        exact fin5 P11.r P11.hB P11.ext (hs10.ext x11)
      · refine hK (_, _) _ _ rfl ⟨P11, hq.2 (Option.not_isSome_iff_eq_none.1 (by rw [hb']; decide))⟩ ?_
        ((repeat (first | (with_reducible exact Only.refl) | (with_reducible refine Only.skip ?_) | ((with_reducible refine Only.upd ?_ ?_); rfl) | ((with_reducible refine Only.over ?_ ?_ _); rfl) | ((with_reducible refine Only.hav ?_ ?_ ?_); rfl; rfl))))
    · refine hK (_, _) _ _ rfl ⟨P, fun h => hc h.1, fun h => hc h.1, fun h => hc h.1⟩ ?_
      ((repeat (first | (with_reducible exact Only.refl) | (with_reducible refine Only.skip ?_) | ((with_reducible refine Only.upd ?_ ?_); rfl) | ((with_reducible refine Only.over ?_ ?_ _); rfl) | ((with_reducible refine Only.hav ?_ ?_ ?_); rfl; rfl))))
  obtain ⟨P5, m3, m4, m5⟩ := hJ
  clear P4 hsame hE
  have keep : ¬ (tnW x.op = true ∧ a.1.op = 0 ∧ b.1.op = x.op ∧ (kid b.2 0).1.op = 0) → (x, mkTF [a, b]) = out := fun h => q0 (u := .inl (x, mkTF [a, b])) (by unfold stRest; rw [if_neg m1, if_neg m2, if_neg m3, if_neg m4, if_neg m5, if_neg (fun e => h ⟨htn.2.1 ⟨e.1, e.2.1⟩, e.2.2⟩)])
  have deep : tnW x.op = true ∧ a.1.op = 0 ∧ b.1.op = x.op ∧ (kid b.2 0).1.op = 0 → stRest (x, mkTF [a, b]) a b = .inr (mkn x.op x.w 0, mkTF [conT x.w (bW x.op x.w a.1.n (kid b.2 0).1.n), kid b.2 1]) := fun h => by unfold stRest; rw [if_neg m1, if_neg m2, if_neg m3, if_neg m4, if_neg m5, if_pos ⟨(htn.2.2 h.1).1, (htn.2.2 h.1).2, h.2⟩]
  have same : ∀ w', Pre2 W x s0 (mkTF [a, b]) a b sa sb ok (bxW W x s0).heap.size (bzW (bxW W x s0)).heap.size (setCells (bzW (bzW (bxW W x s0))) (bzW (bxW W x s0)).heap.size 0 (tc a.1 sa)).heap.size w' → (x, mkTF [a, b]) = out → FreeAll w' (bxW W x s0).heap.size 0 (tc x s0) ∧ ∃ vs, vs.length = 5 ∧ CellsAt (setCells w' (bxW W x s0).heap.size 0 (tc x s0)) (bxW W x s0).heap.size 0 vs ∧ TRes ok out W (.agg vs.toArray) (setCells w' (bxW W x s0).heap.size 0 (tc x s0)) := fun w' P e => by
    subst e
    exact fin5 P.r P.hB P.ext P.s
  clear m1 m2 m3 m4 m5 htn
  refine seq_cut (x := .seq (.region 20 _ _) _) (σ := Value) [10] 85 133 (fun q => [q]) (fun _ w' => Pre2 W x s0 (mkTF [a, b]) a b sa sb ok (bxW W x s0).heap.size (bzW (bxW W x s0)).heap.size (setCells (bzW (bzW (bxW W x s0))) (bzW (bxW W x s0)).heap.size 0 (tc a.1 sa)).heap.size w' ∧ (x, mkTF [a, b]) = out) (fun K hK => ?_) (fun _ w9 junk hJ => ?_)
  rotate_left
  · obtain ⟨P, e⟩ := hJ
    refine ⟨tc x s0, rfl, P.hb, ?_⟩
    exact same _ P e
  rcases Bool.eq_false_or_eq_true (tnW x.op) with ht | ht
  rotate_left
  · repeat refine br_false ht ?_
    refine hK _ _ _ rfl ⟨P5, keep (fun h => by rw [h.1] at ht; cases ht)⟩ ?_
    ((repeat (first | (with_reducible exact Only.refl) | (with_reducible refine Only.skip ?_) | ((with_reducible refine Only.upd ?_ ?_); rfl) | ((with_reducible refine Only.over ?_ ?_ _); rfl) | ((with_reducible refine Only.hav ?_ ?_ ?_); rfl; rfl))))
  repeat refine br_true ht ?_
  refine ⟨_, P5.ca.1, ?_⟩
  repeat refine br_true ht ?_
  by_cases h0 : a.1.op = 0
  rotate_left
  · repeat refine br_dec_false h0 ?_
    refine hK _ _ _ rfl ⟨P5, keep (fun h => h0 h.2.1)⟩ ?_
    ((repeat (first | (with_reducible exact Only.refl) | (with_reducible refine Only.skip ?_) | ((with_reducible refine Only.upd ?_ ?_); rfl) | ((with_reducible refine Only.over ?_ ?_ _); rfl) | ((with_reducible refine Only.hav ?_ ?_ ?_); rfl; rfl))))
  repeat refine br_dec_true h0 ?_
  refine ⟨_, P5.cb.1, ?_⟩
  repeat refine br_dec_true h0 ?_
  refine ⟨_, P5.hb.1, ?_⟩
  repeat refine br_dec_true h0 ?_
  by_cases hop : b.1.op = x.op
  rotate_left
  · repeat refine br_dec_false hop ?_
    refine hK _ _ _ rfl ⟨P5, keep (fun h => hop h.2.2.1)⟩ ?_
    ((repeat (first | (with_reducible exact Only.refl) | (with_reducible refine Only.skip ?_) | ((with_reducible refine Only.upd ?_ ?_); rfl) | ((with_reducible refine Only.over ?_ ?_ _); rfl) | ((with_reducible refine Only.hav ?_ ?_ ?_); rfl; rfl))))
  repeat refine br_dec_true hop ?_
  have htn' := of_decide_eq_true ht
  obtain ⟨g, r, hbg, hgo, hro⟩ := ok_2 (x := b.1) (k := b.2) hb (by omega)
  rw [hbg] at keep deep
  simp only [kid0, kid1] at keep deep
  have hsbI := P5.sb
  rw [hbg] at hsbI
  obtain ⟨p2, o2, c2, sg, sr, e2, hcg, hcr, hsg, hsr⟩ := kids2 hsbI
  have lb := P5.cb.2.2.2.2.1
  rw [e2] at lb
  refine ⟨_, lb, ?_⟩
  repeat refine br_dec_true hop ?_
  refine ⟨⟨by decide, by decide⟩, ?_⟩
  repeat refine br_dec_true hop ?_
  refine ⟨_, hcg.1, ?_⟩
  repeat refine br_dec_true hop ?_
  refine br_dec (fun hg0 => ?_) (fun hg0 => ?_)
  rotate_left
  · refine hK _ _ _ rfl ⟨P5, keep (fun h => hg0 h.2.2.2)⟩ ?_
    ((repeat (first | (with_reducible exact Only.refl) | (with_reducible refine Only.skip ?_) | ((with_reducible refine Only.upd ?_ ?_); rfl) | ((with_reducible refine Only.over ?_ ?_ _); rfl) | ((with_reducible refine Only.hav ?_ ?_ ?_); rfl; rfl))))
  have e := deep ⟨ht, h0, hop, hg0⟩
  rw [e] at hg hout
  have hg' : Keeps (x, mkTF [a, b]) (mkn x.op x.w 0, mkTF [conT x.w (bW x.op x.w a.1.n g.1.n), r]) ∧ ms (mkn x.op x.w 0, mkTF [conT x.w (bW x.op x.w a.1.n g.1.n), r]) < ms (x, mkTF [a, b]) ∧ _ := hg
  have hlt : ms (mkn x.op x.w 0, mkTF [conT x.w (bW x.op x.w a.1.n g.1.n), r]) < n := Nat.lt_of_lt_of_le hg'.2.1 (Nat.le_of_lt_succ hm)
  subst hout
  clear keep deep same q0 hg
  refine .inl ⟨by kernel_rfl, _, P5.hb.1, _, P5.hb.2.1, _, P5.ca.2.2.1, _, lb, ⟨by decide, by decide⟩, _, hcg.2.2.1, .int .i64 (bW x.op x.w a.1.n g.1.n), fun w' _ => q_of (spec_ApplyBinary _ _ _ _ w'), ?_⟩
  intro w11 x11
  have P11 := P5.step x11
  refine .inr (.inr (hyb_rule ties mixed [(0, .quiet), (1, .quiet), (2, .quiet), (3, .quiet), (4, .quiet), (5, .quiet), (6, .quiet), (8, .quiet), (9, .quiet), (10, .quiet), (11, .quiet), (7, .loud), (12, .loud), (13, .loud), (14, .loud), (15, .wild)] (by kernel_rfl) ?_))
  refine ⟨_, P11.hb.1, _, P11.hb.2.1, _, P11.hb.2.1, _, x11.cell lb, ⟨by decide, by decide⟩, tc r.1 sr, rfl, hcr.ext x11, ?_⟩
  intro w12 x12
  refine Or.inl ((l02Const_ret _ _ _).mono ?_)
  rintro _ w13 ⟨rfl, x13⟩
  refine ⟨x13, ?_⟩
  intro w14 x14
  have P14 := ((P11.step x12).step x13).step x14
  have hsr14 := (((hsr.ext x11).ext x12).ext x13).ext x14
  obtain ⟨x15, hk15⟩ := mk2 (a := conT x.w (bW x.op x.w a.1.n g.1.n)) (b := r) (nil_in (bxW W x s0).heap.size W w14 ok) hsr14 P14.lt P14.ext.size
  refine ⟨x15, ?_⟩
  intro w16 x16
  refine ⟨Ext.refl _, ?_⟩
  intro w17 x17
  have P17 := ((P14.step x15).step x16).step x17
  have hq := hR (mkn x.op x.w 0, mkTF [conT x.w (bW x.op x.w a.1.n g.1.n), r]) _ (okB (bxW W x s0).heap.size W ok) w17 hlt hg'.1.ok ((hk15.ext x16).ext x17)
  refine Or.inl ((hq).mono ?_)
  rintro _ w18 hres
  obtain ⟨x18, s18, rfl, hs18⟩ := res_in hres P17.lt P17.ext.size
  refine ⟨x18, ?_⟩
  intro w19 x19
  have P19 := (P17.step x18).step x19
  exact fin5' P19.r P19.hB P19.ext (hs18.ext x19)
end
end Go.Proofs.YtkoaicjcanplaaaGreat
namespace Go.Proofs.YtkoaicjcanplaaaGreat
open Go Go.Vc Go.RowKit
set_option linter.unusedVariables false
section
variable {x : Lab} {k : TF} (hk : k.len ≠ 0) (hc : ¬ allC k = true)
include hk hc
theorem redE_un (ho : x.op = 1 ∨ x.op = 2) : red (x, k) = if (kid k 0).1.op = x.op then kid (kid k 0).2 0 else (x, k) := by
  have hnil : ¬ k = .nil := fun e => hk (by rw [e]; rfl)
  refine red_inl ?_
  unfold step
  rw [if_neg hnil, if_neg hc, if_pos ho]
theorem redE_if (h : OkT (x, k)) (ho : x.op = 17) : red (x, k) = outT (stIf (x, k) (kid k 0) (kid k 1) (kid k 2)) := by
  have hnil : ¬ k = .nil := fun e => hk (by rw [e]; rfl)
  have n12 : ¬ (x.op = 1 ∨ x.op = 2) := by omega
  rw [red_out h]
  refine congrArg outT ?_
  unfold step
  rw [if_neg hnil, if_neg hc, if_neg n12, if_pos ho]
theorem redE_cut (h : OkT (x, k)) (ho : x.op = 19) : red (x, k) = outT (stCut (x, k) (kid k 0)) := by
  have hnil : ¬ k = .nil := fun e => hk (by rw [e]; rfl)
  have n12 : ¬ (x.op = 1 ∨ x.op = 2) := by omega
  have n17 : ¬ x.op = 17 := by omega
  rw [red_out h]
  refine congrArg outT ?_
  unfold step
  rw [if_neg hnil, if_neg hc, if_neg n12, if_neg n17, if_pos ho]
theorem redE_wid (h : OkT (x, k)) (ho : x.op = 20 ∨ x.op = 21) : red (x, k) = outT (stWid (x, k) (kid k 0)) := by
  have hnil : ¬ k = .nil := fun e => hk (by rw [e]; rfl)
  have n12 : ¬ (x.op = 1 ∨ x.op = 2) := by omega
  have n17 : ¬ x.op = 17 := by omega
  have n19 : ¬ x.op = 19 := by omega
  rw [red_out h]
  refine congrArg outT ?_
  unfold step
  rw [if_neg hnil, if_neg hc, if_neg n12, if_neg n17, if_neg n19, if_pos ho]
theorem redE_join (h : OkT (x, k)) (ho : x.op = 18) : red (x, k) = outT (stJoin (x, k) (kid k 0) (kid k 1)) := by
  have hnil : ¬ k = .nil := fun e => hk (by rw [e]; rfl)
  have n12 : ¬ (x.op = 1 ∨ x.op = 2) := by omega
  have n17 : ¬ x.op = 17 := by omega
  have n19 : ¬ x.op = 19 := by omega
  have n20 : ¬ (x.op = 20 ∨ x.op = 21) := by omega
  rw [red_out h]
  refine congrArg outT ?_
  unfold step
  rw [if_neg hnil, if_neg hc, if_neg n12, if_neg n17, if_neg n19, if_neg n20, if_pos ho]
theorem redE_bin (h : OkT (x, k)) (ho : 3 ≤ x.op ∧ x.op ≤ 16) : red (x, k) = outT (stBin (x, k) (kid k 0) (kid k 1)) := by
  have hnil : ¬ k = .nil := fun e => hk (by rw [e]; rfl)
  have n12 : ¬ (x.op = 1 ∨ x.op = 2) := by omega
  have n17 : ¬ x.op = 17 := by omega
  have n19 : ¬ x.op = 19 := by omega
  have n20 : ¬ (x.op = 20 ∨ x.op = 21) := by omega
  have n18 : ¬ x.op = 18 := by omega
  rw [red_out h]
  refine congrArg outT ?_
  unfold step
  rw [if_neg hnil, if_neg hc, if_neg n12, if_neg n17, if_neg n19, if_neg n20, if_neg n18]
end
theorem len1p (u : Tm) : (0 : Int) < ((mkTF [u]).len : Int) := by show (0 : Int) < ((0 + 1 : Nat) : Int); decide
theorem len2p (u v : Tm) : (0 : Int) < ((mkTF [u, v]).len : Int) := by show (0 : Int) < ((0 + 1 + 1 : Nat) : Int); decide
theorem len2q (u v : Tm) : (1 : Int) < ((mkTF [u, v]).len : Int) := by show (1 : Int) < ((0 + 1 + 1 : Nat) : Int); decide
def kn (k : TF) (i : Nat) : Bool := decide (0 < (k.len : Int)) && alC k i
set_option maxRecDepth 100000 in
set_option maxHeartbeats 16000000 in
theorem l02Make_all : ∀ n, RedS 54 n := by
  intro n
  induction n with
  | zero => intro t s ok W h; omega
  | succ n ih =>
    rintro ⟨x, k⟩ s ok W hm h hs
    change TSl ok W s k at hs
    show Ret Tryz.prog 54 #[tv x s] W (TRes ok (red (x, k)) W)
    have hN : NodeOk x (hdF k) := h.1
    have x1 : Ext W (bzW (bxW W x s)) := (bx_ext W x s).trans (bz_ext _)
    have hb := (bx_at W x s).ext (bz_ext (bxW W x s))
    have hr : Rmy (bzW (bxW W x s)) (bxW W x s).heap.size 5 := bz_rmy _
    have hB : W.heap.size ≤ (bxW W x s).heap.size := (bx_ext W x s).size
    have hlt : (bxW W x s).heap.size < (bzW (bxW W x s)).heap.size := by rw [bz_size]; omega
    have hin : TSl (okB (bxW W x s).heap.size W ok) (bzW (bxW W x s)) s k := arg_in hs x1 hB
    obtain ⟨a, c, rfl, hl, hat⟩ := id hs
    have hl' : k.len ≤ 9223372036854775807 := hl
    have hrng := hN.op
    have hl3 : k.len ≤ 3 := by
      have h1 := hN.count
      have h2 := kc_le x.op
      rw [hdF_len] at h1
      omega
    have x12 : Ext (bzW (bxW W x (.slice a k.len c))) ((bzW (bxW W x (.slice a k.len c))).alloc (.cells #[] 3)) := Ext.new _ _
    have hb2 := hb.ext x12
    have kidAt : ∀ (i : Nat), i < k.len → ∃ t p o s', a = some ⟨p, o, none⟩ ∧ (tms k)[i]? = some t ∧ (∀ w, Ext (bzW (bxW W x (.slice a k.len c))) w → CellsAt w p (o + (i : Int).toNat * 5) (tc t.1 s') ∧ TSl ok w s' t.2) := fun i hi => by
      obtain ⟨t, ht, _⟩ := tms_get hi
      obtain ⟨p, o, c', s', e, _, _, _, hc, hs'⟩ := TSl.kid hs ht
      cases e
      exact ⟨t, p, o, s', rfl, ht, fun w xw => ⟨(hc.ext x1).ext xw, (hs'.ext x1).ext xw⟩⟩
    have hnl : ((hdF k).map (·.n)).length = k.len := by rw [List.length_map, hdF_len]
    have hw : ∀ (g : Nat) (w : World), Ext (bzW (bxW W x (.slice a k.len c))) w → (∀ ok' W', TSl ok' W' (.slice a k.len c) k → Ret Tryz.prog g #[tv x (.slice a k.len c)] W' (TRes ok' (red (x, k)) W')) → Ret Tryz.prog g #[tv x (.slice a k.len c)] w (Fin (bxW W x (.slice a k.len c)).heap.size ok (red (x, k)) W) := fun g w xw H =>
      fin_of (hr.ext xw) hB (Nat.lt_of_lt_of_le hlt xw.size) (x1.trans xw) (H _ w (hin.ext xw))
    have hApp : allC k = true → k.len ≠ 0 → ∀ w v, Ext (bzW (bxW W x (.slice a k.len c))) w → SlR eI anyB w v ((hdF k).map (·.n)) → Ret Tryz.prog 64 #[tv x (.slice a k.len c), v] w (fun r w' => r = .int .i64 (evT e0 (x, k)) ∧ Ext w w') := fun hc hk w v xw hv =>
      l02Apply_ret x k _ v w h hk hc (((hs.ext x1).ext xw).mono fun _ _ => trivial) hv
    have hFin : allC k = true → k.len ≠ 0 → ∀ w, Ext (bzW (bxW W x (.slice a k.len c))) w → FreeAll w (bxW W x (.slice a k.len c)).heap.size 0 (tc (constL x.w (evT e0 (x, k))) (.slice none 0 0)) ∧ ∀ w', Ext (setCells w (bxW W x (.slice a k.len c)).heap.size 0 (tc (constL x.w (evT e0 (x, k))) (.slice none 0 0))) w' → ∃ vs, vs.length = 5 ∧ CellsAt w' (bxW W x (.slice a k.len c)).heap.size 0 vs ∧ TRes ok (red (x, k)) W (.agg vs.toArray) w' := fun hc hk w xw => by
      rw [(red_con h hk hc).1]
      exact fin5' (hr.ext xw) hB (x1.trans xw) (nil_in _ _ _ _)
    have hSame : ∀ w, Ext (bzW (bxW W x (.slice a k.len c))) w → red (x, k) = (x, k) → FreeAll w (bxW W x (.slice a k.len c)).heap.size 0 (tc x (.slice a k.len c)) ∧ ∃ vs, vs.length = 5 ∧ CellsAt (setCells w (bxW W x (.slice a k.len c)).heap.size 0 (tc x (.slice a k.len c))) (bxW W x (.slice a k.len c)).heap.size 0 vs ∧ TRes ok (red (x, k)) W (.agg vs.toArray) (setCells w (bxW W x (.slice a k.len c)).heap.size 0 (tc x (.slice a k.len c))) := fun w xw e => by
      rw [e]
      exact fin5 (hr.ext xw) hB (x1.trans xw) (hin.ext xw)
    refine ret_of_vc ties mixed Tryz.func54 rfl (by kernel_rfl) rfl rfl ?_
    refine ⟨_, hb.2.2.2.2.1, ?_⟩
    refine ⟨_, hb2.2.2.2.2.1, ?_⟩
    refine loop_rule (σ := Nat × Bool × Value × Value) [18, 3, 4, 6] 19 34 (fun q => [.int .i64 q.1, .bool q.2.1, q.2.2.1, q.2.2.2])
      (fun q w' => (Ext (bzW (bxW W x (.slice a k.len c))) w' ∧ OwnR eI noB w' q.2.2.1 (((hdF k).map (·.n)).take q.1) ∧ ∀ b, blk q.2.2.1 b → (bzW (bxW W x (.slice a k.len c))).heap.size ≤ b) ∧ q.1 ≤ k.len ∧ q.2.1 = kn k q.1)
      (fun q => k.len - q.1) (0, _, _, undef) rfl ⟨⟨x12, OwnR.nil _ _ _ _, fun b hb => by have hb : (bzW (bxW W x (.slice a k.len c))).heap.size = b := hb; omega⟩, Nat.zero_le _, by unfold kn; rw [alC_zero, Bool.and_true]; rfl⟩ ?_
    rintro ⟨i, bb, xv, j6⟩ w3 junk ⟨⟨x3, hxv, hbv⟩, hi, hbb⟩ K hK
    simp only at hi hbb hxv hbv
    show vc _ _ _ _ (over [18, 3, 4, 6] [.int .i64 i, .bool bb, xv, j6] _) _
    refine br_dec (fun hlt' => ?_) (fun hge => ?_)
    · obtain ⟨t, p, o, s', rfl, ht, hkid⟩ := kidAt i (by omega)
      obtain ⟨f4, c4, x4⟩ := keep5 (W := w3) (x := t.1) (s := s') (tc_one (hkid w3 x3).2)
      refine ⟨⟨by omega, by omega⟩, tc t.1 s', rfl, (hkid w3 x3).1, f4, ?_⟩
      have hkn : kn k (i + 1) = (kn k i && decide (t.1.op = 0)) := by unfold kn; rw [alC_succ ht, Bool.and_assoc]
      rw [← hbb] at hkn
      have htk : ((hdF k).map (·.n)).take (i + 1) = ((hdF k).map (·.n)).take i ++ [t.1.n] := by
        rw [List.take_add_one, List.getElem?_map, hdF_tms, List.getElem?_map, ht]; rfl
      have hlen : (((hdF k).map (·.n)).take i).length = i := by rw [List.length_take, hnl]; omega
      have hown := hxv.ext x4
      cases bb with
      | true =>
        refine ⟨_, c4.1, ?_⟩
        refine ⟨_, c4.2.2.1, ?_⟩
        refine raw_push (E := eI) (x := t.1.n) (cs := [.int .i64 t.1.n]) ties rfl rfl rfl rfl rfl rfl rfl rfl rfl rfl rfl hown rfl noB_blk (by rw [hlen]; show (i + 1) * 8 ≤ _; omega) (by omega) ?_
        intro v w6 hv hch hsz6 hvb
        rw [← htk] at hv
        refine ⟨_, IntWalk.i64_in _ (by omega), ?_⟩
        refine hK (i + 1, decide (t.1.op = 0), v, _) _ _ (vs4 (vint (by show (i : Int) + 1 = ((i + 1 : Nat) : Int); omega)) rfl rfl rfl) ⟨⟨(x3.trans x4).chg hch hbv, hv, fun b hb => (hvb b hb).elim (hbv b) fun e => Nat.le_of_lt (Nat.lt_of_le_of_lt (x3.trans x4).size e.1)⟩, by show i + 1 ≤ k.len; omega, by rw [hkn, Bool.true_and]⟩ (by show k.len - (i + 1) < k.len - i; omega) ?_
        ((repeat (first | (with_reducible exact Only.refl) | (with_reducible refine Only.skip ?_) | ((with_reducible refine Only.upd ?_ ?_); rfl) | ((with_reducible refine Only.over ?_ ?_ _); rfl) | ((with_reducible refine Only.hav ?_ ?_ ?_); rfl; rfl))))
      | false =>
        refine ⟨_, c4.2.2.1, ?_⟩
        refine raw_push (E := eI) (x := t.1.n) (cs := [.int .i64 t.1.n]) ties rfl rfl rfl rfl rfl rfl rfl rfl rfl rfl rfl hown rfl noB_blk (by rw [hlen]; show (i + 1) * 8 ≤ _; omega) (by omega) ?_
        intro v w6 hv hch hsz6 hvb
        rw [← htk] at hv
        refine ⟨_, IntWalk.i64_in _ (by omega), ?_⟩
        refine hK (i + 1, false, v, _) _ _ (vs4 (vint (by show (i : Int) + 1 = ((i + 1 : Nat) : Int); omega)) rfl rfl rfl) ⟨⟨(x3.trans x4).chg hch hbv, hv, fun b hb => (hvb b hb).elim (hbv b) fun e => Nat.le_of_lt (Nat.lt_of_le_of_lt (x3.trans x4).size e.1)⟩, by show i + 1 ≤ k.len; omega, by rw [hkn, Bool.false_and]⟩ (by show k.len - (i + 1) < k.len - i; omega) ?_
        ((repeat (first | (with_reducible exact Only.refl) | (with_reducible refine Only.skip ?_) | ((with_reducible refine Only.upd ?_ ?_); rfl) | ((with_reducible refine Only.over ?_ ?_ _); rfl) | ((with_reducible refine Only.hav ?_ ?_ ?_); rfl; rfl))))
    · have hik : i = k.len := by omega
      have hta : ((hdF k).map (·.n)).take i = (hdF k).map (·.n) := List.take_of_length_le (by rw [hnl]; omega)
      rw [hta] at hxv
      have hxs : SlR eI anyB w3 xv ((hdF k).map (·.n)) := hxv.sl (fun _ _ => trivial) (fun _ _ => trivial)
      have hb3 := hb.ext x3
      refine br_split (fun hbt => ?_) (fun hbf => ?_)
      ·
        as_aux_lemma =>
          have hkt : kn k i = true := by rw [← hbb]; exact hbt
          unfold kn at hkt
          rw [Bool.and_eq_true] at hkt
          have hkl : k.len ≠ 0 := by have := of_decide_eq_true hkt.1; omega
          have hcC : allC k = true := by rw [← hkt.2]; exact (alC_end (by omega)).symm
          have hF := hFin hcC hkl
          have hA := fun w (xw : Ext w3 w) => hApp hcC hkl w xv (x3.trans xw) (hxs.ext xw)
          clear hFin hApp
          refine .inr (.inr (hyb_rule ties mixed [(0, .quiet), (1, .quiet), (2, .quiet), (3, .quiet), (4, .loud), (5, .loud), (6, .wild)] (by kernel_rfl) ?_))
          refine ⟨_, hb3.2.1, tc x _, rfl, hb3, ?_⟩
          intro w4 x4
          refine Or.inl ((hA w4 x4).mono ?_)
          rintro _ w5 ⟨rfl, x5⟩
          refine ⟨x5, ?_⟩
          intro w6 x6
          refine Or.inl ((l02Const_ret _ _ _).mono ?_)
          rintro _ w7 ⟨rfl, x7⟩
          refine ⟨x7, ?_⟩
          intro w8 x8
          exact hF w8 (x3.trans (x4.trans (x5.trans (x6.trans (x7.trans x8)))))
      ·
        as_aux_lemma =>
          have hkf : kn k i = false := by rw [← hbb]; exact hbf
          have hcC : k.len ≠ 0 → ¬ allC k = true := fun hk e => by
            unfold kn at hkf
            rw [alC_end (by omega), e, Bool.and_true] at hkf
            have := of_decide_eq_false hkf
            omega
          clear hFin hApp hbb hxv hxs hta
          -- PRINTED (genUa.py)
          have litI : ∀ bb, inR x.op 3 16 = bb → ∀ w, Ret Tryz.prog 53 #[.int .i64 x.op, .int .i64 3, .int .i64 16] w (fun v w' => v = .bool bb ∧ w' = w) := fun bb e w => by rw [← e]; exact l01In_ret x.op 3 16 w
          by_cases hk : k.len = 0
          · have h022 : x.op = 0 ∨ x.op = 22 := by
              rcases ops hN with ho | ho | ho | ho | ho | ho | ho | ho | ho
              · exact .inl ho
              · exact .inr ho
              · obtain ⟨_, rfl, _⟩ := ok_1 h (by omega); exact absurd hk (Nat.succ_ne_zero _)
              · obtain ⟨_, rfl, _⟩ := ok_1 h (by omega); exact absurd hk (Nat.succ_ne_zero _)
              · obtain ⟨_, rfl, _⟩ := ok_1 h (by omega); exact absurd hk (Nat.succ_ne_zero _)
              · obtain ⟨_, _, rfl, _⟩ := ok_2 h (by omega); exact absurd hk (Nat.succ_ne_zero _)
              · obtain ⟨_, _, rfl, _⟩ := ok_2 h (by omega); exact absurd hk (Nat.succ_ne_zero _)
              · obtain ⟨_, _, rfl, _⟩ := ok_2 h (by omega); exact absurd hk (Nat.succ_ne_zero _)
              · obtain ⟨_, _, _, rfl, _⟩ := ok_3 h (by omega); exact absurd hk (Nat.succ_ne_zero _)
            have hq := hSame w3 x3 (red_nil hk)
            have hI := litI false (inR_no (by omega))
            refine ⟨_, hb3.1, ?_⟩
            refine Or.inl ((hI _).mono ?_)
            rintro _ _ ⟨rfl, rfl⟩
            refine ⟨_, hb3.1, ?_⟩
            refine br_dec_false (show ¬ x.op = 1 by omega) ?_
            refine br_dec_false (show ¬ x.op = 2 by omega) ?_
            refine br_dec_false (show ¬ x.op = 17 by omega) ?_
            refine br_dec_false (show ¬ x.op = 19 by omega) ?_
            refine br_dec_false (show ¬ x.op = 20 by omega) ?_
            refine br_dec_false (show ¬ x.op = 21 by omega) ?_
            refine br_dec_false (show ¬ x.op = 18 by omega) ?_
            refine ⟨tc x _, rfl, hb3, ?_⟩
            exact hq
          have hcC := hcC hk
          have h0 : x.op ≠ 0 := fun e => hk (by rw [ok_nil h (.inl e)]; rfl)
          have h22 : x.op ≠ 22 := fun e => hk (by rw [ok_nil h (.inr e)]; rfl)
          by_cases h316 : 3 ≤ x.op ∧ x.op ≤ 16
          · have hI := litI true (inR_yes h316)
            have hq := hw 65 w3 x3 fun ok' W' hs' => by
              rw [redE_bin hk hcC h h316]
              obtain ⟨u, v, rfl, hu, hv⟩ := ok_2 h (by omega)
              rw [kid0, kid1]
              exact l02Two_of ih h h316 hm hs'
            refine ⟨_, hb3.1, ?_⟩
            refine Or.inl ((hI _).mono ?_)
            rintro _ _ ⟨rfl, rfl⟩
            refine ⟨tc x _, rfl, hb3, ?_⟩
            refine Or.inl ((hq).mono ?_)
            rintro _ w4 ⟨s2, rfl, hf⟩
            exact hf
          have hI := litI false (inR_no h316)
          by_cases h17 : x.op = 17
          · have hq := hw 66 w3 x3 fun ok' W' hs' => by
              rw [redE_if hk hcC h h17]
              obtain ⟨u, v, y, rfl, hu, hv, hy⟩ := ok_3 h h17
              rw [kid0, kid1, kid2]
              exact l02If_of ih h h17 hm hs'
            refine ⟨_, hb3.1, ?_⟩
            refine Or.inl ((hI _).mono ?_)
            rintro _ _ ⟨rfl, rfl⟩
            refine ⟨_, hb3.1, ?_⟩
            refine br_dec_false (show ¬ x.op = 1 by omega) ?_
            refine br_dec_false (show ¬ x.op = 2 by omega) ?_
            refine br_dec_true h17 ?_
            refine ⟨tc x _, rfl, hb3, ?_⟩
            refine Or.inl ((hq).mono ?_)
            rintro _ w4 ⟨s2, rfl, hf⟩
            exact hf
          by_cases h19 : x.op = 19
          · have hq := hw 67 w3 x3 fun ok' W' hs' => by
              rw [redE_cut hk hcC h h19]
              obtain ⟨u, rfl, hu⟩ := ok_1 h (by omega)
              rw [kid0]
              exact l02Cut_of ih h h19 hm hs'
            refine ⟨_, hb3.1, ?_⟩
            refine Or.inl ((hI _).mono ?_)
            rintro _ _ ⟨rfl, rfl⟩
            refine ⟨_, hb3.1, ?_⟩
            refine br_dec_false (show ¬ x.op = 1 by omega) ?_
            refine br_dec_false (show ¬ x.op = 2 by omega) ?_
            refine br_dec_false (show ¬ x.op = 17 by omega) ?_
            refine br_dec_true h19 ?_
            refine ⟨tc x _, rfl, hb3, ?_⟩
            refine Or.inl ((hq).mono ?_)
            rintro _ w4 ⟨s2, rfl, hf⟩
            exact hf
          have hkin := hin.ext x3
          by_cases h1 : x.op = 1
          · have hred := redE_un hk hcC (show x.op = 1 ∨ x.op = 2 by omega)
            obtain ⟨u, rfl, hu⟩ := ok_1 h (by omega)
            rw [kid0] at hred
            obtain ⟨p, o, c', su, e, hcu, hsu⟩ := kids1 hkin
            cases e
            by_cases hop : u.1.op = x.op
            · obtain ⟨g, hug, hg⟩ := ok_1 (x := u.1) (k := u.2) hu (by omega)
              rw [if_pos hop, hug, kid0] at hred
              rw [hug] at hsu
              obtain ⟨p2, o2, c2, sg, e2, hcg, hsg⟩ := kids1 hsu
              have lu := hcu.2.2.2.2.1.trans (congrArg some e2)
              have hq := fun w (xw : Ext w3 w) => fin5 (ok := ok) (y := g.1) (hr.ext (x3.trans xw)) hB (x1.trans (x3.trans xw)) (hsg.ext xw)
              rw [hred]
              refine ⟨_, hb3.1, ?_⟩
              refine Or.inl ((hI _).mono ?_)
              rintro _ _ ⟨rfl, rfl⟩
              refine ⟨_, hb3.1, ?_⟩
              refine br_dec_true h1 ?_
              refine br_dec_true h1 ?_
              refine .inl ⟨by kernel_rfl, _, hb3.2.2.2.2.1, ⟨by decide, len1p u⟩, _, hcu.1, _, hb3.1, ?_⟩
              intro w4 x4
              refine br_dec_true hop ?_
              refine ⟨_, x4.cell hb3.2.2.2.2.1, ⟨by decide, len1p u⟩, _, x4.cell lu, ⟨by decide, by decide⟩, tc g.1 sg, rfl, hcg.ext x4, ?_⟩
              exact hq w4 x4
            · rw [if_neg hop] at hred
              have hq := fun w (xw : Ext w3 w) => hSame w (x3.trans xw) hred
              refine ⟨_, hb3.1, ?_⟩
              refine Or.inl ((hI _).mono ?_)
              rintro _ _ ⟨rfl, rfl⟩
              refine ⟨_, hb3.1, ?_⟩
              refine br_dec_true h1 ?_
              refine br_dec_true h1 ?_
              refine .inl ⟨by kernel_rfl, _, hb3.2.2.2.2.1, ⟨by decide, len1p u⟩, _, hcu.1, _, hb3.1, ?_⟩
              intro w4 x4
              refine br_dec_false hop ?_
              refine ⟨tc x _, rfl, hb3.ext x4, ?_⟩
              exact hq w4 x4
          by_cases h2 : x.op = 2
          · have hred := redE_un hk hcC (show x.op = 1 ∨ x.op = 2 by omega)
            obtain ⟨u, rfl, hu⟩ := ok_1 h (by omega)
            rw [kid0] at hred
            obtain ⟨p, o, c', su, e, hcu, hsu⟩ := kids1 hkin
            cases e
            by_cases hop : u.1.op = x.op
            · obtain ⟨g, hug, hg⟩ := ok_1 (x := u.1) (k := u.2) hu (by omega)
              rw [if_pos hop, hug, kid0] at hred
              rw [hug] at hsu
              obtain ⟨p2, o2, c2, sg, e2, hcg, hsg⟩ := kids1 hsu
              have lu := hcu.2.2.2.2.1.trans (congrArg some e2)
              have hq := fun w (xw : Ext w3 w) => fin5 (ok := ok) (y := g.1) (hr.ext (x3.trans xw)) hB (x1.trans (x3.trans xw)) (hsg.ext xw)
              rw [hred]
              refine ⟨_, hb3.1, ?_⟩
              refine Or.inl ((hI _).mono ?_)
              rintro _ _ ⟨rfl, rfl⟩
              refine ⟨_, hb3.1, ?_⟩
              refine br_dec_false (show ¬ x.op = 1 by omega) ?_
              refine br_dec_true h2 ?_
              refine .inl ⟨by kernel_rfl, _, hb3.2.2.2.2.1, ⟨by decide, len1p u⟩, _, hcu.1, _, hb3.1, ?_⟩
              intro w4 x4
              refine br_dec_true hop ?_
              refine ⟨_, x4.cell hb3.2.2.2.2.1, ⟨by decide, len1p u⟩, _, x4.cell lu, ⟨by decide, by decide⟩, tc g.1 sg, rfl, hcg.ext x4, ?_⟩
              exact hq w4 x4
            · rw [if_neg hop] at hred
              have hq := fun w (xw : Ext w3 w) => hSame w (x3.trans xw) hred
              refine ⟨_, hb3.1, ?_⟩
              refine Or.inl ((hI _).mono ?_)
              rintro _ _ ⟨rfl, rfl⟩
              refine ⟨_, hb3.1, ?_⟩
              refine br_dec_false (show ¬ x.op = 1 by omega) ?_
              refine br_dec_true h2 ?_
              refine .inl ⟨by kernel_rfl, _, hb3.2.2.2.2.1, ⟨by decide, len1p u⟩, _, hcu.1, _, hb3.1, ?_⟩
              intro w4 x4
              refine br_dec_false hop ?_
              refine ⟨tc x _, rfl, hb3.ext x4, ?_⟩
              exact hq w4 x4
          by_cases h20 : x.op = 20
          · have hred := redE_wid hk hcC h (show x.op = 20 ∨ x.op = 21 by omega)
            obtain ⟨u, rfl, hu⟩ := ok_1 h (by omega)
            rw [kid0] at hred
            have hg := wid_good h (show x.op = 20 ∨ x.op = 21 by omega)
            obtain ⟨p, o, c', su, e, hcu, hsu⟩ := kids1 hkin
            cases e
            obtain ⟨f4, c4, x4⟩ := keep5 (W := w3) (x := u.1) (s := su) (tc_one hsu)
            have hb4 := hb3.ext x4
            have hsu4 := hsu.ext x4
            by_cases hwd : u.1.w = x.w
            · have hq := fin5 (ok := ok) (y := u.1) (hr.ext (x3.trans x4)) hB (x1.trans (x3.trans x4)) hsu4
              have e1 : red (x, mkTF [u]) = u := by rw [hred]; unfold stWid; rw [if_pos hwd.symm]; rfl
              rw [e1]
              refine ⟨_, hb3.1, ?_⟩
              refine Or.inl ((hI _).mono ?_)
              rintro _ _ ⟨rfl, rfl⟩
              refine ⟨_, hb3.1, ?_⟩
              refine br_dec_false (show ¬ x.op = 1 by omega) ?_
              refine br_dec_false (show ¬ x.op = 2 by omega) ?_
              refine br_dec_false (show ¬ x.op = 17 by omega) ?_
              refine br_dec_false (show ¬ x.op = 19 by omega) ?_
              refine br_dec_true h20 ?_
              refine br_dec_true h20 ?_
              refine ⟨_, hb3.2.2.2.2.1, ⟨by decide, len1p u⟩, tc u.1 su, rfl, hcu, f4, ?_⟩
              refine ⟨_, c4.2.1, _, hb4.2.1, ?_⟩
              refine br_dec_true hwd ?_
              refine ⟨tc u.1 su, rfl, c4, ?_⟩
              exact hq
            by_cases hop : u.1.op = x.op
            · have e0 : stWid (x, mkTF [u]) u = .inr (mkn x.op x.w 0, mkTF [kid u.2 0]) := by unfold stWid; rw [if_neg (fun e => hwd e.symm), if_pos hop]
              have e1 : red (x, mkTF [u]) = red (mkn x.op x.w 0, mkTF [kid u.2 0]) := by rw [hred, e0]; rfl
              rw [e0] at hg
              have hg' : Keeps (x, mkTF [u]) (mkn x.op x.w 0, mkTF [kid u.2 0]) ∧ ms (mkn x.op x.w 0, mkTF [kid u.2 0]) < ms (x, mkTF [u]) ∧ _ := hg
              have hlt2 : ms (mkn x.op x.w 0, mkTF [kid u.2 0]) < n := Nat.lt_of_lt_of_le hg'.2.1 (Nat.le_of_lt_succ hm)
              have hku : mkTF [kid u.2 0] = u.2 := by
                obtain ⟨g, hug, hg⟩ := ok_1 (x := u.1) (k := u.2) hu (by omega)
                rw [hug, kid0]
              have hsk := hsu4
              rw [← hku] at hsk
              obtain ⟨a2, c2, e2, _⟩ := id hsk
              have lsu := c4.2.2.2.2.1.trans (congrArg some e2)
              have hq := fin_of (hr.ext (x3.trans x4)) hB (Nat.lt_of_lt_of_le hlt (x3.trans x4).size) (x1.trans (x3.trans x4)) (ih (mkn x.op x.w 0, mkTF [kid u.2 0]) (.slice a2 (mkTF [kid u.2 0]).len c2) _ _ hlt2 hg'.1.ok (by rw [← e2]; exact hsk))
              rw [e1]
              refine ⟨_, hb3.1, ?_⟩
              refine Or.inl ((hI _).mono ?_)
              rintro _ _ ⟨rfl, rfl⟩
              refine ⟨_, hb3.1, ?_⟩
              refine br_dec_false (show ¬ x.op = 1 by omega) ?_
              refine br_dec_false (show ¬ x.op = 2 by omega) ?_
              refine br_dec_false (show ¬ x.op = 17 by omega) ?_
              refine br_dec_false (show ¬ x.op = 19 by omega) ?_
              refine br_dec_true h20 ?_
              refine br_dec_true h20 ?_
              refine ⟨_, hb3.2.2.2.2.1, ⟨by decide, len1p u⟩, tc u.1 su, rfl, hcu, f4, ?_⟩
              refine ⟨_, c4.2.1, _, hb4.2.1, ?_⟩
              refine br_dec_false hwd ?_
              refine ⟨_, c4.1, _, hb4.1, ?_⟩
              refine br_dec_true hop ?_
              refine ⟨_, hb4.1, _, hb4.2.1, _, lsu, ?_⟩
              refine Or.inl ((hq).mono ?_)
              rintro _ w5 ⟨s5, rfl, hf⟩
              exact hf
            · have e1 : red (x, mkTF [u]) = (x, mkTF [u]) := by rw [hred]; unfold stWid; rw [if_neg (fun e => hwd e.symm), if_neg hop]; rfl
              have hq := hSame _ (x3.trans x4) e1
              refine ⟨_, hb3.1, ?_⟩
              refine Or.inl ((hI _).mono ?_)
              rintro _ _ ⟨rfl, rfl⟩
              refine ⟨_, hb3.1, ?_⟩
              refine br_dec_false (show ¬ x.op = 1 by omega) ?_
              refine br_dec_false (show ¬ x.op = 2 by omega) ?_
              refine br_dec_false (show ¬ x.op = 17 by omega) ?_
              refine br_dec_false (show ¬ x.op = 19 by omega) ?_
              refine br_dec_true h20 ?_
              refine br_dec_true h20 ?_
              refine ⟨_, hb3.2.2.2.2.1, ⟨by decide, len1p u⟩, tc u.1 su, rfl, hcu, f4, ?_⟩
              refine ⟨_, c4.2.1, _, hb4.2.1, ?_⟩
              refine br_dec_false hwd ?_
              refine ⟨_, c4.1, _, hb4.1, ?_⟩
              refine br_dec_false hop ?_
              refine ⟨tc x _, rfl, hb4, ?_⟩
              exact hq
          by_cases h21 : x.op = 21
          · have hred := redE_wid hk hcC h (show x.op = 20 ∨ x.op = 21 by omega)
            obtain ⟨u, rfl, hu⟩ := ok_1 h (by omega)
            rw [kid0] at hred
            have hg := wid_good h (show x.op = 20 ∨ x.op = 21 by omega)
            obtain ⟨p, o, c', su, e, hcu, hsu⟩ := kids1 hkin
            cases e
            obtain ⟨f4, c4, x4⟩ := keep5 (W := w3) (x := u.1) (s := su) (tc_one hsu)
            have hb4 := hb3.ext x4
            have hsu4 := hsu.ext x4
            by_cases hwd : u.1.w = x.w
            · have hq := fin5 (ok := ok) (y := u.1) (hr.ext (x3.trans x4)) hB (x1.trans (x3.trans x4)) hsu4
              have e1 : red (x, mkTF [u]) = u := by rw [hred]; unfold stWid; rw [if_pos hwd.symm]; rfl
              rw [e1]
              refine ⟨_, hb3.1, ?_⟩
              refine Or.inl ((hI _).mono ?_)
              rintro _ _ ⟨rfl, rfl⟩
              refine ⟨_, hb3.1, ?_⟩
              refine br_dec_false (show ¬ x.op = 1 by omega) ?_
              refine br_dec_false (show ¬ x.op = 2 by omega) ?_
              refine br_dec_false (show ¬ x.op = 17 by omega) ?_
              refine br_dec_false (show ¬ x.op = 19 by omega) ?_
              refine br_dec_false (show ¬ x.op = 20 by omega) ?_
              refine br_dec_true h21 ?_
              refine ⟨_, hb3.2.2.2.2.1, ⟨by decide, len1p u⟩, tc u.1 su, rfl, hcu, f4, ?_⟩
              refine ⟨_, c4.2.1, _, hb4.2.1, ?_⟩
              refine br_dec_true hwd ?_
              refine ⟨tc u.1 su, rfl, c4, ?_⟩
              exact hq
            by_cases hop : u.1.op = x.op
            · have e0 : stWid (x, mkTF [u]) u = .inr (mkn x.op x.w 0, mkTF [kid u.2 0]) := by unfold stWid; rw [if_neg (fun e => hwd e.symm), if_pos hop]
              have e1 : red (x, mkTF [u]) = red (mkn x.op x.w 0, mkTF [kid u.2 0]) := by rw [hred, e0]; rfl
              rw [e0] at hg
              have hg' : Keeps (x, mkTF [u]) (mkn x.op x.w 0, mkTF [kid u.2 0]) ∧ ms (mkn x.op x.w 0, mkTF [kid u.2 0]) < ms (x, mkTF [u]) ∧ _ := hg
              have hlt2 : ms (mkn x.op x.w 0, mkTF [kid u.2 0]) < n := Nat.lt_of_lt_of_le hg'.2.1 (Nat.le_of_lt_succ hm)
              have hku : mkTF [kid u.2 0] = u.2 := by
                obtain ⟨g, hug, hg⟩ := ok_1 (x := u.1) (k := u.2) hu (by omega)
                rw [hug, kid0]
              have hsk := hsu4
              rw [← hku] at hsk
              obtain ⟨a2, c2, e2, _⟩ := id hsk
              have lsu := c4.2.2.2.2.1.trans (congrArg some e2)
              have hq := fin_of (hr.ext (x3.trans x4)) hB (Nat.lt_of_lt_of_le hlt (x3.trans x4).size) (x1.trans (x3.trans x4)) (ih (mkn x.op x.w 0, mkTF [kid u.2 0]) (.slice a2 (mkTF [kid u.2 0]).len c2) _ _ hlt2 hg'.1.ok (by rw [← e2]; exact hsk))
              rw [e1]
              refine ⟨_, hb3.1, ?_⟩
              refine Or.inl ((hI _).mono ?_)
              rintro _ _ ⟨rfl, rfl⟩
              refine ⟨_, hb3.1, ?_⟩
              refine br_dec_false (show ¬ x.op = 1 by omega) ?_
              refine br_dec_false (show ¬ x.op = 2 by omega) ?_
              refine br_dec_false (show ¬ x.op = 17 by omega) ?_
              refine br_dec_false (show ¬ x.op = 19 by omega) ?_
              refine br_dec_false (show ¬ x.op = 20 by omega) ?_
              refine br_dec_true h21 ?_
              refine ⟨_, hb3.2.2.2.2.1, ⟨by decide, len1p u⟩, tc u.1 su, rfl, hcu, f4, ?_⟩
              refine ⟨_, c4.2.1, _, hb4.2.1, ?_⟩
              refine br_dec_false hwd ?_
              refine ⟨_, c4.1, _, hb4.1, ?_⟩
              refine br_dec_true hop ?_
              refine ⟨_, hb4.1, _, hb4.2.1, _, lsu, ?_⟩
              refine Or.inl ((hq).mono ?_)
              rintro _ w5 ⟨s5, rfl, hf⟩
              exact hf
            · have e1 : red (x, mkTF [u]) = (x, mkTF [u]) := by rw [hred]; unfold stWid; rw [if_neg (fun e => hwd e.symm), if_neg hop]; rfl
              have hq := hSame _ (x3.trans x4) e1
              refine ⟨_, hb3.1, ?_⟩
              refine Or.inl ((hI _).mono ?_)
              rintro _ _ ⟨rfl, rfl⟩
              refine ⟨_, hb3.1, ?_⟩
              refine br_dec_false (show ¬ x.op = 1 by omega) ?_
              refine br_dec_false (show ¬ x.op = 2 by omega) ?_
              refine br_dec_false (show ¬ x.op = 17 by omega) ?_
              refine br_dec_false (show ¬ x.op = 19 by omega) ?_
              refine br_dec_false (show ¬ x.op = 20 by omega) ?_
              refine br_dec_true h21 ?_
              refine ⟨_, hb3.2.2.2.2.1, ⟨by decide, len1p u⟩, tc u.1 su, rfl, hcu, f4, ?_⟩
              refine ⟨_, c4.2.1, _, hb4.2.1, ?_⟩
              refine br_dec_false hwd ?_
              refine ⟨_, c4.1, _, hb4.1, ?_⟩
              refine br_dec_false hop ?_
              refine ⟨tc x _, rfl, hb4, ?_⟩
              exact hq
          have h18 : x.op = 18 := by omega
          have hred := redE_join hk hcC h h18
          obtain ⟨u, v, rfl, hu, hv⟩ := ok_2 h (by omega)
          rw [kid0, kid1] at hred
          have hg := join_good h h18
          obtain ⟨p, o, c', su, sv, e, hcu, hcv, hsu, hsv⟩ := kids2 hkin
          cases e
          obtain ⟨f4, c4, x4⟩ := keep5 (W := w3) (x := u.1) (s := su) (tc_one hsu)
          obtain ⟨f5, c5, x5⟩ := keep5 (W := (setCells (bzW w3) w3.heap.size 0 (tc u.1 su))) (x := v.1) (s := sv) (tc_one hsv)
          have hb4 := hb3.ext x4
          have hb5 := hb4.ext x5
          have hcv4 := hcv.ext x4
          have c45 := c4.ext x5
          have x45 := x4.trans x5
          have hsu5 := hsu.ext x45
          have hsv5 := hsv.ext x45
          have stay : stJoin (x, mkTF [u, v]) u v = .inl (x, mkTF [u, v]) → red (x, mkTF [u, v]) = (x, mkTF [u, v]) := fun e => by rw [hred, e]; rfl
          by_cases g1 : u.1.op = 19
          rotate_left
          ·
            have e1 := stay (by unfold stJoin; rw [if_neg (fun e => g1 e.1)])
            have hq := fun w (xw : Ext _ w) => hSame w ((x3.trans x45).trans xw) e1
            refine ⟨_, hb3.1, ?_⟩
            refine Or.inl ((hI _).mono ?_)
            rintro _ _ ⟨rfl, rfl⟩
            refine ⟨_, hb3.1, ?_⟩
            refine br_dec_false (show ¬ x.op = 1 by omega) ?_
            refine br_dec_false (show ¬ x.op = 2 by omega) ?_
            refine br_dec_false (show ¬ x.op = 17 by omega) ?_
            refine br_dec_false (show ¬ x.op = 19 by omega) ?_
            refine br_dec_false (show ¬ x.op = 20 by omega) ?_
            refine br_dec_false (show ¬ x.op = 21 by omega) ?_
            refine br_dec_true h18 ?_
            refine ⟨_, hb3.2.2.2.2.1, ⟨by decide, len2p u v⟩, tc u.1 su, rfl, hcu, f4, ?_⟩
            refine ⟨_, hb4.2.2.2.2.1, ⟨by decide, len2q u v⟩, tc v.1 sv, rfl, hcv4, f5, ?_⟩
            refine .inl ⟨by kernel_rfl, _, c45.1, ?_⟩
            repeat refine br_dec_false g1 ?_
            intro w6 x6
            refine ⟨tc x _, rfl, hb5.ext x6, ?_⟩
            exact hq w6 x6
          by_cases g2 : v.1.op = 19
          rotate_left
          ·
            have e1 := stay (by unfold stJoin; rw [if_neg (fun e => g2 e.2.1)])
            have hq := fun w (xw : Ext _ w) => hSame w ((x3.trans x45).trans xw) e1
            refine ⟨_, hb3.1, ?_⟩
            refine Or.inl ((hI _).mono ?_)
            rintro _ _ ⟨rfl, rfl⟩
            refine ⟨_, hb3.1, ?_⟩
            refine br_dec_false (show ¬ x.op = 1 by omega) ?_
            refine br_dec_false (show ¬ x.op = 2 by omega) ?_
            refine br_dec_false (show ¬ x.op = 17 by omega) ?_
            refine br_dec_false (show ¬ x.op = 19 by omega) ?_
            refine br_dec_false (show ¬ x.op = 20 by omega) ?_
            refine br_dec_false (show ¬ x.op = 21 by omega) ?_
            refine br_dec_true h18 ?_
            refine ⟨_, hb3.2.2.2.2.1, ⟨by decide, len2p u v⟩, tc u.1 su, rfl, hcu, f4, ?_⟩
            refine ⟨_, hb4.2.2.2.2.1, ⟨by decide, len2q u v⟩, tc v.1 sv, rfl, hcv4, f5, ?_⟩
            refine .inl ⟨by kernel_rfl, _, c45.1, ?_⟩
            repeat refine br_dec_true g1 ?_
            refine ⟨_, c5.1, ?_⟩
            repeat refine br_dec_true g1 ?_
            repeat refine br_dec_false g2 ?_
            intro w6 x6
            refine ⟨tc x _, rfl, hb5.ext x6, ?_⟩
            exact hq w6 x6
          obtain ⟨g, hug, hgo⟩ := ok_1 (x := u.1) (k := u.2) hu (by omega)
          obtain ⟨r, hvr, hro⟩ := ok_1 (x := v.1) (k := v.2) hv (by omega)
          have hsuI := hsu5
          have hsvI := hsv5
          rw [hug] at hsuI
          rw [hvr] at hsvI
          obtain ⟨p2, o2, c2, sg, e2, hcg, hsg⟩ := kids1 hsuI
          obtain ⟨p3, o3, c3, sr, e3, hcr, hsr⟩ := kids1 hsvI
          have lu := c45.2.2.2.2.1.trans (congrArg some e2)
          have lv := c5.2.2.2.2.1.trans (congrArg some e3)
          have k1 : kid u.2 0 = g := by rw [hug, kid0]
          have k2 : kid v.2 0 = r := by rw [hvr, kid0]
          have hsm := fun w (xw : Ext _ w) => l02Same_ret g r sg sr w ((hsg.ext xw).mono fun _ _ => trivial) ((hsr.ext xw).mono fun _ _ => trivial)
          have hvn := fit_cut hv.1 g2
          have hvw := hv.1.width
          have hkw : kw (hdF v.2) 0 ≤ 16 := by
            rw [hvr]
            exact hro.1.width.2
          by_cases g3 : cmpT g r = 0
          rotate_left
          ·
            have e1 := stay (by unfold stJoin; rw [if_neg (fun e => g3 (by rw [← k1, ← k2]; exact e.2.2.2))])
            have hq := fun w (xw : Ext _ w) => hSame w ((x3.trans x45).trans xw) e1
            refine ⟨_, hb3.1, ?_⟩
            refine Or.inl ((hI _).mono ?_)
            rintro _ _ ⟨rfl, rfl⟩
            refine ⟨_, hb3.1, ?_⟩
            refine br_dec_false (show ¬ x.op = 1 by omega) ?_
            refine br_dec_false (show ¬ x.op = 2 by omega) ?_
            refine br_dec_false (show ¬ x.op = 17 by omega) ?_
            refine br_dec_false (show ¬ x.op = 19 by omega) ?_
            refine br_dec_false (show ¬ x.op = 20 by omega) ?_
            refine br_dec_false (show ¬ x.op = 21 by omega) ?_
            refine br_dec_true h18 ?_
            refine ⟨_, hb3.2.2.2.2.1, ⟨by decide, len2p u v⟩, tc u.1 su, rfl, hcu, f4, ?_⟩
            refine ⟨_, hb4.2.2.2.2.1, ⟨by decide, len2q u v⟩, tc v.1 sv, rfl, hcv4, f5, ?_⟩
            refine .inl ⟨by kernel_rfl, _, c45.1, ?_⟩
            repeat refine br_dec_true g1 ?_
            refine ⟨_, c5.1, ?_⟩
            repeat refine br_dec_true g1 ?_
            repeat refine br_dec_true g2 ?_
            refine ⟨_, lu, ?_⟩
            repeat refine br_dec_true g2 ?_
            refine ⟨⟨by decide, by decide⟩, ?_⟩
            repeat refine br_dec_true g2 ?_
            refine ⟨tc g.1 sg, rfl, hcg, ?_⟩
            repeat refine br_dec_true g2 ?_
            refine ⟨_, lv, ?_⟩
            repeat refine br_dec_true g2 ?_
            refine ⟨⟨by decide, by decide⟩, ?_⟩
            repeat refine br_dec_true g2 ?_
            refine ⟨tc r.1 sr, rfl, hcr, ?_⟩
            repeat refine br_dec_true g2 ?_
            refine ⟨_, fun w' xw => hsm w' xw, ?_⟩
            repeat refine br_dec_true g2 ?_
            repeat refine br_dec_false g3 ?_
            intro w6 x6
            refine ⟨tc x _, rfl, hb5.ext x6, ?_⟩
            exact hq w6 x6
          by_cases g4 : u.1.n = v.1.n + v.1.w
          rotate_left
          ·
            have e1 := stay (by unfold stJoin; rw [if_neg (fun e => g4 e.2.2.1)])
            have hq := fun w (xw : Ext _ w) => hSame w ((x3.trans x45).trans xw) e1
            refine ⟨_, hb3.1, ?_⟩
            refine Or.inl ((hI _).mono ?_)
            rintro _ _ ⟨rfl, rfl⟩
            refine ⟨_, hb3.1, ?_⟩
            refine br_dec_false (show ¬ x.op = 1 by omega) ?_
            refine br_dec_false (show ¬ x.op = 2 by omega) ?_
            refine br_dec_false (show ¬ x.op = 17 by omega) ?_
            refine br_dec_false (show ¬ x.op = 19 by omega) ?_
            refine br_dec_false (show ¬ x.op = 20 by omega) ?_
            refine br_dec_false (show ¬ x.op = 21 by omega) ?_
            refine br_dec_true h18 ?_
            refine ⟨_, hb3.2.2.2.2.1, ⟨by decide, len2p u v⟩, tc u.1 su, rfl, hcu, f4, ?_⟩
            refine ⟨_, hb4.2.2.2.2.1, ⟨by decide, len2q u v⟩, tc v.1 sv, rfl, hcv4, f5, ?_⟩
            refine .inl ⟨by kernel_rfl, _, c45.1, ?_⟩
            repeat refine br_dec_true g1 ?_
            refine ⟨_, c5.1, ?_⟩
            repeat refine br_dec_true g1 ?_
            repeat refine br_dec_true g2 ?_
            refine ⟨_, lu, ?_⟩
            repeat refine br_dec_true g2 ?_
            refine ⟨⟨by decide, by decide⟩, ?_⟩
            repeat refine br_dec_true g2 ?_
            refine ⟨tc g.1 sg, rfl, hcg, ?_⟩
            repeat refine br_dec_true g2 ?_
            refine ⟨_, lv, ?_⟩
            repeat refine br_dec_true g2 ?_
            refine ⟨⟨by decide, by decide⟩, ?_⟩
            repeat refine br_dec_true g2 ?_
            refine ⟨tc r.1 sr, rfl, hcr, ?_⟩
            repeat refine br_dec_true g2 ?_
            refine ⟨_, fun w' xw => hsm w' xw, ?_⟩
            repeat refine br_dec_true g2 ?_
            repeat refine br_dec_true g3 ?_
            refine ⟨_, c45.2.2.1, ?_⟩
            repeat refine br_dec_true g3 ?_
            refine ⟨_, c5.2.2.1, ?_⟩
            repeat refine br_dec_true g3 ?_
            refine ⟨_, c5.2.1, ?_⟩
            repeat refine br_dec_true g3 ?_
            refine ⟨_, IntWalk.i64_in _ (by omega), ?_⟩
            repeat refine br_dec_true g3 ?_
            intro w6 x6
            refine br_dec_false g4 ?_
            refine ⟨tc x _, rfl, hb5.ext x6, ?_⟩
            exact hq w6 x6
          have e0 : stJoin (x, mkTF [u, v]) u v = .inr (mkn 19 x.w v.1.n, mkTF [kid v.2 0]) := by unfold stJoin; rw [if_pos ⟨g1, g2, g4, by rw [k1, k2]; exact g3⟩]
          have e1 : red (x, mkTF [u, v]) = red (mkn 19 x.w v.1.n, mkTF [kid v.2 0]) := by rw [hred, e0]; rfl
          rw [e0] at hg
          have hg' : Keeps (x, mkTF [u, v]) (mkn 19 x.w v.1.n, mkTF [kid v.2 0]) ∧ ms (mkn 19 x.w v.1.n, mkTF [kid v.2 0]) < ms (x, mkTF [u, v]) ∧ _ := hg
          have hlt2 : ms (mkn 19 x.w v.1.n, mkTF [kid v.2 0]) < n := Nat.lt_of_lt_of_le hg'.2.1 (Nat.le_of_lt_succ hm)
          have hkv : mkTF [kid v.2 0] = v.2 := by rw [hvr, kid0]
          have hsk := hsv5
          rw [← hkv] at hsk
          obtain ⟨a2, c2, e5, _⟩ := id hsk
          have lsv := c5.2.2.2.2.1.trans (congrArg some e5)
          have hq := fun w (xw : Ext _ w) => fin_of (hr.ext ((x3.trans x45).trans xw)) hB (Nat.lt_of_lt_of_le hlt ((x3.trans x45).trans xw).size) (x1.trans ((x3.trans x45).trans xw)) (ih (mkn 19 x.w v.1.n, mkTF [kid v.2 0]) (.slice a2 (mkTF [kid v.2 0]).len c2) _ w hlt2 hg'.1.ok (by rw [← e5]; exact hsk.ext xw))
          rw [e1]
          refine ⟨_, hb3.1, ?_⟩
          refine Or.inl ((hI _).mono ?_)
          rintro _ _ ⟨rfl, rfl⟩
          refine ⟨_, hb3.1, ?_⟩
          refine br_dec_false (show ¬ x.op = 1 by omega) ?_
          refine br_dec_false (show ¬ x.op = 2 by omega) ?_
          refine br_dec_false (show ¬ x.op = 17 by omega) ?_
          refine br_dec_false (show ¬ x.op = 19 by omega) ?_
          refine br_dec_false (show ¬ x.op = 20 by omega) ?_
          refine br_dec_false (show ¬ x.op = 21 by omega) ?_
          refine br_dec_true h18 ?_
          refine ⟨_, hb3.2.2.2.2.1, ⟨by decide, len2p u v⟩, tc u.1 su, rfl, hcu, f4, ?_⟩
          refine ⟨_, hb4.2.2.2.2.1, ⟨by decide, len2q u v⟩, tc v.1 sv, rfl, hcv4, f5, ?_⟩
          refine .inl ⟨by kernel_rfl, _, c45.1, ?_⟩
          repeat refine br_dec_true g1 ?_
          refine ⟨_, c5.1, ?_⟩
          repeat refine br_dec_true g1 ?_
          repeat refine br_dec_true g2 ?_
          refine ⟨_, lu, ?_⟩
          repeat refine br_dec_true g2 ?_
          refine ⟨⟨by decide, by decide⟩, ?_⟩
          repeat refine br_dec_true g2 ?_
          refine ⟨tc g.1 sg, rfl, hcg, ?_⟩
          repeat refine br_dec_true g2 ?_
          refine ⟨_, lv, ?_⟩
          repeat refine br_dec_true g2 ?_
          refine ⟨⟨by decide, by decide⟩, ?_⟩
          repeat refine br_dec_true g2 ?_
          refine ⟨tc r.1 sr, rfl, hcr, ?_⟩
          repeat refine br_dec_true g2 ?_
          refine ⟨_, fun w' xw => hsm w' xw, ?_⟩
          repeat refine br_dec_true g2 ?_
          repeat refine br_dec_true g3 ?_
          refine ⟨_, c45.2.2.1, ?_⟩
          repeat refine br_dec_true g3 ?_
          refine ⟨_, c5.2.2.1, ?_⟩
          repeat refine br_dec_true g3 ?_
          refine ⟨_, c5.2.1, ?_⟩
          repeat refine br_dec_true g3 ?_
          refine ⟨_, IntWalk.i64_in _ (by omega), ?_⟩
          repeat refine br_dec_true g3 ?_
          intro w6 x6
          refine br_dec_true g4 ?_
          refine ⟨_, x6.cell hb5.2.1, _, x6.cell c5.2.2.1, _, x6.cell lsv, ?_⟩
          refine Or.inl ((hq w6 x6).mono ?_)
          rintro _ w7 ⟨s7, rfl, hf⟩
          exact hf
theorem makeS : MakeS := fun t s ok W h hs => l02Make_all (ms t + 1) t s ok W (Nat.lt_succ_self _) h hs
end Go.Proofs.YtkoaicjcanplaaaGreat
