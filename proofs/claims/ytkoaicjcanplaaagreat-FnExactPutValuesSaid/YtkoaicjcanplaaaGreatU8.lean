/- Reference: l02First. (printed by genU8.py) -/
import Derived.Test.YtkoaicjcanplaaaGreatU4
import Derived.Test.YtkoaicjcanplaaaGreatQ1
namespace Go.Proofs.YtkoaicjcanplaaaGreat
open Go Go.Vc Go.RowKit
set_option linter.unusedVariables false
section
variable {n : Nat} {x : Lab} {a b : Tm} {s : Value} {ok : Nat → Prop} {W : World}
theorem fin_t {B g : Nat} {args : Array Value} {t : Tm} {w : World} (bb : Bool) (hr : Rmy w B 5) (hB : W.heap.size ≤ B) (hl : B < w.heap.size) (hx : Ext W w) (h : Ret Tryz.prog g args w (TRes (okB B W ok) t w)) :
    Ret Tryz.prog g args w (fun v w' => ∃ s2, v = tv t.1 s2 ∧ FreeAll w' B 0 (tc t.1 s2) ∧ ∃ vs, vs.length = 5 ∧ CellsAt (setCells w' B 0 (tc t.1 s2)) B 0 vs ∧ FirR ok bb t W (.tuple #[.agg vs.toArray, .bool bb]) (setCells w' B 0 (tc t.1 s2))) :=
  h.mono fun v w' hh => by
    obtain ⟨x2, s2, rfl, hs2⟩ := res_in hh hl hx.size
    exact ⟨s2, rfl, fin5t bb (hr.ext x2) hB (hx.trans x2) hs2⟩
theorem out_l (u d : Tm) : ((some (Sum.inl u : St)).map outT).getD d = u := rfl
theorem out_r (u d : Tm) : ((some (Sum.inr u : St)).map outT).getD d = red u := by simp only [Option.map_some, Option.getD_some, outT]
theorem out_n (d : Tm) : ((none : Option St).map outT).getD d = d := rfl
set_option maxHeartbeats 16000000 in
theorem l02First_3 (hR : RedS 54 n) (h : OkT (x, mkTF [a, b])) (ho : 3 ≤ x.op ∧ x.op ≤ 16) (ha0 : a.1.op = 0) (hm : ms (x, mkTF [a, b]) < n + 1) (hk : x.op = 3) (hs : TSl ok W s (mkTF [a, b])) :
    Ret Tryz.prog 93 #[tv x s] W (FirR ok (stFirst x.op x.w a b).isSome (((stFirst x.op x.w a b).map outT).getD (x, mkTF [a, b])) W) := by
  have hg := first_good h ho ha0
  have hW := bin_w h ho
  have ha : OkT a := h.2.1
  have hN : NodeOk a.1 (hdF a.2) := ha.1
  have haw := hN.width
  have hop := ones_pos haw
  have haC : a = conT a.1.w a.1.n := by
    refine Prod.ext ?_ (ok_nil (x := a.1) (k := a.2) ha (.inl ha0))
    obtain ⟨⟨q1, q2, q3, q4⟩, k⟩ := a
    have e1 : q1 = 0 := ha0
    have e4 : q4 = ByteArray.empty := hN.noname (by show q1 ≠ 22; omega)
    subst e1
    subst e4
    rfl
  obtain ⟨p, o, c, sa, sb, hs0, hca, hcb, hsa, hsb⟩ := kids2 hs
  obtain ⟨s0, rfl⟩ : ∃ s0, s0 = s := ⟨_, rfl⟩
  have x2 : Ext W (bzW (bxW W x s0)) := (bx_ext W x s0).trans (bz_ext _)
  have hb2 := (bx_at W x s0).ext (bz_ext (bxW W x s0))
  obtain ⟨f3, c3, x3⟩ := keep5 (W := (bzW (bxW W x s0))) (x := a.1) (s := sa) (tc_one hsa)
  obtain ⟨f4, c4, x4⟩ := keep5 (W := (setCells (bzW (bzW (bxW W x s0))) (bzW (bxW W x s0)).heap.size 0 (tc a.1 sa))) (x := b.1) (s := sb) (tc_one hsb)
  have hca2 : CellsAt (bzW (bxW W x s0)) p o (tc a.1 sa) := hca.ext x2
  have hcb3 : CellsAt (setCells (bzW (bzW (bxW W x s0))) (bzW (bxW W x s0)).heap.size 0 (tc a.1 sa)) p (o + 5) (tc b.1 sb) := hcb.ext (x2.trans x3)
  have hb3 := hb2.ext x3
  have P : Pre2 W x s0 (mkTF [a, b]) a b sa sb ok (bxW W x s0).heap.size (bzW (bxW W x s0)).heap.size (setCells (bzW (bzW (bxW W x s0))) (bzW (bxW W x s0)).heap.size 0 (tc a.1 sa)).heap.size (setCells (bzW (setCells (bzW (bzW (bxW W x s0))) (bzW (bxW W x s0)).heap.size 0 (tc a.1 sa))) (setCells (bzW (bzW (bxW W x s0))) (bzW (bxW W x s0)).heap.size 0 (tc a.1 sa)).heap.size 0 (tc b.1 sb)) := pre2 hs hsa hsb (x3.trans x4) (c3.ext x4) c4
  have l2 := hb2.2.2.2.2.1.trans (congrArg some hs0)
  have l3 := hb3.2.2.2.2.1.trans (congrArg some hs0)
  have hI := fun w => l02Is_ret a.1 a.2 sa 0 w
  have hO := fun w => l02Ones_ret a.1 a.2 sa w hN
  by_cases hz : a.1.n = 0
  ·
    have hu : ¬ a.1.n = ones a.1.w := by omega
    have e : stFirst x.op x.w a b = some (.inl b) := by unfold stFirst; rw [if_pos (by omega)]
    rw [e, out_l, Option.isSome_some]
    have zl : isC (a.1, a.2) 0 = true := isC_iff.2 ⟨ha0, hz⟩
    have ul : decide (a.1.op = 0 ∧ a.1.n = ones a.1.w) = false := decide_eq_false (fun e => hu e.2)
    simp only [zl] at hI
    simp only [ul] at hO
    refine ret_of_vc ties mixed Tryz.func93 rfl (by kernel_rfl) rfl rfl ?_
    refine ⟨_, l2, ⟨by decide, by decide⟩, tc a.1 sa, rfl, hca2, f3, ?_⟩
    refine ⟨_, l3, ⟨by decide, by decide⟩, tc b.1 sb, rfl, hcb3, f4, ?_⟩
    refine ⟨tc a.1 sa, rfl, P.ca, ?_⟩
    refine Or.inl ((hI _).mono ?_)
    rintro _ w5 ⟨rfl, x5⟩
    replace P := P.step x5
    refine ⟨tc a.1 sa, rfl, P.ca, ?_⟩
    refine Or.inl ((hO _).mono ?_)
    rintro _ w6 ⟨rfl, x6⟩
    replace P := P.step x6
    refine ⟨_, P.hb.1, ?_⟩
    repeat refine br_dec_true hk ?_
    refine ⟨tc b.1 sb, rfl, P.cb, ?_⟩
    exact fin5t true P.r P.hB P.ext P.sb
  by_cases hu : a.1.n = ones a.1.w
  ·
    have e : stFirst x.op x.w a b = none := by unfold stFirst; rw [if_neg (by omega), if_neg (by omega), if_neg (by omega), if_neg (by omega)]
    rw [e, out_n, Option.isSome_none]
    have zl : isC (a.1, a.2) 0 = false := is_false (t := a) (fun e => hz (isC_iff.1 e).2)
    have ul : decide (a.1.op = 0 ∧ a.1.n = ones a.1.w) = true := decide_eq_true ⟨ha0, hu⟩
    simp only [zl] at hI
    simp only [ul] at hO
    refine ret_of_vc ties mixed Tryz.func93 rfl (by kernel_rfl) rfl rfl ?_
    refine ⟨_, l2, ⟨by decide, by decide⟩, tc a.1 sa, rfl, hca2, f3, ?_⟩
    refine ⟨_, l3, ⟨by decide, by decide⟩, tc b.1 sb, rfl, hcb3, f4, ?_⟩
    refine ⟨tc a.1 sa, rfl, P.ca, ?_⟩
    refine Or.inl ((hI _).mono ?_)
    rintro _ w5 ⟨rfl, x5⟩
    replace P := P.step x5
    refine ⟨tc a.1 sa, rfl, P.ca, ?_⟩
    refine Or.inl ((hO _).mono ?_)
    rintro _ w6 ⟨rfl, x6⟩
    replace P := P.step x6
    refine ⟨_, P.hb.1, ?_⟩
    repeat refine br_dec_true hk ?_
    refine ⟨_, P.hb.1, ?_⟩
    repeat refine br_dec_false (by omega : ¬ x.op = 9) ?_
    refine ⟨_, P.hb.1, ?_⟩
    repeat refine br_dec_false (by omega : ¬ x.op = 10) ?_
    refine ⟨_, P.hb.1, ?_⟩
    repeat refine br_dec_false (by omega : ¬ x.op = 5) ?_
    refine ⟨_, P.hb.1, ?_⟩
    repeat refine br_dec_false (by omega : ¬ x.op = 8) ?_
    refine ⟨_, P.hb.1, ?_⟩
    repeat refine br_dec_false (by omega : ¬ x.op = 9) ?_
    refine ⟨_, P.hb.1, ?_⟩
    repeat refine br_dec_false (by omega : ¬ x.op = 5) ?_
    refine ⟨_, P.hb.1, ?_⟩
    repeat refine br_dec_false (by omega : ¬ x.op = 8) ?_
    refine ⟨_, P.hb.1, ?_⟩
    repeat refine br_dec_false (by omega : ¬ x.op = 10) ?_
    refine ⟨_, P.hb.1, ?_⟩
    repeat refine br_dec_false (by omega : ¬ x.op = 14) ?_
    refine ⟨_, P.hb.1, ?_⟩
    repeat refine br_dec_false (by omega : ¬ x.op = 14) ?_
    refine ⟨tc x s0, rfl, P.hb, ?_⟩
    exact fin5t false P.r P.hB P.ext P.s
  ·
    have e : stFirst x.op x.w a b = none := by unfold stFirst; rw [if_neg (by omega), if_neg (by omega), if_neg (by omega), if_neg (by omega)]
    rw [e, out_n, Option.isSome_none]
    have zl : isC (a.1, a.2) 0 = false := is_false (t := a) (fun e => hz (isC_iff.1 e).2)
    have ul : decide (a.1.op = 0 ∧ a.1.n = ones a.1.w) = false := decide_eq_false (fun e => hu e.2)
    simp only [zl] at hI
    simp only [ul] at hO
    refine ret_of_vc ties mixed Tryz.func93 rfl (by kernel_rfl) rfl rfl ?_
    refine ⟨_, l2, ⟨by decide, by decide⟩, tc a.1 sa, rfl, hca2, f3, ?_⟩
    refine ⟨_, l3, ⟨by decide, by decide⟩, tc b.1 sb, rfl, hcb3, f4, ?_⟩
    refine ⟨tc a.1 sa, rfl, P.ca, ?_⟩
    refine Or.inl ((hI _).mono ?_)
    rintro _ w5 ⟨rfl, x5⟩
    replace P := P.step x5
    refine ⟨tc a.1 sa, rfl, P.ca, ?_⟩
    refine Or.inl ((hO _).mono ?_)
    rintro _ w6 ⟨rfl, x6⟩
    replace P := P.step x6
    refine ⟨_, P.hb.1, ?_⟩
    repeat refine br_dec_true hk ?_
    refine ⟨_, P.hb.1, ?_⟩
    repeat refine br_dec_false (by omega : ¬ x.op = 9) ?_
    refine ⟨_, P.hb.1, ?_⟩
    repeat refine br_dec_false (by omega : ¬ x.op = 10) ?_
    refine ⟨_, P.hb.1, ?_⟩
    repeat refine br_dec_false (by omega : ¬ x.op = 5) ?_
    refine ⟨_, P.hb.1, ?_⟩
    repeat refine br_dec_false (by omega : ¬ x.op = 8) ?_
    refine ⟨_, P.hb.1, ?_⟩
    repeat refine br_dec_false (by omega : ¬ x.op = 9) ?_
    refine ⟨_, P.hb.1, ?_⟩
    repeat refine br_dec_false (by omega : ¬ x.op = 5) ?_
    refine ⟨_, P.hb.1, ?_⟩
    repeat refine br_dec_false (by omega : ¬ x.op = 8) ?_
    refine ⟨_, P.hb.1, ?_⟩
    repeat refine br_dec_false (by omega : ¬ x.op = 10) ?_
    refine ⟨_, P.hb.1, ?_⟩
    repeat refine br_dec_false (by omega : ¬ x.op = 14) ?_
    refine ⟨_, P.hb.1, ?_⟩
    repeat refine br_dec_false (by omega : ¬ x.op = 14) ?_
    refine ⟨tc x s0, rfl, P.hb, ?_⟩
    exact fin5t false P.r P.hB P.ext P.s
set_option maxHeartbeats 16000000 in
theorem l02First_5 (hR : RedS 54 n) (h : OkT (x, mkTF [a, b])) (ho : 3 ≤ x.op ∧ x.op ≤ 16) (ha0 : a.1.op = 0) (hm : ms (x, mkTF [a, b]) < n + 1) (hk : x.op = 5) (hs : TSl ok W s (mkTF [a, b])) :
    Ret Tryz.prog 93 #[tv x s] W (FirR ok (stFirst x.op x.w a b).isSome (((stFirst x.op x.w a b).map outT).getD (x, mkTF [a, b])) W) := by
  have hg := first_good h ho ha0
  have hW := bin_w h ho
  have ha : OkT a := h.2.1
  have hN : NodeOk a.1 (hdF a.2) := ha.1
  have haw := hN.width
  have hop := ones_pos haw
  have haC : a = conT a.1.w a.1.n := by
    refine Prod.ext ?_ (ok_nil (x := a.1) (k := a.2) ha (.inl ha0))
    obtain ⟨⟨q1, q2, q3, q4⟩, k⟩ := a
    have e1 : q1 = 0 := ha0
    have e4 : q4 = ByteArray.empty := hN.noname (by show q1 ≠ 22; omega)
    subst e1
    subst e4
    rfl
  obtain ⟨p, o, c, sa, sb, hs0, hca, hcb, hsa, hsb⟩ := kids2 hs
  obtain ⟨s0, rfl⟩ : ∃ s0, s0 = s := ⟨_, rfl⟩
  have x2 : Ext W (bzW (bxW W x s0)) := (bx_ext W x s0).trans (bz_ext _)
  have hb2 := (bx_at W x s0).ext (bz_ext (bxW W x s0))
  obtain ⟨f3, c3, x3⟩ := keep5 (W := (bzW (bxW W x s0))) (x := a.1) (s := sa) (tc_one hsa)
  obtain ⟨f4, c4, x4⟩ := keep5 (W := (setCells (bzW (bzW (bxW W x s0))) (bzW (bxW W x s0)).heap.size 0 (tc a.1 sa))) (x := b.1) (s := sb) (tc_one hsb)
  have hca2 : CellsAt (bzW (bxW W x s0)) p o (tc a.1 sa) := hca.ext x2
  have hcb3 : CellsAt (setCells (bzW (bzW (bxW W x s0))) (bzW (bxW W x s0)).heap.size 0 (tc a.1 sa)) p (o + 5) (tc b.1 sb) := hcb.ext (x2.trans x3)
  have hb3 := hb2.ext x3
  have P : Pre2 W x s0 (mkTF [a, b]) a b sa sb ok (bxW W x s0).heap.size (bzW (bxW W x s0)).heap.size (setCells (bzW (bzW (bxW W x s0))) (bzW (bxW W x s0)).heap.size 0 (tc a.1 sa)).heap.size (setCells (bzW (setCells (bzW (bzW (bxW W x s0))) (bzW (bxW W x s0)).heap.size 0 (tc a.1 sa))) (setCells (bzW (bzW (bxW W x s0))) (bzW (bxW W x s0)).heap.size 0 (tc a.1 sa)).heap.size 0 (tc b.1 sb)) := pre2 hs hsa hsb (x3.trans x4) (c3.ext x4) c4
  have l2 := hb2.2.2.2.2.1.trans (congrArg some hs0)
  have l3 := hb3.2.2.2.2.1.trans (congrArg some hs0)
  have hI := fun w => l02Is_ret a.1 a.2 sa 0 w
  have hO := fun w => l02Ones_ret a.1 a.2 sa w hN
  by_cases hz : a.1.n = 0
  ·
    have hu : ¬ a.1.n = ones a.1.w := by omega
    have e : stFirst x.op x.w a b = some (.inl (conT x.w 0)) := by unfold stFirst; rw [if_neg (by omega), if_pos (by omega)]
    have ea : conT x.w 0 = a := (congr (congrArg conT (hW.arith (by omega)).symm) hz.symm).trans haC.symm
    rw [e, out_l, Option.isSome_some, ea]
    have zl : isC (a.1, a.2) 0 = true := isC_iff.2 ⟨ha0, hz⟩
    have ul : decide (a.1.op = 0 ∧ a.1.n = ones a.1.w) = false := decide_eq_false (fun e => hu e.2)
    simp only [zl] at hI
    simp only [ul] at hO
    refine ret_of_vc ties mixed Tryz.func93 rfl (by kernel_rfl) rfl rfl ?_
    refine ⟨_, l2, ⟨by decide, by decide⟩, tc a.1 sa, rfl, hca2, f3, ?_⟩
    refine ⟨_, l3, ⟨by decide, by decide⟩, tc b.1 sb, rfl, hcb3, f4, ?_⟩
    refine ⟨tc a.1 sa, rfl, P.ca, ?_⟩
    refine Or.inl ((hI _).mono ?_)
    rintro _ w5 ⟨rfl, x5⟩
    replace P := P.step x5
    refine ⟨tc a.1 sa, rfl, P.ca, ?_⟩
    refine Or.inl ((hO _).mono ?_)
    rintro _ w6 ⟨rfl, x6⟩
    replace P := P.step x6
    refine ⟨_, P.hb.1, ?_⟩
    repeat refine br_dec_false (by omega : ¬ x.op = 3) ?_
    refine ⟨_, P.hb.1, ?_⟩
    repeat refine br_dec_false (by omega : ¬ x.op = 9) ?_
    refine ⟨_, P.hb.1, ?_⟩
    repeat refine br_dec_false (by omega : ¬ x.op = 10) ?_
    refine ⟨_, P.hb.1, ?_⟩
    repeat refine br_dec_true hk ?_
    refine ⟨tc a.1 sa, rfl, P.ca, ?_⟩
    exact fin5t true P.r P.hB P.ext P.sa
  by_cases hu : a.1.n = ones a.1.w
  ·
    by_cases h1 : a.1.n = 1
    ·
      have e : stFirst x.op x.w a b = some (.inl b) := by unfold stFirst; rw [if_pos (by omega)]
      rw [e, out_l, Option.isSome_some]
      have zl : isC (a.1, a.2) 0 = false := is_false (t := a) (fun e => hz (isC_iff.1 e).2)
      have ul : decide (a.1.op = 0 ∧ a.1.n = ones a.1.w) = true := decide_eq_true ⟨ha0, hu⟩
      simp only [zl] at hI
      simp only [ul] at hO
      refine ret_of_vc ties mixed Tryz.func93 rfl (by kernel_rfl) rfl rfl ?_
      refine ⟨_, l2, ⟨by decide, by decide⟩, tc a.1 sa, rfl, hca2, f3, ?_⟩
      refine ⟨_, l3, ⟨by decide, by decide⟩, tc b.1 sb, rfl, hcb3, f4, ?_⟩
      refine ⟨tc a.1 sa, rfl, P.ca, ?_⟩
      refine Or.inl ((hI _).mono ?_)
      rintro _ w5 ⟨rfl, x5⟩
      replace P := P.step x5
      refine ⟨tc a.1 sa, rfl, P.ca, ?_⟩
      refine Or.inl ((hO _).mono ?_)
      rintro _ w6 ⟨rfl, x6⟩
      replace P := P.step x6
      refine ⟨_, P.hb.1, ?_⟩
      repeat refine br_dec_false (by omega : ¬ x.op = 3) ?_
      refine ⟨_, P.hb.1, ?_⟩
      repeat refine br_dec_false (by omega : ¬ x.op = 9) ?_
      refine ⟨_, P.hb.1, ?_⟩
      repeat refine br_dec_false (by omega : ¬ x.op = 10) ?_
      refine ⟨_, P.hb.1, ?_⟩
      repeat refine br_dec_true hk ?_
      refine ⟨_, P.hb.1, ?_⟩
      repeat refine br_dec_false (by omega : ¬ x.op = 8) ?_
      refine ⟨_, P.hb.1, ?_⟩
      repeat refine br_dec_false (by omega : ¬ x.op = 9) ?_
      refine ⟨_, P.hb.1, ?_⟩
      repeat refine br_dec_true hk ?_
      refine ⟨_, P.ca.2.2.1, ?_⟩
      repeat refine br_dec_true hk ?_
      repeat refine br_dec_true h1 ?_
      refine ⟨tc b.1 sb, rfl, P.cb, ?_⟩
      exact fin5t true P.r P.hB P.ext P.sb
    ·
      have e : stFirst x.op x.w a b = none := by unfold stFirst; rw [if_neg (by omega), if_neg (by omega), if_neg (by omega), if_neg (by omega)]
      rw [e, out_n, Option.isSome_none]
      have zl : isC (a.1, a.2) 0 = false := is_false (t := a) (fun e => hz (isC_iff.1 e).2)
      have ul : decide (a.1.op = 0 ∧ a.1.n = ones a.1.w) = true := decide_eq_true ⟨ha0, hu⟩
      simp only [zl] at hI
      simp only [ul] at hO
      refine ret_of_vc ties mixed Tryz.func93 rfl (by kernel_rfl) rfl rfl ?_
      refine ⟨_, l2, ⟨by decide, by decide⟩, tc a.1 sa, rfl, hca2, f3, ?_⟩
      refine ⟨_, l3, ⟨by decide, by decide⟩, tc b.1 sb, rfl, hcb3, f4, ?_⟩
      refine ⟨tc a.1 sa, rfl, P.ca, ?_⟩
      refine Or.inl ((hI _).mono ?_)
      rintro _ w5 ⟨rfl, x5⟩
      replace P := P.step x5
      refine ⟨tc a.1 sa, rfl, P.ca, ?_⟩
      refine Or.inl ((hO _).mono ?_)
      rintro _ w6 ⟨rfl, x6⟩
      replace P := P.step x6
      refine ⟨_, P.hb.1, ?_⟩
      repeat refine br_dec_false (by omega : ¬ x.op = 3) ?_
      refine ⟨_, P.hb.1, ?_⟩
      repeat refine br_dec_false (by omega : ¬ x.op = 9) ?_
      refine ⟨_, P.hb.1, ?_⟩
      repeat refine br_dec_false (by omega : ¬ x.op = 10) ?_
      refine ⟨_, P.hb.1, ?_⟩
      repeat refine br_dec_true hk ?_
      refine ⟨_, P.hb.1, ?_⟩
      repeat refine br_dec_false (by omega : ¬ x.op = 8) ?_
      refine ⟨_, P.hb.1, ?_⟩
      repeat refine br_dec_false (by omega : ¬ x.op = 9) ?_
      refine ⟨_, P.hb.1, ?_⟩
      repeat refine br_dec_true hk ?_
      refine ⟨_, P.ca.2.2.1, ?_⟩
      repeat refine br_dec_true hk ?_
      repeat refine br_dec_false h1 ?_
      refine ⟨_, P.hb.1, ?_⟩
      repeat refine br_dec_false (by omega : ¬ x.op = 8) ?_
      refine ⟨_, P.hb.1, ?_⟩
      repeat refine br_dec_false (by omega : ¬ x.op = 10) ?_
      refine ⟨_, P.hb.1, ?_⟩
      repeat refine br_dec_false (by omega : ¬ x.op = 14) ?_
      refine ⟨_, P.hb.1, ?_⟩
      repeat refine br_dec_false (by omega : ¬ x.op = 14) ?_
      refine ⟨tc x s0, rfl, P.hb, ?_⟩
      exact fin5t false P.r P.hB P.ext P.s
  ·
    by_cases h1 : a.1.n = 1
    ·
      have e : stFirst x.op x.w a b = some (.inl b) := by unfold stFirst; rw [if_pos (by omega)]
      rw [e, out_l, Option.isSome_some]
      have zl : isC (a.1, a.2) 0 = false := is_false (t := a) (fun e => hz (isC_iff.1 e).2)
      have ul : decide (a.1.op = 0 ∧ a.1.n = ones a.1.w) = false := decide_eq_false (fun e => hu e.2)
      simp only [zl] at hI
      simp only [ul] at hO
      refine ret_of_vc ties mixed Tryz.func93 rfl (by kernel_rfl) rfl rfl ?_
      refine ⟨_, l2, ⟨by decide, by decide⟩, tc a.1 sa, rfl, hca2, f3, ?_⟩
      refine ⟨_, l3, ⟨by decide, by decide⟩, tc b.1 sb, rfl, hcb3, f4, ?_⟩
      refine ⟨tc a.1 sa, rfl, P.ca, ?_⟩
      refine Or.inl ((hI _).mono ?_)
      rintro _ w5 ⟨rfl, x5⟩
      replace P := P.step x5
      refine ⟨tc a.1 sa, rfl, P.ca, ?_⟩
      refine Or.inl ((hO _).mono ?_)
      rintro _ w6 ⟨rfl, x6⟩
      replace P := P.step x6
      refine ⟨_, P.hb.1, ?_⟩
      repeat refine br_dec_false (by omega : ¬ x.op = 3) ?_
      refine ⟨_, P.hb.1, ?_⟩
      repeat refine br_dec_false (by omega : ¬ x.op = 9) ?_
      refine ⟨_, P.hb.1, ?_⟩
      repeat refine br_dec_false (by omega : ¬ x.op = 10) ?_
      refine ⟨_, P.hb.1, ?_⟩
      repeat refine br_dec_true hk ?_
      refine ⟨_, P.hb.1, ?_⟩
      repeat refine br_dec_false (by omega : ¬ x.op = 8) ?_
      refine ⟨_, P.hb.1, ?_⟩
      repeat refine br_dec_false (by omega : ¬ x.op = 9) ?_
      refine ⟨_, P.hb.1, ?_⟩
      repeat refine br_dec_true hk ?_
      refine ⟨_, P.ca.2.2.1, ?_⟩
      repeat refine br_dec_true hk ?_
      repeat refine br_dec_true h1 ?_
      refine ⟨tc b.1 sb, rfl, P.cb, ?_⟩
      exact fin5t true P.r P.hB P.ext P.sb
    ·
      have e : stFirst x.op x.w a b = none := by unfold stFirst; rw [if_neg (by omega), if_neg (by omega), if_neg (by omega), if_neg (by omega)]
      rw [e, out_n, Option.isSome_none]
      have zl : isC (a.1, a.2) 0 = false := is_false (t := a) (fun e => hz (isC_iff.1 e).2)
      have ul : decide (a.1.op = 0 ∧ a.1.n = ones a.1.w) = false := decide_eq_false (fun e => hu e.2)
      simp only [zl] at hI
      simp only [ul] at hO
      refine ret_of_vc ties mixed Tryz.func93 rfl (by kernel_rfl) rfl rfl ?_
      refine ⟨_, l2, ⟨by decide, by decide⟩, tc a.1 sa, rfl, hca2, f3, ?_⟩
      refine ⟨_, l3, ⟨by decide, by decide⟩, tc b.1 sb, rfl, hcb3, f4, ?_⟩
      refine ⟨tc a.1 sa, rfl, P.ca, ?_⟩
      refine Or.inl ((hI _).mono ?_)
      rintro _ w5 ⟨rfl, x5⟩
      replace P := P.step x5
      refine ⟨tc a.1 sa, rfl, P.ca, ?_⟩
      refine Or.inl ((hO _).mono ?_)
      rintro _ w6 ⟨rfl, x6⟩
      replace P := P.step x6
      refine ⟨_, P.hb.1, ?_⟩
      repeat refine br_dec_false (by omega : ¬ x.op = 3) ?_
      refine ⟨_, P.hb.1, ?_⟩
      repeat refine br_dec_false (by omega : ¬ x.op = 9) ?_
      refine ⟨_, P.hb.1, ?_⟩
      repeat refine br_dec_false (by omega : ¬ x.op = 10) ?_
      refine ⟨_, P.hb.1, ?_⟩
      repeat refine br_dec_true hk ?_
      refine ⟨_, P.hb.1, ?_⟩
      repeat refine br_dec_false (by omega : ¬ x.op = 8) ?_
      refine ⟨_, P.hb.1, ?_⟩
      repeat refine br_dec_false (by omega : ¬ x.op = 9) ?_
      refine ⟨_, P.hb.1, ?_⟩
      repeat refine br_dec_true hk ?_
      refine ⟨_, P.ca.2.2.1, ?_⟩
      repeat refine br_dec_true hk ?_
      repeat refine br_dec_false h1 ?_
      refine ⟨_, P.hb.1, ?_⟩
      repeat refine br_dec_false (by omega : ¬ x.op = 8) ?_
      refine ⟨_, P.hb.1, ?_⟩
      repeat refine br_dec_false (by omega : ¬ x.op = 10) ?_
      refine ⟨_, P.hb.1, ?_⟩
      repeat refine br_dec_false (by omega : ¬ x.op = 14) ?_
      refine ⟨_, P.hb.1, ?_⟩
      repeat refine br_dec_false (by omega : ¬ x.op = 14) ?_
      refine ⟨tc x s0, rfl, P.hb, ?_⟩
      exact fin5t false P.r P.hB P.ext P.s
set_option maxHeartbeats 16000000 in
theorem l02First_8 (hR : RedS 54 n) (h : OkT (x, mkTF [a, b])) (ho : 3 ≤ x.op ∧ x.op ≤ 16) (ha0 : a.1.op = 0) (hm : ms (x, mkTF [a, b]) < n + 1) (hk : x.op = 8) (hs : TSl ok W s (mkTF [a, b])) :
    Ret Tryz.prog 93 #[tv x s] W (FirR ok (stFirst x.op x.w a b).isSome (((stFirst x.op x.w a b).map outT).getD (x, mkTF [a, b])) W) := by
  have hg := first_good h ho ha0
  have hW := bin_w h ho
  have ha : OkT a := h.2.1
  have hN : NodeOk a.1 (hdF a.2) := ha.1
  have haw := hN.width
  have hop := ones_pos haw
  have haC : a = conT a.1.w a.1.n := by
    refine Prod.ext ?_ (ok_nil (x := a.1) (k := a.2) ha (.inl ha0))
    obtain ⟨⟨q1, q2, q3, q4⟩, k⟩ := a
    have e1 : q1 = 0 := ha0
    have e4 : q4 = ByteArray.empty := hN.noname (by show q1 ≠ 22; omega)
    subst e1
    subst e4
    rfl
  obtain ⟨p, o, c, sa, sb, hs0, hca, hcb, hsa, hsb⟩ := kids2 hs
  obtain ⟨s0, rfl⟩ : ∃ s0, s0 = s := ⟨_, rfl⟩
  have x2 : Ext W (bzW (bxW W x s0)) := (bx_ext W x s0).trans (bz_ext _)
  have hb2 := (bx_at W x s0).ext (bz_ext (bxW W x s0))
  obtain ⟨f3, c3, x3⟩ := keep5 (W := (bzW (bxW W x s0))) (x := a.1) (s := sa) (tc_one hsa)
  obtain ⟨f4, c4, x4⟩ := keep5 (W := (setCells (bzW (bzW (bxW W x s0))) (bzW (bxW W x s0)).heap.size 0 (tc a.1 sa))) (x := b.1) (s := sb) (tc_one hsb)
  have hca2 : CellsAt (bzW (bxW W x s0)) p o (tc a.1 sa) := hca.ext x2
  have hcb3 : CellsAt (setCells (bzW (bzW (bxW W x s0))) (bzW (bxW W x s0)).heap.size 0 (tc a.1 sa)) p (o + 5) (tc b.1 sb) := hcb.ext (x2.trans x3)
  have hb3 := hb2.ext x3
  have P : Pre2 W x s0 (mkTF [a, b]) a b sa sb ok (bxW W x s0).heap.size (bzW (bxW W x s0)).heap.size (setCells (bzW (bzW (bxW W x s0))) (bzW (bxW W x s0)).heap.size 0 (tc a.1 sa)).heap.size (setCells (bzW (setCells (bzW (bzW (bxW W x s0))) (bzW (bxW W x s0)).heap.size 0 (tc a.1 sa))) (setCells (bzW (bzW (bxW W x s0))) (bzW (bxW W x s0)).heap.size 0 (tc a.1 sa)).heap.size 0 (tc b.1 sb)) := pre2 hs hsa hsb (x3.trans x4) (c3.ext x4) c4
  have l2 := hb2.2.2.2.2.1.trans (congrArg some hs0)
  have l3 := hb3.2.2.2.2.1.trans (congrArg some hs0)
  have hI := fun w => l02Is_ret a.1 a.2 sa 0 w
  have hO := fun w => l02Ones_ret a.1 a.2 sa w hN
  by_cases hz : a.1.n = 0
  ·
    have hu : ¬ a.1.n = ones a.1.w := by omega
    have e : stFirst x.op x.w a b = some (.inl (conT x.w 0)) := by unfold stFirst; rw [if_neg (by omega), if_pos (by omega)]
    have ea : conT x.w 0 = a := (congr (congrArg conT (hW.arith (by omega)).symm) hz.symm).trans haC.symm
    rw [e, out_l, Option.isSome_some, ea]
    have zl : isC (a.1, a.2) 0 = true := isC_iff.2 ⟨ha0, hz⟩
    have ul : decide (a.1.op = 0 ∧ a.1.n = ones a.1.w) = false := decide_eq_false (fun e => hu e.2)
    simp only [zl] at hI
    simp only [ul] at hO
    refine ret_of_vc ties mixed Tryz.func93 rfl (by kernel_rfl) rfl rfl ?_
    refine ⟨_, l2, ⟨by decide, by decide⟩, tc a.1 sa, rfl, hca2, f3, ?_⟩
    refine ⟨_, l3, ⟨by decide, by decide⟩, tc b.1 sb, rfl, hcb3, f4, ?_⟩
    refine ⟨tc a.1 sa, rfl, P.ca, ?_⟩
    refine Or.inl ((hI _).mono ?_)
    rintro _ w5 ⟨rfl, x5⟩
    replace P := P.step x5
    refine ⟨tc a.1 sa, rfl, P.ca, ?_⟩
    refine Or.inl ((hO _).mono ?_)
    rintro _ w6 ⟨rfl, x6⟩
    replace P := P.step x6
    refine ⟨_, P.hb.1, ?_⟩
    repeat refine br_dec_false (by omega : ¬ x.op = 3) ?_
    refine ⟨_, P.hb.1, ?_⟩
    repeat refine br_dec_false (by omega : ¬ x.op = 9) ?_
    refine ⟨_, P.hb.1, ?_⟩
    repeat refine br_dec_false (by omega : ¬ x.op = 10) ?_
    refine ⟨_, P.hb.1, ?_⟩
    repeat refine br_dec_false (by omega : ¬ x.op = 5) ?_
    refine ⟨_, P.hb.1, ?_⟩
    repeat refine br_dec_true hk ?_
    refine ⟨tc a.1 sa, rfl, P.ca, ?_⟩
    exact fin5t true P.r P.hB P.ext P.sa
  by_cases hu : a.1.n = ones a.1.w
  ·
    have e : stFirst x.op x.w a b = some (.inl b) := by unfold stFirst; rw [if_pos (by omega)]
    rw [e, out_l, Option.isSome_some]
    have zl : isC (a.1, a.2) 0 = false := is_false (t := a) (fun e => hz (isC_iff.1 e).2)
    have ul : decide (a.1.op = 0 ∧ a.1.n = ones a.1.w) = true := decide_eq_true ⟨ha0, hu⟩
    simp only [zl] at hI
    simp only [ul] at hO
    refine ret_of_vc ties mixed Tryz.func93 rfl (by kernel_rfl) rfl rfl ?_
    refine ⟨_, l2, ⟨by decide, by decide⟩, tc a.1 sa, rfl, hca2, f3, ?_⟩
    refine ⟨_, l3, ⟨by decide, by decide⟩, tc b.1 sb, rfl, hcb3, f4, ?_⟩
    refine ⟨tc a.1 sa, rfl, P.ca, ?_⟩
    refine Or.inl ((hI _).mono ?_)
    rintro _ w5 ⟨rfl, x5⟩
    replace P := P.step x5
    refine ⟨tc a.1 sa, rfl, P.ca, ?_⟩
    refine Or.inl ((hO _).mono ?_)
    rintro _ w6 ⟨rfl, x6⟩
    replace P := P.step x6
    refine ⟨_, P.hb.1, ?_⟩
    repeat refine br_dec_false (by omega : ¬ x.op = 3) ?_
    refine ⟨_, P.hb.1, ?_⟩
    repeat refine br_dec_false (by omega : ¬ x.op = 9) ?_
    refine ⟨_, P.hb.1, ?_⟩
    repeat refine br_dec_false (by omega : ¬ x.op = 10) ?_
    refine ⟨_, P.hb.1, ?_⟩
    repeat refine br_dec_false (by omega : ¬ x.op = 5) ?_
    refine ⟨_, P.hb.1, ?_⟩
    repeat refine br_dec_true hk ?_
    refine ⟨_, P.hb.1, ?_⟩
    repeat refine br_dec_false (by omega : ¬ x.op = 9) ?_
    refine ⟨_, P.hb.1, ?_⟩
    repeat refine br_dec_false (by omega : ¬ x.op = 5) ?_
    refine ⟨_, P.hb.1, ?_⟩
    repeat refine br_dec_true hk ?_
    refine ⟨tc b.1 sb, rfl, P.cb, ?_⟩
    exact fin5t true P.r P.hB P.ext P.sb
  ·
    have e : stFirst x.op x.w a b = none := by unfold stFirst; rw [if_neg (by omega), if_neg (by omega), if_neg (by omega), if_neg (by omega)]
    rw [e, out_n, Option.isSome_none]
    have zl : isC (a.1, a.2) 0 = false := is_false (t := a) (fun e => hz (isC_iff.1 e).2)
    have ul : decide (a.1.op = 0 ∧ a.1.n = ones a.1.w) = false := decide_eq_false (fun e => hu e.2)
    simp only [zl] at hI
    simp only [ul] at hO
    refine ret_of_vc ties mixed Tryz.func93 rfl (by kernel_rfl) rfl rfl ?_
    refine ⟨_, l2, ⟨by decide, by decide⟩, tc a.1 sa, rfl, hca2, f3, ?_⟩
    refine ⟨_, l3, ⟨by decide, by decide⟩, tc b.1 sb, rfl, hcb3, f4, ?_⟩
    refine ⟨tc a.1 sa, rfl, P.ca, ?_⟩
    refine Or.inl ((hI _).mono ?_)
    rintro _ w5 ⟨rfl, x5⟩
    replace P := P.step x5
    refine ⟨tc a.1 sa, rfl, P.ca, ?_⟩
    refine Or.inl ((hO _).mono ?_)
    rintro _ w6 ⟨rfl, x6⟩
    replace P := P.step x6
    refine ⟨_, P.hb.1, ?_⟩
    repeat refine br_dec_false (by omega : ¬ x.op = 3) ?_
    refine ⟨_, P.hb.1, ?_⟩
    repeat refine br_dec_false (by omega : ¬ x.op = 9) ?_
    refine ⟨_, P.hb.1, ?_⟩
    repeat refine br_dec_false (by omega : ¬ x.op = 10) ?_
    refine ⟨_, P.hb.1, ?_⟩
    repeat refine br_dec_false (by omega : ¬ x.op = 5) ?_
    refine ⟨_, P.hb.1, ?_⟩
    repeat refine br_dec_true hk ?_
    refine ⟨_, P.hb.1, ?_⟩
    repeat refine br_dec_false (by omega : ¬ x.op = 9) ?_
    refine ⟨_, P.hb.1, ?_⟩
    repeat refine br_dec_false (by omega : ¬ x.op = 5) ?_
    refine ⟨_, P.hb.1, ?_⟩
    repeat refine br_dec_true hk ?_
    refine ⟨_, P.hb.1, ?_⟩
    repeat refine br_dec_false (by omega : ¬ x.op = 10) ?_
    refine ⟨_, P.hb.1, ?_⟩
    repeat refine br_dec_false (by omega : ¬ x.op = 14) ?_
    refine ⟨_, P.hb.1, ?_⟩
    repeat refine br_dec_false (by omega : ¬ x.op = 14) ?_
    refine ⟨tc x s0, rfl, P.hb, ?_⟩
    exact fin5t false P.r P.hB P.ext P.s
set_option maxHeartbeats 16000000 in
theorem l02First_9 (hR : RedS 54 n) (h : OkT (x, mkTF [a, b])) (ho : 3 ≤ x.op ∧ x.op ≤ 16) (ha0 : a.1.op = 0) (hm : ms (x, mkTF [a, b]) < n + 1) (hk : x.op = 9) (hs : TSl ok W s (mkTF [a, b])) :
    Ret Tryz.prog 93 #[tv x s] W (FirR ok (stFirst x.op x.w a b).isSome (((stFirst x.op x.w a b).map outT).getD (x, mkTF [a, b])) W) := by
  have hg := first_good h ho ha0
  have hW := bin_w h ho
  have ha : OkT a := h.2.1
  have hN : NodeOk a.1 (hdF a.2) := ha.1
  have haw := hN.width
  have hop := ones_pos haw
  have haC : a = conT a.1.w a.1.n := by
    refine Prod.ext ?_ (ok_nil (x := a.1) (k := a.2) ha (.inl ha0))
    obtain ⟨⟨q1, q2, q3, q4⟩, k⟩ := a
    have e1 : q1 = 0 := ha0
    have e4 : q4 = ByteArray.empty := hN.noname (by show q1 ≠ 22; omega)
    subst e1
    subst e4
    rfl
  obtain ⟨p, o, c, sa, sb, hs0, hca, hcb, hsa, hsb⟩ := kids2 hs
  obtain ⟨s0, rfl⟩ : ∃ s0, s0 = s := ⟨_, rfl⟩
  have x2 : Ext W (bzW (bxW W x s0)) := (bx_ext W x s0).trans (bz_ext _)
  have hb2 := (bx_at W x s0).ext (bz_ext (bxW W x s0))
  obtain ⟨f3, c3, x3⟩ := keep5 (W := (bzW (bxW W x s0))) (x := a.1) (s := sa) (tc_one hsa)
  obtain ⟨f4, c4, x4⟩ := keep5 (W := (setCells (bzW (bzW (bxW W x s0))) (bzW (bxW W x s0)).heap.size 0 (tc a.1 sa))) (x := b.1) (s := sb) (tc_one hsb)
  have hca2 : CellsAt (bzW (bxW W x s0)) p o (tc a.1 sa) := hca.ext x2
  have hcb3 : CellsAt (setCells (bzW (bzW (bxW W x s0))) (bzW (bxW W x s0)).heap.size 0 (tc a.1 sa)) p (o + 5) (tc b.1 sb) := hcb.ext (x2.trans x3)
  have hb3 := hb2.ext x3
  have P : Pre2 W x s0 (mkTF [a, b]) a b sa sb ok (bxW W x s0).heap.size (bzW (bxW W x s0)).heap.size (setCells (bzW (bzW (bxW W x s0))) (bzW (bxW W x s0)).heap.size 0 (tc a.1 sa)).heap.size (setCells (bzW (setCells (bzW (bzW (bxW W x s0))) (bzW (bxW W x s0)).heap.size 0 (tc a.1 sa))) (setCells (bzW (bzW (bxW W x s0))) (bzW (bxW W x s0)).heap.size 0 (tc a.1 sa)).heap.size 0 (tc b.1 sb)) := pre2 hs hsa hsb (x3.trans x4) (c3.ext x4) c4
  have l2 := hb2.2.2.2.2.1.trans (congrArg some hs0)
  have l3 := hb3.2.2.2.2.1.trans (congrArg some hs0)
  have hI := fun w => l02Is_ret a.1 a.2 sa 0 w
  have hO := fun w => l02Ones_ret a.1 a.2 sa w hN
  by_cases hz : a.1.n = 0
  ·
    have hu : ¬ a.1.n = ones a.1.w := by omega
    have e : stFirst x.op x.w a b = some (.inl b) := by unfold stFirst; rw [if_pos (by omega)]
    rw [e, out_l, Option.isSome_some]
    have zl : isC (a.1, a.2) 0 = true := isC_iff.2 ⟨ha0, hz⟩
    have ul : decide (a.1.op = 0 ∧ a.1.n = ones a.1.w) = false := decide_eq_false (fun e => hu e.2)
    simp only [zl] at hI
    simp only [ul] at hO
    refine ret_of_vc ties mixed Tryz.func93 rfl (by kernel_rfl) rfl rfl ?_
    refine ⟨_, l2, ⟨by decide, by decide⟩, tc a.1 sa, rfl, hca2, f3, ?_⟩
    refine ⟨_, l3, ⟨by decide, by decide⟩, tc b.1 sb, rfl, hcb3, f4, ?_⟩
    refine ⟨tc a.1 sa, rfl, P.ca, ?_⟩
    refine Or.inl ((hI _).mono ?_)
    rintro _ w5 ⟨rfl, x5⟩
    replace P := P.step x5
    refine ⟨tc a.1 sa, rfl, P.ca, ?_⟩
    refine Or.inl ((hO _).mono ?_)
    rintro _ w6 ⟨rfl, x6⟩
    replace P := P.step x6
    refine ⟨_, P.hb.1, ?_⟩
    repeat refine br_dec_false (by omega : ¬ x.op = 3) ?_
    refine ⟨_, P.hb.1, ?_⟩
    repeat refine br_dec_true hk ?_
    refine ⟨tc b.1 sb, rfl, P.cb, ?_⟩
    exact fin5t true P.r P.hB P.ext P.sb
  by_cases hu : a.1.n = ones a.1.w
  ·
    have e : stFirst x.op x.w a b = some (.inl (conT x.w (ones a.1.w))) := by unfold stFirst; rw [if_neg (by omega), if_neg (by omega), if_pos (by omega)]
    have ea : conT x.w (ones a.1.w) = a := (congr (congrArg conT (hW.arith (by omega)).symm) hu.symm).trans haC.symm
    rw [e, out_l, Option.isSome_some, ea]
    have zl : isC (a.1, a.2) 0 = false := is_false (t := a) (fun e => hz (isC_iff.1 e).2)
    have ul : decide (a.1.op = 0 ∧ a.1.n = ones a.1.w) = true := decide_eq_true ⟨ha0, hu⟩
    simp only [zl] at hI
    simp only [ul] at hO
    refine ret_of_vc ties mixed Tryz.func93 rfl (by kernel_rfl) rfl rfl ?_
    refine ⟨_, l2, ⟨by decide, by decide⟩, tc a.1 sa, rfl, hca2, f3, ?_⟩
    refine ⟨_, l3, ⟨by decide, by decide⟩, tc b.1 sb, rfl, hcb3, f4, ?_⟩
    refine ⟨tc a.1 sa, rfl, P.ca, ?_⟩
    refine Or.inl ((hI _).mono ?_)
    rintro _ w5 ⟨rfl, x5⟩
    replace P := P.step x5
    refine ⟨tc a.1 sa, rfl, P.ca, ?_⟩
    refine Or.inl ((hO _).mono ?_)
    rintro _ w6 ⟨rfl, x6⟩
    replace P := P.step x6
    refine ⟨_, P.hb.1, ?_⟩
    repeat refine br_dec_false (by omega : ¬ x.op = 3) ?_
    refine ⟨_, P.hb.1, ?_⟩
    repeat refine br_dec_true hk ?_
    refine ⟨_, P.hb.1, ?_⟩
    repeat refine br_dec_false (by omega : ¬ x.op = 10) ?_
    refine ⟨_, P.hb.1, ?_⟩
    repeat refine br_dec_false (by omega : ¬ x.op = 5) ?_
    refine ⟨_, P.hb.1, ?_⟩
    repeat refine br_dec_false (by omega : ¬ x.op = 8) ?_
    refine ⟨_, P.hb.1, ?_⟩
    repeat refine br_dec_true hk ?_
    refine ⟨tc a.1 sa, rfl, P.ca, ?_⟩
    exact fin5t true P.r P.hB P.ext P.sa
  ·
    have e : stFirst x.op x.w a b = none := by unfold stFirst; rw [if_neg (by omega), if_neg (by omega), if_neg (by omega), if_neg (by omega)]
    rw [e, out_n, Option.isSome_none]
    have zl : isC (a.1, a.2) 0 = false := is_false (t := a) (fun e => hz (isC_iff.1 e).2)
    have ul : decide (a.1.op = 0 ∧ a.1.n = ones a.1.w) = false := decide_eq_false (fun e => hu e.2)
    simp only [zl] at hI
    simp only [ul] at hO
    refine ret_of_vc ties mixed Tryz.func93 rfl (by kernel_rfl) rfl rfl ?_
    refine ⟨_, l2, ⟨by decide, by decide⟩, tc a.1 sa, rfl, hca2, f3, ?_⟩
    refine ⟨_, l3, ⟨by decide, by decide⟩, tc b.1 sb, rfl, hcb3, f4, ?_⟩
    refine ⟨tc a.1 sa, rfl, P.ca, ?_⟩
    refine Or.inl ((hI _).mono ?_)
    rintro _ w5 ⟨rfl, x5⟩
    replace P := P.step x5
    refine ⟨tc a.1 sa, rfl, P.ca, ?_⟩
    refine Or.inl ((hO _).mono ?_)
    rintro _ w6 ⟨rfl, x6⟩
    replace P := P.step x6
    refine ⟨_, P.hb.1, ?_⟩
    repeat refine br_dec_false (by omega : ¬ x.op = 3) ?_
    refine ⟨_, P.hb.1, ?_⟩
    repeat refine br_dec_true hk ?_
    refine ⟨_, P.hb.1, ?_⟩
    repeat refine br_dec_false (by omega : ¬ x.op = 10) ?_
    refine ⟨_, P.hb.1, ?_⟩
    repeat refine br_dec_false (by omega : ¬ x.op = 5) ?_
    refine ⟨_, P.hb.1, ?_⟩
    repeat refine br_dec_false (by omega : ¬ x.op = 8) ?_
    refine ⟨_, P.hb.1, ?_⟩
    repeat refine br_dec_true hk ?_
    refine ⟨_, P.hb.1, ?_⟩
    repeat refine br_dec_false (by omega : ¬ x.op = 5) ?_
    refine ⟨_, P.hb.1, ?_⟩
    repeat refine br_dec_false (by omega : ¬ x.op = 8) ?_
    refine ⟨_, P.hb.1, ?_⟩
    repeat refine br_dec_false (by omega : ¬ x.op = 10) ?_
    refine ⟨_, P.hb.1, ?_⟩
    repeat refine br_dec_false (by omega : ¬ x.op = 14) ?_
    refine ⟨_, P.hb.1, ?_⟩
    repeat refine br_dec_false (by omega : ¬ x.op = 14) ?_
    refine ⟨tc x s0, rfl, P.hb, ?_⟩
    exact fin5t false P.r P.hB P.ext P.s
set_option maxHeartbeats 16000000 in
theorem l02First_10 (hR : RedS 54 n) (h : OkT (x, mkTF [a, b])) (ho : 3 ≤ x.op ∧ x.op ≤ 16) (ha0 : a.1.op = 0) (hm : ms (x, mkTF [a, b]) < n + 1) (hk : x.op = 10) (hs : TSl ok W s (mkTF [a, b])) :
    Ret Tryz.prog 93 #[tv x s] W (FirR ok (stFirst x.op x.w a b).isSome (((stFirst x.op x.w a b).map outT).getD (x, mkTF [a, b])) W) := by
  have hg := first_good h ho ha0
  have hW := bin_w h ho
  have ha : OkT a := h.2.1
  have hN : NodeOk a.1 (hdF a.2) := ha.1
  have haw := hN.width
  have hop := ones_pos haw
  have haC : a = conT a.1.w a.1.n := by
    refine Prod.ext ?_ (ok_nil (x := a.1) (k := a.2) ha (.inl ha0))
    obtain ⟨⟨q1, q2, q3, q4⟩, k⟩ := a
    have e1 : q1 = 0 := ha0
    have e4 : q4 = ByteArray.empty := hN.noname (by show q1 ≠ 22; omega)
    subst e1
    subst e4
    rfl
  obtain ⟨p, o, c, sa, sb, hs0, hca, hcb, hsa, hsb⟩ := kids2 hs
  obtain ⟨s0, rfl⟩ : ∃ s0, s0 = s := ⟨_, rfl⟩
  have x2 : Ext W (bzW (bxW W x s0)) := (bx_ext W x s0).trans (bz_ext _)
  have hb2 := (bx_at W x s0).ext (bz_ext (bxW W x s0))
  obtain ⟨f3, c3, x3⟩ := keep5 (W := (bzW (bxW W x s0))) (x := a.1) (s := sa) (tc_one hsa)
  obtain ⟨f4, c4, x4⟩ := keep5 (W := (setCells (bzW (bzW (bxW W x s0))) (bzW (bxW W x s0)).heap.size 0 (tc a.1 sa))) (x := b.1) (s := sb) (tc_one hsb)
  have hca2 : CellsAt (bzW (bxW W x s0)) p o (tc a.1 sa) := hca.ext x2
  have hcb3 : CellsAt (setCells (bzW (bzW (bxW W x s0))) (bzW (bxW W x s0)).heap.size 0 (tc a.1 sa)) p (o + 5) (tc b.1 sb) := hcb.ext (x2.trans x3)
  have hb3 := hb2.ext x3
  have P : Pre2 W x s0 (mkTF [a, b]) a b sa sb ok (bxW W x s0).heap.size (bzW (bxW W x s0)).heap.size (setCells (bzW (bzW (bxW W x s0))) (bzW (bxW W x s0)).heap.size 0 (tc a.1 sa)).heap.size (setCells (bzW (setCells (bzW (bzW (bxW W x s0))) (bzW (bxW W x s0)).heap.size 0 (tc a.1 sa))) (setCells (bzW (bzW (bxW W x s0))) (bzW (bxW W x s0)).heap.size 0 (tc a.1 sa)).heap.size 0 (tc b.1 sb)) := pre2 hs hsa hsb (x3.trans x4) (c3.ext x4) c4
  have l2 := hb2.2.2.2.2.1.trans (congrArg some hs0)
  have l3 := hb3.2.2.2.2.1.trans (congrArg some hs0)
  have hI := fun w => l02Is_ret a.1 a.2 sa 0 w
  have hO := fun w => l02Ones_ret a.1 a.2 sa w hN
  by_cases hz : a.1.n = 0
  ·
    have hu : ¬ a.1.n = ones a.1.w := by omega
    have e : stFirst x.op x.w a b = some (.inl b) := by unfold stFirst; rw [if_pos (by omega)]
    rw [e, out_l, Option.isSome_some]
    have zl : isC (a.1, a.2) 0 = true := isC_iff.2 ⟨ha0, hz⟩
    have ul : decide (a.1.op = 0 ∧ a.1.n = ones a.1.w) = false := decide_eq_false (fun e => hu e.2)
    simp only [zl] at hI
    simp only [ul] at hO
    refine ret_of_vc ties mixed Tryz.func93 rfl (by kernel_rfl) rfl rfl ?_
    refine ⟨_, l2, ⟨by decide, by decide⟩, tc a.1 sa, rfl, hca2, f3, ?_⟩
    refine ⟨_, l3, ⟨by decide, by decide⟩, tc b.1 sb, rfl, hcb3, f4, ?_⟩
    refine ⟨tc a.1 sa, rfl, P.ca, ?_⟩
    refine Or.inl ((hI _).mono ?_)
    rintro _ w5 ⟨rfl, x5⟩
    replace P := P.step x5
    refine ⟨tc a.1 sa, rfl, P.ca, ?_⟩
    refine Or.inl ((hO _).mono ?_)
    rintro _ w6 ⟨rfl, x6⟩
    replace P := P.step x6
    refine ⟨_, P.hb.1, ?_⟩
    repeat refine br_dec_false (by omega : ¬ x.op = 3) ?_
    refine ⟨_, P.hb.1, ?_⟩
    repeat refine br_dec_false (by omega : ¬ x.op = 9) ?_
    refine ⟨_, P.hb.1, ?_⟩
    repeat refine br_dec_true hk ?_
    refine ⟨tc b.1 sb, rfl, P.cb, ?_⟩
    exact fin5t true P.r P.hB P.ext P.sb
  by_cases hu : a.1.n = ones a.1.w
  ·
    have e : stFirst x.op x.w a b = some (.inr (mkn 1 x.w 0, mkTF [b])) := by unfold stFirst; rw [if_neg (by omega), if_neg (by omega), if_neg (by omega), if_pos (by omega)]
    have hg := hg _ e
    have hg' : Keeps (x, mkTF [a, b]) (mkn 1 x.w 0, mkTF [b]) ∧ ms (mkn 1 x.w 0, mkTF [b]) < ms (x, mkTF [a, b]) ∧ _ := hg
    rw [e, out_r, Option.isSome_some]
    have zl : isC (a.1, a.2) 0 = false := is_false (t := a) (fun e => hz (isC_iff.1 e).2)
    have ul : decide (a.1.op = 0 ∧ a.1.n = ones a.1.w) = true := decide_eq_true ⟨ha0, hu⟩
    simp only [zl] at hI
    simp only [ul] at hO
    refine ret_of_vc ties mixed Tryz.func93 rfl (by kernel_rfl) rfl rfl ?_
    refine ⟨_, l2, ⟨by decide, by decide⟩, tc a.1 sa, rfl, hca2, f3, ?_⟩
    refine ⟨_, l3, ⟨by decide, by decide⟩, tc b.1 sb, rfl, hcb3, f4, ?_⟩
    refine ⟨tc a.1 sa, rfl, P.ca, ?_⟩
    refine Or.inl ((hI _).mono ?_)
    rintro _ w5 ⟨rfl, x5⟩
    replace P := P.step x5
    refine ⟨tc a.1 sa, rfl, P.ca, ?_⟩
    refine Or.inl ((hO _).mono ?_)
    rintro _ w6 ⟨rfl, x6⟩
    replace P := P.step x6
    refine ⟨_, P.hb.1, ?_⟩
    repeat refine br_dec_false (by omega : ¬ x.op = 3) ?_
    refine ⟨_, P.hb.1, ?_⟩
    repeat refine br_dec_false (by omega : ¬ x.op = 9) ?_
    refine ⟨_, P.hb.1, ?_⟩
    repeat refine br_dec_true hk ?_
    refine ⟨_, P.hb.1, ?_⟩
    repeat refine br_dec_false (by omega : ¬ x.op = 5) ?_
    refine ⟨_, P.hb.1, ?_⟩
    repeat refine br_dec_false (by omega : ¬ x.op = 8) ?_
    refine ⟨_, P.hb.1, ?_⟩
    repeat refine br_dec_false (by omega : ¬ x.op = 9) ?_
    refine ⟨_, P.hb.1, ?_⟩
    repeat refine br_dec_false (by omega : ¬ x.op = 5) ?_
    refine ⟨_, P.hb.1, ?_⟩
    repeat refine br_dec_false (by omega : ¬ x.op = 8) ?_
    refine ⟨_, P.hb.1, ?_⟩
    repeat refine br_dec_true hk ?_
    refine ⟨_, P.hb.2.1, ?_⟩
    refine ⟨tc b.1 sb, rfl, P.cb, ?_⟩
    have hlt : ms (mkn 1 x.w 0, mkTF [b]) < n := Nat.lt_of_lt_of_le hg'.2.1 (Nat.le_of_lt_succ hm)
    have hm1 := mk1 (a := b) P.sb P.lt P.ext.size
    have P1 := P.step hm1.1
    have hq := fin_t true P1.r P1.hB P1.lt P1.ext (hR (mkn 1 x.w 0, mkTF [b]) _ (okB (bxW W x s0).heap.size W ok) _ hlt hg'.1.ok hm1.2)
    refine Or.inl ((hq).mono ?_)
    rintro _ v5 ⟨s5, rfl, hf⟩
    exact hf
  ·
    have e : stFirst x.op x.w a b = none := by unfold stFirst; rw [if_neg (by omega), if_neg (by omega), if_neg (by omega), if_neg (by omega)]
    rw [e, out_n, Option.isSome_none]
    have zl : isC (a.1, a.2) 0 = false := is_false (t := a) (fun e => hz (isC_iff.1 e).2)
    have ul : decide (a.1.op = 0 ∧ a.1.n = ones a.1.w) = false := decide_eq_false (fun e => hu e.2)
    simp only [zl] at hI
    simp only [ul] at hO
    refine ret_of_vc ties mixed Tryz.func93 rfl (by kernel_rfl) rfl rfl ?_
    refine ⟨_, l2, ⟨by decide, by decide⟩, tc a.1 sa, rfl, hca2, f3, ?_⟩
    refine ⟨_, l3, ⟨by decide, by decide⟩, tc b.1 sb, rfl, hcb3, f4, ?_⟩
    refine ⟨tc a.1 sa, rfl, P.ca, ?_⟩
    refine Or.inl ((hI _).mono ?_)
    rintro _ w5 ⟨rfl, x5⟩
    replace P := P.step x5
    refine ⟨tc a.1 sa, rfl, P.ca, ?_⟩
    refine Or.inl ((hO _).mono ?_)
    rintro _ w6 ⟨rfl, x6⟩
    replace P := P.step x6
    refine ⟨_, P.hb.1, ?_⟩
    repeat refine br_dec_false (by omega : ¬ x.op = 3) ?_
    refine ⟨_, P.hb.1, ?_⟩
    repeat refine br_dec_false (by omega : ¬ x.op = 9) ?_
    refine ⟨_, P.hb.1, ?_⟩
    repeat refine br_dec_true hk ?_
    refine ⟨_, P.hb.1, ?_⟩
    repeat refine br_dec_false (by omega : ¬ x.op = 5) ?_
    refine ⟨_, P.hb.1, ?_⟩
    repeat refine br_dec_false (by omega : ¬ x.op = 8) ?_
    refine ⟨_, P.hb.1, ?_⟩
    repeat refine br_dec_false (by omega : ¬ x.op = 9) ?_
    refine ⟨_, P.hb.1, ?_⟩
    repeat refine br_dec_false (by omega : ¬ x.op = 5) ?_
    refine ⟨_, P.hb.1, ?_⟩
    repeat refine br_dec_false (by omega : ¬ x.op = 8) ?_
    refine ⟨_, P.hb.1, ?_⟩
    repeat refine br_dec_true hk ?_
    refine ⟨_, P.hb.1, ?_⟩
    repeat refine br_dec_false (by omega : ¬ x.op = 14) ?_
    refine ⟨_, P.hb.1, ?_⟩
    repeat refine br_dec_false (by omega : ¬ x.op = 14) ?_
    refine ⟨tc x s0, rfl, P.hb, ?_⟩
    exact fin5t false P.r P.hB P.ext P.s
set_option maxHeartbeats 16000000 in
theorem l02First_14 (hR : RedS 54 n) (h : OkT (x, mkTF [a, b])) (ho : 3 ≤ x.op ∧ x.op ≤ 16) (ha0 : a.1.op = 0) (hm : ms (x, mkTF [a, b]) < n + 1) (hk : x.op = 14) (hs : TSl ok W s (mkTF [a, b])) :
    Ret Tryz.prog 93 #[tv x s] W (FirR ok (stFirst x.op x.w a b).isSome (((stFirst x.op x.w a b).map outT).getD (x, mkTF [a, b])) W) := by
  have hg := first_good h ho ha0
  have hW := bin_w h ho
  have ha : OkT a := h.2.1
  have hN : NodeOk a.1 (hdF a.2) := ha.1
  have haw := hN.width
  have hop := ones_pos haw
  have haC : a = conT a.1.w a.1.n := by
    refine Prod.ext ?_ (ok_nil (x := a.1) (k := a.2) ha (.inl ha0))
    obtain ⟨⟨q1, q2, q3, q4⟩, k⟩ := a
    have e1 : q1 = 0 := ha0
    have e4 : q4 = ByteArray.empty := hN.noname (by show q1 ≠ 22; omega)
    subst e1
    subst e4
    rfl
  obtain ⟨p, o, c, sa, sb, hs0, hca, hcb, hsa, hsb⟩ := kids2 hs
  obtain ⟨s0, rfl⟩ : ∃ s0, s0 = s := ⟨_, rfl⟩
  have x2 : Ext W (bzW (bxW W x s0)) := (bx_ext W x s0).trans (bz_ext _)
  have hb2 := (bx_at W x s0).ext (bz_ext (bxW W x s0))
  obtain ⟨f3, c3, x3⟩ := keep5 (W := (bzW (bxW W x s0))) (x := a.1) (s := sa) (tc_one hsa)
  obtain ⟨f4, c4, x4⟩ := keep5 (W := (setCells (bzW (bzW (bxW W x s0))) (bzW (bxW W x s0)).heap.size 0 (tc a.1 sa))) (x := b.1) (s := sb) (tc_one hsb)
  have hca2 : CellsAt (bzW (bxW W x s0)) p o (tc a.1 sa) := hca.ext x2
  have hcb3 : CellsAt (setCells (bzW (bzW (bxW W x s0))) (bzW (bxW W x s0)).heap.size 0 (tc a.1 sa)) p (o + 5) (tc b.1 sb) := hcb.ext (x2.trans x3)
  have hb3 := hb2.ext x3
  have P : Pre2 W x s0 (mkTF [a, b]) a b sa sb ok (bxW W x s0).heap.size (bzW (bxW W x s0)).heap.size (setCells (bzW (bzW (bxW W x s0))) (bzW (bxW W x s0)).heap.size 0 (tc a.1 sa)).heap.size (setCells (bzW (setCells (bzW (bzW (bxW W x s0))) (bzW (bxW W x s0)).heap.size 0 (tc a.1 sa))) (setCells (bzW (bzW (bxW W x s0))) (bzW (bxW W x s0)).heap.size 0 (tc a.1 sa)).heap.size 0 (tc b.1 sb)) := pre2 hs hsa hsb (x3.trans x4) (c3.ext x4) c4
  have l2 := hb2.2.2.2.2.1.trans (congrArg some hs0)
  have l3 := hb3.2.2.2.2.1.trans (congrArg some hs0)
  have hI := fun w => l02Is_ret a.1 a.2 sa 0 w
  have hO := fun w => l02Ones_ret a.1 a.2 sa w hN
  by_cases hw : a.1.w = 1
  ·
    have hone : ones a.1.w = 1 := by rw [hw]; rfl
    by_cases h1 : a.1.n = 1
    ·
      have hz : ¬ a.1.n = 0 := by omega
      have hu : a.1.n = ones a.1.w := by omega
      have e : stFirst x.op x.w a b = some (.inl b) := by unfold stFirst; rw [if_pos (by omega)]
      rw [e, out_l, Option.isSome_some]
      have zl : isC (a.1, a.2) 0 = false := is_false (t := a) (fun e => hz (isC_iff.1 e).2)
      have ul : decide (a.1.op = 0 ∧ a.1.n = ones a.1.w) = true := decide_eq_true ⟨ha0, hu⟩
      simp only [zl] at hI
      simp only [ul] at hO
      refine ret_of_vc ties mixed Tryz.func93 rfl (by kernel_rfl) rfl rfl ?_
      refine ⟨_, l2, ⟨by decide, by decide⟩, tc a.1 sa, rfl, hca2, f3, ?_⟩
      refine ⟨_, l3, ⟨by decide, by decide⟩, tc b.1 sb, rfl, hcb3, f4, ?_⟩
      refine ⟨tc a.1 sa, rfl, P.ca, ?_⟩
      refine Or.inl ((hI _).mono ?_)
      rintro _ w5 ⟨rfl, x5⟩
      replace P := P.step x5
      refine ⟨tc a.1 sa, rfl, P.ca, ?_⟩
      refine Or.inl ((hO _).mono ?_)
      rintro _ w6 ⟨rfl, x6⟩
      replace P := P.step x6
      refine ⟨_, P.hb.1, ?_⟩
      repeat refine br_dec_false (by omega : ¬ x.op = 3) ?_
      refine ⟨_, P.hb.1, ?_⟩
      repeat refine br_dec_false (by omega : ¬ x.op = 9) ?_
      refine ⟨_, P.hb.1, ?_⟩
      repeat refine br_dec_false (by omega : ¬ x.op = 10) ?_
      refine ⟨_, P.hb.1, ?_⟩
      repeat refine br_dec_false (by omega : ¬ x.op = 5) ?_
      refine ⟨_, P.hb.1, ?_⟩
      repeat refine br_dec_false (by omega : ¬ x.op = 8) ?_
      refine ⟨_, P.hb.1, ?_⟩
      repeat refine br_dec_false (by omega : ¬ x.op = 9) ?_
      refine ⟨_, P.hb.1, ?_⟩
      repeat refine br_dec_false (by omega : ¬ x.op = 5) ?_
      refine ⟨_, P.hb.1, ?_⟩
      repeat refine br_dec_false (by omega : ¬ x.op = 8) ?_
      refine ⟨_, P.hb.1, ?_⟩
      repeat refine br_dec_false (by omega : ¬ x.op = 10) ?_
      refine ⟨_, P.hb.1, ?_⟩
      repeat refine br_dec_true hk ?_
      refine ⟨_, P.ca.2.1, ?_⟩
      repeat refine br_dec_true hk ?_
      repeat refine br_dec_true hw ?_
      refine ⟨_, P.ca.2.2.1, ?_⟩
      repeat refine br_dec_true hw ?_
      repeat refine br_dec_true h1 ?_
      refine ⟨tc b.1 sb, rfl, P.cb, ?_⟩
      exact fin5t true P.r P.hB P.ext P.sb
    ·
      have hz : a.1.n = 0 := by
        have h5 := con_word ha ha0
        rw [hw] at h5
        exact (bit1 h5).resolve_right h1
      have hu : ¬ a.1.n = ones a.1.w := by omega
      have hxw := hW.cmp (by omega)
      have e : stFirst x.op x.w a b = some (.inr (mkn 1 1 0, mkTF [b])) := by unfold stFirst; rw [if_neg (by omega), if_neg (by omega), if_neg (by omega), if_pos (by omega), hxw]
      have hg := hg _ e
      have hg' : Keeps (x, mkTF [a, b]) (mkn 1 1 0, mkTF [b]) ∧ ms (mkn 1 1 0, mkTF [b]) < ms (x, mkTF [a, b]) ∧ _ := hg
      rw [e, out_r, Option.isSome_some]
      have zl : isC (a.1, a.2) 0 = true := isC_iff.2 ⟨ha0, hz⟩
      have ul : decide (a.1.op = 0 ∧ a.1.n = ones a.1.w) = false := decide_eq_false (fun e => hu e.2)
      simp only [zl] at hI
      simp only [ul] at hO
      refine ret_of_vc ties mixed Tryz.func93 rfl (by kernel_rfl) rfl rfl ?_
      refine ⟨_, l2, ⟨by decide, by decide⟩, tc a.1 sa, rfl, hca2, f3, ?_⟩
      refine ⟨_, l3, ⟨by decide, by decide⟩, tc b.1 sb, rfl, hcb3, f4, ?_⟩
      refine ⟨tc a.1 sa, rfl, P.ca, ?_⟩
      refine Or.inl ((hI _).mono ?_)
      rintro _ w5 ⟨rfl, x5⟩
      replace P := P.step x5
      refine ⟨tc a.1 sa, rfl, P.ca, ?_⟩
      refine Or.inl ((hO _).mono ?_)
      rintro _ w6 ⟨rfl, x6⟩
      replace P := P.step x6
      refine ⟨_, P.hb.1, ?_⟩
      repeat refine br_dec_false (by omega : ¬ x.op = 3) ?_
      refine ⟨_, P.hb.1, ?_⟩
      repeat refine br_dec_false (by omega : ¬ x.op = 9) ?_
      refine ⟨_, P.hb.1, ?_⟩
      repeat refine br_dec_false (by omega : ¬ x.op = 10) ?_
      refine ⟨_, P.hb.1, ?_⟩
      repeat refine br_dec_false (by omega : ¬ x.op = 5) ?_
      refine ⟨_, P.hb.1, ?_⟩
      repeat refine br_dec_false (by omega : ¬ x.op = 8) ?_
      refine ⟨_, P.hb.1, ?_⟩
      repeat refine br_dec_false (by omega : ¬ x.op = 9) ?_
      refine ⟨_, P.hb.1, ?_⟩
      repeat refine br_dec_false (by omega : ¬ x.op = 5) ?_
      refine ⟨_, P.hb.1, ?_⟩
      repeat refine br_dec_false (by omega : ¬ x.op = 8) ?_
      refine ⟨_, P.hb.1, ?_⟩
      repeat refine br_dec_false (by omega : ¬ x.op = 10) ?_
      refine ⟨_, P.hb.1, ?_⟩
      repeat refine br_dec_true hk ?_
      refine ⟨_, P.ca.2.1, ?_⟩
      repeat refine br_dec_true hk ?_
      repeat refine br_dec_true hw ?_
      refine ⟨_, P.ca.2.2.1, ?_⟩
      repeat refine br_dec_true hw ?_
      repeat refine br_dec_false h1 ?_
      refine ⟨_, P.hb.1, ?_⟩
      repeat refine br_dec_true hk ?_
      refine ⟨_, P.ca.2.1, ?_⟩
      repeat refine br_dec_true hk ?_
      repeat refine br_dec_true hw ?_
      refine ⟨tc b.1 sb, rfl, P.cb, ?_⟩
      have hlt : ms (mkn 1 1 0, mkTF [b]) < n := Nat.lt_of_lt_of_le hg'.2.1 (Nat.le_of_lt_succ hm)
      have hm1 := mk1 (a := b) P.sb P.lt P.ext.size
      have P1 := P.step hm1.1
      have hq := fin_t true P1.r P1.hB P1.lt P1.ext (hR (mkn 1 1 0, mkTF [b]) _ (okB (bxW W x s0).heap.size W ok) _ hlt hg'.1.ok hm1.2)
      refine Or.inl ((hq).mono ?_)
      rintro _ v5 ⟨s5, rfl, hf⟩
      exact hf
  ·
    by_cases hz : a.1.n = 0
    ·
      have hu : ¬ a.1.n = ones a.1.w := by omega
      have e : stFirst x.op x.w a b = none := by unfold stFirst; rw [if_neg (by omega), if_neg (by omega), if_neg (by omega), if_neg (by omega)]
      rw [e, out_n, Option.isSome_none]
      have zl : isC (a.1, a.2) 0 = true := isC_iff.2 ⟨ha0, hz⟩
      have ul : decide (a.1.op = 0 ∧ a.1.n = ones a.1.w) = false := decide_eq_false (fun e => hu e.2)
      simp only [zl] at hI
      simp only [ul] at hO
      refine ret_of_vc ties mixed Tryz.func93 rfl (by kernel_rfl) rfl rfl ?_
      refine ⟨_, l2, ⟨by decide, by decide⟩, tc a.1 sa, rfl, hca2, f3, ?_⟩
      refine ⟨_, l3, ⟨by decide, by decide⟩, tc b.1 sb, rfl, hcb3, f4, ?_⟩
      refine ⟨tc a.1 sa, rfl, P.ca, ?_⟩
      refine Or.inl ((hI _).mono ?_)
      rintro _ w5 ⟨rfl, x5⟩
      replace P := P.step x5
      refine ⟨tc a.1 sa, rfl, P.ca, ?_⟩
      refine Or.inl ((hO _).mono ?_)
      rintro _ w6 ⟨rfl, x6⟩
      replace P := P.step x6
      refine ⟨_, P.hb.1, ?_⟩
      repeat refine br_dec_false (by omega : ¬ x.op = 3) ?_
      refine ⟨_, P.hb.1, ?_⟩
      repeat refine br_dec_false (by omega : ¬ x.op = 9) ?_
      refine ⟨_, P.hb.1, ?_⟩
      repeat refine br_dec_false (by omega : ¬ x.op = 10) ?_
      refine ⟨_, P.hb.1, ?_⟩
      repeat refine br_dec_false (by omega : ¬ x.op = 5) ?_
      refine ⟨_, P.hb.1, ?_⟩
      repeat refine br_dec_false (by omega : ¬ x.op = 8) ?_
      refine ⟨_, P.hb.1, ?_⟩
      repeat refine br_dec_false (by omega : ¬ x.op = 9) ?_
      refine ⟨_, P.hb.1, ?_⟩
      repeat refine br_dec_false (by omega : ¬ x.op = 5) ?_
      refine ⟨_, P.hb.1, ?_⟩
      repeat refine br_dec_false (by omega : ¬ x.op = 8) ?_
      refine ⟨_, P.hb.1, ?_⟩
      repeat refine br_dec_false (by omega : ¬ x.op = 10) ?_
      refine ⟨_, P.hb.1, ?_⟩
      repeat refine br_dec_true hk ?_
      refine ⟨_, P.ca.2.1, ?_⟩
      repeat refine br_dec_true hk ?_
      repeat refine br_dec_false hw ?_
      refine ⟨_, P.hb.1, ?_⟩
      repeat refine br_dec_true hk ?_
      refine ⟨_, P.ca.2.1, ?_⟩
      repeat refine br_dec_true hk ?_
      repeat refine br_dec_false hw ?_
      refine ⟨tc x s0, rfl, P.hb, ?_⟩
      exact fin5t false P.r P.hB P.ext P.s
    by_cases hu : a.1.n = ones a.1.w
    ·
      have e : stFirst x.op x.w a b = none := by unfold stFirst; rw [if_neg (by omega), if_neg (by omega), if_neg (by omega), if_neg (by omega)]
      rw [e, out_n, Option.isSome_none]
      have zl : isC (a.1, a.2) 0 = false := is_false (t := a) (fun e => hz (isC_iff.1 e).2)
      have ul : decide (a.1.op = 0 ∧ a.1.n = ones a.1.w) = true := decide_eq_true ⟨ha0, hu⟩
      simp only [zl] at hI
      simp only [ul] at hO
      refine ret_of_vc ties mixed Tryz.func93 rfl (by kernel_rfl) rfl rfl ?_
      refine ⟨_, l2, ⟨by decide, by decide⟩, tc a.1 sa, rfl, hca2, f3, ?_⟩
      refine ⟨_, l3, ⟨by decide, by decide⟩, tc b.1 sb, rfl, hcb3, f4, ?_⟩
      refine ⟨tc a.1 sa, rfl, P.ca, ?_⟩
      refine Or.inl ((hI _).mono ?_)
      rintro _ w5 ⟨rfl, x5⟩
      replace P := P.step x5
      refine ⟨tc a.1 sa, rfl, P.ca, ?_⟩
      refine Or.inl ((hO _).mono ?_)
      rintro _ w6 ⟨rfl, x6⟩
      replace P := P.step x6
      refine ⟨_, P.hb.1, ?_⟩
      repeat refine br_dec_false (by omega : ¬ x.op = 3) ?_
      refine ⟨_, P.hb.1, ?_⟩
      repeat refine br_dec_false (by omega : ¬ x.op = 9) ?_
      refine ⟨_, P.hb.1, ?_⟩
      repeat refine br_dec_false (by omega : ¬ x.op = 10) ?_
      refine ⟨_, P.hb.1, ?_⟩
      repeat refine br_dec_false (by omega : ¬ x.op = 5) ?_
      refine ⟨_, P.hb.1, ?_⟩
      repeat refine br_dec_false (by omega : ¬ x.op = 8) ?_
      refine ⟨_, P.hb.1, ?_⟩
      repeat refine br_dec_false (by omega : ¬ x.op = 9) ?_
      refine ⟨_, P.hb.1, ?_⟩
      repeat refine br_dec_false (by omega : ¬ x.op = 5) ?_
      refine ⟨_, P.hb.1, ?_⟩
      repeat refine br_dec_false (by omega : ¬ x.op = 8) ?_
      refine ⟨_, P.hb.1, ?_⟩
      repeat refine br_dec_false (by omega : ¬ x.op = 10) ?_
      refine ⟨_, P.hb.1, ?_⟩
      repeat refine br_dec_true hk ?_
      refine ⟨_, P.ca.2.1, ?_⟩
      repeat refine br_dec_true hk ?_
      repeat refine br_dec_false hw ?_
      refine ⟨_, P.hb.1, ?_⟩
      repeat refine br_dec_true hk ?_
      refine ⟨_, P.ca.2.1, ?_⟩
      repeat refine br_dec_true hk ?_
      repeat refine br_dec_false hw ?_
      refine ⟨tc x s0, rfl, P.hb, ?_⟩
      exact fin5t false P.r P.hB P.ext P.s
    ·
      have e : stFirst x.op x.w a b = none := by unfold stFirst; rw [if_neg (by omega), if_neg (by omega), if_neg (by omega), if_neg (by omega)]
      rw [e, out_n, Option.isSome_none]
      have zl : isC (a.1, a.2) 0 = false := is_false (t := a) (fun e => hz (isC_iff.1 e).2)
      have ul : decide (a.1.op = 0 ∧ a.1.n = ones a.1.w) = false := decide_eq_false (fun e => hu e.2)
      simp only [zl] at hI
      simp only [ul] at hO
      refine ret_of_vc ties mixed Tryz.func93 rfl (by kernel_rfl) rfl rfl ?_
      refine ⟨_, l2, ⟨by decide, by decide⟩, tc a.1 sa, rfl, hca2, f3, ?_⟩
      refine ⟨_, l3, ⟨by decide, by decide⟩, tc b.1 sb, rfl, hcb3, f4, ?_⟩
      refine ⟨tc a.1 sa, rfl, P.ca, ?_⟩
      refine Or.inl ((hI _).mono ?_)
      rintro _ w5 ⟨rfl, x5⟩
      replace P := P.step x5
      refine ⟨tc a.1 sa, rfl, P.ca, ?_⟩
      refine Or.inl ((hO _).mono ?_)
      rintro _ w6 ⟨rfl, x6⟩
      replace P := P.step x6
      refine ⟨_, P.hb.1, ?_⟩
      repeat refine br_dec_false (by omega : ¬ x.op = 3) ?_
      refine ⟨_, P.hb.1, ?_⟩
      repeat refine br_dec_false (by omega : ¬ x.op = 9) ?_
      refine ⟨_, P.hb.1, ?_⟩
      repeat refine br_dec_false (by omega : ¬ x.op = 10) ?_
      refine ⟨_, P.hb.1, ?_⟩
      repeat refine br_dec_false (by omega : ¬ x.op = 5) ?_
      refine ⟨_, P.hb.1, ?_⟩
      repeat refine br_dec_false (by omega : ¬ x.op = 8) ?_
      refine ⟨_, P.hb.1, ?_⟩
      repeat refine br_dec_false (by omega : ¬ x.op = 9) ?_
      refine ⟨_, P.hb.1, ?_⟩
      repeat refine br_dec_false (by omega : ¬ x.op = 5) ?_
      refine ⟨_, P.hb.1, ?_⟩
      repeat refine br_dec_false (by omega : ¬ x.op = 8) ?_
      refine ⟨_, P.hb.1, ?_⟩
      repeat refine br_dec_false (by omega : ¬ x.op = 10) ?_
      refine ⟨_, P.hb.1, ?_⟩
      repeat refine br_dec_true hk ?_
      refine ⟨_, P.ca.2.1, ?_⟩
      repeat refine br_dec_true hk ?_
      repeat refine br_dec_false hw ?_
      refine ⟨_, P.hb.1, ?_⟩
      repeat refine br_dec_true hk ?_
      refine ⟨_, P.ca.2.1, ?_⟩
      repeat refine br_dec_true hk ?_
      repeat refine br_dec_false hw ?_
      refine ⟨tc x s0, rfl, P.hb, ?_⟩
      exact fin5t false P.r P.hB P.ext P.s
set_option maxHeartbeats 16000000 in
theorem l02First_0 (hR : RedS 54 n) (h : OkT (x, mkTF [a, b])) (ho : 3 ≤ x.op ∧ x.op ≤ 16) (ha0 : a.1.op = 0) (hm : ms (x, mkTF [a, b]) < n + 1) (hk3 : ¬ x.op = 3) (hk5 : ¬ x.op = 5) (hk8 : ¬ x.op = 8) (hk9 : ¬ x.op = 9) (hk10 : ¬ x.op = 10) (hk14 : ¬ x.op = 14) (hs : TSl ok W s (mkTF [a, b])) :
    Ret Tryz.prog 93 #[tv x s] W (FirR ok (stFirst x.op x.w a b).isSome (((stFirst x.op x.w a b).map outT).getD (x, mkTF [a, b])) W) := by
  have hg := first_good h ho ha0
  have hW := bin_w h ho
  have ha : OkT a := h.2.1
  have hN : NodeOk a.1 (hdF a.2) := ha.1
  have haw := hN.width
  have hop := ones_pos haw
  have haC : a = conT a.1.w a.1.n := by
    refine Prod.ext ?_ (ok_nil (x := a.1) (k := a.2) ha (.inl ha0))
    obtain ⟨⟨q1, q2, q3, q4⟩, k⟩ := a
    have e1 : q1 = 0 := ha0
    have e4 : q4 = ByteArray.empty := hN.noname (by show q1 ≠ 22; omega)
    subst e1
    subst e4
    rfl
  obtain ⟨p, o, c, sa, sb, hs0, hca, hcb, hsa, hsb⟩ := kids2 hs
  obtain ⟨s0, rfl⟩ : ∃ s0, s0 = s := ⟨_, rfl⟩
  have x2 : Ext W (bzW (bxW W x s0)) := (bx_ext W x s0).trans (bz_ext _)
  have hb2 := (bx_at W x s0).ext (bz_ext (bxW W x s0))
  obtain ⟨f3, c3, x3⟩ := keep5 (W := (bzW (bxW W x s0))) (x := a.1) (s := sa) (tc_one hsa)
  obtain ⟨f4, c4, x4⟩ := keep5 (W := (setCells (bzW (bzW (bxW W x s0))) (bzW (bxW W x s0)).heap.size 0 (tc a.1 sa))) (x := b.1) (s := sb) (tc_one hsb)
  have hca2 : CellsAt (bzW (bxW W x s0)) p o (tc a.1 sa) := hca.ext x2
  have hcb3 : CellsAt (setCells (bzW (bzW (bxW W x s0))) (bzW (bxW W x s0)).heap.size 0 (tc a.1 sa)) p (o + 5) (tc b.1 sb) := hcb.ext (x2.trans x3)
  have hb3 := hb2.ext x3
  have P : Pre2 W x s0 (mkTF [a, b]) a b sa sb ok (bxW W x s0).heap.size (bzW (bxW W x s0)).heap.size (setCells (bzW (bzW (bxW W x s0))) (bzW (bxW W x s0)).heap.size 0 (tc a.1 sa)).heap.size (setCells (bzW (setCells (bzW (bzW (bxW W x s0))) (bzW (bxW W x s0)).heap.size 0 (tc a.1 sa))) (setCells (bzW (bzW (bxW W x s0))) (bzW (bxW W x s0)).heap.size 0 (tc a.1 sa)).heap.size 0 (tc b.1 sb)) := pre2 hs hsa hsb (x3.trans x4) (c3.ext x4) c4
  have l2 := hb2.2.2.2.2.1.trans (congrArg some hs0)
  have l3 := hb3.2.2.2.2.1.trans (congrArg some hs0)
  have hI := fun w => l02Is_ret a.1 a.2 sa 0 w
  have hO := fun w => l02Ones_ret a.1 a.2 sa w hN
  by_cases hz : a.1.n = 0
  ·
    have hu : ¬ a.1.n = ones a.1.w := by omega
    have e : stFirst x.op x.w a b = none := by unfold stFirst; rw [if_neg (by omega), if_neg (by omega), if_neg (by omega), if_neg (by omega)]
    rw [e, out_n, Option.isSome_none]
    have zl : isC (a.1, a.2) 0 = true := isC_iff.2 ⟨ha0, hz⟩
    have ul : decide (a.1.op = 0 ∧ a.1.n = ones a.1.w) = false := decide_eq_false (fun e => hu e.2)
    simp only [zl] at hI
    simp only [ul] at hO
    refine ret_of_vc ties mixed Tryz.func93 rfl (by kernel_rfl) rfl rfl ?_
    refine ⟨_, l2, ⟨by decide, by decide⟩, tc a.1 sa, rfl, hca2, f3, ?_⟩
    refine ⟨_, l3, ⟨by decide, by decide⟩, tc b.1 sb, rfl, hcb3, f4, ?_⟩
    refine ⟨tc a.1 sa, rfl, P.ca, ?_⟩
    refine Or.inl ((hI _).mono ?_)
    rintro _ w5 ⟨rfl, x5⟩
    replace P := P.step x5
    refine ⟨tc a.1 sa, rfl, P.ca, ?_⟩
    refine Or.inl ((hO _).mono ?_)
    rintro _ w6 ⟨rfl, x6⟩
    replace P := P.step x6
    refine ⟨_, P.hb.1, ?_⟩
    repeat refine br_dec_false (by omega : ¬ x.op = 3) ?_
    refine ⟨_, P.hb.1, ?_⟩
    repeat refine br_dec_false (by omega : ¬ x.op = 9) ?_
    refine ⟨_, P.hb.1, ?_⟩
    repeat refine br_dec_false (by omega : ¬ x.op = 10) ?_
    refine ⟨_, P.hb.1, ?_⟩
    repeat refine br_dec_false (by omega : ¬ x.op = 5) ?_
    refine ⟨_, P.hb.1, ?_⟩
    repeat refine br_dec_false (by omega : ¬ x.op = 8) ?_
    refine ⟨_, P.hb.1, ?_⟩
    repeat refine br_dec_false (by omega : ¬ x.op = 9) ?_
    refine ⟨_, P.hb.1, ?_⟩
    repeat refine br_dec_false (by omega : ¬ x.op = 5) ?_
    refine ⟨_, P.hb.1, ?_⟩
    repeat refine br_dec_false (by omega : ¬ x.op = 8) ?_
    refine ⟨_, P.hb.1, ?_⟩
    repeat refine br_dec_false (by omega : ¬ x.op = 10) ?_
    refine ⟨_, P.hb.1, ?_⟩
    repeat refine br_dec_false (by omega : ¬ x.op = 14) ?_
    refine ⟨_, P.hb.1, ?_⟩
    repeat refine br_dec_false (by omega : ¬ x.op = 14) ?_
    refine ⟨tc x s0, rfl, P.hb, ?_⟩
    exact fin5t false P.r P.hB P.ext P.s
  by_cases hu : a.1.n = ones a.1.w
  ·
    have e : stFirst x.op x.w a b = none := by unfold stFirst; rw [if_neg (by omega), if_neg (by omega), if_neg (by omega), if_neg (by omega)]
    rw [e, out_n, Option.isSome_none]
    have zl : isC (a.1, a.2) 0 = false := is_false (t := a) (fun e => hz (isC_iff.1 e).2)
    have ul : decide (a.1.op = 0 ∧ a.1.n = ones a.1.w) = true := decide_eq_true ⟨ha0, hu⟩
    simp only [zl] at hI
    simp only [ul] at hO
    refine ret_of_vc ties mixed Tryz.func93 rfl (by kernel_rfl) rfl rfl ?_
    refine ⟨_, l2, ⟨by decide, by decide⟩, tc a.1 sa, rfl, hca2, f3, ?_⟩
    refine ⟨_, l3, ⟨by decide, by decide⟩, tc b.1 sb, rfl, hcb3, f4, ?_⟩
    refine ⟨tc a.1 sa, rfl, P.ca, ?_⟩
    refine Or.inl ((hI _).mono ?_)
    rintro _ w5 ⟨rfl, x5⟩
    replace P := P.step x5
    refine ⟨tc a.1 sa, rfl, P.ca, ?_⟩
    refine Or.inl ((hO _).mono ?_)
    rintro _ w6 ⟨rfl, x6⟩
    replace P := P.step x6
    refine ⟨_, P.hb.1, ?_⟩
    repeat refine br_dec_false (by omega : ¬ x.op = 3) ?_
    refine ⟨_, P.hb.1, ?_⟩
    repeat refine br_dec_false (by omega : ¬ x.op = 9) ?_
    refine ⟨_, P.hb.1, ?_⟩
    repeat refine br_dec_false (by omega : ¬ x.op = 10) ?_
    refine ⟨_, P.hb.1, ?_⟩
    repeat refine br_dec_false (by omega : ¬ x.op = 5) ?_
    refine ⟨_, P.hb.1, ?_⟩
    repeat refine br_dec_false (by omega : ¬ x.op = 8) ?_
    refine ⟨_, P.hb.1, ?_⟩
    repeat refine br_dec_false (by omega : ¬ x.op = 9) ?_
    refine ⟨_, P.hb.1, ?_⟩
    repeat refine br_dec_false (by omega : ¬ x.op = 5) ?_
    refine ⟨_, P.hb.1, ?_⟩
    repeat refine br_dec_false (by omega : ¬ x.op = 8) ?_
    refine ⟨_, P.hb.1, ?_⟩
    repeat refine br_dec_false (by omega : ¬ x.op = 10) ?_
    refine ⟨_, P.hb.1, ?_⟩
    repeat refine br_dec_false (by omega : ¬ x.op = 14) ?_
    refine ⟨_, P.hb.1, ?_⟩
    repeat refine br_dec_false (by omega : ¬ x.op = 14) ?_
    refine ⟨tc x s0, rfl, P.hb, ?_⟩
    exact fin5t false P.r P.hB P.ext P.s
  ·
    have e : stFirst x.op x.w a b = none := by unfold stFirst; rw [if_neg (by omega), if_neg (by omega), if_neg (by omega), if_neg (by omega)]
    rw [e, out_n, Option.isSome_none]
    have zl : isC (a.1, a.2) 0 = false := is_false (t := a) (fun e => hz (isC_iff.1 e).2)
    have ul : decide (a.1.op = 0 ∧ a.1.n = ones a.1.w) = false := decide_eq_false (fun e => hu e.2)
    simp only [zl] at hI
    simp only [ul] at hO
    refine ret_of_vc ties mixed Tryz.func93 rfl (by kernel_rfl) rfl rfl ?_
    refine ⟨_, l2, ⟨by decide, by decide⟩, tc a.1 sa, rfl, hca2, f3, ?_⟩
    refine ⟨_, l3, ⟨by decide, by decide⟩, tc b.1 sb, rfl, hcb3, f4, ?_⟩
    refine ⟨tc a.1 sa, rfl, P.ca, ?_⟩
    refine Or.inl ((hI _).mono ?_)
    rintro _ w5 ⟨rfl, x5⟩
    replace P := P.step x5
    refine ⟨tc a.1 sa, rfl, P.ca, ?_⟩
    refine Or.inl ((hO _).mono ?_)
    rintro _ w6 ⟨rfl, x6⟩
    replace P := P.step x6
    refine ⟨_, P.hb.1, ?_⟩
    repeat refine br_dec_false (by omega : ¬ x.op = 3) ?_
    refine ⟨_, P.hb.1, ?_⟩
    repeat refine br_dec_false (by omega : ¬ x.op = 9) ?_
    refine ⟨_, P.hb.1, ?_⟩
    repeat refine br_dec_false (by omega : ¬ x.op = 10) ?_
    refine ⟨_, P.hb.1, ?_⟩
    repeat refine br_dec_false (by omega : ¬ x.op = 5) ?_
    refine ⟨_, P.hb.1, ?_⟩
    repeat refine br_dec_false (by omega : ¬ x.op = 8) ?_
    refine ⟨_, P.hb.1, ?_⟩
    repeat refine br_dec_false (by omega : ¬ x.op = 9) ?_
    refine ⟨_, P.hb.1, ?_⟩
    repeat refine br_dec_false (by omega : ¬ x.op = 5) ?_
    refine ⟨_, P.hb.1, ?_⟩
    repeat refine br_dec_false (by omega : ¬ x.op = 8) ?_
    refine ⟨_, P.hb.1, ?_⟩
    repeat refine br_dec_false (by omega : ¬ x.op = 10) ?_
    refine ⟨_, P.hb.1, ?_⟩
    repeat refine br_dec_false (by omega : ¬ x.op = 14) ?_
    refine ⟨_, P.hb.1, ?_⟩
    repeat refine br_dec_false (by omega : ¬ x.op = 14) ?_
    refine ⟨tc x s0, rfl, P.hb, ?_⟩
    exact fin5t false P.r P.hB P.ext P.s
theorem l02First_of (hR : RedS 54 n) (h : OkT (x, mkTF [a, b])) (ho : 3 ≤ x.op ∧ x.op ≤ 16) (ha0 : a.1.op = 0) (hm : ms (x, mkTF [a, b]) < n + 1) (hs : TSl ok W s (mkTF [a, b])) :
    Ret Tryz.prog 93 #[tv x s] W (FirR ok (stFirst x.op x.w a b).isSome (((stFirst x.op x.w a b).map outT).getD (x, mkTF [a, b])) W) := by
  by_cases hk3 : x.op = 3
  · exact l02First_3 hR h ho ha0 hm hk3 hs
  by_cases hk5 : x.op = 5
  · exact l02First_5 hR h ho ha0 hm hk5 hs
  by_cases hk8 : x.op = 8
  · exact l02First_8 hR h ho ha0 hm hk8 hs
  by_cases hk9 : x.op = 9
  · exact l02First_9 hR h ho ha0 hm hk9 hs
  by_cases hk10 : x.op = 10
  · exact l02First_10 hR h ho ha0 hm hk10 hs
  by_cases hk14 : x.op = 14
  · exact l02First_14 hR h ho ha0 hm hk14 hs
  exact l02First_0 hR h ho ha0 hm hk3 hk5 hk8 hk9 hk10 hk14 hs
end
end Go.Proofs.YtkoaicjcanplaaaGreat
