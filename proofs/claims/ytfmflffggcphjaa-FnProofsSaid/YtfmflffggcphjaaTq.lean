/- TrimProof: both contracts. -/
import Derived.Test.YtfmflffggcphjaaTn
namespace Go.Sat
open Go.Vc
end Go.Sat
namespace Go.Proofs.Ytfmflffggcphjaa
open Go Go.Vc Go.RowKit Go.Sat
set_option linter.unusedVariables false

/-- What TrimProof gives. -/
noncomputable def tri (n : Int) (F : Cnf) (x : Int) (f : PF) : Option (Int × PF) := if ckP n F [] x f = true then some (trm F n.toNat (f.size + 1) x f []) else none
theorem tri_size (n : Int) (F : Cnf) (x : Int) (f : PF) : ((tri n F x f).getD (0, .nil)).2.size ≤ f.size := by
  unfold tri
  split
  · exact trm_size _ _ _ _
  · simp [Fo.size]
theorem ck_split {n : Int} {F : Cnf} {x : Int} {f : PF} (h : ckP n F [] x f = true) : fOk n F = true ∧ chk F n.toNat (f.size + 1) x f [] = true := by
  unfold ckP at h
  simp only [Bool.and_eq_true] at h
  exact ⟨h.1, h.2.2⟩
def TrmR (o : Option (Int × PF)) (W : World) (r : Value) (w' : World) : Prop := Ext W w' ∧ ∃ ps, r = .tuple #[.agg #[.int .i64 (o.getD (0, .nil)).1, ps], .bool o.isSome] ∧ oneB ps = true ∧ PSep w' ps (o.getD (0, .nil)).2 W.heap.size w'.heap.size
def TrmS (o : Option (Int × PF)) (W : World) (r : Value) (w' : World) : Prop := Ext W w' ∧ ∃ ps, r = .tuple #[.agg #[.int .i64 (o.getD (0, .nil)).1, ps], .bool o.isSome] ∧ oneB ps = true ∧ PSl (freshB W) w' ps (o.getD (0, .nil)).2

set_option maxHeartbeats 4000000 in
theorem impl_TrimProof (n : Int) (F : Cnf) (x : Int) (f : PF) (s p : Value) (W : World) (hs : SlR eL allB W s F) (hp : PSl anyB W p f) (hll : f.size ≤ 1048576) :
    Ret Try.prog 32 #[fv n s, .agg #[.int .i64 x, p]] W (TrmR (tri n F x f) W) := by
  have x0 : Ext W (W.alloc (.cells #[.int .i64 n, s] 25)) := Ext.new _ _
  have x01 : Ext (W.alloc (.cells #[.int .i64 n, s] 25)) ((W.alloc (.cells #[.int .i64 n, s] 25)).alloc (.cells #[.int .i64 x, p] 39)) := Ext.new _ _
  have x02 : Ext ((W.alloc (.cells #[.int .i64 n, s] 25)).alloc (.cells #[.int .i64 x, p] 39)) (((W.alloc (.cells #[.int .i64 n, s] 25)).alloc (.cells #[.int .i64 x, p] 39)).alloc (.cells #[.int .i64 0, .slice none 0 0] 39)) := Ext.new _ _
  have hbf := (boxedAll W [.int .i64 n, s] 25).ext (x01.trans x02)
  have hb := (boxedAll (W.alloc (.cells #[.int .i64 n, s] 25)) [.int .i64 x, p] 39).ext x02
  have rP := Rmy.new ((W.alloc (.cells #[.int .i64 n, s] 25)).alloc (.cells #[.int .i64 x, p] 39)) [.int .i64 0, .slice none 0 0] 39
  have e1 : (W.alloc (.cells #[.int .i64 n, s] 25)).heap.size = W.heap.size + 1 := by simp
  have e2 : ((W.alloc (.cells #[.int .i64 n, s] 25)).alloc (.cells #[.int .i64 x, p] 39)).heap.size = W.heap.size + 2 := by simp
  have e3 : (((W.alloc (.cells #[.int .i64 n, s] 25)).alloc (.cells #[.int .i64 x, p] 39)).alloc (.cells #[.int .i64 0, .slice none 0 0] 39)).heap.size = W.heap.size + 3 := by simp
  have x1 := (x0.trans x01).trans x02
  have fin : ∀ (y : Int × PF) (ps : Value) (w w' : World), Ext (((W.alloc (.cells #[.int .i64 n, s] 25)).alloc (.cells #[.int .i64 x, p] 39)).alloc (.cells #[.int .i64 0, .slice none 0 0] 39)) w → Ext (Vc.setCells w ((W.alloc (.cells #[.int .i64 n, s] 25)).alloc (.cells #[.int .i64 x, p] 39)).heap.size 0 [.int .i64 y.1, ps]) w' → oneB ps = true → PSep w ps y.2 (W.heap.size + 3) w.heap.size → Ext W w' ∧ PSep w' ps y.2 W.heap.size w'.heap.size := by
    intro y ps w w' hx hx' hone hsep
    have hch : Chg (fun b => b = ((W.alloc (.cells #[.int .i64 n, s] 25)).alloc (.cells #[.int .i64 x, p] 39)).heap.size) w w' := (Chg.setCells (S := fun b => b = ((W.alloc (.cells #[.int .i64 n, s] 25)).alloc (.cells #[.int .i64 x, p] 39)).heap.size) rfl _ _ _).trans (.of hx')
    have h3 := hch.size
    exact ⟨(x1.trans hx).chg hch (fun b hb => by rw [hb, e2]; omega), (hsep.keep plc_len fun b g1 g2 => hch.block b g2 (fun e => by rw [e2] at e; omega)).wide (by omega) h3⟩
  refine ret_of_vc ties mixed Try.func32 rfl (by kernel_rfl) rfl rfl ?_
  refine ⟨[.int .i64 n, s], rfl, hbf, [.int .i64 x, p], rfl, hb, ?_⟩
  refine Or.inl ((impl_CheckProof n F [] x f s (.slice none 0 0) p _ (hs.ext x1) (SlR.nil _ _ _ _ _ (Nat.zero_le _)) (hp.ext x1) (by simp only [List.length_nil]; omega)).mono ?_)
  rintro _ w3 ⟨rfl, x3⟩
  have rP3 := rP.ext x3
  refine br_not (fun h => ?_) (fun h => ?_)
  · have ht : tri n F x f = none := by unfold tri; rw [if_neg (by rw [show ckP n F [] x f = false from h]; decide)]
    rw [ht]
    refine ⟨rP3.all [.int .i64 0, .slice none 0 0] 0 (Nat.le_refl 2) rfl, ?_⟩
    refine ⟨[.int .i64 0, .slice none 0 0], rfl, setCells_at [.int .i64 0, .slice none 0 0] _ 0 2 rP3 (Nat.le_refl 2), ?_⟩
    have hf := fin (0, .nil) (.slice none 0 0) w3 _ x3 (Ext.refl _) rfl (PSep.nil _ _ _)
    exact ⟨hf.1, .slice none 0 0, rfl, rfl, hf.2⟩
  have h : ckP n F [] x f = true := h
  obtain ⟨hF, hck⟩ := ck_split h
  have hn := fOk_n' hF
  obtain ⟨N, rfl⟩ : ∃ N : Nat, n = N := ⟨n.toNat, by omega⟩
  have ht : tri N F x f = some (trm F N (f.size + 1) x f []) := by unfold tri; rw [if_pos h, Int.toNat_natCast]
  rw [ht]
  rw [Int.toNat_natCast] at hck
  obtain ⟨tt, htt⟩ : ∃ tt, trm F N (f.size + 1) x f [] = tt := ⟨_, rfl⟩
  have htrim : ∀ (sp p : Value) (w : World), Sol w.heap.size w sp N F → PSl anyB w p f → Ret Try.prog 83 #[sp, .slice none 0 0, .agg #[.int .i64 x, p]] w (TreR tt w) := fun sp p w hS hp => by
    have := trim_ret N F hF (f.size + 1) x f [] sp (.slice none 0 0) p w (Nat.lt_succ_self _) hS (SlR.nil _ _ _ _ _ (Nat.zero_le _)) hp (fun l h => absurd h (List.not_mem_nil)) (by simp only [List.length_nil]; omega) hck
    rwa [htt] at this
  rw [htt]
  clear ht htt
  refine .inr (.inr (hyb_rule ties mixed [(0, .quiet), (2, .quiet), (1, .loud), (3, .loud), (4, .wild), (5, .quiet)] (by kernel_rfl) ?_))
  refine ⟨[.int .i64 N, s], rfl, hbf.ext x3, [.int .i64 x, p], rfl, hb.ext x3, ?_⟩
  intro w4 hx4
  have x14 := (x1.trans x3).trans hx4
  refine Or.inl ((newSolver_ret N F s w4 (hs.ext x14) hF).mono ?_)
  rintro sp w5 ⟨x5, hS⟩
  refine ⟨x5, ?_⟩
  intro w6 hx6
  refine Or.inl ((htrim sp p w6 ((hS.below hx6).mono hx6.size) (hp.ext ((x14.trans x5).trans hx6))).mono ?_)
  rintro r w7 ⟨x7, ps, rfl, hone, hsep⟩
  refine ⟨x7, ?_⟩
  intro w8 hx8
  have x38 := (((hx4.trans x5).trans hx6).trans x7).trans hx8
  have rP8 := rP3.ext x38
  refine ⟨rP8.all [.int .i64 tt.1, ps] 0 (Nat.le_refl 2) (by simp only [List.all_cons, hone]; rfl), ?_⟩
  intro w9 hx9
  refine ⟨[.int .i64 tt.1, ps], rfl, (setCells_at [.int .i64 tt.1, ps] _ 0 2 rP8 (Nat.le_refl 2)).ext hx9, ?_⟩
  have hz := (x3.trans ((hx4.trans x5).trans hx6)).size
  have hf := fin tt ps w8 w9 (x3.trans x38) hx9 hone ((hsep.keep plc_len fun b g1 g2 => hx8.block b g2).wide (by omega) hx8.size)
  exact ⟨hf.1, ps, rfl, hone, hf.2⟩

set_option maxHeartbeats 4000000 in
theorem spec_TrimProof (n : Int) (F : Cnf) (x : Int) (f : PF) (s p : Value) (W : World) (hs : SlR eL allB W s F) (hp : PSl anyB W p f) (hll : f.size ≤ 1048576) :
    Ret Try.prog 64 #[fv n s, .agg #[.int .i64 x, p]] W (TrmS (tri n F x f) W) := by
  have x0 : Ext W (W.alloc (.cells #[.int .i64 n, s] 25)) := Ext.new _ _
  have x01 : Ext (W.alloc (.cells #[.int .i64 n, s] 25)) ((W.alloc (.cells #[.int .i64 n, s] 25)).alloc (.cells #[.int .i64 x, p] 39)) := Ext.new _ _
  have x02 : Ext ((W.alloc (.cells #[.int .i64 n, s] 25)).alloc (.cells #[.int .i64 x, p] 39)) (((W.alloc (.cells #[.int .i64 n, s] 25)).alloc (.cells #[.int .i64 x, p] 39)).alloc (.cells #[.int .i64 0, .slice none 0 0] 39)) := Ext.new _ _
  have hbf := (boxedAll W [.int .i64 n, s] 25).ext (x01.trans x02)
  have hb := (boxedAll (W.alloc (.cells #[.int .i64 n, s] 25)) [.int .i64 x, p] 39).ext x02
  have rP := Rmy.new ((W.alloc (.cells #[.int .i64 n, s] 25)).alloc (.cells #[.int .i64 x, p] 39)) [.int .i64 0, .slice none 0 0] 39
  have e1 : (W.alloc (.cells #[.int .i64 n, s] 25)).heap.size = W.heap.size + 1 := by simp
  have e2 : ((W.alloc (.cells #[.int .i64 n, s] 25)).alloc (.cells #[.int .i64 x, p] 39)).heap.size = W.heap.size + 2 := by simp
  have e3 : (((W.alloc (.cells #[.int .i64 n, s] 25)).alloc (.cells #[.int .i64 x, p] 39)).alloc (.cells #[.int .i64 0, .slice none 0 0] 39)).heap.size = W.heap.size + 3 := by simp
  have x1 := (x0.trans x01).trans x02
  have fin : ∀ (y : Int × PF) (ps : Value) (w w' : World), Ext (((W.alloc (.cells #[.int .i64 n, s] 25)).alloc (.cells #[.int .i64 x, p] 39)).alloc (.cells #[.int .i64 0, .slice none 0 0] 39)) w → Ext (Vc.setCells w ((W.alloc (.cells #[.int .i64 n, s] 25)).alloc (.cells #[.int .i64 x, p] 39)).heap.size 0 [.int .i64 y.1, ps]) w' → oneB ps = true → PSl (fun b => W.heap.size + 3 ≤ b) w ps y.2 → Ext W w' ∧ PSl (freshB W) w' ps y.2 := by
    intro y ps w w' hx hx' hone hsep
    have hch : Chg (fun b => b = ((W.alloc (.cells #[.int .i64 n, s] 25)).alloc (.cells #[.int .i64 x, p] 39)).heap.size) w w' := (Chg.setCells (S := fun b => b = ((W.alloc (.cells #[.int .i64 n, s] 25)).alloc (.cells #[.int .i64 x, p] 39)).heap.size) rfl _ _ _).trans (.of hx')
    have h3 := hch.size
    exact ⟨(x1.trans hx).chg hch (fun b hb => by rw [hb, e2]; omega), (Fo.Sl.chg (S := fun b => b = ((W.alloc (.cells #[.int .i64 n, s] 25)).alloc (.cells #[.int .i64 x, p] 39)).heap.size) (fun b hb e => by rw [e2] at e; omega) hch hsep).mono fun b hb => by unfold freshB; omega⟩
  refine ret_of_vc ties mixed Try.func64 rfl (by kernel_rfl) rfl rfl ?_
  refine ⟨[.int .i64 n, s], rfl, hbf, [.int .i64 x, p], rfl, hb, ?_⟩
  refine Or.inl ((spec_CheckProof n F [] x f s (.slice none 0 0) p _ (hs.ext x1) (SlR.nil _ _ _ _ _ (Nat.zero_le _)) (hp.ext x1) (by simp only [List.length_nil]; omega)).mono ?_)
  rintro _ w3 ⟨rfl, x3⟩
  have rP3 := rP.ext x3
  refine br_not (fun h => ?_) (fun h => ?_)
  · have ht : tri n F x f = none := by unfold tri; rw [if_neg (by rw [show ckP n F [] x f = false from h]; decide)]
    rw [ht]
    refine ⟨rP3.all [.int .i64 0, .slice none 0 0] 0 (Nat.le_refl 2) rfl, ?_⟩
    refine ⟨[.int .i64 0, .slice none 0 0], rfl, setCells_at [.int .i64 0, .slice none 0 0] _ 0 2 rP3 (Nat.le_refl 2), ?_⟩
    have hf := fin (0, .nil) (.slice none 0 0) w3 _ x3 (Ext.refl _) rfl ⟨_, _, rfl, Nat.zero_le _, .inl rfl⟩
    exact ⟨hf.1, .slice none 0 0, rfl, rfl, hf.2⟩
  have h : ckP n F [] x f = true := h
  obtain ⟨hF, hck⟩ := ck_split h
  have hn := fOk_n' hF
  obtain ⟨N, rfl⟩ : ∃ N : Nat, n = N := ⟨n.toNat, by omega⟩
  have ht : tri N F x f = some (trm F N (f.size + 1) x f []) := by unfold tri; rw [if_pos h, Int.toNat_natCast]
  rw [ht]
  rw [Int.toNat_natCast] at hck
  obtain ⟨tt, htt⟩ : ∃ tt, trm F N (f.size + 1) x f [] = tt := ⟨_, rfl⟩
  have htrim := l03Trim_ret N F hF (f.size + 1) x f [] s (.slice none 0 0) p w3 (Nat.lt_succ_self _) (hs.ext (x1.trans x3)) (SlR.nil _ _ _ _ _ (Nat.zero_le _)) (hp.ext (x1.trans x3)) (fun l h => absurd h (List.not_mem_nil)) (by simp only [List.length_nil]; omega) hck
  rw [htt] at htrim ⊢
  clear ht htt
  refine ⟨[.int .i64 N, s], rfl, hbf.ext x3, [.int .i64 x, p], rfl, hb.ext x3, ?_⟩
  refine Or.inl ((htrim).mono ?_)
  rintro r w7 ⟨x7, ps, rfl, hone, hsl⟩
  have rP7 := rP3.ext x7
  refine ⟨rP7.all [.int .i64 tt.1, ps] 0 (Nat.le_refl 2) (by simp only [List.all_cons, hone]; rfl), ?_⟩
  refine ⟨[.int .i64 tt.1, ps], rfl, setCells_at [.int .i64 tt.1, ps] _ 0 2 rP7 (Nat.le_refl 2), ?_⟩
  have hz := x3.size
  have hf := fin tt ps w7 _ (x3.trans x7) (Ext.refl _) hone (hsl.mono fun b hb => by unfold freshB at hb; omega)
  exact ⟨hf.1, ps, rfl, hone, hf.2⟩

end Go.Proofs.Ytfmflffggcphjaa
