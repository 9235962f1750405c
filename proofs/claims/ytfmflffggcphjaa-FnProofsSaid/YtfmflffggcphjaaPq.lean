/- ProofOf: both contracts. -/
import Derived.Test.YtfmflffggcphjaaPt
namespace Go.Sat
open Go.Vc
/-- What 'ProofOf' computes. -/
def PrfO (n : Int) (F : Cnf) (limit : Int) (o : Option (Int × Fo Int)) : Prop := ∃ r, SeaO n F [] limit r ∧ o = if r.code = 2 then some r.tree else none
theorem PrfO.unique {n : Int} {F : Cnf} {limit : Int} {o o' : Option (Int × Fo Int)} (h : PrfO n F limit o) (h' : PrfO n F limit o') : o = o' := by
  obtain ⟨r, h1, rfl⟩ := h
  obtain ⟨r', h1', rfl⟩ := h'
  rw [SeaO.unique h1 h1']
theorem srch_size {F : Cnf} {n limit : Nat} : ∀ (k : Nat) (v : List Int) (made : Nat), made ≤ limit → (srch F n limit k v made).tree.2.size + 2 * made ≤ 2 * (srch F n limit k v made).made := by
  intro k
  induction k with
  | zero => intro v made h; simp [srch, Res.no, Fo.size]
  | succ k ih =>
    intro v made h
    have hbr : ∀ u m, m ≤ limit → (branch F n (srch F n limit k) u m).tree.2.size + 2 * m ≤ 2 * (branch F n (srch F n limit k) u m).made ∧ (branch F n (srch F n limit k) u m).made ≤ limit := fun u m hm => by
      refine ⟨?_, branch_made hm⟩
      unfold branch
      split
      · simp [Res.no, Fo.size]
      · exact ih _ _ hm
    rw [srch]
    split
    · simp [Fo.size]
    · split
      · simp [Fo.size]
      · rename_i h1 h2
        have g1 := hbr (put v (-(lf v : Int))) (made + 1) (by omega)
        dsimp only
        split
        · have g2 := hbr (put v (lf v : Int)) _ g1.2
          split
          · simp only [Res.no, Fo.size]; omega
          · simp only [Fo.size]; omega
        · simp only [Fo.size]; omega
theorem PrfO.size {n : Int} {F : Cnf} {limit : Int} {o : Option (Int × Fo Int)} (h : PrfO n F limit o) : (o.getD (0, .nil)).2.size ≤ 6000 := by
  obtain ⟨r, h1, rfl⟩ := h
  split
  · unfold SeaO at h1
    split at h1
    · rename_i hc
      obtain ⟨o, _, rfl⟩ := h1
      cases o with
      | none => simp [seaRes, Res.no, Fo.size]
      | some u =>
        have h1 := srch_size (F := F) (n := n.toNat) (limit := limit.toNat) (n.toNat + 2) u 0 (Nat.zero_le _)
        have h2 := srch_made (F := F) (n := n.toNat) (limit := limit.toNat) (n.toNat + 2) u 0 (Nat.zero_le _)
        show (srch F n.toNat limit.toNat (n.toNat + 2) u 0).tree.2.size ≤ 6000
        omega
    · rw [h1]; simp [Fo.size]
  · simp [Fo.size]
end Go.Sat
namespace Go.Proofs.Ytfmflffggcphjaa
open Go Go.Vc Go.RowKit Go.Sat
set_option linter.unusedVariables false

theorem blk_is {B o l c b : Nat} (h : blk (.slice (some ⟨B, o, none⟩) l c) b) : b = B := by cases h; rfl
/-- A search of the reference, from any values. -/
theorem try_all (n : Nat) (F : Cnf) (m : Nat) (hF : fOk n F = true) (hlim : m ≤ 3000) (B0 Wk : Nat) (lits v : List Int) (s vs : Value) (W : World) (hB : B0 ≤ Wk) (hw : Wrk Wk W n s m 0 false) (hs : SlR eL (oldB B0) W s F) (hown : OwnR eI noB W vs v) (hv : Vals n v) (hm : ∀ l, tr v l ↔ l ∈ lits) (hvb : ∀ b, blk vs b → B0 ≤ b ∧ b ≠ Wk) :
    Ret Try.prog 99 #[.pointer (some ⟨Wk, 0, none⟩), vs] W (fun r w' => ∃ o R rs x ps, Upr F n (fun l => l ∈ lits) o ∧ R = seaRes F n m o ∧ (R.code = 1 ∨ R.code = 2 ∨ R.code = 3) ∧
      Chg (fun b => b = Wk ∨ blk vs b) W w' ∧ Wrk Wk w' n s m R.made (decide (R.code = 3)) ∧ r = .tuple #[rs, .agg #[.int .i64 x, ps], .bool (decide (R.code = 1))] ∧ oneB ps = true ∧ (R.code = 2 → x = R.tree.1 ∧ PSl (freshB W) w' ps R.tree.2)) := by
  have hvl := hv.len
  have hzv := zeros_le v
  refine (try_ret n F m hF hlim B0 Wk s hB (n + 2) v 0 (by omega) hv (Nat.zero_le _) vs _ hw hs hown hvb).mono ?_
  rintro r w' ⟨⟨o, ho⟩, hch, hw, rs, x, ps, rfl, hone, hyes, hno⟩
  have hR : branch F n (srch F n m (n + 2)) v 0 = seaRes F n m o := by
    unfold branch
    rw [upF_eq ho]
    cases o <;> rfl
  have hcode := branch_code (F := F) (n := n) (limit := m) (k := n + 2) (u := v) (m := 0)
  rw [hR] at hw hyes hcode hno ⊢
  exact ⟨o, _, rs, x, ps, Upr.base (A := fun l => l ∈ lits) (fun l h => (hm l).2 h) (fun l h => .base ((hm l).1 h)) ho, rfl, hcode, hch, hw, rfl, hone, hno⟩

def PrfS (n : Int) (F : Cnf) (limit : Int) (W : World) (r : Value) (w' : World) : Prop := Ext W w' ∧ ∃ o ps, PrfO n F limit o ∧ r = .tuple #[.agg #[.int .i64 (o.getD (0, .nil)).1, ps], .bool o.isSome] ∧ oneB ps = true ∧ PSl (freshB W) w' ps (o.getD (0, .nil)).2
def PrfR (n : Int) (F : Cnf) (limit : Int) (W : World) (r : Value) (w' : World) : Prop := Ext W w' ∧ ∃ o ps, PrfO n F limit o ∧ r = .tuple #[.agg #[.int .i64 (o.getD (0, .nil)).1, ps], .bool o.isSome] ∧ oneB ps = true ∧ PSep w' ps (o.getD (0, .nil)).2 W.heap.size w'.heap.size

set_option maxHeartbeats 4000000 in
theorem impl_ProofOf (n : Int) (F : Cnf) (limit : Int) (s : Value) (W : World) (hs : SlR eL allB W s F) :
    Ret Try.prog 29 #[fv n s, .int .i64 limit] W (PrfR n F limit W) := by
  have x1 : Ext W (W.alloc (.cells #[.int .i64 n, s] 25)) := Ext.new _ _
  have hb := boxedAll W [.int .i64 n, s] 25
  have x2 : Ext (W.alloc (.cells #[.int .i64 n, s] 25)) ((W.alloc (.cells #[.int .i64 n, s] 25)).alloc (.cells #[.int .i64 0, .slice none 0 0] 39)) := Ext.new _ _
  have rP := Rmy.new (W.alloc (.cells #[.int .i64 n, s] 25)) [.int .i64 0, .slice none 0 0] 39
  have e1 : (W.alloc (.cells #[.int .i64 n, s] 25)).heap.size = W.heap.size + 1 := by simp
  have e2 : ((W.alloc (.cells #[.int .i64 n, s] 25)).alloc (.cells #[.int .i64 0, .slice none 0 0] 39)).heap.size = W.heap.size + 2 := by simp
  -- a result is stored
  have fin : ∀ (o : Option (Int × PF)) (ps : Value) (w : World), PrfO n F limit o → Ext ((W.alloc (.cells #[.int .i64 n, s] 25)).alloc (.cells #[.int .i64 0, .slice none 0 0] 39)) w → oneB ps = true → PSep w ps (o.getD (0, .nil)).2 (W.heap.size + 2) w.heap.size →
      PrfR n F limit W (.tuple #[.agg #[.int .i64 (o.getD (0, .nil)).1, ps], .bool o.isSome]) (Vc.setCells w (W.alloc (.cells #[.int .i64 n, s] 25)).heap.size 0 [.int .i64 (o.getD (0, .nil)).1, ps]) := by
    intro o ps w ho hx hone hsep
    have hch : Chg (fun b => b = (W.alloc (.cells #[.int .i64 n, s] 25)).heap.size) w (Vc.setCells w (W.alloc (.cells #[.int .i64 n, s] 25)).heap.size 0 [.int .i64 (o.getD (0, .nil)).1, ps]) := Chg.setCells (S := fun b => b = (W.alloc (.cells #[.int .i64 n, s] 25)).heap.size) rfl _ _ _
    have h3 := hch.size
    refine ⟨((x1.trans x2).trans hx).chg hch (fun b hb => by rw [hb, e1]; omega), o, ps, ho, rfl, hone, ?_⟩
    exact (hsep.keep plc_len fun b g1 g2 => hch.block b g2 (fun e => by rw [e1] at e; omega)).wide (by omega) h3
  refine ret_of_vc ties mixed Try.func29 rfl (by kernel_rfl) rfl rfl ?_
  refine ⟨[.int .i64 n, s], rfl, hb.ext x2, ?_⟩
  refine Or.inl ((impl_Search n F [] limit s (.slice none 0 0) _ (hs.ext (x1.trans x2)) (SlR.nil _ _ _ _ _ (Nat.zero_le _)) (Nat.zero_le _)).mono ?_)
  rintro _ w3 ⟨x3, R, hSR, sv, rfl, -, -⟩
  have rP3 := rP.ext x3
  have hnil : ∀ w, PSep w (.slice none 0 0) (Option.getD (none : Option (Int × PF)) (0, .nil)).2 (W.heap.size + 2) w.heap.size := fun w => PSep.nil _ _ _
  refine br_dec (fun h => ?_) (fun h => ?_)
  · have ho : PrfO n F limit none := ⟨R, hSR, by rw [if_neg h]⟩
    refine ⟨rP3.all [.int .i64 0, .slice none 0 0] 0 (Nat.le_refl 2) rfl, ?_⟩
    refine ⟨[.int .i64 0, .slice none 0 0], rfl, setCells_at [.int .i64 0, .slice none 0 0] _ 0 2 rP3 (Nat.le_refl 2), ?_⟩
    exact fin none (.slice none 0 0) w3 ho x3 rfl (hnil _)
  have hc : R.code = 2 := Decidable.not_not.1 h
  by_cases hcond : fOk n F = true ∧ litsOk n [] = true ∧ 0 ≤ limit ∧ limit ≤ 3000
  case neg =>
    unfold SeaO at hSR
    rw [if_neg hcond] at hSR
    rw [hSR] at hc
    cases hc
  have hF := hcond.1
  have hn := fOk_n' hF
  have hlm := hcond.2.2
  obtain ⟨N, rfl⟩ : ∃ N : Nat, n = N := ⟨n.toNat, by omega⟩
  obtain ⟨m, rfl⟩ : ∃ m : Nat, limit = m := ⟨limit.toNat, by omega⟩
  have hprf : PrfO N F m (some R.tree) := ⟨R, hSR, by rw [if_pos hc]⟩
  unfold SeaO at hSR
  rw [if_pos hcond, Int.toNat_natCast, Int.toNat_natCast] at hSR
  obtain ⟨o', hup', hRe⟩ := hSR
  refine ⟨[.int .i64 N, s], rfl, hb.ext (x2.trans x3), ?_⟩
  refine Or.inl ((newSolver_ret N F s _ (hs.ext ((x1.trans x2).trans x3)) hF).mono ?_)
  rintro sp w4 ⟨x4, hS⟩
  obtain ⟨S, rfl⟩ := hS.ptr
  refine Or.inl ((start_ret (.pointer (some ⟨S, 0, none⟩)) N F [] (.slice none 0 0) _ hS (SlR.nil _ _ _ _ _ (Nat.zero_le _)) hF (fun l h => absurd h (List.not_mem_nil)) (Nat.zero_le _)).mono ?_)
  rintro r w5 ⟨x5, o, hup, ⟨rfl, rfl⟩ | ⟨u, p, rfl, rfl, hA⟩⟩
  · have ho : o' = none := Upr.unique (fun l h => .base h) (fun l h => .base h) hup' hup
    subst ho
    subst hRe
    have rP5 := rP3.ext (x4.trans x5)
    refine ⟨rP5.all [.int .i64 0, .slice none 0 0] 0 (Nat.le_refl 2) rfl, ?_⟩
    refine ⟨[.int .i64 0, .slice none 0 0], rfl, setCells_at [.int .i64 0, .slice none 0 0] _ 0 2 rP5 (Nat.le_refl 2), ?_⟩
    exact fin (some (0, .nil)) (.slice none 0 0) w5 hprf (x3.trans (x4.trans x5)) rfl (hnil _)
  have ho : o' = some u := Upr.unique (fun l h => .base h) (fun l h => .base h) hup' hup
  subst ho
  have huv : Vals N u ∧ ∀ c ∈ F, Fine u c := by cases hup with | yes h1 h2 h3 _ => exact ⟨h1, h2⟩
  have hzu := zeros_le u
  have hul := huv.1.len
  obtain ⟨A, _, _, rfl, _⟩ := hA.ptr
  have htree := tree_ret N F m hF (N + 2) u 0 (by omega) huv.1 huv.2 (by rw [← hc, hRe]; rfl) (.pointer (some ⟨S, 0, none⟩)) _ w5 ((hS.below x5).mono x5.size) (hA.rda.mono fun _ _ => trivial)
  rw [show (srch F N m (N + 2) u 0).tree = R.tree by rw [hRe]; rfl] at htree
  refine Or.inl ((htree).mono ?_)
  rintro r w6 ⟨x6, ps, rfl, hone, hsep⟩
  have x36 := x3.trans ((x4.trans x5).trans x6)
  have rP6 := rP.ext x36
  have hz5 := (x3.trans (x4.trans x5)).size
  refine ⟨rP6.all [.int .i64 R.tree.1, ps] 0 (Nat.le_refl 2) (by simp only [List.all_cons, hone]; rfl), ?_⟩
  refine ⟨[.int .i64 R.tree.1, ps], rfl, setCells_at [.int .i64 R.tree.1, ps] _ 0 2 rP6 (Nat.le_refl 2), ?_⟩
  exact fin (some R.tree) ps w6 hprf x36 hone (hsep.wide (by omega) (Nat.le_refl _))

set_option maxHeartbeats 4000000 in
theorem spec_ProofOf (n : Int) (F : Cnf) (limit : Int) (s : Value) (W : World) (hs : SlR eL allB W s F) :
    Ret Try.prog 60 #[fv n s, .int .i64 limit] W (PrfS n F limit W) := by
  have x1 : Ext W (W.alloc (.cells #[.int .i64 n, s] 25)) := Ext.new _ _
  have hb := boxedAll W [.int .i64 n, s] 25
  have x2 : Ext (W.alloc (.cells #[.int .i64 n, s] 25)) ((W.alloc (.cells #[.int .i64 n, s] 25)).alloc (.cells #[.int .i64 0, .slice none 0 0] 39)) := Ext.new _ _
  have rP := Rmy.new (W.alloc (.cells #[.int .i64 n, s] 25)) [.int .i64 0, .slice none 0 0] 39
  have e1 : (W.alloc (.cells #[.int .i64 n, s] 25)).heap.size = W.heap.size + 1 := by simp
  have e2 : ((W.alloc (.cells #[.int .i64 n, s] 25)).alloc (.cells #[.int .i64 0, .slice none 0 0] 39)).heap.size = W.heap.size + 2 := by simp
  -- a result is stored
  have fin : ∀ (o : Option (Int × PF)) (ps : Value) (w : World), PrfO n F limit o → Ext ((W.alloc (.cells #[.int .i64 n, s] 25)).alloc (.cells #[.int .i64 0, .slice none 0 0] 39)) w → oneB ps = true → PSl (fun b => W.heap.size + 2 ≤ b) w ps (o.getD (0, .nil)).2 →
      PrfS n F limit W (.tuple #[.agg #[.int .i64 (o.getD (0, .nil)).1, ps], .bool o.isSome]) (Vc.setCells w (W.alloc (.cells #[.int .i64 n, s] 25)).heap.size 0 [.int .i64 (o.getD (0, .nil)).1, ps]) := by
    intro o ps w ho hx hone hsl
    have hch : Chg (fun b => b = (W.alloc (.cells #[.int .i64 n, s] 25)).heap.size) w (Vc.setCells w (W.alloc (.cells #[.int .i64 n, s] 25)).heap.size 0 [.int .i64 (o.getD (0, .nil)).1, ps]) := Chg.setCells (S := fun b => b = (W.alloc (.cells #[.int .i64 n, s] 25)).heap.size) rfl _ _ _
    refine ⟨((x1.trans x2).trans hx).chg hch (fun b hb => by rw [hb, e1]; omega), o, ps, ho, rfl, hone, ?_⟩
    exact (Fo.Sl.chg (S := fun b => b = (W.alloc (.cells #[.int .i64 n, s] 25)).heap.size) (fun b hb e => by rw [e1] at e; omega) hch hsl).mono fun b hb => by unfold freshB; omega
  refine ret_of_vc ties mixed Try.func60 rfl (by kernel_rfl) rfl rfl ?_
  refine ⟨[.int .i64 n, s], rfl, hb.ext x2, ?_⟩
  refine Or.inl ((spec_FormulaOk n F s _ (hs.ext (x1.trans x2))).mono ?_)
  rintro _ w3 ⟨rfl, x3⟩
  have rP3 := rP.ext x3
  have nosea : ¬ (fOk n F = true ∧ litsOk n [] = true ∧ 0 ≤ limit ∧ limit ≤ 3000) → PrfO n F limit none := fun h => ⟨⟨0, [], 0, (0, .nil)⟩, (by unfold SeaO; rw [if_neg h]), by rw [if_neg (by decide)]⟩
  have hnil : ∀ w, PSl (fun b => W.heap.size + 2 ≤ b) w (.slice none 0 0) (Option.getD (none : Option (Int × PF)) (0, .nil)).2 := fun w => ⟨_, _, rfl, Nat.zero_le _, .inl rfl⟩
  refine br_not (fun h => ?_) (fun hF => ?_)
  · refine ⟨rP3.all [.int .i64 0, .slice none 0 0] 0 (Nat.le_refl 2) rfl, ?_⟩
    refine ⟨[.int .i64 0, .slice none 0 0], rfl, setCells_at [.int .i64 0, .slice none 0 0] _ 0 2 rP3 (Nat.le_refl 2), ?_⟩
    exact fin none (.slice none 0 0) w3 (nosea (by simp [h])) x3 rfl (hnil _)
  have hn := fOk_n' hF
  refine Or.inl ((l01In_ret limit 0 3000 _).mono ?_)
  rintro _ _ ⟨rfl, rfl⟩
  refine br_ndec (fun h => ?_) (fun hlm => ?_)
  · refine ⟨rP3.all [.int .i64 0, .slice none 0 0] 0 (Nat.le_refl 2) rfl, ?_⟩
    refine ⟨[.int .i64 0, .slice none 0 0], rfl, setCells_at [.int .i64 0, .slice none 0 0] _ 0 2 rP3 (Nat.le_refl 2), ?_⟩
    exact fin none (.slice none 0 0) w3 (nosea fun h' => h h'.2.2) x3 rfl (hnil _)
  obtain ⟨N, rfl⟩ : ∃ N : Nat, n = N := ⟨n.toNat, by omega⟩
  obtain ⟨m, rfl⟩ : ∃ m : Nat, limit = m := ⟨limit.toNat, by omega⟩
  have hsea : ∀ o, Upr F N (fun l => l ∈ []) o → SeaO N F [] m (seaRes F N m o) := fun o ho => by
    unfold SeaO
    rw [if_pos ⟨hF, rfl, hlm⟩]
    exact ⟨o, by rwa [Int.toNat_natCast], by rw [Int.toNat_natCast, Int.toNat_natCast]⟩
  refine ⟨[.int .i64 N, s], rfl, hb.ext (x2.trans x3), ?_⟩
  have hz1 : ((N : Int) + 1).toNat = N + 1 := by omega
  have x4 : Ext w3 (w3.alloc (.cells #[.int .i64 N, s, .int .i64 m, .int .i64 0, .bool false] 113)) := Ext.new _ _
  have hw4 : Wrk w3.heap.size (w3.alloc (.cells #[.int .i64 N, s, .int .i64 m, .int .i64 0, .bool false] 113)) N s m 0 false := ⟨boxedAll w3 [.int .i64 N, s, .int .i64 m, .int .i64 0, .bool false] _, Rmy.new w3 [.int .i64 N, s, .int .i64 m, .int .i64 0, .bool false] _⟩
  have hnew := new_zero (w3.alloc (.cells #[.int .i64 N, s, .int .i64 m, .int .i64 0, .bool false] 113)) ((N : Int) + 1).toNat 3 (by omega)
  have e4 : (w3.alloc (.cells #[.int .i64 N, s, .int .i64 m, .int .i64 0, .bool false] 113)).heap.size = w3.heap.size + 1 := by simp
  have x24 := (x2.trans x3).trans x4
  refine ⟨_, (hb.ext x24).1, _, IntWalk.i64_in _ (by omega), ⟨by omega, by omega, by omega, by show (8 : Int) * ((N : Int) + 1) ≤ _; omega⟩, ?_⟩
  have hs3 : SlR eL (oldB w3.heap.size) w3 s F := (hs.ext ((x1.trans x2).trans x3)).lt.mono fun b hb => hb.2
  refine Or.inl ((try_all N F m hF (by omega) w3.heap.size w3.heap.size [] (List.replicate (N + 1) 0) s (.slice (some ⟨(w3.alloc (.cells #[.int .i64 N, s, .int .i64 m, .int .i64 0, .bool false] 113)).heap.size, 0, none⟩) ((N : Int) + 1).toNat ((N : Int) + 1).toNat) _ (Nat.le_refl _) (hw4.ext hnew.1) (hs3.ext (x4.trans hnew.1)) (by have := hnew.2.1; rw [hz1] at this ⊢; exact this) (zero_vals N) (fun l => ⟨fun h => absurd h (zero_tr N l), fun h => by cases h⟩) (fun b hb => by have hb := blk_is hb; rw [e4] at hb; omega)).mono ?_)
  rintro r w6 ⟨o, R, rs, x6, ps, hup', hRR, hcode, hch6, hw6, rfl, hone6, hno⟩
  have hsR := hsea o hup'
  rw [← hRR] at hsR
  clear hRR hsea
  have x6a : Ext w3 w6 := (x4.trans hnew.1).chg hch6 fun b hb => hb.elim (fun e => Nat.le_of_eq e.symm) (fun e => by have hb := blk_is e; rw [e4] at hb; omega)
  have r7 := Rmy.new w6 [.int .i64 0, .slice none 0 0] 39
  refine ⟨r7.all [.int .i64 x6, ps] 0 (Nat.le_refl 2) (by simp only [List.all_cons, hone6]; rfl), ?_⟩
  have x7 : Ext w6 (Vc.setCells (w6.alloc (.cells #[.int .i64 0, .slice none 0 0] 39)) w6.heap.size 0 [.int .i64 x6, ps]) := Ext.setCells _ (Ext.new _ _) (Nat.le_refl _)
  have hc7 := setCells_at [.int .i64 x6, ps] _ 0 2 r7 (Nat.le_refl 2)
  have hw7 := hw6.ext x7
  have x37 := x6a.trans x7
  have rP7 := rP3.ext x37
  refine br_dec (fun h1 => ?_) (fun h1 => ?_)
  · have ho : PrfO N F m none := ⟨R, hsR, by rw [if_neg (by omega)]⟩
    refine ⟨rP7.all [.int .i64 0, .slice none 0 0] 0 (Nat.le_refl 2) rfl, ?_⟩
    refine ⟨[.int .i64 0, .slice none 0 0], rfl, setCells_at [.int .i64 0, .slice none 0 0] _ 0 2 rP7 (Nat.le_refl 2), ?_⟩
    exact fin none (.slice none 0 0) _ ho (x3.trans x37) rfl (hnil _)
  refine ⟨_, hw7.cells.2.2.2.2.1, ?_⟩
  refine br_dec (fun h3 => ?_) (fun h3 => ?_)
  · have ho : PrfO N F m none := ⟨R, hsR, by rw [if_neg (by omega)]⟩
    refine ⟨rP7.all [.int .i64 0, .slice none 0 0] 0 (Nat.le_refl 2) rfl, ?_⟩
    refine ⟨[.int .i64 0, .slice none 0 0], rfl, setCells_at [.int .i64 0, .slice none 0 0] _ 0 2 rP7 (Nat.le_refl 2), ?_⟩
    exact fin none (.slice none 0 0) _ ho (x3.trans x37) rfl (hnil _)
  have hc2 : R.code = 2 := by omega
  have ho : PrfO N F m (some R.tree) := ⟨R, hsR, by rw [if_pos hc2]⟩
  have htr := hno hc2
  have hx6e := htr.1
  subst hx6e
  have hz := (x3.trans (x4.trans hnew.1)).size
  refine ⟨[.int .i64 R.tree.1, ps], rfl, hc7, ?_⟩
  refine ⟨rP7.all [.int .i64 R.tree.1, ps] 0 (Nat.le_refl 2) (by simp only [List.all_cons, hone6]; rfl), ?_⟩
  refine ⟨[.int .i64 R.tree.1, ps], rfl, setCells_at [.int .i64 R.tree.1, ps] _ 0 2 rP7 (Nat.le_refl 2), ?_⟩
  exact fin (some R.tree) ps _ ho (x3.trans x37) hone6 ((Fo.Sl.ext x7 htr.2).mono fun b hb => by unfold freshB at hb; omega)

end Go.Proofs.Ytfmflffggcphjaa
