/- Proofs, plainly. No program in sight. Draws: contracts of l01Near, l03Tree and GiveTree (any small proof). -/
import Derived.Test.YtfmflffggcphjaaTh
import Derived.Test.YtfmflffggcphjaaTq
import Derived.Test.YtfmflffggcphjaaDt
import Derived.Test.YtfmflffggcphjaaPa
import Derived.Test.YtfmflffggcphjaaTr
namespace Go.Sat
open Go.Vc

/-! proofs -/
theorem conf_iff {F : Cnf} {lits : List Int} : conf F lits = true ↔ Bad F (fun l => l ∈ lits) := by unfold conf; simp
theorem chk_cases {F : Cnf} {n k : Nat} {x : Int} {f : Fo Int} {lits : List Int} (h : chk F n (k + 1) x f lits = true) :
    (x = 0 ∧ f = .nil ∧ conf F lits = true) ∨ (1 ≤ x ∧ x ≤ (n : Int) ∧ ∃ x1 k1 x2 k2, f = .cons x1 k1 (.cons x2 k2 .nil) ∧ chk F n k x1 k1 (lits ++ [-x]) = true ∧ chk F n k x2 k2 (lits ++ [x]) = true) := by
  by_cases h0 : x = 0
  · subst h0
    cases f with
    | nil => rw [chk_leaf] at h; exact .inl ⟨rfl, rfl, h⟩
    | cons y a b => rw [chk_leaf_no (by simp [Fo.len])] at h; cases h
  · by_cases h2 : f.len = 2
    · match f, h2 with
      | .cons x1 k1 (.cons x2 k2 .nil), _ =>
        rw [chk_node h0] at h
        simp only [Bool.and_eq_true, decide_eq_true_eq] at h
        exact .inr ⟨h.1.1, h.1.2, x1, k1, x2, k2, rfl, h.2.1, h.2.2⟩
      | .cons x1 k1 .nil, h2 => simp [Fo.len] at h2
      | .cons x1 k1 (.cons x2 k2 (.cons x3 k3 r)), h2 => simp [Fo.len] at h2
    · rw [chk_two h0 h2] at h; cases h
/-- An accepted proof: no model. -/
theorem chk_sound {F : Cnf} {n : Nat} (hF : fOk n F = true) : ∀ (k : Nat) (x : Int) (f : Fo Int) (lits : List Int), (∀ l ∈ lits, l ≠ 0) → chk F n k x f lits = true → ∀ m : List Bool, evF F m = true → ¬ Hol m (fun l => l ∈ lits) := by
  have hnz := fOk_nz hF
  intro k
  induction k with
  | zero => intro x f lits _ h; simp [chk] at h
  | succ k ih =>
    intro x f lits h0 h m hm hh
    rcases chk_cases h with ⟨_, _, hc⟩ | ⟨h1, h2, x1, k1, x2, k2, rfl, c1, c2⟩
    · exact bad_no hnz h0 (conf_iff.1 hc) hm hh
    · have hz : ∀ y : Int, y ≠ 0 → ∀ l ∈ lits ++ [y], l ≠ 0 := fun y hy l hl => by
        rcases List.mem_append.1 hl with hl | hl
        · exact h0 l hl
        · rw [List.mem_singleton.1 hl]; exact hy
      cases hs : satL m x with
      | true =>
        refine ih _ _ _ (hz x (by omega)) c2 m hm fun l hl => ?_
        rcases List.mem_append.1 hl with hl | hl
        · exact hh l hl
        · rw [List.mem_singleton.1 hl]; exact hs
      | false =>
        refine ih _ _ _ (hz (-x) (by omega)) c1 m hm fun l hl => ?_
        rcases List.mem_append.1 hl with hl | hl
        · exact hh l hl
        · rw [List.mem_singleton.1 hl, satL_neg (by omega), hs]; rfl
theorem chk_more {F G : Cnf} {n : Nat} (hFG : ∀ c ∈ F, c ∈ G) : ∀ (k : Nat) (x : Int) (f : Fo Int) (lits : List Int), chk F n k x f lits = true → ∀ k', f.size < k' → chk G n k' x f lits = true := by
  intro k
  induction k with
  | zero => intro x f lits h; simp [chk] at h
  | succ k ih =>
    intro x f lits h k' hk
    obtain ⟨j, rfl⟩ : ∃ j, k' = j + 1 := ⟨k' - 1, by omega⟩
    rcases chk_cases h with ⟨rfl, rfl, hc⟩ | ⟨h1, h2, x1, k1, x2, k2, rfl, c1, c2⟩
    · rw [chk_leaf]; exact conf_iff.2 ((conf_iff.1 hc).swap hFG fun _ h => h)
    · simp only [Fo.size] at hk
      rw [chk_node (by omega), ih _ _ _ c1 j (by omega), ih _ _ _ c2 j (by omega), decide_eq_true ⟨h1, h2⟩]; rfl
theorem chk_fuel {F : Cnf} {n k k' : Nat} {x : Int} {f : Fo Int} {lits : List Int} (h : chk F n k x f lits = true) (hk : f.size < k') : chk F n k' x f lits = true := chk_more (fun _ h => h) _ _ _ _ h _ hk
theorem trm_ok {F : Cnf} {n : Nat} : ∀ (k : Nat) (x : Int) (f : Fo Int) (lits : List Int), chk F n k x f lits = true → ∀ k', (trm F n k x f lits).2.size < k' → chk F n k' (trm F n k x f lits).1 (trm F n k x f lits).2 lits = true := by
  intro k
  induction k with
  | zero => intro x f lits h; simp [chk] at h
  | succ k ih =>
    intro x f lits h k' hk
    obtain ⟨j, rfl⟩ : ∃ j, k' = j + 1 := ⟨k' - 1, by omega⟩
    cases hc : conf F lits with
    | true => rw [trm_conf hc]; rw [chk_leaf]; exact hc
    | false =>
      obtain ⟨h1, h2, x1, k1, x2, k2, rfl, c1, c2⟩ := chk_split h hc
      rw [trm_two hc] at hk ⊢
      have e1 := ih _ _ _ c1
      have e2 := ih _ _ _ c2
      generalize trm F n k x1 k1 (lits ++ [-x]) = a at hk e1 ⊢
      generalize trm F n k x2 k2 (lits ++ [x]) = b at hk e2 ⊢
      unfold pickT at hk ⊢
      split at hk
      · rename_i ha; rw [if_pos ha]; exact chk_fuel ha hk
      · rename_i ha
        rw [if_neg ha]
        split at hk
        · rename_i hb; rw [if_pos hb]; exact chk_fuel hb hk
        · rename_i hb
          rw [if_neg hb]
          simp only [Fo.size] at hk
          rw [chk_node (by omega), e1 j (by omega), e2 j (by omega), decide_eq_true ⟨h1, h2⟩]; rfl
/-- The tree of a search that found no model is accepted. -/
theorem tree_ok {F : Cnf} {n limit : Nat} (hF : fOk n F = true) : ∀ (k : Nat) (v : List Int) (made : Nat) (lits : List Int), zeros v < k → Upr F n (fun l => l ∈ lits) (some v) → (∀ l ∈ lits, litOk n l = true) → (srch F n limit k v made).code = 2 → ∀ k', (srch F n limit k v made).tree.2.size < k' → chk F n k' (srch F n limit k v made).tree.1 (srch F n limit k v made).tree.2 lits = true := by
  intro k
  induction k with
  | zero => intro v made lits h; omega
  | succ k ih =>
    intro v made lits hz hu hlo hc k' hk
    have hv : Vals n v ∧ (∀ c ∈ F, Fine v c) ∧ (∀ l, l ∈ lits → tr v l) ∧ ∀ l, tr v l → Der F (fun l => l ∈ lits) l := by cases hu with | yes a b c d => exact ⟨a, b, c, d⟩
    obtain ⟨h0, R1, R2, m1, m2, b1, b2, r1, r2, ht⟩ := srch_two hc
    obtain ⟨i, hi⟩ : ∃ i, lf v = i + 1 := ⟨lf v - 1, by omega⟩
    obtain ⟨hl1, hl2, hf1, hf2⟩ := lf_fre hv.1 hi (by omega)
    obtain ⟨j, rfl⟩ : ∃ j, k' = j + 1 := ⟨k' - 1, by omega⟩
    rw [ht] at hk ⊢
    simp only [Fo.size] at hk
    rw [← hi] at hl1 hl2 hf1 hf2
    have hbr : ∀ (y : Int) (m : Nat) (R : Res), litOk n y = true → fre v y → branch F n (srch F n limit k) (put v y) m = R → R.code = 2 → R.tree.2.size < j → chk F n j R.tree.1 R.tree.2 (lits ++ [y]) = true := by
      intro y m R hy hfy hb hR hsz
      have hpv := put_vals hv.1 hy
      have hzp := zeros_put hfy
      have htot := upr_total (A := tr (put v y)) (fun c hc x hx => fOk_lit hF c hc x hx) (zeros (put v y) + 1) (put v y) (by omega) hpv (fun _ h => h) (fun _ h => .base h)
      refine Exists.elim htot fun o ho => ?_
      have hbase : Upr F n (fun l => l ∈ lits ++ [y]) o := by
        refine Upr.base (B := tr (put v y)) (fun l hl => ?_) (fun l hl => ?_) ho
        · refine (tr_put hv.1 hy hfy l).2 ?_
          rcases List.mem_append.1 hl with hl | hl
          · exact .inl (hv.2.2.1 l hl)
          · exact .inr (List.mem_singleton.1 hl)
        · rcases (tr_put hv.1 hy hfy l).1 hl with h | h
          · exact (hv.2.2.2 l h).swap (fun _ h => h) fun l hl => List.mem_append_left _ hl
          · exact .base (List.mem_append_right _ (List.mem_singleton.2 h))
      unfold branch at hb
      rw [upF_eq ho] at hb
      obtain ⟨i, rfl⟩ : ∃ i, j = i + 1 := ⟨j - 1, by omega⟩
      cases o with
      | none =>
        subst hb
        show chk F n (i + 1) 0 .nil (lits ++ [y]) = true
        rw [chk_leaf]; exact conf_none hbase
      | some u =>
        have hvu : Vals n u ∧ (∀ c ∈ F, Fine u c) ∧ ∀ l', tr (put v y) l' → tr u l' := by cases ho with | yes a b c d => exact ⟨a, b, c⟩
        have hzu := zeros_tr hpv hvu.1 hvu.2.2
        dsimp only at hb
        subst hb
        refine ih u m (lits ++ [y]) (by omega) hbase (fun l hl => ?_) hR (i + 1) hsz
        rcases List.mem_append.1 hl with hl | hl
        · exact hlo l hl
        · rw [List.mem_singleton.1 hl]; exact hy
    have hlo1 := litOk_iff.1 hl1
    rw [chk_node (by omega), hbr _ m1 R1 hl2 hf2 b1 r1 (by omega), hbr _ m2 R2 hl1 hf1 b2 r2 (by omega), decide_eq_true ⟨by omega, by omega⟩]; rfl
theorem ck_no {n : Nat} {F : Cnf} {x : Int} {f : Fo Int} (hn : n ≤ 12) (h : fOk n F = true) (hc : Go.Proofs.Ytfmflffggcphjaa.ckP n F [] x f = true) : cntM n F = 0 := by
  obtain ⟨_, h2⟩ := Go.Proofs.Ytfmflffggcphjaa.ck_split hc
  refine (cntM_zero h hn).2 fun m hm => ?_
  cases he : evF F m with
  | false => rfl
  | true => exact absurd (fun l (hl : l ∈ ([] : List Int)) => absurd hl (List.not_mem_nil)) (chk_sound h _ _ _ _ (fun l hl => absurd hl (List.not_mem_nil)) (by simpa using h2) m he)
theorem proof_good {n : Nat} {F : Cnf} {o : Option (Int × Fo Int)} (hn : n ≤ 6) (hF : fOk n F = true) (h : PrfO n F 3000 o) :
    (o = none ∧ cntM n F ≠ 0) ∨ (cntM n F = 0 ∧ ∃ t q, o = some t ∧ Go.Proofs.Ytfmflffggcphjaa.ckP n F [] t.1 t.2 = true ∧ Go.Proofs.Ytfmflffggcphjaa.tri n F t.1 t.2 = some q ∧ Go.Proofs.Ytfmflffggcphjaa.ckP n F [] q.1 q.2 = true ∧ q.2.size ≤ t.2.size ∧ ∀ c, clOk n c = true → F.length ≤ 1599 → Go.Proofs.Ytfmflffggcphjaa.ckP n (F ++ [c]) [] q.1 q.2 = true) := by
  obtain ⟨r, hr, rfl⟩ := h
  have h0 := hr
  rcases sea_small hn hF (fun x hx => by cases hx) hr with ⟨h1, h2⟩ | ⟨h1, h2, h3, _⟩
  · rw [if_pos h1]
    have hno : cntM n F = 0 := (cntM_zero hF (by omega)).2 fun m hm => by
      cases he : evF F m with
      | false => rfl
      | true => exact absurd (fun l hl => by cases hl) (h2 m hm he)
    have hck : ∀ k', r.tree.2.size < k' → chk F n k' r.tree.1 r.tree.2 [] = true := by
      intro k' hk
      unfold SeaO at h0
      rw [if_pos ⟨hF, rfl, by decide, by decide⟩, Int.toNat_natCast] at h0
      obtain ⟨o, ho, rfl⟩ := h0
      obtain ⟨j, rfl⟩ : ∃ j, k' = j + 1 := ⟨k' - 1, by omega⟩
      cases o with
      | none =>
        show chk F n (j + 1) 0 .nil [] = true
        rw [chk_leaf]; exact conf_none ho
      | some u =>
        have hvu : Vals n u := by cases ho with | yes a b c d => exact a
        have hzu := zeros_le u
        have hul := hvu.len
        exact tree_ok hF (n + 2) u 0 [] (by omega) ho (fun l hl => by cases hl) h1 _ hk
    have c1 : Go.Proofs.Ytfmflffggcphjaa.ckP n F [] r.tree.1 r.tree.2 = true := by
      rw [Go.Proofs.Ytfmflffggcphjaa.ckP_t hF rfl, Int.toNat_natCast]; exact hck _ (Nat.lt_succ_self _)
    have hs := trm_size (F := F) (n := n) (r.tree.2.size + 1) r.tree.1 r.tree.2 []
    have ht := trm_ok (r.tree.2.size + 1) r.tree.1 r.tree.2 [] (hck _ (Nat.lt_succ_self _))
    refine .inr ⟨hno, r.tree, trm F n (r.tree.2.size + 1) r.tree.1 r.tree.2 [], rfl, c1, ?_, ?_, hs, fun c hc hl => ?_⟩
    · unfold Go.Proofs.Ytfmflffggcphjaa.tri; rw [if_pos c1, Int.toNat_natCast]
    · rw [Go.Proofs.Ytfmflffggcphjaa.ckP_t hF rfl, Int.toNat_natCast]; exact ht _ (Nat.lt_succ_self _)
    · rw [Go.Proofs.Ytfmflffggcphjaa.ckP_t (fOk_more hF hl hc) rfl, Int.toNat_natCast]
      exact chk_more (fun d hd => List.mem_append_left _ hd) _ _ _ _ (ht _ (Nat.lt_succ_self _)) _ (Nat.lt_succ_self _)
  · refine .inl ⟨by rw [if_neg (by rw [h1]; decide)], fun e => ?_⟩
    have := (cntM_zero hF (by omega)).1 e _ h2
    rw [h3] at this; cases this
end Go.Sat
namespace Go.Proofs.Ytfmflffggcphjaa.Dr
open Go Go.Vc Go.RowKit Go.Sat
set_option linter.unusedVariables false

set_option maxRecDepth 200000 in
theorem near_ret (C : Nat) (l : List Int) (lo hi : Int) (hlo : 0 ≤ lo ∧ lo ≤ 1000) (hhi : 0 ≤ hi ∧ hi ≤ 1000) (W : World) (hC : Cur C W l) : Ret Try.prog 121 #[.pointer (some ⟨C, 0, none⟩), .int .i64 lo, .int .i64 hi] W (fun v w' => (∃ x, v = .int .i64 x) ∧ Drw C l W w') := by
  refine ret_of_vc ties mixed Try.func121 rfl (by kernel_rfl) rfl rfl ?_
  refine Or.inl ((below_ret C l 24 W hC).mono ?_)
  rintro _ w2 ⟨⟨x, rfl, hx0, hx1, -⟩, hd⟩
  refine br_dec (fun h => ?_) (fun h => ?_)
  · refine ⟨_, IntWalk.i64_in _ (by omega), ?_⟩
    exact ⟨⟨_, rfl⟩, hd⟩
  refine br_dec (fun h => ?_) (fun h => ?_)
  · refine ⟨_, IntWalk.i64_in _ (by omega), ?_⟩
    exact ⟨⟨_, rfl⟩, hd⟩
  refine br_dec (fun h => ⟨⟨_, rfl⟩, hd⟩) (fun h => ?_)
  refine br_dec (fun h => ⟨⟨_, rfl⟩, hd⟩) (fun h => ?_)
  refine ⟨_, IntWalk.i64_in _ (by omega), _, IntWalk.i64_in _ (by omega), ?_⟩
  refine Or.inl ((below_ret C l _ w2 hd.2).mono ?_)
  rintro _ w3 ⟨⟨y, rfl, hy0, hy1, -⟩, hd3⟩
  refine ⟨_, IntWalk.i64_in _ (by omega), ?_⟩
  exact ⟨⟨_, rfl⟩, hd.1.trans hd3.1, hd3.2⟩

theorem rmyChg {C B n : Nat} {w w' : World} (h : Rmy w B n) (hc : Chg (fun b => b = C) w w') (hne : B ≠ C) : Rmy w' B n := hc.rmy hne h
def TrR (C : Nat) (l : List Int) (m : Nat) (W : World) (r : Value) (w' : World) : Prop := Chg (fun b => b = C) W w' ∧ Cur C w' l ∧ ∃ (x : Int) (ps : Value) (f : PF), r = .agg #[.int .i64 x, ps] ∧ oneB ps = true ∧ PSl (fun b => W.heap.size < b ∧ b < w'.heap.size) w' ps f ∧ f.size + 2 ≤ 2 ^ (m + 1)

set_option maxRecDepth 200000 in
set_option maxHeartbeats 2000000 in
theorem tree_ret (C : Nat) (l : List Int) : ∀ (m : Nat), m ≤ 10 → ∀ (W : World), Cur C W l → C < W.heap.size → Ret Try.prog 82 #[.pointer (some ⟨C, 0, none⟩), .int .i64 m] W (TrR C l m W) := by
  intro m
  induction m with
  | zero =>
    intro _ W hC hCW
    have x1 : Ext W (W.alloc (.cells #[.int .i64 0, .slice none 0 0] 39)) := Ext.new _ _
    have r1 := Rmy.new W [.int .i64 0, .slice none 0 0] 39
    refine ret_of_vc ties mixed Try.func82 rfl (by kernel_rfl) rfl rfl ?_
    refine ⟨r1.all [.int .i64 0, .slice none 0 0] 0 (Nat.le_refl 2) rfl, ?_⟩
    refine ⟨[.int .i64 0, .slice none 0 0], rfl, setCells_at [.int .i64 0, .slice none 0 0] _ 0 2 r1 (Nat.le_refl 2), ?_⟩
    have hS : Chg (fun b => b = W.heap.size) (W.alloc (.cells #[.int .i64 0, .slice none 0 0] 39)) (Vc.setCells (W.alloc (.cells #[.int .i64 0, .slice none 0 0] 39)) W.heap.size 0 [.int .i64 0, .slice none 0 0]) := Chg.setCells (S := fun b => b = W.heap.size) rfl _ _ _
    exact ⟨(Chg.of x1).fresh hS (fun b hb => .inl (by omega)), (hC.ext x1).chg (S := fun b => b = W.heap.size) (fun b hb e => by omega) hS, 0, _, .nil, rfl, rfl, ⟨none, 0, rfl, Nat.zero_le _, .inl rfl⟩, by decide⟩
  | succ m ih =>
    intro hm W hC hCW
    have x1 : Ext W (W.alloc (.cells #[.int .i64 0, .slice none 0 0] 39)) := Ext.new _ _
    have r1 := Rmy.new W [.int .i64 0, .slice none 0 0] 39
    have e1 : (W.alloc (.cells #[.int .i64 0, .slice none 0 0] 39)).heap.size = W.heap.size + 1 := by simp
    refine ret_of_vc ties mixed Try.func82 rfl (by kernel_rfl) rfl rfl ?_
    refine Or.inl ((once_ret C l 3 _ (hC.ext x1)).mono ?_)
    rintro _ w2 ⟨⟨bb, rfl⟩, hch2, hcu2⟩
    have r2 := hch2.rmy (show ¬ W.heap.size = C by omega) r1
    have hchW2 : Chg (fun b => b = C) W w2 := (Chg.of x1).trans hch2
    have z2 := hch2.size
    rw [e1] at z2
    cases bb with
    | true =>
      refine ⟨r2.all [.int .i64 0, .slice none 0 0] 0 (Nat.le_refl 2) rfl, ?_⟩
      refine ⟨[.int .i64 0, .slice none 0 0], rfl, setCells_at [.int .i64 0, .slice none 0 0] _ 0 2 r2 (Nat.le_refl 2), ?_⟩
      have hS : Chg (fun b => b = W.heap.size) w2 (Vc.setCells w2 W.heap.size 0 [.int .i64 0, .slice none 0 0]) := Chg.setCells (S := fun b => b = W.heap.size) rfl _ _ _
      exact ⟨hchW2.fresh hS (fun b hb => .inl (by omega)), hcu2.chg (S := fun b => b = W.heap.size) (fun b hb e => by omega) hS, 0, _, .nil, rfl, rfl, ⟨none, 0, rfl, Nat.zero_le _, .inl rfl⟩, by have := Nat.one_le_two_pow (n := m + 1); rw [Nat.pow_succ]; show 0 + 2 ≤ _; omega⟩
    | false =>
      refine Or.inl ((near_ret C l 1 5 (by decide) (by decide) w2 hcu2).mono ?_)
      rintro _ w3 ⟨⟨x, rfl⟩, hch3, hcu3⟩
      have z3 := hch3.size
      refine ⟨(m : Int), (congrArg _ (by omega)).trans (IntWalk.i64_in _ (by omega)), ?_⟩
      refine Or.inl ((ih (by omega) w3 hcu3 (by omega)).mono ?_)
      rintro _ w4 ⟨hch4, hcu4, x1', k1, f1, rfl, ho1, hp1, hs1⟩
      have z4 := hch4.size
      refine ⟨(m : Int), (congrArg _ (by omega)).trans (IntWalk.i64_in _ (by omega)), ?_⟩
      refine Or.inl ((ih (by omega) w4 hcu4 (by omega)).mono ?_)
      rintro _ w5 ⟨hch5, hcu5, x2', k2, f2, rfl, ho2, hp2, hs2⟩
      have z5 := hch5.size
      have hp1 := Fo.Sl.chg (S := fun b => b = C) (fun b hb e => by omega) hch5 hp1
      have hp1 : PSl (fun b => W.heap.size < b ∧ b < w5.heap.size) w5 k1 f1 := hp1.mono fun b hb => by omega
      have hp2 : PSl (fun b => W.heap.size < b ∧ b < w5.heap.size) w5 k2 f2 := hp2.mono fun b hb => by omega
      obtain ⟨a1, c1, rfl, hl1, hh1⟩ := id hp1
      obtain ⟨a2, c2, rfl, hl2, hh2⟩ := id hp2
      have r5 := rmyChg (rmyChg (rmyChg r2 hch3 (by omega)) hch4 (by omega)) hch5 (by omega)
      have hchW5 := ((hchW2.trans hch3).trans hch4).trans hch5
      have xB : Ext w5 (w5.alloc (.cells [.int .i64 x1', .slice a1 f1.len c1, .int .i64 x2', .slice a2 f2.len c2].toArray 39)) := Ext.new _ _
      have hbB := boxedAll w5 [.int .i64 x1', .slice a1 f1.len c1, .int .i64 x2', .slice a2 f2.len c2] 39
      have eB : (w5.alloc (.cells [.int .i64 x1', .slice a1 f1.len c1, .int .i64 x2', .slice a2 f2.len c2].toArray 39)).heap.size = w5.heap.size + 1 := World.size_alloc _ _
      have hat : PAt (fun b => W.heap.size < b ∧ b < w5.heap.size) (w5.alloc (.cells [.int .i64 x1', .slice a1 f1.len c1, .int .i64 x2', .slice a2 f2.len c2].toArray 39)) (.cons x1' f1 (.cons x2' f2 .nil)) w5.heap.size 0 :=
        ⟨⟨_, ⟨hbB.1, hbB.2.1, trivial⟩, hp1.ext xB⟩, ⟨_, ⟨hbB.2.2.1, hbB.2.2.2.1, trivial⟩, hp2.ext xB⟩, trivial⟩
      have r6 := Rmy.new (w5.alloc (.cells [.int .i64 x1', .slice a1 f1.len c1, .int .i64 x2', .slice a2 f2.len c2].toArray 39)) [.int .i64 0, .slice none 0 0] 39
      have x6 : Ext (w5.alloc (.cells [.int .i64 x1', .slice a1 f1.len c1, .int .i64 x2', .slice a2 f2.len c2].toArray 39)) (Vc.setCells ((w5.alloc (.cells [.int .i64 x1', .slice a1 f1.len c1, .int .i64 x2', .slice a2 f2.len c2].toArray 39)).alloc (.cells #[.int .i64 0, .slice none 0 0] 39)) (w5.alloc (.cells [.int .i64 x1', .slice a1 f1.len c1, .int .i64 x2', .slice a2 f2.len c2].toArray 39)).heap.size 0 [.int .i64 x, .slice (some ⟨w5.heap.size, 0, none⟩) 2 2]) := Ext.setCells _ (Ext.new _ _) (Nat.le_refl _)
      have hc6 := setCells_at [.int .i64 x, .slice (some ⟨w5.heap.size, 0, none⟩) 2 2] _ 0 2 r6 (Nat.le_refl 2)
      have h6 := Rmy.setCells (b := (w5.alloc (.cells [.int .i64 x1', .slice a1 f1.len c1, .int .i64 x2', .slice a2 f2.len c2].toArray 39)).heap.size) (o := 0) [.int .i64 x, .slice (some ⟨w5.heap.size, 0, none⟩) 2 2] r6
      have e6 : (w5.alloc (.cells [.int .i64 x1', .slice a1 f1.len c1, .int .i64 x2', .slice a2 f2.len c2].toArray 39)).heap.size < (Vc.setCells ((w5.alloc (.cells [.int .i64 x1', .slice a1 f1.len c1, .int .i64 x2', .slice a2 f2.len c2].toArray 39)).alloc (.cells #[.int .i64 0, .slice none 0 0] 39)) (w5.alloc (.cells [.int .i64 x1', .slice a1 f1.len c1, .int .i64 x2', .slice a2 f2.len c2].toArray 39)).heap.size 0 [.int .i64 x, .slice (some ⟨w5.heap.size, 0, none⟩) 2 2]).heap.size := World.block_lt_of_cell? _ _ hc6.1
      refine ⟨r6.all [.int .i64 x, .slice (some ⟨w5.heap.size, 0, none⟩) 2 2] 0 (Nat.le_refl 2) rfl, ?_⟩
      have hcon := once_ret C l 16 (Vc.setCells ((w5.alloc (.cells [.int .i64 x1', .slice a1 f1.len c1, .int .i64 x2', .slice a2 f2.len c2].toArray 39)).alloc (.cells #[.int .i64 0, .slice none 0 0] 39)) (w5.alloc (.cells [.int .i64 x1', .slice a1 f1.len c1, .int .i64 x2', .slice a2 f2.len c2].toArray 39)).heap.size 0 [.int .i64 x, .slice (some ⟨w5.heap.size, 0, none⟩) 2 2]) (hcu5.ext (xB.trans x6))
      refine Or.inl ((hcon).mono ?_)
      rintro _ w7 ⟨⟨bb, rfl⟩, hch7, hcu7⟩
      have x56 := xB.trans x6
      have hat6 := Fo.At.ext x6 hat
      have hat7 := Fo.At.chg (S := fun b => b = C) (fun b hb e => by omega) hch7 (show ¬ w5.heap.size = C by omega) hat6
      have hc7 := hch7.cells (show ¬ (w5.alloc (.cells [.int .i64 x1', .slice a1 f1.len c1, .int .i64 x2', .slice a2 f2.len c2].toArray 39)).heap.size = C by omega) hc6
      have h7 := hch7.rmy (show ¬ (w5.alloc (.cells [.int .i64 x1', .slice a1 f1.len c1, .int .i64 x2', .slice a2 f2.len c2].toArray 39)).heap.size = C by omega) h6
      have rW7 := hch7.rmy (show ¬ W.heap.size = C by omega) (r5.ext x56)
      have hchW7 := (hchW5.trans (.of x56)).trans hch7
      have z7 := hch7.size
      cases bb with
      | false =>
        have hp7 : PSl (fun b => W.heap.size < b ∧ b < w7.heap.size) w7 (.slice (some ⟨w5.heap.size, 0, none⟩) 2 2) (.cons x1' f1 (.cons x2' f2 .nil)) := ⟨_, 2, rfl, (by decide : 2 ≤ maxLen), .inr ⟨_, _, rfl, ⟨by omega, by omega⟩, hat7.mono fun b hb => by omega⟩⟩
        refine ⟨[.int .i64 x, .slice (some ⟨w5.heap.size, 0, none⟩) 2 2], rfl, hc7, ?_⟩
        refine ⟨rW7.all [.int .i64 x, .slice (some ⟨w5.heap.size, 0, none⟩) 2 2] 0 (Nat.le_refl 2) rfl, ?_⟩
        refine ⟨[.int .i64 x, .slice (some ⟨w5.heap.size, 0, none⟩) 2 2], rfl, setCells_at [.int .i64 x, .slice (some ⟨w5.heap.size, 0, none⟩) 2 2] _ 0 2 rW7 (Nat.le_refl 2), ?_⟩
        have hS : Chg (fun b => b = W.heap.size) w7 (Vc.setCells w7 W.heap.size 0 [.int .i64 x, .slice (some ⟨w5.heap.size, 0, none⟩) 2 2]) := Chg.setCells (S := fun b => b = W.heap.size) rfl _ _ _
        have hzS := hS.size
        exact ⟨hchW7.fresh hS (fun b hb => .inl (by omega)), Cur.chg (S := fun b => b = W.heap.size) (fun b hb e => by omega) hS hcu7, x, _, _, rfl, rfl, (Fo.Sl.chg (S := fun b => b = W.heap.size) (fun b hb e => by omega) hS hp7).mono fun b hb => ⟨hb.1, Nat.lt_of_lt_of_le hb.2 hzS⟩, by simp only [Fo.size]; rw [Nat.pow_succ]; omega⟩
      | true =>
        refine ⟨_, hc7.2.1, ⟨by decide, by decide, by decide⟩, h7 1 (by decide), ?_⟩
        have hone : Chg (fun b => b = (w5.alloc (.cells [.int .i64 x1', .slice a1 f1.len c1, .int .i64 x2', .slice a2 f2.len c2].toArray 39)).heap.size) w7 (w7.setCell ⟨(w5.alloc (.cells [.int .i64 x1', .slice a1 f1.len c1, .int .i64 x2', .slice a2 f2.len c2].toArray 39)).heap.size, 0 + 1, none⟩ (.slice (some ⟨w5.heap.size, 0 + 1 * 2, none⟩) 1 1)) := Chg.setCell (S := fun b => b = (w5.alloc (.cells [.int .i64 x1', .slice a1 f1.len c1, .int .i64 x2', .slice a2 f2.len c2].toArray 39)).heap.size) _ rfl _
        have hc8 : CellsAt (w7.setCell ⟨(w5.alloc (.cells [.int .i64 x1', .slice a1 f1.len c1, .int .i64 x2', .slice a2 f2.len c2].toArray 39)).heap.size, 0 + 1, none⟩ (.slice (some ⟨w5.heap.size, 0 + 1 * 2, none⟩) 1 1)) (w5.alloc (.cells [.int .i64 x1', .slice a1 f1.len c1, .int .i64 x2', .slice a2 f2.len c2].toArray 39)).heap.size 0 [.int .i64 x, .slice (some ⟨w5.heap.size, 0 + 1 * 2, none⟩) 1 1] := ⟨(World.cell?_setCell_other _ _ _ _ (by simp)).trans hc7.1, World.cell?_setCell_same _ _ _ hc7.2.1, trivial⟩
        have hat8 := Fo.At.chg (S := fun b => b = (w5.alloc (.cells [.int .i64 x1', .slice a1 f1.len c1, .int .i64 x2', .slice a2 f2.len c2].toArray 39)).heap.size) (fun b hb e => by omega) hone (show ¬ w5.heap.size = (w5.alloc (.cells [.int .i64 x1', .slice a1 f1.len c1, .int .i64 x2', .slice a2 f2.len c2].toArray 39)).heap.size by omega) hat7.2
        have rW8 := hone.rmy (show ¬ W.heap.size = (w5.alloc (.cells [.int .i64 x1', .slice a1 f1.len c1, .int .i64 x2', .slice a2 f2.len c2].toArray 39)).heap.size by omega) rW7
        have hcu8 := hcu7.chg (S := fun b => b = (w5.alloc (.cells [.int .i64 x1', .slice a1 f1.len c1, .int .i64 x2', .slice a2 f2.len c2].toArray 39)).heap.size) (fun b hb e => by omega) hone
        have hchW8 := hchW7.fresh hone fun b hb => .inl (by omega)
        have z8 := hone.size
        have hp8 : PSl (fun b => W.heap.size < b ∧ b < (w7.setCell ⟨(w5.alloc (.cells [.int .i64 x1', .slice a1 f1.len c1, .int .i64 x2', .slice a2 f2.len c2].toArray 39)).heap.size, 0 + 1, none⟩ (.slice (some ⟨w5.heap.size, 0 + 1 * 2, none⟩) 1 1)).heap.size) (w7.setCell ⟨(w5.alloc (.cells [.int .i64 x1', .slice a1 f1.len c1, .int .i64 x2', .slice a2 f2.len c2].toArray 39)).heap.size, 0 + 1, none⟩ (.slice (some ⟨w5.heap.size, 0 + 1 * 2, none⟩) 1 1)) (.slice (some ⟨w5.heap.size, 0 + 1 * 2, none⟩) 1 1) (.cons x2' f2 .nil) := ⟨_, 1, rfl, (by decide : 1 ≤ maxLen), .inr ⟨_, _, rfl, ⟨by omega, by omega⟩, hat8.mono fun b hb => by omega⟩⟩
        refine ⟨[.int .i64 x, .slice (some ⟨w5.heap.size, 0 + 1 * 2, none⟩) 1 1], rfl, hc8, ?_⟩
        refine ⟨rW8.all [.int .i64 x, .slice (some ⟨w5.heap.size, 0 + 1 * 2, none⟩) 1 1] 0 (Nat.le_refl 2) rfl, ?_⟩
        refine ⟨[.int .i64 x, .slice (some ⟨w5.heap.size, 0 + 1 * 2, none⟩) 1 1], rfl, setCells_at [.int .i64 x, .slice (some ⟨w5.heap.size, 0 + 1 * 2, none⟩) 1 1] _ 0 2 rW8 (Nat.le_refl 2), ?_⟩
        have hS : Chg (fun b => b = W.heap.size) (w7.setCell ⟨(w5.alloc (.cells [.int .i64 x1', .slice a1 f1.len c1, .int .i64 x2', .slice a2 f2.len c2].toArray 39)).heap.size, 0 + 1, none⟩ (.slice (some ⟨w5.heap.size, 0 + 1 * 2, none⟩) 1 1)) (Vc.setCells (w7.setCell ⟨(w5.alloc (.cells [.int .i64 x1', .slice a1 f1.len c1, .int .i64 x2', .slice a2 f2.len c2].toArray 39)).heap.size, 0 + 1, none⟩ (.slice (some ⟨w5.heap.size, 0 + 1 * 2, none⟩) 1 1)) W.heap.size 0 [.int .i64 x, .slice (some ⟨w5.heap.size, 0 + 1 * 2, none⟩) 1 1]) := Chg.setCells (S := fun b => b = W.heap.size) rfl _ _ _
        have hzS := hS.size
        exact ⟨hchW8.fresh hS (fun b hb => .inl (by omega)), Cur.chg (S := fun b => b = W.heap.size) (fun b hb e => by omega) hS hcu8, x, _, _, rfl, rfl, (Fo.Sl.chg (S := fun b => b = W.heap.size) (fun b hb e => by omega) hS hp8).mono fun b hb => ⟨hb.1, Nat.lt_of_lt_of_le hb.2 hzS⟩, by simp only [Fo.size]; rw [Nat.pow_succ]; omega⟩

def GtR (W : World) (r : Value) (w' : World) : Prop := Ext W w' ∧ ∃ (x : Int) (ps : Value) (f : PF), r = .agg #[.int .i64 x, ps] ∧ PSl anyB w' ps f ∧ f.size ≤ 30
set_option maxRecDepth 200000 in
set_option maxHeartbeats 1000000 in
theorem giveTree_ret (l : List Int) (m : Int) (hm : 0 ≤ m ∧ m ≤ 1000000) (s : Value) (W : World) (hs : SlR eU allB W s l) : Ret Try.prog 31 #[s, .int .i64 m] W (GtR W) := by
  have x1 : Ext W (W.alloc (.cells #[.int .i64 0, .slice none 0 0] 39)) := Ext.new _ _
  have r1 := Rmy.new W [.int .i64 0, .slice none 0 0] 39
  have e1 : (W.alloc (.cells #[.int .i64 0, .slice none 0 0] 39)).heap.size = W.heap.size + 1 := by simp
  refine ret_of_vc ties mixed Try.func31 rfl (by kernel_rfl) rfl rfl ?_
  refine Or.inl ((at_ret l m hm s _ (hs.ext x1)).mono ?_)
  rintro _ w2 ⟨x2, C, rfl, hCW, hC2, hcu⟩
  refine Or.inl ((tree_ret C l 4 (by decide) w2 hcu hC2).mono ?_)
  rintro _ w3 ⟨hch, hcu3, x, ps, f, rfl, hone, hp, hsz⟩
  have r3 := hch.rmy (show ¬ W.heap.size = C by omega) (r1.ext x2)
  have z2 := x2.size
  refine ⟨r3.all [.int .i64 x, ps] 0 (Nat.le_refl 2) (by simp only [List.all_cons, hone]; rfl), ?_⟩
  refine ⟨[.int .i64 x, ps], rfl, setCells_at [.int .i64 x, ps] _ 0 2 r3 (Nat.le_refl 2), ?_⟩
  have hS : Chg (fun b => b = W.heap.size) w3 (Vc.setCells w3 W.heap.size 0 [.int .i64 x, ps]) := Chg.setCells (S := fun b => b = W.heap.size) rfl _ _ _
  exact ⟨(((x1.trans x2).chg hch fun b hb => by omega).chg hS fun b hb => by omega), x, ps, f, rfl, (Fo.Sl.chg (S := fun b => b = W.heap.size) (fun b hb e => by omega) hS hp).mono fun _ _ => trivial, by omega⟩

end Go.Proofs.Ytfmflffggcphjaa.Dr
