/- Checked proofs: contracts of with, refutes, CheckProof and of the reference's. -/
import Derived.Test.YtfmflffggcphjaaPp
import Derived.Test.YtfmflffggcphjaaPa
namespace Go.Sat
open Go.Vc
open Classical in
/-- The clauses and some literals lead to a conflict. -/
noncomputable def conf (F : Cnf) (lits : List Int) : Bool := decide (Bad F (fun l => l ∈ lits))
theorem conf_none {F : Cnf} {n : Nat} {lits : List Int} (h : Upr F n (fun l => l ∈ lits) none) : conf F lits = true := by
  cases h with | no h => unfold conf; simpa using h
theorem conf_some {F : Cnf} {n : Nat} {lits : List Int} {u : List Int} (h : Upr F n (fun l => l ∈ lits) (some u)) : conf F lits = false := by
  cases h with | yes _ h1 h2 _ => unfold conf; simpa using Fine.good h1 h2
/-- A proof is accepted. -/
noncomputable def chk (F : Cnf) (n : Nat) : Nat → Int → Fo Int → List Int → Bool
  | 0, _, _, _ => false
  | k + 1, x, f, lits => if x = 0 then (match f with | .nil => conf F lits | _ => false) else
    match f with
    | .cons x1 k1 (.cons x2 k2 .nil) => decide (1 ≤ x ∧ x ≤ (n : Int)) && (chk F n k x1 k1 (lits ++ [-x]) && chk F n k x2 k2 (lits ++ [x]))
    | _ => false
section
variable {F : Cnf} {n k : Nat} {x : Int} {f : Fo Int} {lits : List Int}
theorem chk_leaf : chk F n (k + 1) 0 .nil lits = conf F lits := by simp [chk]
theorem chk_leaf_no (h : f.len ≠ 0) : chk F n (k + 1) 0 f lits = false := by
  cases f with
  | nil => exact absurd rfl h
  | cons y a b => simp [chk]
theorem chk_node (hx : x ≠ 0) {x1 x2 : Int} {k1 k2 : Fo Int} : chk F n (k + 1) x (.cons x1 k1 (.cons x2 k2 .nil)) lits = (decide (1 ≤ x ∧ x ≤ (n : Int)) && (chk F n k x1 k1 (lits ++ [-x]) && chk F n k x2 k2 (lits ++ [x]))) := by
  simp [chk, hx]
theorem chk_two (hx : x ≠ 0) (h : f.len ≠ 2) : chk F n (k + 1) x f lits = false := by
  match f, h with
  | .nil, _ => simp [chk, hx]
  | .cons x1 k1 .nil, _ => simp [chk, hx]
  | .cons x1 k1 (.cons x2 k2 .nil), h => exact absurd rfl h
  | .cons x1 k1 (.cons x2 k2 (.cons x3 k3 r)), _ => simp [chk, hx]
theorem chk_bad (hx : x ≠ 0) (h : ¬ (1 ≤ x ∧ x ≤ (n : Int))) : chk F n (k + 1) x f lits = false := by
  by_cases h2 : f.len = 2
  · match f, h2 with
    | .cons x1 k1 (.cons x2 k2 .nil), _ => rw [chk_node hx, decide_eq_false h]; rfl
    | .cons x1 k1 .nil, h2 => simp [Fo.len] at h2
    | .cons x1 k1 (.cons x2 k2 (.cons x3 k3 r)), h2 => simp [Fo.len] at h2
  · exact chk_two hx h2
end
end Go.Sat
namespace Go.Proofs.Ytfmflffggcphjaa
open Go Go.Vc Go.RowKit Go.Sat
set_option linter.unusedVariables false

theorem with_ret (l : List Int) (x : Int) (s : Value) (W : World) (hs : SlR eI allB W s l) (hl : l.length ≤ 100000000) :
    Ret Try.prog 120 #[s, .int .i64 x] W (fun v w' => NewR eI noB W v w' (l ++ [x])) := by
  obtain ⟨a, c, rfl, g1, g2, g3⟩ := id hs
  refine ret_of_vc ties mixed Try.func120 rfl (by kernel_rfl) rfl rfl ?_
  refine Or.inl ((clone_ret l _ _ hs (by omega)).mono ?_)
  rintro v w2 ⟨x2, hv, hvb⟩
  refine raw_push (E := eI) (ok := noB) (x := x) ties rfl rfl rfl rfl rfl rfl rfl rfl rfl rfl rfl hv rfl noB_blk (by show (l.length + 1) * 8 ≤ _; omega) (by omega) ?_
  intro u w3 hu hch hsz hub
  refine ⟨x2.chg hch hvb, hu, fun b hb => ?_⟩
  rcases hub b hb with h | h
  · exact hvb b h
  · exact Nat.le_trans x2.size (Nat.le_of_lt h.1)

theorem l03With_ret (l : List Int) (x : Int) (s : Value) (W : World) (hs : SlR eI allB W s l) (hl : l.length ≤ 100000000) :
    Ret Try.prog 124 #[s, .int .i64 x] W (fun v w' => NewR eI noB W v w' (l ++ [x])) := by
  obtain ⟨a, c, rfl, g1, g2, g3⟩ := id hs
  refine ret_of_vc ties mixed Try.func124 rfl (by kernel_rfl) rfl rfl ?_
  refine raw_append (E := eI) (ok := noB) (l := []) (k := l) ties rfl rfl rfl rfl rfl rfl rfl rfl rfl rfl (OwnR.nil _ _ _ _) noB_blk ⟨_, _, rfl, ?_⟩ (by show (0 + l.length) * 8 ≤ _; omega) (by show 0 + l.length ≤ _; omega) ?_
  · rcases g3 with h | ⟨b, o, h, _, h'⟩
    · exact .inl h
    · exact .inr ⟨b, o, h, RAt.imp (E := eI) (E' := eI) (ok := allB) (ok' := noB) rfl (fun _ _ h => h) (h'.ext (Ext.new _ _))⟩
  intro v w2 hv hch2 hvb
  have x2 : Ext W w2 := (Ext.new W _).chg hch2 (fun i hi => by cases hi; exact Nat.le_refl _)
  have hvb' : ∀ b, blk v b → W.heap.size ≤ b := fun b hb => by
    rcases hvb b hb with h | h
    · cases h; exact Nat.le_refl _
    · have := h.1; simp at this; omega
  refine raw_push (E := eI) (ok := noB) (x := x) ties rfl rfl rfl rfl rfl rfl rfl rfl rfl rfl rfl hv rfl noB_blk (by show (l.length + 1) * 8 ≤ _; omega) (by show l.length + 1 ≤ _; omega) ?_
  intro u w3 hu hch hsz hub
  refine ⟨x2.chg hch hvb', hu, fun b hb => ?_⟩
  rcases hub b hb with h | h
  · exact hvb' b h
  · exact Nat.le_trans x2.size (Nat.le_of_lt h.1)

theorem two_kids {f : PF} (h : f.len = 2) : ∃ x1 k1 x2 k2, f = .cons x1 k1 (.cons x2 k2 .nil) := by
  match f with
  | .nil => simp [Fo.len] at h
  | .cons x1 k1 .nil => simp [Fo.len] at h
  | .cons x1 k1 (.cons x2 k2 .nil) => exact ⟨x1, k1, x2, k2, rfl⟩
  | .cons x1 k1 (.cons x2 k2 (.cons x3 k3 r)) => simp [Fo.len] at h

set_option maxHeartbeats 4000000 in
theorem refutes_ret (n : Nat) (F : Cnf) (hF : fOk n F = true) : ∀ (fuel : Nat) (x : Int) (f : PF) (lits : List Int) (sp s t : Value) (W : World), f.size < fuel → Sol W.heap.size W sp n F → SlR eI allB W s lits → PSl anyB W t f → (∀ l ∈ lits, litOk n l = true) → lits.length + f.size ≤ 10000000 →
    Ret Try.prog 81 #[sp, s, .agg #[.int .i64 x, t]] W (fun v w' => v = .bool (chk F n fuel x f lits) ∧ Ext W w') := by
  intro fuel
  induction fuel with
  | zero => intro x f lits sp s t W h; omega
  | succ k ih =>
    intro x f lits sp s t W hsz hS hs ht hl hll
    have hn : n ≤ 400 := by simp only [fOk, Bool.and_eq_true, decide_eq_true_eq] at hF; omega
    obtain ⟨S, rfl⟩ := hS.ptr
    obtain ⟨pa, pc, rfl, hpl, hpat⟩ := id ht
    have x1 : Ext W (W.alloc (.cells #[.int .i64 x, .slice pa f.len pc] 39)) := Ext.new _ _
    have hb := boxedAll W [.int .i64 x, .slice pa f.len pc] 39
    refine ret_of_vc ties mixed Try.func81 rfl (by kernel_rfl) rfl rfl ?_
    refine ⟨_, hb.1, ?_⟩
    refine br_dec (fun h0 => ?_) (fun h0 => ?_)
    · subst h0
      refine ⟨_, hb.2.1, ?_⟩
      refine br_dec (fun h1 => ?_) (fun h1 => ?_)
      · refine ⟨vbool ?_, x1⟩
        have hl0 : f.len ≠ 0 := by omega
        rw [chk_leaf_no hl0]
      · have hl0 : f = .nil := Fo.len_zero (by omega)
        subst hl0
        refine Or.inl ((start_ret (.pointer (some ⟨S, 0, none⟩)) n F lits s _ ((hS.below (x1.mono (Nat.le_refl _))).mono x1.size) (hs.ext x1) hF hl (by omega)).mono ?_)
        rintro r w5 ⟨x5, o, hup, ⟨rfl, rfl⟩ | ⟨u, p, rfl, rfl, hA⟩⟩
        · exact ⟨vbool (by rw [chk_leaf]; exact (conf_none hup).symm), x1.trans x5⟩
        · exact ⟨vbool (by rw [chk_leaf]; exact (conf_some hup).symm), x1.trans x5⟩
    · have hS1 := (hS.below (x1.mono (Nat.le_refl _))).mono x1.size
      obtain ⟨S', cs, os, O, hSe, hSB, hSc, -, -, -⟩ := id hS1
      cases hSe
      refine .inl ⟨by kernel_rfl, _, hb.1, ?_⟩
      refine br_dec (fun h1 => ?_) (fun h1 => ?_)
      · intro w4 hx4
        exact ⟨vbool (chk_bad h0 (by omega)).symm, x1.trans hx4⟩
      refine ⟨_, hb.1, _, hSc.1, ?_⟩
      refine br_dec (fun h2 => ?_) (fun h2 => ?_)
      · intro w4 hx4
        exact ⟨vbool (chk_bad h0 (by omega)).symm, x1.trans hx4⟩
      refine ⟨_, hb.2.1, ?_⟩
      intro w4 hx4
      refine br_dec (fun h3 => ?_) (fun h3 => ?_)
      · exact ⟨vbool (chk_two h0 (by omega)).symm, x1.trans hx4⟩
      obtain ⟨x2, k1, x3, k2, rfl⟩ := two_kids (show f.len = 2 by omega)
      have hx14 := x1.trans hx4
      have hS4 := (hS.below (hx14.mono (Nat.le_refl _))).mono hx14.size
      have hb4 := hb.ext hx4
      obtain ⟨pb, po, rfl, -, hat⟩ := hpat.resolve_left (by simp [Fo.len])
      obtain ⟨⟨s1, hc1, hs1⟩, hat2⟩ := hat.sl
      obtain ⟨⟨s2, hc2, hs2⟩, -⟩ := hat2.sl
      simp only [Fo.size] at hsz hll
      have hlx : litOk n x = true := litOk_iff.2 (by omega)
      have hlnx : litOk n (-x) = true := litOk_iff.2 (by omega)
      have hsnoc : ∀ y, litOk n y = true → ∀ l ∈ lits ++ [y], litOk n l = true := fun y hy l hm => by
        rcases List.mem_append.1 hm with hm | hm
        · exact hl l hm
        · rw [List.mem_singleton.1 hm]; exact hy
      have hnode : ∀ r, (chk F n k x2 k1 (lits ++ [-x]) && chk F n k x3 k2 (lits ++ [x])) = r → r = chk F n (k + 1) x (.cons x2 k1 (.cons x3 k2 .nil)) lits := fun r h => by rw [chk_node h0, decide_eq_true (by omega), h]; rfl
      refine .inr (.inr (hyb_rule ties mixed [(0, .quiet), (1, .quiet), (2, .quiet), (3, .quiet), (4, .quiet), (6, .quiet), (7, .quiet), (8, .quiet), (9, .quiet), (5, .loud), (10, .quiet), (11, .quiet), (12, .quiet), (13, .quiet), (14, .quiet), (15, .quiet), (17, .quiet), (18, .quiet), (19, .quiet), (20, .quiet), (16, .loud), (21, .quiet), (22, .quiet), (23, .quiet)] (by kernel_rfl) ?_))
      refine ⟨_, hb4.1, _, IntWalk.i64_in _ (by omega), _, hb4.2.1, ⟨by decide, by simp [Fo.len]⟩, [.int .i64 x2, s1], rfl, hc1.ext hx14, ?_⟩
      intro w5 hx5
      rw [show (0 : Int) - x = -x from by omega]
      refine Or.inl ((with_ret lits (-x) s w5 (hs.ext (hx14.trans hx5)) (by omega)).mono ?_)
      rintro v6 w6 hv6
      refine ⟨hv6.1, ?_⟩
      have hx16 := (hx14.trans hx5).trans hv6.1
      refine ⟨.bool (chk F n k x2 k1 (lits ++ [-x])), fun w' hx' => (ih x2 k1 (lits ++ [-x]) (.pointer (some ⟨S, 0, none⟩)) v6 s1 w' (by omega) ((hS.below ((hx16.trans hx').mono (Nat.le_refl _))).mono (hx16.trans hx').size) (hv6.sl.ext hx') (hs1.ext (hx16.trans hx')) (hsnoc _ hlnx) (by simp only [List.length_append, List.length_singleton]; omega)).mono fun _ _ h => h, ?_⟩
      have hb6 := hb4.ext (hx5.trans hv6.1)
      refine br_split (fun h5 => ?_) (fun h5 => ?_)
      · refine ⟨_, hb6.1, _, hb6.2.1, ⟨by decide, by simp [Fo.len]⟩, [.int .i64 x3, s2], rfl, hc2.ext hx16, ?_⟩
        intro w7 hx7
        refine Or.inl ((with_ret lits x s w7 (hs.ext (hx16.trans hx7)) (by omega)).mono ?_)
        rintro v8 w8 hv8
        refine ⟨hv8.1, ?_⟩
        have hx18 := (hx16.trans hx7).trans hv8.1
        refine ⟨.bool (chk F n k x3 k2 (lits ++ [x])), fun w' hx' => (ih x3 k2 (lits ++ [x]) (.pointer (some ⟨S, 0, none⟩)) v8 s2 w' (by omega) ((hS.below ((hx18.trans hx').mono (Nat.le_refl _))).mono (hx18.trans hx').size) (hv8.sl.ext hx') (hs2.ext (hx18.trans hx')) (hsnoc _ hlx) (by simp only [List.length_append, List.length_singleton]; omega)).mono fun _ _ h => h, ?_⟩
        intro w9 hx9
        exact ⟨vbool (hnode _ (by rw [h5]; rfl)), hx18.trans hx9⟩
      · intro w7 hx7
        refine ⟨Ext.refl _, ?_⟩
        intro w8 hx8
        exact ⟨vbool (hnode _ (by rw [h5]; rfl)), (hx16.trans hx7).trans hx8⟩

set_option maxHeartbeats 4000000 in
theorem l03Check_ret (n : Nat) (F : Cnf) (hF : fOk n F = true) : ∀ (fuel : Nat) (x : Int) (f : PF) (lits : List Int) (fs s t : Value) (W : World), f.size < fuel → SlR eL allB W fs F → SlR eI allB W s lits → PSl anyB W t f → (∀ l ∈ lits, litOk n l = true) → lits.length + f.size ≤ 10000000 →
    Ret Try.prog 98 #[fv n fs, s, .agg #[.int .i64 x, t]] W (fun v w' => v = .bool (chk F n fuel x f lits) ∧ Ext W w') := by
  intro fuel
  induction fuel with
  | zero => intro x f lits sp s t W h; omega
  | succ k ih =>
    intro x f lits fs s t W hsz hfs hs ht hl hll
    have hn : n ≤ 400 := by simp only [fOk, Bool.and_eq_true, decide_eq_true_eq] at hF; omega
    obtain ⟨pa, pc, rfl, hpl, hpat⟩ := id ht
    have x0 : Ext W (W.alloc (.cells #[.int .i64 n, fs] 25)) := Ext.new _ _
    have x1 : Ext W ((W.alloc (.cells #[.int .i64 n, fs] 25)).alloc (.cells #[.int .i64 x, .slice pa f.len pc] 39)) := x0.trans (Ext.new _ _)
    have hbf := (boxedAll W [.int .i64 n, fs] 25).ext (Ext.new _ (.cells #[.int .i64 x, .slice pa f.len pc] 39))
    have hb := boxedAll (W.alloc (.cells #[.int .i64 n, fs] 25)) [.int .i64 x, .slice pa f.len pc] 39
    refine ret_of_vc ties mixed Try.func98 rfl (by kernel_rfl) rfl rfl ?_
    refine ⟨_, hb.1, ?_⟩
    refine br_dec (fun h0 => ?_) (fun h0 => ?_)
    · subst h0
      refine ⟨[.int .i64 n, fs], rfl, hbf, ?_⟩
      refine Or.inl ((spec_Propagate n F lits fs s _ (hfs.ext x1) (hs.ext x1)).mono ?_)
      rintro r w5 ⟨x5, o, ho, sv, rfl, -, -⟩
      refine ⟨_, (hb.ext x5).2.1, ?_⟩
      refine br_dec (fun h1 => ?_) (fun h1 => ?_)
      · have hl0 : f = .nil := Fo.len_zero (by omega)
        subst hl0
        refine ⟨vbool ?_, x1.trans x5⟩
        rw [chk_leaf]
        unfold PropO at ho
        rw [if_pos ⟨hF, litsOk_iff.2 hl⟩] at ho
        obtain ⟨u, hu, rfl⟩ := ho
        rw [Int.toNat_natCast] at hu
        cases u with
        | none => rw [conf_none hu]; rfl
        | some u => rw [conf_some hu]; rfl
      · refine ⟨vbool (chk_leaf_no (by omega)).symm, x1.trans x5⟩
    · refine .inr (.inr (hyb_rule ties mixed [(0, .quiet), (1, .quiet), (2, .quiet), (3, .quiet), (4, .quiet), (5, .quiet), (6, .quiet), (7, .quiet), (8, .quiet), (9, .quiet), (10, .quiet), (11, .quiet), (12, .quiet), (13, .quiet), (14, .quiet), (15, .quiet), (16, .quiet), (18, .quiet), (19, .quiet), (20, .quiet), (21, .quiet), (17, .loud), (22, .quiet), (23, .quiet), (24, .quiet), (25, .quiet), (26, .quiet), (27, .quiet), (28, .quiet), (30, .quiet), (31, .quiet), (32, .quiet), (33, .quiet), (29, .loud), (34, .quiet), (35, .quiet), (36, .quiet)] (by kernel_rfl) ?_))
      by_cases h1 : 1 ≤ x ∧ x ≤ (n : Int)
      · refine ⟨_, hb.1, _, hbf.1, .bool true, fun w' hx' => (l01In_ret x 1 n w').mono (by rintro _ _ ⟨rfl, rfl⟩; exact ⟨by rw [decide_eq_true h1], Ext.refl _⟩), ?_⟩
        refine ⟨_, hb.2.1, ?_⟩
        have hlx : litOk n x = true := litOk_iff.2 (by omega)
        have hlnx : litOk n (-x) = true := litOk_iff.2 (by omega)
        have hsnoc : ∀ y, litOk n y = true → ∀ l ∈ lits ++ [y], litOk n l = true := fun y hy l hm => by
          rcases List.mem_append.1 hm with hm | hm
          · exact hl l hm
          · rw [List.mem_singleton.1 hm]; exact hy
        refine br_dec (fun h3 => ?_) (fun h3 => ?_)
        · obtain ⟨x2, k1, x3, k2, rfl⟩ := two_kids (show f.len = 2 by omega)
          obtain ⟨pb, po, rfl, -, hat⟩ := hpat.resolve_left (by simp [Fo.len])
          obtain ⟨⟨s1, hc1, hs1⟩, hat2⟩ := hat.sl
          obtain ⟨⟨s2, hc2, hs2⟩, -⟩ := hat2.sl
          simp only [Fo.size] at hsz hll
          have hnode : ∀ r, (chk F n k x2 k1 (lits ++ [-x]) && chk F n k x3 k2 (lits ++ [x])) = r → r = chk F n (k + 1) x (.cons x2 k1 (.cons x3 k2 .nil)) lits := fun r h => by rw [chk_node h0, decide_eq_true (by omega), h]; rfl
          repeat refine br_dec_true h3 ?_
          refine ⟨[.int .i64 n, fs], rfl, hbf, ?_⟩
          repeat refine br_dec_true h3 ?_
          refine ⟨_, hb.1, ?_⟩
          repeat refine br_dec_true h3 ?_
          refine ⟨_, IntWalk.i64_in _ (by omega), ?_⟩
          repeat refine br_dec_true h3 ?_
          refine ⟨_, hb.2.1, ?_⟩
          repeat refine br_dec_true h3 ?_
          refine ⟨⟨by decide, by simp [Fo.len]⟩, ?_⟩
          repeat refine br_dec_true h3 ?_
          refine ⟨[.int .i64 x2, s1], rfl, hc1.ext x1, ?_⟩
          intro w5 hx5
          repeat refine br_dec_true h3 ?_
          rw [show (0 : Int) - x = -x from by omega]
          refine Or.inl ((l03With_ret lits (-x) s w5 (hs.ext (x1.trans hx5)) (by omega)).mono ?_)
          rintro v6 w6 hv6
          refine ⟨hv6.1, ?_⟩
          have hx16 := (x1.trans hx5).trans hv6.1
          repeat refine br_dec_true h3 ?_
          refine ⟨.bool (chk F n k x2 k1 (lits ++ [-x])), fun w' hx' => (ih x2 k1 (lits ++ [-x]) fs v6 s1 w' (by omega) (hfs.ext (hx16.trans hx')) (hv6.sl.ext hx') (hs1.ext (hx16.trans hx')) (hsnoc _ hlnx) (by simp only [List.length_append, List.length_singleton]; omega)).mono fun _ _ h => h, ?_⟩
          repeat refine br_dec_true h3 ?_
          have hb6 := hb.ext (hx5.trans hv6.1)
          have hbf6 := hbf.ext (hx5.trans hv6.1)
          by_cases h5 : chk F n k x2 k1 (lits ++ [-x]) = true
          · rw [h5] at hnode ⊢
            refine ⟨[.int .i64 n, fs], rfl, hbf6, _, hb6.1, _, hb6.2.1, ⟨by decide, by simp [Fo.len]⟩, [.int .i64 x3, s2], rfl, hc2.ext hx16, ?_⟩
            intro w7 hx7
            refine Or.inl ((l03With_ret lits x s w7 (hs.ext (hx16.trans hx7)) (by omega)).mono ?_)
            rintro v8 w8 hv8
            refine ⟨hv8.1, ?_⟩
            have hx18 := (hx16.trans hx7).trans hv8.1
            refine ⟨.bool (chk F n k x3 k2 (lits ++ [x])), fun w' hx' => (ih x3 k2 (lits ++ [x]) fs v8 s2 w' (by omega) (hfs.ext (hx18.trans hx')) (hv8.sl.ext hx') (hs2.ext (hx18.trans hx')) (hsnoc _ hlx) (by simp only [List.length_append, List.length_singleton]; omega)).mono fun _ _ h => h, ?_⟩
            intro w9 hx9
            exact ⟨vbool (hnode _ rfl), hx18.trans hx9⟩
          · rw [Bool.not_eq_true] at h5
            rw [h5] at hnode ⊢
            intro w7 hx7
            refine ⟨Ext.refl _, ?_⟩
            intro w8 hx8
            exact ⟨vbool (hnode _ rfl), (hx16.trans hx7).trans hx8⟩
        · repeat refine br_dec_false h3 ?_
          intro w4 hx4
          repeat refine br_dec_false h3 ?_
          refine ⟨Ext.refl _, ?_⟩
          repeat refine br_dec_false h3 ?_
          intro w5 hx5
          refine ⟨Ext.refl _, ?_⟩
          intro w6 hx6
          refine ⟨vbool (chk_two h0 (by omega)).symm, ((x1.trans hx4).trans hx5).trans hx6⟩
      · refine ⟨_, hb.1, _, hbf.1, .bool false, fun w' hx' => (l01In_ret x 1 n w').mono (by rintro _ _ ⟨rfl, rfl⟩; exact ⟨by rw [decide_eq_false h1], Ext.refl _⟩), ?_⟩
        intro w4 hx4
        refine ⟨Ext.refl _, ?_⟩
        intro w5 hx5
        refine ⟨Ext.refl _, ?_⟩
        intro w6 hx6
        refine ⟨vbool (chk_bad h0 h1).symm, ((x1.trans hx4).trans hx5).trans hx6⟩

/-- What CheckProof gives. -/
noncomputable def ckP (n : Int) (F : Cnf) (lits : List Int) (x : Int) (f : PF) : Bool := fOk n F && (litsOk n lits && chk F n.toNat (f.size + 1) x f lits)
theorem ckP_f {n : Int} {F : Cnf} {lits : List Int} {x : Int} {f : PF} (h : fOk n F = false) : ckP n F lits x f = false := by unfold ckP; rw [h]; rfl
theorem ckP_l {n : Int} {F : Cnf} {lits : List Int} {x : Int} {f : PF} (h : litsOk n lits = false) : ckP n F lits x f = false := by unfold ckP; rw [h]; simp
theorem ckP_t {n : Int} {F : Cnf} {lits : List Int} {x : Int} {f : PF} (h : fOk n F = true) (h' : litsOk n lits = true) : ckP n F lits x f = chk F n.toNat (f.size + 1) x f lits := by unfold ckP; rw [h, h']; rfl

theorem spec_CheckProof (n : Int) (F : Cnf) (lits : List Int) (x : Int) (f : PF) (s t p : Value) (W : World) (hs : SlR eL allB W s F) (ht : SlR eI allB W t lits) (hp : PSl anyB W p f) (hll : lits.length + f.size ≤ 10000000) :
    Ret Try.prog 54 #[fv n s, t, .agg #[.int .i64 x, p]] W (fun v w' => v = .bool (ckP n F lits x f) ∧ Ext W w') := by
  have x0 : Ext W (W.alloc (.cells #[.int .i64 n, s] 25)) := Ext.new _ _
  have x1 : Ext W ((W.alloc (.cells #[.int .i64 n, s] 25)).alloc (.cells #[.int .i64 x, p] 39)) := x0.trans (Ext.new _ _)
  have hbf := (boxedAll W [.int .i64 n, s] 25).ext (Ext.new _ (.cells #[.int .i64 x, p] 39))
  have hb := boxedAll (W.alloc (.cells #[.int .i64 n, s] 25)) [.int .i64 x, p] 39
  refine ret_of_vc ties mixed Try.func54 rfl (by kernel_rfl) rfl rfl ?_
  refine ⟨[.int .i64 n, s], rfl, hbf, ?_⟩
  refine Or.inl ((spec_FormulaOk n F s _ (hs.ext x1)).mono ?_)
  rintro _ w2 ⟨rfl, x2⟩
  have x12 := x1.trans x2
  refine br_split (fun hF => ?_) (fun hF => ?_)
  · have hn := fOk_n' hF
    refine ⟨_, (hbf.ext x2).1, ?_⟩
    refine Or.inl ((spec_l03Lits lits t n _ (ht.ext x12) hn.1 hn.2.1).mono ?_)
    rintro _ w3 ⟨rfl, e⟩
    subst e
    refine br_split (fun hL => ?_) (fun hL => ?_)
    · have hlits := litsOk_iff.1 hL
      obtain ⟨N, rfl⟩ : ∃ N : Nat, n = N := ⟨n.toNat, by omega⟩
      refine ⟨[.int .i64 N, s], rfl, hbf.ext x2, [.int .i64 x, p], rfl, hb.ext x2, ?_⟩
      refine Or.inl ((l03Check_ret N F hF (f.size + 1) x f lits s t p _ (Nat.lt_succ_self _) (hs.ext x12) (ht.ext x12) (hp.ext x12) hlits hll).mono ?_)
      rintro _ w4 ⟨rfl, x4⟩
      exact ⟨vbool (by rw [ckP_t hF hL, Int.toNat_natCast]), x12.trans x4⟩
    · exact ⟨vbool (ckP_l hL).symm, x12⟩
  · exact ⟨vbool (ckP_f hF).symm, x12⟩

theorem impl_CheckProof (n : Int) (F : Cnf) (lits : List Int) (x : Int) (f : PF) (s t p : Value) (W : World) (hs : SlR eL allB W s F) (ht : SlR eI allB W t lits) (hp : PSl anyB W p f) (hll : lits.length + f.size ≤ 10000000) :
    Ret Try.prog 30 #[fv n s, t, .agg #[.int .i64 x, p]] W (fun v w' => v = .bool (ckP n F lits x f) ∧ Ext W w') := by
  have x0 : Ext W (W.alloc (.cells #[.int .i64 n, s] 25)) := Ext.new _ _
  have x1 : Ext W ((W.alloc (.cells #[.int .i64 n, s] 25)).alloc (.cells #[.int .i64 x, p] 39)) := x0.trans (Ext.new _ _)
  have hbf := (boxedAll W [.int .i64 n, s] 25).ext (Ext.new _ (.cells #[.int .i64 x, p] 39))
  have hb := boxedAll (W.alloc (.cells #[.int .i64 n, s] 25)) [.int .i64 x, p] 39
  refine ret_of_vc ties mixed Try.func30 rfl (by kernel_rfl) rfl rfl ?_
  refine ⟨[.int .i64 n, s], rfl, hbf, ?_⟩
  refine Or.inl ((impl_FormulaOk n F s _ (hs.ext x1)).mono ?_)
  rintro _ w2 ⟨rfl, x2⟩
  have x12 := x1.trans x2
  cases hF : fOk n F with
  | false => exact ⟨vbool (ckP_f hF).symm, x12⟩
  | true =>
    have hn := fOk_n' hF
    refine ⟨_, (hbf.ext x2).1, ?_⟩
    refine Or.inl ((impl_literalsOk lits t n _ (ht.ext x12) hn.1 hn.2.1).mono ?_)
    rintro _ w3 ⟨rfl, e⟩
    subst e
    cases hL : litsOk n lits with
    | false => exact ⟨vbool (ckP_l hL).symm, x12⟩
    | true =>
      have hlits := litsOk_iff.1 hL
      obtain ⟨N, rfl⟩ : ∃ N : Nat, n = N := ⟨n.toNat, by omega⟩
      refine .inr (.inr (hyb_rule ties mixed [(0, .quiet), (2, .quiet), (3, .quiet), (1, .loud), (4, .quiet), (5, .quiet)] (by kernel_rfl) ?_))
      refine ⟨[.int .i64 N, s], rfl, hbf.ext x2, [.int .i64 x, p], rfl, hb.ext x2, ?_⟩
      intro w4 x4
      have x14 := x12.trans x4
      refine Or.inl ((newSolver_ret N F s _ (hs.ext x14) hF).mono ?_)
      rintro sp w5 ⟨x5, hS⟩
      have x15 := x14.trans x5
      refine ⟨x5, .bool (chk F N (f.size + 1) x f lits), fun w' hx' => (refutes_ret N F hF (f.size + 1) x f lits sp t p w' (Nat.lt_succ_self _) ((hS.below (hx'.mono (Nat.le_refl _))).mono hx'.size) (ht.ext (x15.trans hx')) (hp.ext (x15.trans hx')) hlits hll).mono fun _ _ h => h, ?_⟩
      intro w6 x6
      exact ⟨vbool (by rw [ckP_t hF hL, Int.toNat_natCast]), x15.trans x6⟩

end Go.Proofs.Ytfmflffggcphjaa
