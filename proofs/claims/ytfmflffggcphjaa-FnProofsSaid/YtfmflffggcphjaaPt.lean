/- ProofOf: contract of the program's tree. -/
import Derived.Test.YtfmflffggcphjaaSg
import Derived.Test.YtfmflffggcphjaaPm
namespace Go.Sat
open Go.Vc
theorem srch_two {F : Cnf} {n limit k : Nat} {v : List Int} {made : Nat} (h : (srch F n limit (k + 1) v made).code = 2) : lf v ≠ 0 ∧ ∃ R1 R2 m1 m2, branch F n (srch F n limit k) (put v (-(lf v : Int))) m1 = R1 ∧ branch F n (srch F n limit k) (put v (lf v : Int)) m2 = R2 ∧ R1.code = 2 ∧ R2.code = 2 ∧
    (srch F n limit (k + 1) v made).tree = ((lf v : Int), .cons R1.tree.1 R1.tree.2 (.cons R2.tree.1 R2.tree.2 .nil)) := by
  rw [srch] at h ⊢
  split at h
  · cases h
  · rename_i h0
    rw [if_neg h0]
    split at h
    · cases h
    · rename_i h1
      rw [if_neg h1]
      dsimp only at h ⊢
      split at h
      · rename_i h2
        rw [if_pos h2]
        split at h
        · rename_i h3
          rw [if_pos h3]
          exact ⟨h0, _, _, _, _, rfl, rfl, h2, h3, rfl⟩
        · rename_i h3; exact absurd h h3
      · rename_i h2; exact absurd h h2
end Go.Sat
namespace Go.Proofs.Ytfmflffggcphjaa
open Go Go.Vc Go.RowKit Go.Sat
set_option linter.unusedVariables false

def TreR (t : Int × PF) (W : World) (r : Value) (w' : World) : Prop := Ext W w' ∧ ∃ ps, r = .agg #[.int .i64 t.1, ps] ∧ oneB ps = true ∧ PSep w' ps t.2 W.heap.size w'.heap.size

structure TreJ (W : World) (KB OB : Nat) (x : Int) (i : Nat) (d : PF) (w : World) : Prop where
  ext : Ext W w
  kb : KB = W.heap.size + 1
  ob : OB = W.heap.size + 2
  rR : Rmy w W.heap.size 2
  cO : CellsAt w OB 0 [.int .i64 x, .slice (some ⟨KB, 0, none⟩) 2 2]
  rK : Rmy w KB 4
  len : d.len = i
  sep : d.SepAt plc 2 w KB 0 (KB + 1) w.heap.size
  zero : ∀ j, i ≤ j → j < 2 → CellsAt w KB (2 * j) [.int .i64 0, .slice none 0 0]
  sz : KB + 1 ≤ w.heap.size
theorem PSep.nil (w : World) (l h : Nat) : PSep w (.slice none 0 0) .nil l h := ⟨none, 0, rfl, Nat.zero_le _, .inl rfl⟩
section
variable {W w w' w7 : World} {KB OB i : Nat} {x y : Int} {d k : PF} {ps : Value}
theorem TreJ.step (hx : Ext w w') (h : TreJ W KB OB x i d w) : TreJ W KB OB x i d w' where
  ext := h.ext.trans hx
  kb := h.kb
  ob := h.ob
  rR := h.rR.ext hx
  cO := h.cO.ext hx
  rK := h.rK.ext hx
  len := h.len
  sep := (h.sep.keep plc_len (fun q _ _ => World.cell?_of_block (a := ⟨KB, q, none⟩) (hx.block KB (by have := h.sz; omega))) (fun b _ hb _ => hx.block b hb)).wide (Nat.le_refl _) hx.size
  zero := fun j h1 h2 => (h.zero j h1 h2).ext hx
  sz := Nat.le_trans h.sz hx.size
theorem TreJ.skp (hi : i < 2) (h : TreJ W KB OB x i d w) : TreJ W KB OB x (i + 1) (d.app (.cons 0 .nil .nil)) w where
  ext := h.ext
  kb := h.kb
  ob := h.ob
  rR := h.rR
  cO := h.cO
  rK := h.rK
  len := by rw [Fo.len_app, h.len]; rfl
  sep := Fo.SepAt.app (mid := w.heap.size) (Nat.le_refl _) h.sz h.sep (Fo.SepAt.one (.inl (by have := h.sz; omega)) (Nat.le_refl _) (by rw [h.len, Nat.zero_add]; exact h.zero i (Nat.le_refl _) hi) (PSep.nil _ _ _))
  zero := fun j h1 h2 => h.zero j (by omega) h2
  sz := h.sz
theorem TreJ.put (hi : i < 2) (h : TreJ W KB OB x i d w) (hx : Ext w w') (hx7 : Ext w' w7) (hs : PSep w' ps k w.heap.size w'.heap.size) : TreJ W KB OB x (i + 1) (d.app (.cons y k .nil)) (Vc.setCells w7 KB (2 * i) [.int .i64 y, ps]) := by
  have h7 := (h.step hx).step hx7
  have hsz := h.sz
  have hs1 := hx.size
  have hs2 := hx7.size
  have hch : Chg (fun b => b = KB) w7 (Vc.setCells w7 KB (2 * i) [.int .i64 y, ps]) := Chg.setCells (S := fun b => b = KB) rfl _ _ _
  have hs3 := hch.size
  have hKB := h.kb
  have hOB := h.ob
  have hcn := setCells_at [.int .i64 y, ps] w7 (2 * i) 4 h7.rK (by show 2 * i + 2 ≤ 4; omega)
  have hother : ∀ q, (q < 2 * i ∨ 2 * i + 2 ≤ q) → (Vc.setCells w7 KB (2 * i) [.int .i64 y, ps]).cell? ⟨KB, q, none⟩ = w7.cell? ⟨KB, q, none⟩ := fun q hq => setCells_other _ _ _ _ (fun _ => by show q < 2 * i ∨ 2 * i + 2 ≤ q; exact hq)
  refine ⟨h7.ext.chg hch (fun b hb => by omega), hKB, hOB, hch.rmy (by omega) h7.rR, hch.cells (by omega) h7.cO, Rmy.setCells _ h7.rK, by rw [Fo.len_app, h.len]; rfl, ?_, fun j h1 h2 => (h7.zero j (by omega) h2).keep fun q g1 g2 => hother q (by simp only [List.length_cons, List.length_nil] at g2; omega), by have := h7.sz; omega⟩
  have hd : d.SepAt plc 2 (Vc.setCells w7 KB (2 * i) [.int .i64 y, ps]) KB 0 (KB + 1) w.heap.size := by
    refine h.sep.keep plc_len (fun q _ hq => ?_) (fun b g1 g2 g3 => (hch.block b (by omega) g3).trans ((hx7.block b (by omega)).trans (hx.block b g2)))
    rw [h.len] at hq
    rw [hother q (.inl (by omega))]
    exact (World.cell?_of_block (a := ⟨KB, q, none⟩) (hx7.block KB (by omega))).trans (World.cell?_of_block (a := ⟨KB, q, none⟩) (hx.block KB (by omega)))
  refine Fo.SepAt.app (mid := w.heap.size) (by omega) (by omega) hd ?_
  refine Fo.SepAt.one (.inl (by omega)) (by omega) (by rw [h.len, Nat.zero_add]; exact hcn) ?_
  exact (hs.keep plc_len fun b g1 g2 => (hch.block b (by omega) (by omega)).trans (hx7.block b (by omega))).wide (Nat.le_refl _) (by omega)
theorem TreJ.fin (h : TreJ W KB OB x 2 d w) {t : Int × PF} (ht : t = (x, d)) (hw' : Vc.setCells w W.heap.size 0 [.int .i64 x, .slice (some ⟨KB, 0, none⟩) 2 2] = w') : TreR t W (.agg #[.int .i64 x, .slice (some ⟨KB, 0, none⟩) 2 2]) w' := by
  subst ht
  subst hw'
  have hch : Chg (fun b => b = W.heap.size) w (Vc.setCells w W.heap.size 0 [.int .i64 x, .slice (some ⟨KB, 0, none⟩) 2 2]) := Chg.setCells (S := fun b => b = W.heap.size) rfl _ _ _
  have hKB := h.kb
  have hsz := h.sz
  have hs3 := hch.size
  refine ⟨h.ext.chg hch (fun b hb => by omega), _, rfl, rfl, _, 2, by rw [h.len], by rw [h.len]; decide, .inr ⟨KB, rfl, by omega, by omega, by rw [h.len]; exact hch.rmy (by omega) h.rK, ?_⟩⟩
  exact (h.sep.keep plc_len (fun q _ _ => World.cell?_of_block (a := ⟨KB, q, none⟩) (hch.block KB (by omega) (by omega))) (fun b g1 g2 _ => hch.block b g2 (by omega))).wide (by omega) (by omega)
end
theorem tree_prep (W : World) (x : Int) (t1 t2 t3 : Nat) : TreJ W (W.heap.size + 1) (W.heap.size + 2) x 0 .nil
    (Vc.setCells (((W.alloc (.cells #[.int .i64 0, .slice none 0 0] t1)).alloc (.cells (zs 2 [.int .i64 0, .slice none 0 0]).toArray t2)).alloc (.cells #[.int .i64 0, .slice none 0 0] t3)) (W.heap.size + 2) 0 [.int .i64 x, .slice (some ⟨W.heap.size + 1, 0, none⟩) 2 2]) := by
  have r1 := Rmy.new W [.int .i64 0, .slice none 0 0] t1
  have x2 : Ext (W.alloc (.cells #[.int .i64 0, .slice none 0 0] t1)) ((W.alloc (.cells #[.int .i64 0, .slice none 0 0] t1)).alloc (.cells (zs 2 [.int .i64 0, .slice none 0 0]).toArray t2)) := Ext.new _ _
  have r2 := Rmy.new (W.alloc (.cells #[.int .i64 0, .slice none 0 0] t1)) (zs 2 [.int .i64 0, .slice none 0 0]) t2
  have b2 := boxedAll (W.alloc (.cells #[.int .i64 0, .slice none 0 0] t1)) (zs 2 [.int .i64 0, .slice none 0 0]) t2
  have x1 : Ext W (W.alloc (.cells #[.int .i64 0, .slice none 0 0] t1)) := Ext.new _ _
  have e1 : (W.alloc (.cells #[.int .i64 0, .slice none 0 0] t1)).heap.size = W.heap.size + 1 := by simp
  obtain ⟨w1, hw1⟩ : ∃ w1, W.alloc (.cells #[.int .i64 0, .slice none 0 0] t1) = w1 := ⟨_, rfl⟩
  have r1' : Rmy w1 W.heap.size 2 := hw1 ▸ r1
  rw [hw1] at x1 x2 r2 b2 e1 ⊢
  have e2 : (w1.alloc (.cells (zs 2 [.int .i64 0, .slice none 0 0]).toArray t2)).heap.size = W.heap.size + 2 := by simp [e1]
  rw [e1] at r2 b2
  obtain ⟨w2, hw2⟩ : ∃ w2, w1.alloc (.cells (zs 2 [.int .i64 0, .slice none 0 0]).toArray t2) = w2 := ⟨_, rfl⟩
  have r2' : Rmy w2 (W.heap.size + 1) 4 := hw2 ▸ r2
  have b2' : CellsAt w2 (W.heap.size + 1) 0 [.int .i64 0, .slice none 0 0, .int .i64 0, .slice none 0 0] := hw2 ▸ b2
  rw [hw2] at x2 e2 ⊢
  have r3 := Rmy.new w2 [.int .i64 0, .slice none 0 0] t3
  rw [e2] at r3
  have x3 : Ext w2 (Vc.setCells (w2.alloc (.cells #[.int .i64 0, .slice none 0 0] t3)) (W.heap.size + 2) 0 [.int .i64 x, .slice (some ⟨W.heap.size + 1, 0, none⟩) 2 2]) := Ext.setCells _ (Ext.new _ _) (by omega)
  have hc3 := setCells_at [.int .i64 x, .slice (some ⟨W.heap.size + 1, 0, none⟩) 2 2] (w2.alloc (.cells #[.int .i64 0, .slice none 0 0] t3)) 0 2 r3 (Nat.le_refl 2)
  refine ⟨(x1.trans x2).trans x3, rfl, rfl, r1'.ext (x2.trans x3), hc3, r2'.ext x3, rfl, trivial, fun j _ h2 => CellsAt.ext x3 ?_, Nat.le_trans (by omega) x3.size⟩
  have hj : j = 0 ∨ j = 1 := by omega
  rcases hj with rfl | rfl
  · exact ⟨b2'.1, b2'.2.1, trivial⟩
  · exact ⟨b2'.2.2.1, b2'.2.2.2.1, trivial⟩

theorem tree_prep' (W : World) (x : Int) (t1 t2 t3 : Nat) : TreJ W (W.alloc (.cells #[.int .i64 0, .slice none 0 0] t1)).heap.size ((W.alloc (.cells #[.int .i64 0, .slice none 0 0] t1)).alloc (.cells (zs 2 [.int .i64 0, .slice none 0 0]).toArray t2)).heap.size x 0 .nil
    (Vc.setCells (((W.alloc (.cells #[.int .i64 0, .slice none 0 0] t1)).alloc (.cells (zs 2 [.int .i64 0, .slice none 0 0]).toArray t2)).alloc (.cells #[.int .i64 0, .slice none 0 0] t3)) ((W.alloc (.cells #[.int .i64 0, .slice none 0 0] t1)).alloc (.cells (zs 2 [.int .i64 0, .slice none 0 0]).toArray t2)).heap.size 0 [.int .i64 x, .slice (some ⟨(W.alloc (.cells #[.int .i64 0, .slice none 0 0] t1)).heap.size, 0, none⟩) 2 2]) := by
  have e1 : (W.alloc (.cells #[.int .i64 0, .slice none 0 0] t1)).heap.size = W.heap.size + 1 := by simp
  have e2 : ((W.alloc (.cells #[.int .i64 0, .slice none 0 0] t1)).alloc (.cells (zs 2 [.int .i64 0, .slice none 0 0]).toArray t2)).heap.size = W.heap.size + 2 := by simp
  rw [e2, e1]
  exact tree_prep W x t1 t2 t3
theorem TreJ.wld {W w w' : World} {KB OB i : Nat} {x : Int} {d : PF} (h : TreJ W KB OB x i d w) (e : w' = w) : TreJ W KB OB x i d w' := by subst e; exact h

set_option maxHeartbeats 4000000 in
theorem tree_ret (n : Nat) (F : Cnf) (limit : Nat) (hF : fOk n F = true) : ∀ (fuel : Nat) (v : List Int) (made : Nat), zeros v < fuel → Vals n v → (∀ c ∈ F, Fine v c) → (srch F n limit fuel v made).code = 2 →
    ∀ (sp ap : Value) (W : World), Sol W.heap.size W sp n F → Rda (fun _ => True) W ap v →
      Ret Try.prog 79 #[sp, ap] W (TreR (srch F n limit fuel v made).tree W) := by
  intro fuel
  induction fuel with
  | zero => intro v made h; omega
  | succ k ih =>
    intro v made hz hv hfine hcode sp ap W hS hR
    have hbuilt : ∀ a b, Try.prog.built 131 [(0, .int .i64 a), (1, .int .i64 b)] = some #[.int .i64 a, .int .i64 b] := fun a b => by kernel_rfl
    have hn : n ≤ 400 := by simp only [fOk, Bool.and_eq_true, decide_eq_true_eq] at hF; omega
    have hvl := hv.len
    obtain ⟨S, rfl⟩ := hS.ptr
    obtain ⟨A, a1, rfl, hAW, hc1, ho1⟩ := hR.lt
    obtain ⟨h0, R1, R2, m1, m2, hR1, hR2, hc1', hc2', htree⟩ := srch_two hcode
    obtain ⟨hl1, hl2, hf1, hf2⟩ := lf_fre hv rfl h0
    have hl1' := litOk_iff.1 hl1
    obtain ⟨T0, hT0⟩ : ∃ T0, (srch F n limit (k + 1) v made).tree = T0 := ⟨_, rfl⟩
    rw [hT0] at htree ⊢
    clear hcode hT0
    refine ret_of_vc ties mixed Try.func79 rfl (by kernel_rfl) rfl rfl ?_
    have x1 : Ext W (W.alloc (.cells #[.int .i64 0, .slice none 0 0] 39)) := Ext.new _ _
    refine Or.inl ((leastFree_ret _ v _ (hR.ext x1)).mono ?_)
    rintro _ _ ⟨rfl, rfl⟩
    have hprep := tree_prep' W (lf v : Int) 39 39 39
    have rO := Rmy.new ((W.alloc (.cells #[.int .i64 0, .slice none 0 0] 39)).alloc (.cells (zs 2 [.int .i64 0, .slice none 0 0]).toArray 39)) [.int .i64 0, .slice none 0 0] 39
    have e1 : (W.alloc (.cells #[.int .i64 0, .slice none 0 0] 39)).heap.size = W.heap.size + 1 := by simp
    have e2 : ((W.alloc (.cells #[.int .i64 0, .slice none 0 0] 39)).alloc (.cells (zs 2 [.int .i64 0, .slice none 0 0]).toArray 39)).heap.size = W.heap.size + 2 := by simp
    refine ⟨⟨by omega, by omega, by omega, by decide⟩, ?_⟩
    refine ⟨rO.all [.int .i64 (lf v : Int), .slice (some ⟨_, 0, none⟩) 2 2] 0 (Nat.le_refl 2) rfl, ?_⟩
    refine ⟨_, IntWalk.i64_in _ (by omega), ?_⟩
    refine raw_build rfl (hbuilt _ _) ?_
    refine loop_rule (σ := Nat × Value × Value × Value × Value × PF) [7, 8, 9, 10, 20] 21 40 (fun q => [q.2.1, q.2.2.1, q.2.2.2.1, q.2.2.2.2.1, .int .i64 q.1])
      (fun q w' => TreJ W (W.alloc (.cells #[.int .i64 0, .slice none 0 0] 39)).heap.size ((W.alloc (.cells #[.int .i64 0, .slice none 0 0] 39)).alloc (.cells (zs 2 [.int .i64 0, .slice none 0 0]).toArray 39)).heap.size (lf v : Int) q.1 q.2.2.2.2.2 w' ∧ ((q.1 = 0 ∧ q.2.2.2.2.2 = .nil) ∨ (q.1 = 1 ∧ q.2.2.2.2.2 = .cons R1.tree.1 R1.tree.2 .nil) ∨ (q.1 = 2 ∧ q.2.2.2.2.2 = .cons R1.tree.1 R1.tree.2 (.cons R2.tree.1 R2.tree.2 .nil))))
      (fun q => 2 - q.1) (0, undef, undef, undef, undef, .nil) rfl ⟨hprep.wld (by kernel_rfl), .inl ⟨rfl, rfl⟩⟩ ?_
    clear hprep rO e1 e2
    rintro ⟨i, j1, j2, j3, j4, d⟩ w junk ⟨hJ, hst⟩ K hK
    simp only at hJ hst
    show vc _ _ _ _ (over [7, 8, 9, 10, 20] [j1, j2, j3, j4, .int .i64 i] _) _
    refine br_dec (fun h3 => ?_) (fun h3 => ?_)
    · obtain ⟨l, R, m, hcs, hlo, hlf, hRe, hRc, hnext⟩ : ∃ l R m, (#[.int .i64 (0 - (lf v : Int)), .int .i64 (lf v : Int)] : Array Value)[i]? = some (.int .i64 l) ∧ litOk n l = true ∧ fre v l ∧ branch F n (srch F n limit k) (put v l) m = R ∧ R.code = 2 ∧
          ((i + 1 = 0 ∧ d.app (.cons R.tree.1 R.tree.2 .nil) = .nil) ∨ (i + 1 = 1 ∧ d.app (.cons R.tree.1 R.tree.2 .nil) = .cons R1.tree.1 R1.tree.2 .nil) ∨ (i + 1 = 2 ∧ d.app (.cons R.tree.1 R.tree.2 .nil) = .cons R1.tree.1 R1.tree.2 (.cons R2.tree.1 R2.tree.2 .nil))) := by
        rcases hst with ⟨rfl, rfl⟩ | ⟨rfl, rfl⟩ | ⟨rfl, _⟩
        · exact ⟨-(lf v : Int), R1, m1, by simp, hl2, hf2, hR1, hc1', .inr (.inl ⟨rfl, rfl⟩)⟩
        · exact ⟨(lf v : Int), R2, m2, by simp, hl1, hf1, hR2, hc2', .inr (.inr ⟨rfl, rfl⟩)⟩
        · omega
      have hlo' := litOk_iff.1 hlo
      have hi2 : i < 2 := by omega
      have hSw : Sol w.heap.size w (.pointer (some ⟨S, 0, none⟩)) n F := (hS.below hJ.ext).mono hJ.ext.size
      refine raw_index2 ties rfl Try.underlying131 (q := ⟨false, [], .int .i64, 1, 8, .int .i64 0⟩) rfl rfl rfl rfl rfl (by omega) (by omega) (v := .int .i64 l) hcs ?_
      refine Or.inl ((extend_ret (.pointer (some ⟨S, 0, none⟩)) _ n F v l w hSw ((hR.ext hJ.ext).mono fun _ _ => trivial) hF hv hlo hlf hfine).mono ?_)
      rintro r w6 ⟨x6, o, hup, ⟨rfl, rfl⟩ | ⟨u, p, rfl, rfl, hA⟩⟩
      · have hbr : branch F n (srch F n limit k) (put v l) m = Res.no m (0, .nil) := by unfold branch; rw [upF_eq hup]
        rw [hbr] at hRe
        subst hRe
        refine ⟨_, IntWalk.i64_in _ (by omega), ?_⟩
        refine hK (i + 1, _, _, _, _, d.app (.cons 0 .nil .nil)) _ _ (by show [_, _, _, _, _] = [_, _, _, _, _]; exact congr (congrArg List.cons rfl) (vs4 rfl rfl rfl (vint (by show (i : Int) + 1 = ((i + 1 : Nat) : Int); omega)))) ⟨(hJ.step x6).skp hi2, hnext⟩ (by show 2 - (i + 1) < 2 - i; omega) ?_
        ((repeat (first | (with_reducible exact Only.refl) | (with_reducible refine Only.skip ?_) | ((with_reducible refine Only.upd ?_ ?_); rfl) | ((with_reducible refine Only.over ?_ ?_ _); rfl) | ((with_reducible refine Only.hav ?_ ?_ ?_); rfl; rfl))))
      · have hbr : branch F n (srch F n limit k) (put v l) m = srch F n limit k u m := by unfold branch; rw [upF_eq hup]
        rw [hbr] at hRe
        have huv : Vals n u ∧ (∀ c ∈ F, Fine u c) ∧ ∀ l', tr (put v l) l' → tr u l' := by cases hup with | yes h1 h2 h3 _ => exact ⟨h1, h2, h3⟩
        have hzu := zeros_tr (put_vals hv hlo) huv.1 huv.2.2
        have hzp := zeros_put hlf
        obtain ⟨A', _, _, rfl, _⟩ := hA.ptr
        have hJ6 := hJ.step x6
        refine .inr (.inr (hyb_rule ties mixed [(0, .quiet), (1, .quiet), (2, .quiet), (3, .quiet), (4, .quiet), (5, .loud), (6, .loud), (7, .wild)] (by kernel_rfl) ?_))
        refine ⟨_, hJ6.cO.2.1, ?_⟩
        intro w7 hx7
        have hJ7 := hJ6.step hx7
        have hrun := ih u m (by omega) huv.1 huv.2.1 (by rw [hRe]; exact hRc) (.pointer (some ⟨S, 0, none⟩)) _ w7 ((hS.below hJ7.ext).mono hJ7.ext.size) ((hA.rda.mono fun _ _ => trivial).ext hx7)
        rw [hRe] at hrun
        refine Or.inl ((hrun).mono ?_)
        rintro r w8 ⟨x8, ps, rfl, hone, hsep⟩
        refine ⟨x8, ?_⟩
        intro w9 hx9
        refine ⟨⟨by omega, by omega⟩, Ext.refl _, ?_⟩
        intro w10 hx10
        have hx810 := hx9.trans hx10
        have hput := hJ7.put (y := R.tree.1) hi2 x8 hx810 hsep
        have ho : 0 + (i : Int).toNat * 2 = 2 * i := by omega
        refine ⟨(((hJ7.step x8).step hx810).rK).all [.int .i64 R.tree.1, ps] (0 + (i : Int).toNat * 2) (by show 0 + (i : Int).toNat * 2 + 2 ≤ 4; omega) (by simp only [List.all_cons, hone]; rfl), ?_⟩
        intro w11 hx11
        refine ⟨_, IntWalk.i64_in _ (by omega), ?_⟩
        refine hK (i + 1, _, _, _, _, d.app (.cons R.tree.1 R.tree.2 .nil)) _ _ (by show [_, _, _, _, _] = [_, _, _, _, _]; exact congr (congrArg List.cons rfl) (vs4 rfl rfl rfl (vint (by show (i : Int) + 1 = ((i + 1 : Nat) : Int); omega)))) ⟨(hput.wld (by rw [ho])).step hx11, hnext⟩ (by show 2 - (i + 1) < 2 - i; omega) ?_
        ((repeat (first | (with_reducible exact Only.refl) | (with_reducible refine Only.skip ?_) | ((with_reducible refine Only.upd ?_ ?_); rfl) | ((with_reducible refine Only.over ?_ ?_ _); rfl) | ((with_reducible refine Only.hav ?_ ?_ ?_); rfl; rfl))))
    · have hd : i = 2 ∧ d = .cons R1.tree.1 R1.tree.2 (.cons R2.tree.1 R2.tree.2 .nil) := by
        rcases hst with ⟨rfl, _⟩ | ⟨rfl, _⟩ | h
        · omega
        · omega
        · exact h
      rw [hd.1, hd.2] at hJ
      refine ⟨[.int .i64 (lf v : Int), .slice (some ⟨_, 0, none⟩) 2 2], rfl, hJ.cO, ?_⟩
      refine ⟨hJ.rR.all [.int .i64 (lf v : Int), .slice (some ⟨_, 0, none⟩) 2 2] 0 (Nat.le_refl 2) rfl, ?_⟩
      refine ⟨[.int .i64 (lf v : Int), .slice (some ⟨_, 0, none⟩) 2 2], rfl, setCells_at [.int .i64 (lf v : Int), .slice (some ⟨_, 0, none⟩) 2 2] _ 0 2 hJ.rR (Nat.le_refl 2), ?_⟩
      exact hJ.fin htree rfl

end Go.Proofs.Ytfmflffggcphjaa
