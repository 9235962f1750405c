/- TermOk of the program: contracts of the check of a variable and of a node. TermOk of the program. TermOk of the reference: the count of nodes, the check of nodes. TermOk of the reference: the check of nodes. Variables of terms, ascending by name, plainly. No program in sight. Rows of variables; l02Vars of the reference; TermOk of the reference. -/
import Derived.Test.YtkoaicjcanplaaaQk
import Derived.Test.YtkoaicjcanplaaaQd
namespace Go.Proofs.Ytkoaicjcanplaaa
open Go Go.Vc Go.RowKit
set_option linter.unusedVariables false

def iv (n : Int) : Value := .int .i64 n
/-- The widths that a check has met. -/
def MvS (n0 B : Nat) (w : World) (mv : Value) (vs : Vs) : Prop :=
  (mv = .map none ∧ vs = []) ∨ ∃ m al, mv = .map (some m) ∧ m ≠ B ∧ n0 ≤ m ∧ MapAt w m al ∧ ∀ s, al.get s = (lk s vs).map iv
structure CkS (n0 B cnt : Nat) (vs : Vs) (w : World) : Prop where
  lo : n0 ≤ B
  rm : Rmy w B 2
  st : ∃ mv, CellsAt w B 0 [.int .i64 cnt, mv] ∧ MvS n0 B w mv vs
theorem MvS.ext {n0 B : Nat} {w w' : World} {mv : Value} {vs : Vs} (h : MvS n0 B w mv vs) (x : Ext w w') : MvS n0 B w' mv vs :=
  h.imp id fun ⟨m, al, h1, h2, h3, h4, h5⟩ => ⟨m, al, h1, h2, h3, h4.ext x, h5⟩
theorem CkS.ext {n0 B cnt : Nat} {w w' : World} {vs : Vs} (h : CkS n0 B cnt vs w) (x : Ext w w') : CkS n0 B cnt vs w' :=
  ⟨h.lo, h.rm.ext x, h.st.imp fun mv ⟨h1, h2⟩ => ⟨h1.ext x, h2.ext x⟩⟩
theorem Al.get_put {s t : ByteArray} {v : Value} : ∀ {l : Al}, (l.put s v).get t = if t = s then some v else l.get t := by
  intro l
  induction l with
  | nil => simp only [Al.put, Al.get]
  | cons p l ih =>
    simp only [Al.put]
    split
    · rename_i h
      simp only [Al.get]
      by_cases ht : t = s
      · rw [if_pos ht, if_pos ht]
      · rw [if_neg ht, if_neg ht, if_neg (by rw [← h]; exact ht)]
    · rename_i h
      simp only [Al.get, ih]
      by_cases ht : t = p.1
      · rw [if_pos ht, if_pos ht, if_neg (by rw [ht]; exact fun e => h e.symm)]
      · rw [if_neg ht, if_neg ht]
theorem lk_snoc {s t : ByteArray} {n : Int} {vs : Vs} (h : lk s vs = none) : (lk t (vs ++ [(s, n)])).map iv = if t = s then some (iv n) else (lk t vs).map iv := by
  rw [lk_app]
  by_cases ht : t = s
  · subst ht
    rw [h, if_pos rfl]
    simp [lk]
  · rw [if_neg ht]
    simp only [lk, if_neg ht, Option.or_none]
theorem lk_again {s t : ByteArray} {n : Int} {vs : Vs} (h : lk s vs = some n) : lk t (vs ++ [(s, n)]) = lk t vs := by
  rw [lk_app]
  by_cases ht : t = s
  · subst ht; rw [h]; rfl
  · simp only [lk, if_neg ht, Option.or_none]

/-- Nothing has changed but the check's own block and maps from n0 on. -/
def Cm (n0 B : Nat) (W w : World) : Prop := Chg (fun i => n0 ≤ i ∧ (i = B ∨ ∃ es c, W.heap[i]? = some (.map es c))) W w
section
variable {n0 B : Nat} {W w w' : World}
theorem Cm.of (h : Ext W w) : Cm n0 B W w := Chg.of h
theorem Cm.refl (W : World) : Cm n0 B W W := Chg.refl _ _
theorem Cm.own (h : Chg (fun i => i = B) W w) (hB : n0 ≤ B) : Cm n0 B W w := h.mono fun i _ e => ⟨by omega, .inl e⟩
theorem Cm.map {m : Nat} {l : Al} (h : Chg (fun i => i = m) W w) (hm : MapAt W m l) (h0 : n0 ≤ m) : Cm n0 B W w := h.mono fun i _ e => by
  obtain ⟨es, c, h1, _⟩ := hm
  subst e
  exact ⟨h0, .inr ⟨es, c, h1⟩⟩
theorem Cm.trans (h : Cm n0 B W w) (k : Cm n0 B w w') : Cm n0 B W w' := by
  have h' : Chg (fun i => (n0 ≤ i ∧ (i = B ∨ ∃ es c, W.heap[i]? = some (.map es c))) ∨ W.heap.size ≤ i) W w := Chg.mono h fun i _ e => .inl e
  have k' : Chg (fun i => (n0 ≤ i ∧ (i = B ∨ ∃ es c, W.heap[i]? = some (.map es c))) ∨ W.heap.size ≤ i) w w' := by
    refine Chg.mono k fun i hi e => ?_
    by_cases hW : W.heap.size ≤ i
    · exact .inr hW
    · by_cases hS : n0 ≤ i ∧ (i = B ∨ ∃ es c, W.heap[i]? = some (.map es c))
      · exact .inl hS
      · obtain ⟨e0, e1⟩ := e
        refine .inl ⟨e0, e1.imp id fun ⟨es, c, h1⟩ => ⟨es, c, ?_⟩⟩
        rw [← Chg.block h i (by omega) hS]; exact h1
  exact (h'.trans k').mono fun i hi e => e.resolve_right (by omega)
theorem Cm.sl {s : Value} {k : TF} (h : Cm n0 B W w) (hs : TSl (fun b => b < n0) W s k) : TSl (fun b => b < n0) w s k := Fo.Sl.chg (fun b hb e => by omega) h hs
theorem Cm.cells {b o : Nat} {v : Value} {vs : List Value} (h : Cm n0 B W w) (hb : b ≠ B) (hc : CellsAt W b o (v :: vs)) : CellsAt w b o (v :: vs) := by
  refine Chg.cells h (fun e => ?_) hc
  rcases e.2 with e | ⟨es, c, e⟩
  · exact hb e
  · have h1 : W.cell? ⟨b, o, none⟩ = some v := hc.1
    unfold World.cell? at h1
    simp only [e] at h1
    cases h1
theorem Cm.size (h : Cm n0 B W w) : W.heap.size ≤ w.heap.size := Chg.size h
end
/-- What a check comes to: true just if it is Good, and then the state goes on. -/
def CkR (n0 B cnt : Nat) (vs : Vs) (W : World) (p : Prop) (v : Value) (w' : World) : Prop := ∃ b, v = .bool b ∧ Cm n0 B W w' ∧ (b = true ↔ p) ∧ (b = true → CkS n0 B cnt vs w')
theorem CkR.no {n0 B cnt : Nat} {vs : Vs} {W w' : World} {p : Prop} (h : Cm n0 B W w') (hp : ¬ p) : CkR n0 B cnt vs W p (.bool false) w' := ⟨false, rfl, h, by simp [hp], fun h => by cases h⟩
theorem CkR.yes {n0 B cnt : Nat} {vs : Vs} {W w' : World} {p : Prop} (h : Cm n0 B W w') (hp : p) (hs : CkS n0 B cnt vs w') : CkR n0 B cnt vs W p (.bool true) w' := ⟨true, rfl, h, by simp [hp], fun _ => hs⟩
set_option maxHeartbeats 4000000 in
theorem variable_ret (n0 B cnt : Nat) (vs : Vs) (x : Lab) (s : Value) (W : World) (hS : CkS n0 B cnt vs W) (hx : x.name.size ≤ 9223372036854775807) :
    Ret Try.prog 126 #[.pointer (some ⟨B, 0, none⟩), tv x s] W (CkR n0 B cnt (vs ++ [(x.name, x.w)]) W (isNm x.name = true ∧ ∀ n, lk x.name vs = some n → n = x.w)) := by
  obtain ⟨hlo, hrm, mv, hcell, hmv⟩ := hS
  have hBW : B < W.heap.size := World.block_lt_of_cell? _ _ hcell.1
  have x1 : Ext W (W.alloc (.cells (tc x s).toArray 25)) := Ext.new _ _
  have hb := boxedAll W (tc x s) 25
  have ch1 : Cm n0 B W (W.alloc (.cells (tc x s).toArray 25)) := .of x1
  rcases hmv with ⟨rfl, rfl⟩ | ⟨m, al, rfl, hmB, hm0, hma, hal⟩
  · -- no map yet
    refine ret_of_vc ties mixed Try.func126 rfl (by kernel_rfl) rfl rfl ?_
    refine ⟨_, hb.2.2.2.1, ?_⟩
    refine Or.inl ((impl_IsName _ hx _).mono ?_)
    rintro _ _ ⟨rfl, rfl⟩
    refine br_not (fun h => ?_) (fun h => ?_)
    · exact CkR.no ch1 (by rw [h]; simp)
    refine ⟨_, x1.cell hcell.2.1, ?_⟩
    have hrm1 := hrm.ext x1
    have x2 : Ext (W.alloc (.cells (tc x s).toArray 25)) ((W.alloc (.cells (tc x s).toArray 25)).alloc (.map #[] 0)) := Ext.new _ _
    refine ⟨(hrm1.ext x2) 1 (by decide), ?_⟩
    have hm2 : MapAt ((W.alloc (.cells (tc x s).toArray 25)).alloc (.map #[] 0)) (W.alloc (.cells (tc x s).toArray 25)).heap.size [] := MapAt.new _
    have hsz := x1.size
    have hch3 : Chg (fun i => i = B) ((W.alloc (.cells (tc x s).toArray 25)).alloc (.map #[] 0)) (((W.alloc (.cells (tc x s).toArray 25)).alloc (.map #[] 0)).setCell ⟨B, 1, none⟩ (.map (some (W.alloc (.cells (tc x s).toArray 25)).heap.size))) := Chg.setCell (S := fun i => i = B) (p := ⟨B, 1, none⟩) _ rfl _
    have hm3 := hm2.chg (S := fun i => i = B) (by omega) hch3
    have hc3 := World.cell?_setCell_same ((W.alloc (.cells (tc x s).toArray 25)).alloc (.map #[] 0)) ⟨B, 1, none⟩ (.map (some (W.alloc (.cells (tc x s).toArray 25)).heap.size)) (x2.cell (x1.cell hcell.2.1))
    have hc30 := (World.cell?_setCell_other ((W.alloc (.cells (tc x s).toArray 25)).alloc (.map #[] 0)) ⟨B, 1, none⟩ ⟨B, 0, none⟩ (.map (some (W.alloc (.cells (tc x s).toArray 25)).heap.size)) (by simp)).trans (x2.cell (x1.cell hcell.1))
    have hb3 := hch3.cells (S := fun i => i = B) (b := W.heap.size) (by omega) (hb.ext x2)
    have hr3 : Rmy (((W.alloc (.cells (tc x s).toArray 25)).alloc (.map #[] 0)).setCell ⟨B, 1, none⟩ (.map (some (W.alloc (.cells (tc x s).toArray 25)).heap.size))) B 2 := (hrm1.ext x2).setCell
    have ch3 : Cm n0 B W (((W.alloc (.cells (tc x s).toArray 25)).alloc (.map #[] 0)).setCell ⟨B, 1, none⟩ (.map (some (W.alloc (.cells (tc x s).toArray 25)).heap.size))) := (ch1.trans (.of x2)).trans (Cm.own hch3 hlo)
    refine .inl ⟨by kernel_rfl, _, hc3, _, hb3.2.2.2.1, .tuple #[.int .i64 0, .bool false], fun w' hw' => exec_look ties rfl rfl rfl rfl (by kernel_rfl) rfl rfl rfl (hm3.ext hw') rfl, ?_⟩
    intro w4 hw4
    refine .inr (.inr (hyb_rule ties mixed [(0, .quiet), (1, .quiet), (2, .quiet), (3, .quiet), (4, .quiet), (5, .quiet), (6, .quiet), (7, .quiet), (8, .wild)] (by kernel_rfl) ?_))
    refine ⟨_, hw4.cell hc3, _, hw4.cell hb3.2.2.2.1, _, hw4.cell hb3.2.1, ?_⟩
    intro w5 hw5
    refine raw_update ties (.inl rfl) rfl rfl rfl (by kernel_rfl) rfl rfl (hm3.ext (hw4.trans hw5)) (fun w6 hc6 hs6 hm6 => ?_)
    intro w7 hw7
    have x35 := hw4.trans hw5
    have hBlt : B < (((W.alloc (.cells (tc x s).toArray 25)).alloc (.map #[] 0)).setCell ⟨B, 1, none⟩ (.map (some (W.alloc (.cells (tc x s).toArray 25)).heap.size))).heap.size := World.block_lt_of_cell? _ _ hc3
    refine CkR.yes ((ch3.trans (.of x35)).trans ((Cm.map hc6 (hm3.ext x35) (by omega)).trans (.of hw7))) ⟨h, fun n hn => by simp [lk] at hn⟩ ⟨hlo, (hc6.rmy (by omega) (hr3.ext x35)).ext hw7, .map (some (W.alloc (.cells (tc x s).toArray 25)).heap.size), ⟨hw7.cell (hc6.cell (a := ⟨B, 0, none⟩) (by simp only; omega) (x35.cell hc30)), hw7.cell (hc6.cell (a := ⟨B, 1, none⟩) (by simp only; omega) (x35.cell hc3)), trivial⟩, .inr ⟨_, _, rfl, by omega, by omega, hm6.ext hw7, fun t => ?_⟩⟩
    rw [Al.get_put, lk_snoc rfl]; rfl
  · have hmW : m < W.heap.size := hma.lt
    cases hlk : lk x.name vs with
    | none =>
      have hget : al.get x.name = none := by rw [hal, hlk]; rfl
      refine ret_of_vc ties mixed Try.func126 rfl (by kernel_rfl) rfl rfl ?_
      refine ⟨_, hb.2.2.2.1, ?_⟩
      refine Or.inl ((impl_IsName _ hx _).mono ?_)
      rintro _ _ ⟨rfl, rfl⟩
      refine br_not (fun h => ?_) (fun h => ?_)
      · exact CkR.no ch1 (by rw [h]; simp)
      refine ⟨_, x1.cell hcell.2.1, ?_⟩
      refine .inl ⟨by kernel_rfl, _, x1.cell hcell.2.1, _, hb.2.2.2.1, .tuple #[.int .i64 0, .bool false], fun w' hw' => exec_look ties rfl rfl rfl rfl (by kernel_rfl) rfl rfl rfl (hma.ext (x1.trans hw')) (by rw [hget]; rfl), ?_⟩
      intro w4 hw4
      refine .inr (.inr (hyb_rule ties mixed [(0, .quiet), (1, .quiet), (2, .quiet), (3, .quiet), (4, .quiet), (5, .quiet), (6, .quiet), (7, .quiet), (8, .wild)] (by kernel_rfl) ?_))
      refine ⟨_, hw4.cell (x1.cell hcell.2.1), _, hw4.cell hb.2.2.2.1, _, hw4.cell hb.2.1, ?_⟩
      intro w5 hw5
      have x15 := (x1.trans hw4).trans hw5
      refine raw_update ties (.inl rfl) rfl rfl rfl (by kernel_rfl) rfl rfl (hma.ext x15) (fun w6 hc6 hs6 hm6 => ?_)
      intro w7 hw7
      refine CkR.yes ((Cm.of x15).trans ((Cm.map hc6 (hma.ext x15) hm0).trans (.of hw7))) ⟨h, fun n hn => by cases hn⟩ ⟨hlo, (hc6.rmy (by omega) (hrm.ext x15)).ext hw7, .map (some m), ⟨hw7.cell (hc6.cell (a := ⟨B, 0, none⟩) (by simp only; omega) (x15.cell hcell.1)), hw7.cell (hc6.cell (a := ⟨B, 1, none⟩) (by simp only; omega) (x15.cell hcell.2.1)), trivial⟩, .inr ⟨_, _, rfl, hmB, hm0, hm6.ext hw7, fun t => ?_⟩⟩
      rw [Al.get_put, lk_snoc hlk, hal]; rfl
    | some n =>
      have hget : al.get x.name = some (.int .i64 n) := by rw [hal, hlk]; rfl
      refine ret_of_vc ties mixed Try.func126 rfl (by kernel_rfl) rfl rfl ?_
      refine ⟨_, hb.2.2.2.1, ?_⟩
      refine Or.inl ((impl_IsName _ hx _).mono ?_)
      rintro _ _ ⟨rfl, rfl⟩
      refine br_not (fun h => ?_) (fun h => ?_)
      · exact CkR.no ch1 (by rw [h]; simp)
      refine ⟨_, x1.cell hcell.2.1, ?_⟩
      refine .inl ⟨by kernel_rfl, _, x1.cell hcell.2.1, _, hb.2.2.2.1, .tuple #[.int .i64 n, .bool true], fun w' hw' => exec_look ties rfl rfl rfl rfl (by kernel_rfl) rfl rfl rfl (hma.ext (x1.trans hw')) (by rw [hget]; rfl), ?_⟩
      intro w4 hw4
      refine ⟨_, hw4.cell hb.2.1, ?_⟩
      have x14 := x1.trans hw4
      refine ⟨decide (n = x.w), rfl, .of x14, ?_, fun h' => ?_⟩
      · rw [decide_eq_true_iff]
        exact ⟨fun e => ⟨h, fun n' hn => by cases hn; exact e⟩, fun e => e.2 n rfl⟩
      · have e := of_decide_eq_true h'
        subst e
        exact ⟨hlo, hrm.ext x14, .map (some m), hcell.ext x14, .inr ⟨_, _, rfl, hmB, hm0, hma.ext x14, fun t => by rw [lk_again hlk]; exact hal t⟩⟩
end Go.Proofs.Ytkoaicjcanplaaa
namespace Go.Proofs.Ytkoaicjcanplaaa
open Go Go.Vc Go.RowKit
set_option linter.unusedVariables false

theorem skip_k {P : Program} {T : Tab} {K : Fr → World → Prop} {Q : Post} {ρ : Fr} {w : World} (h : K ρ w) : vc P T .skip (seqP K Q) ρ w := h
theorem Good_node (cnt : Nat) (vs : Vs) (x : Lab) (k : TF) : Good cnt vs (.cons x k .nil) ↔ (cnt + 1 ≤ 240 ∧ NodeOk x (hdF k) ∧ (x.op = 22 → ∀ n, lk x.name vs = some n → n = x.w)) ∧ Good (cnt + 1) (vs ++ (if x.op = 22 then [(x.name, x.w)] else [])) k := by
  simp only [Good, Fo.size, OkF, varsF, List.append_nil, consB_app]
  constructor
  · rintro ⟨h1, ⟨⟨h2, h3⟩, _⟩, h4, h5⟩
    refine ⟨⟨by omega, h2, fun h => ?_⟩, by omega, h3, h5⟩
    rw [if_pos h] at h4
    exact h4.1
  · rintro ⟨⟨h1, h2, h3⟩, h4, h5, h6⟩
    refine ⟨by omega, ⟨⟨h2, h5⟩, trivial⟩, ?_, h6⟩
    split
    · rename_i h; exact ⟨h3 h, trivial⟩
    · trivial
theorem vars_node (x : Lab) (k : TF) : varsF (.cons x k .nil) = (if x.op = 22 then [(x.name, x.w)] else []) ++ varsF k := by simp [varsF]
theorem Good_nil {cnt : Nat} {vs : Vs} (h : cnt ≤ 240) : Good cnt vs .nil := ⟨by simpa [Fo.size] using h, trivial, trivial⟩
theorem kc_le (op : Int) : kc op ≤ 3 := by
  unfold kc
  split
  · omega
  split
  · omega
  split
  · omega
  split <;> omega
def NdS (f : TF) : Prop := ∀ (n0 B cnt : Nat) (vs : Vs) (x : Lab) (s : Value) (W : World), CkS n0 B cnt vs W → cnt ≤ 240 → TSl (fun b => b < n0) W s f → okL x → f.All okL →
    Ret Try.prog 80 #[.pointer (some ⟨B, 0, none⟩), tv x s] W (CkR n0 B (cnt + (f.size + 1)) (vs ++ varsF (.cons x f .nil)) W (Good cnt vs (.cons x f .nil)))
set_option maxHeartbeats 8000000 in
theorem node_all : ∀ (n : Nat) (k : TF), k.size < n → NdS k := by
  intro n
  induction n with
  | zero => intro k hk; omega
  | succ n ih =>
    intro k hkn n0 B cnt vs x s W hS hcnt hs hx hp
    obtain ⟨hlo, hrm, mv, hcell, hmv⟩ := id hS
    have hlm : (maxLen : Int) ≤ 9223372036854775807 := by decide
    have hBW : B < W.heap.size := World.block_lt_of_cell? _ _ hcell.1
    have x1 : Ext W (W.alloc (.cells (tc x s).toArray 25)) := Ext.new _ _
    have hb := boxedAll W (tc x s) 25
    have hc1 := hcell.ext x1
    have ch2 : Chg (fun i => i = B) (W.alloc (.cells (tc x s).toArray 25)) ((W.alloc (.cells (tc x s).toArray 25)).setCell ⟨B, 0, none⟩ (.int .i64 ((cnt : Int) + 1))) := Chg.setCell (S := fun i => i = B) (p := ⟨B, 0, none⟩) _ rfl _
    have cm2 : Cm n0 B W ((W.alloc (.cells (tc x s).toArray 25)).setCell ⟨B, 0, none⟩ (.int .i64 ((cnt : Int) + 1))) := (Cm.of x1).trans (Cm.own ch2 hlo)
    have hb2 : CellsAt ((W.alloc (.cells (tc x s).toArray 25)).setCell ⟨B, 0, none⟩ (.int .i64 ((cnt : Int) + 1))) W.heap.size 0 (tc x s) := ch2.cells (S := fun i => i = B) (by omega) hb
    have hs2 := cm2.sl hs
    have hcc := World.cell?_setCell_same (W.alloc (.cells (tc x s).toArray 25)) ⟨B, 0, none⟩ (.int .i64 ((cnt : Int) + 1)) hc1.1
    have hS2 : CkS n0 B (cnt + 1) vs ((W.alloc (.cells (tc x s).toArray 25)).setCell ⟨B, 0, none⟩ (.int .i64 ((cnt : Int) + 1))) := by
      refine ⟨hlo, (hrm.ext x1).setCell, mv, ⟨hcc, (World.cell?_setCell_other _ _ _ _ (by simp)).trans hc1.2.1, trivial⟩, ?_⟩
      refine (hmv.ext x1).imp id fun ⟨m, al, h1, h2, h3, h4, h5⟩ => ⟨m, al, h1, h2, h3, h4.chg (S := fun i => i = B) h2 ch2, h5⟩
    obtain ⟨w2, hw2⟩ : ∃ w2, (W.alloc (.cells (tc x s).toArray 25)).setCell ⟨B, 0, none⟩ (.int .i64 ((cnt : Int) + 1)) = w2 := ⟨_, rfl⟩
    -- what fails
    by_cases h240 : (240 : Int) < (cnt : Int) + 1
    · have hbad : ¬ Good cnt vs (.cons x k .nil) := fun h => by have := h.1; simp only [Fo.size] at this; omega
      refine ret_of_vc ties mixed Try.func80 rfl (by kernel_rfl) rfl rfl ?_
      refine ⟨_, hc1.1, _, IntWalk.i64_in _ (by omega), (hrm.ext x1) 0 (by decide), ?_⟩
      refine .inl ⟨by kernel_rfl, _, hcc, ?_⟩
      repeat refine br_dec_true h240 ?_
      intro w3 hw3
      exact CkR.no (cm2.trans (.of hw3)) hbad
    cases hwid : inR x.w 1 16 with
    | false =>
      have hbad : ¬ Good cnt vs (.cons x k .nil) := fun h => inR_not.1 hwid ((Good_node _ _ _ _).1 h).1.2.1.width
      refine ret_of_vc ties mixed Try.func80 rfl (by kernel_rfl) rfl rfl ?_
      refine ⟨_, hc1.1, _, IntWalk.i64_in _ (by omega), (hrm.ext x1) 0 (by decide), ?_⟩
      refine .inl ⟨by kernel_rfl, _, hcc, ?_⟩
      repeat refine br_dec_false h240 ?_
      refine ⟨_, hb2.2.1, ?_⟩
      repeat refine br_dec_false h240 ?_
      refine ⟨.bool false, fun w' _ => (isWidth_ret _ _).mono fun v w'' h => ⟨by rw [h.1, hwid], by rw [h.2]; exact Ext.refl _⟩, ?_⟩
      repeat refine br_dec_false h240 ?_
      intro w3 hw3
      exact CkR.no (cm2.trans (.of hw3)) hbad
    | true =>
    by_cases hlen : (k.len : Int) = kc x.op
    case neg =>
      have hbad : ¬ Good cnt vs (.cons x k .nil) := fun h => hlen (by rw [← ((Good_node _ _ _ _).1 h).1.2.1.count, hdF_len])
      obtain ⟨a, c, rfl, hl, hat⟩ := hs
      refine ret_of_vc ties mixed Try.func80 rfl (by kernel_rfl) rfl rfl ?_
      refine ⟨_, hc1.1, _, IntWalk.i64_in _ (by omega), (hrm.ext x1) 0 (by decide), ?_⟩
      refine .inl ⟨by kernel_rfl, _, hcc, ?_⟩
      repeat refine br_dec_false h240 ?_
      refine ⟨_, hb2.2.1, ?_⟩
      repeat refine br_dec_false h240 ?_
      refine ⟨.bool true, fun w' _ => (isWidth_ret _ _).mono fun v w'' h => ⟨by rw [h.1, hwid], by rw [h.2]; exact Ext.refl _⟩, ?_⟩
      repeat refine br_dec_false h240 ?_
      refine ⟨_, hb2.2.2.2.2.1, _, hb2.1, .int .i64 (kc x.op), fun w' _ => (kidCount_ret _ _).mono fun v w'' h => ⟨h.1, by rw [h.2]; exact Ext.refl _⟩, ?_⟩
      intro w3 hw3
      refine br_dec_true hlen ?_
      exact CkR.no (cm2.trans (.of hw3)) hbad
    have hwid := inR_iff.1 hwid
    obtain ⟨a, c, rfl, hl, hat⟩ := id hs
    have hkl : k.len ≤ 3 := by
      have := kc_le x.op
      omega
    have kid : ∀ (w : World), Cm n0 B W w → ∀ i, i < k.len → ∃ b o t, a = some ⟨b, o, none⟩ ∧ w.cell? ⟨b, o + i * 5 + 1, none⟩ = some (.int .i64 t) ∧ kw (hdF k) i = t := fun w hw i hi => by
      obtain ⟨t, h1, h2⟩ := tms_get hi
      obtain ⟨b, o, c', s', e, _, _, _, hc, _⟩ := (hw.sl hs).kid h1
      cases e
      exact ⟨b, o, t.1.w, rfl, hc.2.1, h2⟩
    refine ret_of_vc ties mixed Try.func80 rfl (by kernel_rfl) rfl rfl ?_
    refine ⟨_, hc1.1, _, IntWalk.i64_in _ (by omega), (hrm.ext x1) 0 (by decide), ?_⟩
    refine .inl ⟨by kernel_rfl, _, hcc, ?_⟩
    repeat refine br_dec_false h240 ?_
    refine ⟨_, hb2.2.1, ?_⟩
    repeat refine br_dec_false h240 ?_
    refine ⟨.bool true, fun w' _ => (isWidth_ret _ _).mono fun v w'' h => ⟨by rw [h.1, inR_iff.2 hwid], by rw [h.2]; exact Ext.refl _⟩, ?_⟩
    repeat refine br_dec_false h240 ?_
    refine ⟨_, hb2.2.2.2.2.1, _, hb2.1, .int .i64 (kc x.op), fun w' _ => (kidCount_ret _ _).mono fun v w'' h => ⟨h.1, by rw [h.2]; exact Ext.refl _⟩, ?_⟩
    intro w3 hw3
    refine br_dec_false (fun e => e hlen) ?_
    have cm3 := cm2.trans (.of hw3)
    replace hb2 := hb2.ext hw3
    replace hS2 := hS2.ext hw3
    replace hs2 := hs2.ext hw3
    refine ⟨_, hb2.2.2.2.2.1, ?_⟩
    refine loop_rule (σ := Nat × Value) [37, 5] 38 49 (fun q => [.int .i64 q.1, q.2])
      (fun q w' => w' = w3 ∧ q.1 ≤ k.len ∧ ∀ i, i < q.1 → inR (kw (hdF k) i) 1 16 = true)
      (fun q => k.len - q.1) (0, undef) rfl ⟨rfl, Nat.zero_le _, fun i h => absurd h (Nat.not_lt_zero _)⟩ ?_
    rintro ⟨i, jv⟩ w junk ⟨rfl, hi, hall⟩ K hK
    simp only at hi hall
    show vc _ _ _ _ (over [37, 5] [.int .i64 i, jv] _) _
    refine br_dec (fun h => ?_) (fun h => ?_)
    · obtain ⟨b, o, t, rfl, hct, hkw⟩ := kid w cm3 i (by omega)
      refine ⟨_, hb2.2.2.2.2.1, ⟨by omega, by omega⟩, _, by rw [Int.toNat_natCast]; exact hct, ?_⟩
      refine Or.inl ((isWidth_ret _ _).mono ?_)
      rintro _ _ ⟨rfl, rfl⟩
      refine br_not (fun h' => ?_) (fun h' => ?_)
      · refine CkR.no cm3 (fun hg => ?_)
        have hN := ((Good_node _ _ _ _).1 hg).1.2.1
        have hlt : i < (hdF k).length := by rw [hdF_len]; omega
        have := hN.kids (hdF k)[i] (List.getElem_mem hlt)
        refine inR_not.1 h' ?_
        rw [← hkw, kw, List.getD_eq_getElem?_getD, List.getElem?_eq_getElem hlt]
        exact this
      · refine ⟨_, IntWalk.i64_in _ (by omega), ?_⟩
        refine hK (i + 1, _) _ _ (vs2 (vint (by show (i : Int) + 1 = ((i + 1 : Nat) : Int); omega)) rfl) ⟨rfl, by show i + 1 ≤ k.len; omega, fun j hj => ?_⟩ (by show k.len - (i + 1) < k.len - i; omega) ?_
        · by_cases e : j = i
          · subst e; rw [hkw]; exact h'
          · exact hall j (by have : j < i + 1 := hj; omega)
        · ((repeat (first | (with_reducible exact Only.refl) | (with_reducible refine Only.skip ?_) | ((with_reducible refine Only.upd ?_ ?_); rfl) | ((with_reducible refine Only.over ?_ ?_ _); rfl) | ((with_reducible refine Only.hav ?_ ?_ ?_); rfl; rfl))))
    have hkids : ∀ y ∈ hdF k, 1 ≤ y.w ∧ y.w ≤ 16 := fun y hy => by
      obtain ⟨j, hj, rfl⟩ := List.getElem_of_mem hy
      have := inR_iff.1 (hall j (by rw [hdF_len] at hj; omega))
      rwa [kw, List.getD_eq_getElem?_getD, List.getElem?_eq_getElem hj] at this
    have hxn := hx.2.2.1
    refine ⟨tc x (.slice a k.len c), rfl, hb2, ?_⟩
    refine Or.inl ((widthsFit_ret x k _ _ (hs2.mono fun _ _ => trivial) hlen hwid hkids hxn).mono ?_)
    rintro _ w4 ⟨rfl, x4⟩
    have cm4 := cm3.trans (.of x4)
    replace hb2 := hb2.ext x4
    replace hS2 := hS2.ext x4
    replace hs2 := hs2.ext x4
    refine br_not (fun h' => ?_) (fun hfit => ?_)
    · refine CkR.no cm4 (fun hg => ?_)
      have := ((Good_node _ _ _ _).1 hg).1.2.1.fits
      rw [h'] at this; cases this
    refine skip_k (P := Try.prog) (T := T) ?_
    refine seq_cut (x := .seq (.region 12 _ _) _) (σ := Unit) [] 52 63 (fun _ => []) (fun _ w' => w' = w4 ∧ (x.op = 0 → wOk x.w x.n = true)) (fun K hK => ?_) (fun _ w5 junk hJ => ?_)
    · refine ⟨_, hb2.1, ?_⟩
      refine br_dec (fun h0 => ?_) (fun h0 => ?_)
      · refine ⟨_, hb2.2.1, _, hb2.2.2.1, ?_⟩
        refine Or.inl ((impl_WordOk _ _ _).mono ?_)
        rintro _ _ ⟨rfl, rfl⟩
        refine br_not (fun h' => ?_) (fun h' => ?_)
        · refine CkR.no cm4 (fun hg => ?_)
          have := ((Good_node _ _ _ _).1 hg).1.2.1.const h0
          rw [h'] at this; cases this
        · refine hK () _ _ rfl ⟨rfl, fun _ => h'⟩ ?_
          ((repeat (first | (with_reducible exact Only.refl) | (with_reducible refine Only.skip ?_) | ((with_reducible refine Only.upd ?_ ?_); rfl) | ((with_reducible refine Only.over ?_ ?_ _); rfl) | ((with_reducible refine Only.hav ?_ ?_ ?_); rfl; rfl))))
      · refine hK () _ _ rfl ⟨rfl, fun h => absurd h h0⟩ ?_
        ((repeat (first | (with_reducible exact Only.refl) | (with_reducible refine Only.skip ?_) | ((with_reducible refine Only.upd ?_ ?_); rfl) | ((with_reducible refine Only.over ?_ ?_ _); rfl) | ((with_reducible refine Only.hav ?_ ?_ ?_); rfl; rfl))))
    obtain ⟨rfl, hconst⟩ := hJ
    refine seq_cut (x := .seq (.region 14 _ _) _) (σ := Unit) [] 63 76 (fun _ => []) (fun _ w' => w' = w5 ∧ (x.op ≠ 0 → x.op ≠ 19 → x.n = 0)) (fun K hK => ?_) (fun _ w6 junk hJ => ?_)
    · refine ⟨_, hb2.1, ?_⟩
      refine br_dec (fun h0 => ?_) (fun h0 => ?_)
      · refine ⟨_, hb2.1, ?_⟩
        refine br_dec (fun h1 => ?_) (fun h1 => ?_)
        · refine ⟨_, hb2.2.2.1, ?_⟩
          refine br_dec (fun h2 => ?_) (fun h2 => ?_)
          · exact CkR.no cm4 (fun hg => h2 (((Good_node _ _ _ _).1 hg).1.2.1.num h0 h1))
          · refine hK () _ _ rfl ⟨rfl, fun _ _ => Classical.not_not.1 h2⟩ ?_
            ((repeat (first | (with_reducible exact Only.refl) | (with_reducible refine Only.skip ?_) | ((with_reducible refine Only.upd ?_ ?_); rfl) | ((with_reducible refine Only.over ?_ ?_ _); rfl) | ((with_reducible refine Only.hav ?_ ?_ ?_); rfl; rfl))))
        · refine hK () _ _ rfl ⟨rfl, fun _ h => absurd h h1⟩ ?_
          ((repeat (first | (with_reducible exact Only.refl) | (with_reducible refine Only.skip ?_) | ((with_reducible refine Only.upd ?_ ?_); rfl) | ((with_reducible refine Only.over ?_ ?_ _); rfl) | ((with_reducible refine Only.hav ?_ ?_ ?_); rfl; rfl))))
      · refine hK () _ _ rfl ⟨rfl, fun h => absurd h h0⟩ ?_
        ((repeat (first | (with_reducible exact Only.refl) | (with_reducible refine Only.skip ?_) | ((with_reducible refine Only.upd ?_ ?_); rfl) | ((with_reducible refine Only.over ?_ ?_ _); rfl) | ((with_reducible refine Only.hav ?_ ?_ ?_); rfl; rfl))))
    obtain ⟨rfl, hnum⟩ := hJ
    refine seq_cut (x := .seq (.region 16 _ _) _) (σ := Unit) [] 76 86 (fun _ => []) (fun _ w' => Cm n0 B W w' ∧ CkS n0 B (cnt + 1) (vs ++ (if x.op = 22 then [(x.name, x.w)] else [])) w' ∧ CellsAt w' W.heap.size 0 (tc x (.slice a k.len c)) ∧ (x.op ≠ 22 → x.name = ByteArray.empty) ∧ (x.op = 22 → isNm x.name = true) ∧ (x.op = 22 → ∀ n, lk x.name vs = some n → n = x.w)) (fun K hK => ?_) (fun _ w7 junk hJ => ?_)
    · refine ⟨_, hb2.1, ?_⟩
      refine br_dec (fun h0 => ?_) (fun h0 => ?_)
      · refine ⟨_, hb2.2.2.2.1, ?_⟩
        refine br_dec (fun h1 => ?_) (fun h1 => ?_)
        · exact CkR.no cm4 (fun hg => h1 (((Good_node _ _ _ _).1 hg).1.2.1.noname h0))
        · refine hK () _ _ rfl ⟨cm4, by rw [if_neg h0, List.append_nil]; exact hS2, hb2, fun _ => Classical.not_not.1 h1, fun h => absurd h h0, fun h => absurd h h0⟩ ?_
          ((repeat (first | (with_reducible exact Only.refl) | (with_reducible refine Only.skip ?_) | ((with_reducible refine Only.upd ?_ ?_); rfl) | ((with_reducible refine Only.over ?_ ?_ _); rfl) | ((with_reducible refine Only.hav ?_ ?_ ?_); rfl; rfl))))
      · have h0 := Classical.not_not.1 h0
        have hnm : x.name.size ≤ 9223372036854775807 := by have := hx.2.2.2; omega
        refine ⟨tc x (.slice a k.len c), rfl, hb2, ?_⟩
        refine Or.inl ((variable_ret n0 B (cnt + 1) vs x _ _ hS2 hnm).mono ?_)
        rintro _ w8 ⟨b, rfl, cm8, hiff, hS8⟩
        refine br_not (fun h' => ?_) (fun h' => ?_)
        · refine CkR.no (cm4.trans cm8) (fun hg => ?_)
          have hg' := ((Good_node _ _ _ _).1 hg).1
          have := hiff.2 ⟨hg'.2.1.name h0, hg'.2.2 h0⟩
          rw [h'] at this; cases this
        · have hp' := hiff.1 h'
          refine hK () _ _ rfl ⟨cm4.trans cm8, by rw [if_pos h0]; exact hS8 h', cm8.cells (by omega) hb2, fun h => absurd h0 h, fun _ => hp'.1, fun _ => hp'.2⟩ ?_
          ((repeat (first | (with_reducible exact Only.refl) | (with_reducible refine Only.skip ?_) | ((with_reducible refine Only.upd ?_ ?_); rfl) | ((with_reducible refine Only.over ?_ ?_ _); rfl) | ((with_reducible refine Only.hav ?_ ?_ ?_); rfl; rfl))))
    obtain ⟨cm7, hS7, hb7, hnoname, hname, hcons⟩ := hJ
    have hN : NodeOk x (hdF k) := ⟨hwid, by rw [hdF_len]; exact hlen, hkids, hfit, hconst, hnum, hnoname, hname⟩
    have hGN : Good cnt vs (.cons x k .nil) ↔ Good (cnt + 1) (vs ++ (if x.op = 22 then [(x.name, x.w)] else [])) k := by
      rw [Good_node]
      exact ⟨fun h => h.2, fun h => ⟨⟨by omega, hN, hcons⟩, h⟩⟩
    obtain ⟨vs', hvs⟩ : ∃ vs', vs ++ (if x.op = 22 then [(x.name, x.w)] else []) = vs' := ⟨_, rfl⟩
    rw [hvs] at hS7 hGN
    have hfin : CkS n0 B (cnt + 1 + k.size) (vs' ++ varsF k) = CkS n0 B (cnt + (k.size + 1)) (vs ++ varsF (.cons x k .nil)) := by
      rw [vars_node, ← List.append_assoc, hvs, show cnt + 1 + k.size = cnt + (k.size + 1) from by omega]
    refine ⟨_, hb7.2.2.2.2.1, ?_⟩
    refine loop_rule (σ := Nat × TF × TF × Value) [89, 6] 90 101 (fun q => [.int .i64 q.1, q.2.2.2])
      (fun q w' => Cm n0 B W w' ∧ CkS n0 B (cnt + 1 + q.2.1.size) (vs' ++ varsF q.2.1) w' ∧ CellsAt w' W.heap.size 0 (tc x (.slice a k.len c)) ∧ q.1 + q.2.2.1.len = k.len ∧ q.2.1.app q.2.2.1 = k ∧ Good (cnt + 1) vs' q.2.1 ∧ q.2.2.1.All okL ∧ (q.2.2.1.len = 0 ∨ ∃ b o, a = some ⟨b, o, none⟩ ∧ TAt (fun b => b < n0) W q.2.2.1 b (o + q.1 * 5) ∧ b < n0))
      (fun q => q.2.2.1.len) (0, .nil, k, undef) rfl ⟨cm7, by simpa [varsF, Fo.size] using hS7, hb7, by simp, rfl, Good_nil (by omega), hp, ?_⟩ ?_
    · rcases hat with hat | ⟨b, o, ha, hbn, hat⟩
      · exact .inl hat
      · exact .inr ⟨b, o, ha, by simpa using hat, hbn⟩
    rintro ⟨i, d, g, j6⟩ w8 junk' ⟨cm8, hS8, hb8, hi, happ, hgd, hpg, hga⟩ K hK
    simp only at hS8 hi happ hgd hpg hga
    show vc _ _ _ _ (over [89, 6] [.int .i64 i, j6] _) _
    refine br_dec (fun h => ?_) (fun h => ?_)
    · match g with
      | .nil => simp only [Fo.len] at hi; omega
      | .cons x' kk r =>
        obtain ⟨b, o, rfl, hga', hbn⟩ := hga.resolve_left (by simp [Fo.len])
        have hga8 := Fo.At.chg (S := fun i => n0 ≤ i ∧ (i = B ∨ ∃ es c, W.heap[i]? = some (.map es c))) (fun b hb e => by omega) cm8 (fun e => by omega) hga'
        obtain ⟨⟨s', hc, hs'⟩, hr⟩ := hga8.sl
        obtain ⟨hpx, hpk, hpr⟩ := hpg
        have hsz : d.size + (kk.size + r.size + 1) = k.size := by rw [← happ, Fo.size_app]; rfl
        simp only [Fo.len] at hi
        have ei : o + (i : Int).toNat * 5 = o + i * 5 := by omega
        have hcd : cnt + 1 + d.size ≤ 240 := hgd.1
        refine ⟨_, hb8.2.2.2.2.1, ⟨by omega, by omega⟩, [.int .i64 x'.op, .int .i64 x'.w, .int .i64 x'.n, .string x'.name, s'], rfl, by rw [ei]; exact hc, ?_⟩
        refine Or.inl ((ih kk (by omega) n0 B _ _ x' s' _ hS8 hcd hs' hpx hpk).mono ?_)
        rintro _ w9 ⟨bb, rfl, cm9, hiff, hS9⟩
        refine br_not (fun h' => ?_) (fun h' => ?_)
        · refine CkR.no (cm8.trans cm9) (fun hg => ?_)
          have h1 := hGN.1 hg
          rw [← happ, Good_app, Good_cons] at h1
          have := hiff.2 h1.2.1
          rw [h'] at this; cases this
        · have hG := hiff.1 h'
          have hS9 := hS9 h'
          refine ⟨_, IntWalk.i64_in _ (by omega), ?_⟩
          refine hK (i + 1, d.app (.cons x' kk .nil), r, _) _ _ (vs2 (vint (by show (i : Int) + 1 = ((i + 1 : Nat) : Int); omega)) rfl) ⟨cm8.trans cm9, ?_, cm9.cells (by omega) hb8, by show i + 1 + r.len = k.len; omega, by show (d.app (.cons x' kk .nil)).app r = k; rw [Fo.app_assoc]; exact happ, (Good_app _ _ _ _).2 ⟨hgd, hG⟩, hpr, .inr ⟨b, o, rfl, ?_, hbn⟩⟩ (by show r.len < r.len + 1; omega) ?_
          · show CkS n0 B (cnt + 1 + (d.app (.cons x' kk .nil)).size) (vs' ++ varsF (d.app (.cons x' kk .nil))) w9
            rw [Fo.size_app, varsF_app, ← List.append_assoc, ← Nat.add_assoc]
            exact hS9
          · show TAt _ W r b (o + (i + 1) * 5)
            rw [show o + (i + 1) * 5 = o + i * 5 + 5 from by omega]
            exact hga'.sl.2
          · ((repeat (first | (with_reducible exact Only.refl) | (with_reducible refine Only.skip ?_) | ((with_reducible refine Only.upd ?_ ?_); rfl) | ((with_reducible refine Only.over ?_ ?_ _); rfl) | ((with_reducible refine Only.hav ?_ ?_ ?_); rfl; rfl))))
    · have := Fo.len_zero (f := g) (by omega)
      subst this
      rw [Fo.app_nil] at happ
      subst happ
      exact CkR.yes cm8 (hGN.2 hgd) (hfin ▸ hS8)

theorem impl_TermOk (x : Lab) (k : TF) (s : Value) (W : World) (hs : TSl anyB W s k) (hx : okL x) (hp : k.All okL) : Ret Try.prog 33 #[tv x s] W (fun v w' => v = .bool (decide (TOk x k)) ∧ Ext W w') := by
  have hb := boxedAll W (tc x s) 25
  have x1 : Ext W (W.alloc (.cells (tc x s).toArray 25)) := Ext.new _ _
  have x2 : Ext (W.alloc (.cells (tc x s).toArray 25)) ((W.alloc (.cells (tc x s).toArray 25)).alloc (.cells #[.int .i64 0, .map none] 93)) := Ext.new _ _
  have hb2 := boxedAll (W.alloc (.cells (tc x s).toArray 25)) [.int .i64 0, .map none] 93
  have r2 := Rmy.new (W.alloc (.cells (tc x s).toArray 25)) [.int .i64 0, .map none] 93
  have hsz := x1.size
  refine ret_of_vc ties mixed Try.func33 rfl (by kernel_rfl) rfl rfl ?_
  refine ⟨tc x s, rfl, hb.ext x2, ?_⟩
  refine Or.inl ((node_all _ k (Nat.lt_succ_self _) W.heap.size _ 0 [] x s _ ⟨hsz, r2, _, hb2, .inl ⟨rfl, rfl⟩⟩ (by decide) ((hs.lt.mono fun b hb => hb.2).ext (x1.trans x2)) hx hp).mono ?_)
  rintro _ w' ⟨b, rfl, cm, hiff, _⟩
  refine ⟨vbool ?_, (x1.trans x2).chg cm (fun i hi => hi.1)⟩
  refine beq_of_iff ?_
  rw [hiff, decide_eq_true_iff, TOk_good]
end Go.Proofs.Ytkoaicjcanplaaa
namespace Go.Proofs.Ytkoaicjcanplaaa
open Go Go.Vc Go.RowKit
set_option linter.unusedVariables false

/-! the count -/
def FewR (L : Nat) (size : Nat) (left : Int) (W : World) (v : Value) (w' : World) : Prop :=
  ∃ l' : Int, v = .bool (decide (0 ≤ l')) ∧ w'.cell? ⟨L, 0, none⟩ = some (.int .i64 l') ∧ Rmy w' L 1 ∧ Chg (fun i => i = L) W w' ∧ (((size : Int) ≤ left ∧ l' = left - size) ∨ (left < size ∧ l' = -1))
theorem few_step {fs ks rs : Nat} {lc left l' : Int} (hi : lc + fs + 1 = left + ((ks + rs + 1 : Nat) : Int) ∨ (lc = -1 ∧ left < fs + 1)) (h0 : 0 ≤ lc) (hg : ks + rs + 1 ≤ fs) (hr : (((ks + 1 : Nat) : Int) ≤ lc ∧ l' = lc - ((ks + 1 : Nat) : Int)) ∨ (lc < ((ks + 1 : Nat) : Int) ∧ l' = -1)) :
    l' + fs + 1 = left + rs ∨ (l' = -1 ∧ left < fs + 1) := by omega
theorem few_res {lc l' : Int} {ks : Nat} (hr : (((ks + 1 : Nat) : Int) ≤ lc ∧ l' = lc - ((ks + 1 : Nat) : Int)) ∨ (lc < ((ks + 1 : Nat) : Int) ∧ l' = -1)) (h1 : lc ≤ 240) : -1 ≤ l' ∧ l' ≤ 240 := by omega
theorem few_end {fs gs : Nat} {lc left : Int} (hi : lc + fs + 1 = left + gs ∨ (lc = -1 ∧ left < fs + 1)) (hlo : -1 ≤ lc) (hg : gs ≤ fs) (h : gs = 0 ∨ ¬ 0 ≤ lc) : (((fs + 1 : Nat) : Int) ≤ left ∧ lc = left - ((fs + 1 : Nat) : Int)) ∨ (left < ((fs + 1 : Nat) : Int) ∧ lc = -1) := by omega
def FewS (f : TF) : Prop := ∀ (x : Lab) (s : Value) (L : Nat) (left : Int) (W : World), TSl (fun b => b ≠ L) W s f → Rmy W L 1 → W.cell? ⟨L, 0, none⟩ = some (.int .i64 left) → 0 ≤ left → left ≤ 240 →
  Ret Try.prog 65 #[tv x s, .pointer (some ⟨L, 0, none⟩)] W (FewR L (f.size + 1) left W)
set_option maxHeartbeats 4000000 in
theorem few_all : ∀ (n : Nat) (f : TF), f.size < n → FewS f := by
  intro n
  induction n with
  | zero => intro f hf; omega
  | succ n ih =>
    intro f hf x s L left W hs hrm hcell h0 h240
    obtain ⟨a, c, rfl, hl, hat⟩ := id hs
    have hlm : (maxLen : Int) ≤ 9223372036854775807 := by decide
    have hLW : L < W.heap.size := World.block_lt_of_cell? _ _ hcell
    have x1 : Ext W (W.alloc (.cells (tc x (.slice a f.len c)).toArray 25)) := Ext.new _ _
    have hb := boxedAll W (tc x (.slice a f.len c)) 25
    have ch2 : Chg (fun i => i = L) (W.alloc (.cells (tc x (.slice a f.len c)).toArray 25)) ((W.alloc (.cells (tc x (.slice a f.len c)).toArray 25)).setCell ⟨L, 0, none⟩ (.int .i64 (left - 1))) := Chg.setCell (S := fun i => i = L) (p := ⟨L, 0, none⟩) _ rfl _
    have hcc := World.cell?_setCell_same (W.alloc (.cells (tc x (.slice a f.len c)).toArray 25)) ⟨L, 0, none⟩ (.int .i64 (left - 1)) (x1.cell hcell)
    have hb2 := ch2.cells (S := fun i => i = L) (b := W.heap.size) (by omega) hb
    have hr2 : Rmy ((W.alloc (.cells (tc x (.slice a f.len c)).toArray 25)).setCell ⟨L, 0, none⟩ (.int .i64 (left - 1))) L 1 := (hrm.ext x1).setCell
    have ch2 := (Chg.of (S := fun i => i = L) x1).trans ch2
    refine ret_of_vc ties mixed Try.func65 rfl (by kernel_rfl) rfl rfl ?_
    refine ⟨_, x1.cell hcell, _, IntWalk.i64_in _ (by omega), (hrm.ext x1) 0 (by decide), ?_⟩
    refine loop_rule (σ := Nat × TF × Int) [5] 12 32 (fun q => [.int .i64 q.1])
      (fun q w' => Chg (fun i => i = L) W w' ∧ w'.cell? ⟨L, 0, none⟩ = some (.int .i64 q.2.2) ∧ Rmy w' L 1 ∧ CellsAt w' W.heap.size 0 (tc x (.slice a f.len c)) ∧ q.1 + q.2.1.len = f.len ∧ q.2.1.size ≤ f.size ∧ -1 ≤ q.2.2 ∧ q.2.2 ≤ 240 ∧
        (q.2.2 + f.size + 1 = left + q.2.1.size ∨ (q.2.2 = -1 ∧ left < f.size + 1)) ∧ (q.2.1.len = 0 ∨ ∃ b o, a = some ⟨b, o, none⟩ ∧ TAt (fun b => b ≠ L) W q.2.1 b (o + q.1 * 5) ∧ b ≠ L))
      (fun q => q.2.1.len) (0, f, left - 1) rfl ⟨ch2, hcc, hr2, hb2, by simp, Nat.le_refl _, by simp only; omega, by simp only; omega, .inl (by simp only; omega), ?_⟩ ?_
    · rcases hat with hat | ⟨b, o, ha, hbn, hat⟩
      · exact .inl hat
      · exact .inr ⟨b, o, ha, by simpa using hat, hbn⟩
    rintro ⟨i, g, lc⟩ w junk ⟨hch, hcl, hrw, hbw, hi, hg, hlo, hhi, hinv, hga⟩ K hK
    simp only at hcl hi hg hlo hhi hinv hga
    show vc _ _ _ _ (over [5] [.int .i64 i] _) _
    refine ⟨_, hbw.2.2.2.2.1, ?_⟩
    refine br_dec (fun h => ?_) (fun h => ?_)
    · refine ⟨_, hcl, ?_⟩
      refine br_dec (fun hl0 => ?_) (fun hl0 => ?_)
      · match g with
        | .nil => simp only [Fo.len] at hi; omega
        | .cons x' kk r =>
          obtain ⟨b, o, rfl, hga', hbn⟩ := hga.resolve_left (by simp [Fo.len])
          have hgw := Fo.At.chg (S := fun i => i = L) (fun b hb e => hb e) hch hbn hga'
          obtain ⟨⟨s', hc, hs'⟩, hr⟩ := hgw.sl
          simp only [Fo.len, Fo.size] at hi hg hinv
          have ei : o + (i : Int).toNat * 5 = o + i * 5 := by omega
          refine ⟨_, hbw.2.2.2.2.1, ⟨by omega, by omega⟩, [.int .i64 x'.op, .int .i64 x'.w, .int .i64 x'.n, .string x'.name, s'], rfl, by rw [ei]; exact hc, ?_⟩
          refine Or.inl ((ih kk (by omega) x' s' L lc w hs' hrw hcl hl0 hhi).mono ?_)
          rintro _ w1 ⟨l', rfl, hc1, hr1, ch1, hres⟩
          have hLw : L < w.heap.size := World.block_lt_of_cell? _ _ hcl
          refine ⟨_, IntWalk.i64_in _ (by omega), ?_⟩
          refine hK (i + 1, r, l') _ _ (vs1 (vint (by show (i : Int) + 1 = ((i + 1 : Nat) : Int); omega))) ⟨hch.trans ch1, hc1, hr1, ch1.cells (S := fun i => i = L) (by omega) hbw, by show i + 1 + r.len = f.len; omega, by show r.size ≤ f.size; omega, (few_res hres hhi).1, (few_res hres hhi).2, few_step hinv hl0 hg hres, .inr ⟨b, o, rfl, ?_, hbn⟩⟩ (by show r.len < r.len + 1; omega) ?_
          · show TAt _ W r b (o + (i + 1) * 5)
            rw [show o + (i + 1) * 5 = o + i * 5 + 5 from by omega]
            exact hga'.sl.2
          · ((repeat (first | (with_reducible exact Only.refl) | (with_reducible refine Only.skip ?_) | ((with_reducible refine Only.upd ?_ ?_); rfl) | ((with_reducible refine Only.over ?_ ?_ _); rfl) | ((with_reducible refine Only.hav ?_ ?_ ?_); rfl; rfl))))
      · refine ⟨_, hcl, ?_⟩
        exact ⟨lc, rfl, hcl, hrw, hch, few_end hinv hlo hg (.inr hl0)⟩
    · have := Fo.len_zero (f := g) (by omega)
      subst this
      refine ⟨_, hcl, ?_⟩
      exact ⟨lc, rfl, hcl, hrw, hch, few_end hinv hlo hg (.inl rfl)⟩
end Go.Proofs.Ytkoaicjcanplaaa
namespace Go.Proofs.Ytkoaicjcanplaaa
open Go Go.Vc Go.RowKit
set_option linter.unusedVariables false

noncomputable instance (f : TF) : Decidable (OkF f) := Classical.propDecidable _
theorem node_iff {x : Lab} {k : TF} (hw : 1 ≤ x.w ∧ x.w ≤ 16) (hn : x.op ≠ 22 → x.name = ByteArray.empty) (hm : x.op ≠ 0 → x.op ≠ 19 → x.n = 0) (hk : OkF k) :
    (NodeOk x (hdF k) ∧ OkF k) ↔ ((k.len : Int) = kc x.op ∧ fit x (hdF k) = true ∧ (x.op = 0 → wOk x.w x.n = true) ∧ (x.op = 22 → isNm x.name = true)) := by
  constructor
  · rintro ⟨h, _⟩
    exact ⟨by rw [← h.count, hdF_len], h.fits, h.const, h.name⟩
  · rintro ⟨h1, h2, h3, h4⟩
    refine ⟨⟨hw, by rw [hdF_len]; exact h1, fun y hy => ?_, h2, h3, hm, hn, h4⟩, hk⟩
    rw [hdF_tms] at hy
    obtain ⟨t, ht, rfl⟩ := List.mem_map.1 hy
    exact (OkF_mem hk t ht).1.width
theorem kw_out {k : TF} {i : Nat} (h : k.len ≤ i) : kw (hdF k) i = 0 := by
  rw [kw, List.getD_eq_getElem?_getD, List.getElem?_eq_none (by rw [hdF_len]; exact h)]; rfl
def fil (k : TF) (i j : Nat) : Int := if j < i then kw (hdF k) j else 0
theorem fil_end {k : TF} {i : Nat} (h : k.len ≤ i ∨ 3 ≤ i) : ∀ j, j < 3 → fil k i j = kw (hdF k) j := fun j hj => by
  unfold fil
  split
  · rfl
  · exact (kw_out (by omega)).symm
section
variable {x : Lab} {k : TF}
theorem cls0 (h : (NodeOk x (hdF k) ∧ OkF k) ↔ ((k.len : Int) = kc x.op ∧ fit x (hdF k) = true ∧ (x.op = 0 → wOk x.w x.n = true) ∧ (x.op = 22 → isNm x.name = true))) (ho : x.op = 0) : (NodeOk x (hdF k) ∧ OkF k) ↔ ((k.len : Int) = 0 ∧ wOk x.w x.n = true) := by
  rw [h, kc0 (.inl ho), show fit x (hdF k) = true from by unfold fit; rw [if_pos (.inl ho)]]
  exact ⟨fun ⟨a, _, b, _⟩ => ⟨a, b ho⟩, fun ⟨a, b⟩ => ⟨a, rfl, fun _ => b, fun e => by omega⟩⟩
theorem cls22 (h : (NodeOk x (hdF k) ∧ OkF k) ↔ ((k.len : Int) = kc x.op ∧ fit x (hdF k) = true ∧ (x.op = 0 → wOk x.w x.n = true) ∧ (x.op = 22 → isNm x.name = true))) (ho : x.op = 22) : (NodeOk x (hdF k) ∧ OkF k) ↔ ((k.len : Int) = 0 ∧ isNm x.name = true) := by
  rw [h, kc0 (.inr ho), show fit x (hdF k) = true from by unfold fit; rw [if_pos (.inr ho)]]
  exact ⟨fun ⟨a, _, _, b⟩ => ⟨a, b ho⟩, fun ⟨a, b⟩ => ⟨a, rfl, fun e => by omega, fun _ => b⟩⟩
theorem clsF {c : Int} {P : Prop} (h : (NodeOk x (hdF k) ∧ OkF k) ↔ ((k.len : Int) = kc x.op ∧ fit x (hdF k) = true ∧ (x.op = 0 → wOk x.w x.n = true) ∧ (x.op = 22 → isNm x.name = true))) (h0 : x.op ≠ 0) (h22 : x.op ≠ 22) (hc : kc x.op = c) (hf : fit x (hdF k) = true ↔ P) : (NodeOk x (hdF k) ∧ OkF k) ↔ ((k.len : Int) = c ∧ P) := by
  rw [h, hc, hf]
  exact ⟨fun ⟨a, b, _, _⟩ => ⟨a, b⟩, fun ⟨a, b⟩ => ⟨a, b, fun e => absurd e h0, fun e => absurd e h22⟩⟩
theorem fitU {l : List Lab} (ho : x.op = 1 ∨ x.op = 2) : fit x l = true ↔ kw l 0 = x.w := by
  unfold fit; rw [if_neg (by omega), if_pos ho]; exact decide_eq_true_iff
theorem fitA {l : List Lab} (ho : 3 ≤ x.op ∧ x.op ≤ 13) : fit x l = true ↔ kw l 0 = x.w ∧ kw l 1 = x.w := by
  unfold fit; rw [if_neg (by omega), if_neg (by omega), if_pos ho]; exact decide_eq_true_iff
theorem fitC {l : List Lab} (ho : 14 ≤ x.op ∧ x.op ≤ 16) : fit x l = true ↔ kw l 0 = kw l 1 ∧ x.w = 1 := by
  unfold fit; rw [if_neg (by omega), if_neg (by omega), if_neg (by omega), if_pos ho]; exact decide_eq_true_iff
theorem fitI {l : List Lab} (ho : x.op = 17) : fit x l = true ↔ kw l 0 = 1 ∧ kw l 1 = x.w ∧ kw l 2 = x.w := by
  unfold fit; rw [if_neg (by omega), if_neg (by omega), if_neg (by omega), if_neg (by omega), if_pos ho]; exact decide_eq_true_iff
theorem fitJ {l : List Lab} (ho : x.op = 18) : fit x l = true ↔ kw l 0 + kw l 1 = x.w := by
  unfold fit; rw [if_neg (by omega), if_neg (by omega), if_neg (by omega), if_neg (by omega), if_neg (by omega), if_pos ho]; exact decide_eq_true_iff
theorem fitT {l : List Lab} (ho : x.op = 19) : fit x l = true ↔ 0 ≤ x.n ∧ x.n ≤ kw l 0 - x.w := by
  unfold fit; rw [if_neg (by omega), if_neg (by omega), if_neg (by omega), if_neg (by omega), if_neg (by omega), if_neg (by omega), if_pos ho]; exact decide_eq_true_iff
theorem fitW {l : List Lab} (ho : x.op = 20 ∨ x.op = 21) : fit x l = true ↔ kw l 0 ≤ x.w := by
  unfold fit; rw [if_neg (by omega), if_neg (by omega), if_neg (by omega), if_neg (by omega), if_neg (by omega), if_neg (by omega), if_neg (by omega)]; exact decide_eq_true_iff
theorem clsX (h : (NodeOk x (hdF k) ∧ OkF k) ↔ ((k.len : Int) = kc x.op ∧ fit x (hdF k) = true ∧ (x.op = 0 → wOk x.w x.n = true) ∧ (x.op = 22 → isNm x.name = true))) (ho : x.op < 0 ∨ 22 < x.op) : ¬ (NodeOk x (hdF k) ∧ OkF k) := fun hh => by
  have := hh.1.op
  omega
end
/-- A test after which nothing is asked. -/
theorem dbool {p q : Prop} {inst : Decidable p} {inst' : Decidable q} (h : p ↔ q) : Value.bool (@decide q inst') = Value.bool (@decide p inst) := vbool (decide_eq_decide.2 h.symm)
def NdR (f : TF) : Prop := ∀ (x : Lab) (s : Value) (W : World), TSl anyB W s f → okL x → f.All okL →
    Ret Try.prog 66 #[tv x s] W (fun v w' => v = .bool (decide (NodeOk x (hdF f) ∧ OkF f)) ∧ Ext W w')
set_option maxHeartbeats 8000000 in
theorem l02Node_all : ∀ (n : Nat) (k : TF), k.size < n → NdR k := by
  intro n
  induction n with
  | zero => intro k hk; omega
  | succ n ih =>
    intro k hkn x s W hs hx hp
    obtain ⟨a, c, rfl, hl, hat⟩ := id hs
    have hlm : (maxLen : Int) ≤ 9223372036854775807 := by decide
    have x1 : Ext W (W.alloc (.cells (tc x (.slice a k.len c)).toArray 25)) := Ext.new _ _
    have hb := boxedAll W (tc x (.slice a k.len c)) 25
    refine ret_of_vc ties mixed Try.func66 rfl (by kernel_rfl) rfl rfl ?_
    refine seq_k fun K hK => hK _ _ ?_
    refine seq_k fun K hK => ?_
    refine ⟨_, hb.2.2.2.2.1, ?_⟩
    refine hK _ _ ?_
    refine seq_cut (x := .seq (.region 2 _ _) _) (σ := Unit) [] 11 40 (fun _ => []) (fun _ w' => Ext W w' ∧ CellsAt w' W.heap.size 0 (tc x (.slice a k.len c)) ∧ (1 ≤ x.w ∧ x.w ≤ 16) ∧ (x.op ≠ 22 → x.name = ByteArray.empty) ∧ (x.op ≠ 0 → x.op ≠ 19 → x.n = 0)) (fun K hK => ?_) (fun _ w2 junk hJ => ?_)
    · refine ⟨_, hb.2.1, ?_⟩
      refine Or.inl ((l01In_ret _ _ _ _).mono ?_)
      rintro _ _ ⟨rfl, rfl⟩
      refine br_not (fun h => ?_) (fun hw => ?_)
      · exact ⟨vbool (decide_eq_false (fun h' => inR_not.1 h h'.1.width)).symm, x1⟩
      have hw := inR_iff.1 hw
      refine ⟨_, hb.2.2.2.1, ?_⟩
      refine br_dec (fun hn => ?_) (fun hn => ?_)
      · refine ⟨_, hb.1, ?_⟩
        refine br_dec (fun h22 => ?_) (fun h22 => ?_)
        · exact ⟨vbool (decide_eq_false (fun h' => hn (h'.1.noname h22))).symm, x1⟩
        · have h22 := Classical.not_not.1 h22
          refine ⟨_, hb.2.2.1, ?_⟩
          refine br_dec (fun hm => ?_) (fun hm => ?_)
          · refine ⟨_, hb.1, ?_⟩
            refine br_dec_true (by omega) ?_
            refine ⟨_, hb.1, ?_⟩
            refine br_dec_true (by omega) ?_
            exact ⟨vbool (decide_eq_false (fun h' => hm (h'.1.num (by omega) (by omega)))).symm, x1⟩
          · refine hK () _ _ rfl ⟨x1, hb, hw, fun h => absurd h22 h, fun _ _ => Classical.not_not.1 hm⟩ ?_
            ((repeat (first | (with_reducible exact Only.refl) | (with_reducible refine Only.skip ?_) | ((with_reducible refine Only.upd ?_ ?_); rfl) | ((with_reducible refine Only.over ?_ ?_ _); rfl) | ((with_reducible refine Only.hav ?_ ?_ ?_); rfl; rfl))))
      · have hn := Classical.not_not.1 hn
        refine ⟨_, hb.2.2.1, ?_⟩
        refine br_dec (fun hm => ?_) (fun hm => ?_)
        · refine ⟨_, hb.1, ?_⟩
          refine br_dec (fun h0 => ?_) (fun h0 => ?_)
          · refine ⟨_, hb.1, ?_⟩
            refine br_dec (fun h19 => ?_) (fun h19 => ?_)
            · exact ⟨vbool (decide_eq_false (fun h' => hm (h'.1.num h0 h19))).symm, x1⟩
            · refine hK () _ _ rfl ⟨x1, hb, hw, fun _ => hn, fun _ h => absurd h h19⟩ ?_
              ((repeat (first | (with_reducible exact Only.refl) | (with_reducible refine Only.skip ?_) | ((with_reducible refine Only.upd ?_ ?_); rfl) | ((with_reducible refine Only.over ?_ ?_ _); rfl) | ((with_reducible refine Only.hav ?_ ?_ ?_); rfl; rfl))))
          · refine hK () _ _ rfl ⟨x1, hb, hw, fun _ => hn, fun h => absurd h h0⟩ ?_
            ((repeat (first | (with_reducible exact Only.refl) | (with_reducible refine Only.skip ?_) | ((with_reducible refine Only.upd ?_ ?_); rfl) | ((with_reducible refine Only.over ?_ ?_ _); rfl) | ((with_reducible refine Only.hav ?_ ?_ ?_); rfl; rfl))))
        · refine hK () _ _ rfl ⟨x1, hb, hw, fun _ => hn, fun _ _ => Classical.not_not.1 hm⟩ ?_
          ((repeat (first | (with_reducible exact Only.refl) | (with_reducible refine Only.skip ?_) | ((with_reducible refine Only.upd ?_ ?_); rfl) | ((with_reducible refine Only.over ?_ ?_ _); rfl) | ((with_reducible refine Only.hav ?_ ?_ ?_); rfl; rfl))))
    obtain ⟨x2, hb2, hw, hnm, hnum⟩ := hJ
    refine ⟨_, hb2.2.2.2.2.1, ?_⟩
    refine loop_rule (σ := Nat × TF × TF × Value) [43, 5] 44 51 (fun q => [.int .i64 q.1, q.2.2.2])
      (fun q w' => Ext w2 w' ∧ q.1 + q.2.2.1.len = k.len ∧ q.2.1.app q.2.2.1 = k ∧ OkF q.2.1 ∧ q.2.2.1.All okL ∧ q.2.2.1.size ≤ k.size ∧ (q.2.2.1.len = 0 ∨ ∃ b o, a = some ⟨b, o, none⟩ ∧ TAt anyB W q.2.2.1 b (o + q.1 * 5)))
      (fun q => q.2.2.1.len) (0, .nil, k, undef) rfl ⟨Ext.refl _, by simp, rfl, trivial, hp, Nat.le_refl _, ?_⟩ ?_
    · rcases hat with hat | ⟨b, o, ha, _, hat⟩
      · exact .inl hat
      · exact .inr ⟨b, o, ha, by simpa using hat⟩
    rintro ⟨i, d, g, j5⟩ w3 junk' ⟨x3, hi, happ, hok, hpg, hg, hga⟩ K hK
    simp only at hi happ hok hpg hg hga
    show vc _ _ _ _ (over [43, 5] [.int .i64 i, j5] _) _
    refine br_dec (fun h => ?_) (fun h => ?_)
    · match g with
      | .nil => simp only [Fo.len] at hi; omega
      | .cons x' kk r =>
        obtain ⟨b, o, rfl, hga'⟩ := hga.resolve_left (by simp [Fo.len])
        obtain ⟨⟨s', hc, hs'⟩, hr⟩ := hga'.sl
        obtain ⟨hpx, hpk, hpr⟩ := hpg
        simp only [Fo.len, Fo.size] at hi hg
        have ei : o + (i : Int).toNat * 5 = o + i * 5 := by omega
        have x03 := x2.trans x3
        obtain ⟨f4, c4, x4⟩ := keep5 (W := w3) (x := x') (s := s') (tc_one hs')
        refine ⟨⟨by omega, by omega⟩, tc x' s', rfl, by rw [ei]; exact hc.ext x03, f4, tc x' s', rfl, c4, ?_⟩
        have x04 := x03.trans x4
        refine Or.inl ((ih kk (by omega) x' s' _ (hs'.ext x04) hpx hpk).mono ?_)
        rintro _ w5 ⟨rfl, x5⟩
        refine br_not (fun h' => ?_) (fun h' => ?_)
        · refine ⟨vbool (decide_eq_false (fun hg => ?_)).symm, x04.trans x5⟩
          have := hg.2
          rw [← happ, OkF_app] at this
          exact of_decide_eq_false h' this.2.1
        · have h' := of_decide_eq_true h'
          refine ⟨_, IntWalk.i64_in _ (by omega), ?_⟩
          refine hK (i + 1, d.app (.cons x' kk .nil), r, _) _ _ (vs2 (vint (by show (i : Int) + 1 = ((i + 1 : Nat) : Int); omega)) rfl) ⟨(x3.trans x4).trans x5, by show i + 1 + r.len = k.len; omega, by show (d.app (.cons x' kk .nil)).app r = k; rw [Fo.app_assoc]; exact happ, (OkF_app _ _).2 ⟨hok, h', trivial⟩, hpr, by show r.size ≤ k.size; omega, .inr ⟨b, o, rfl, ?_⟩⟩ (by show r.len < r.len + 1; omega) ?_
          · show TAt _ W r b (o + (i + 1) * 5)
            rw [show o + (i + 1) * 5 = o + i * 5 + 5 from by omega]
            exact hr
          · ((repeat (first | (with_reducible exact Only.refl) | (with_reducible refine Only.skip ?_) | ((with_reducible refine Only.upd ?_ ?_); rfl) | ((with_reducible refine Only.over ?_ ?_ _); rfl) | ((with_reducible refine Only.hav ?_ ?_ ?_); rfl; rfl))))
    have hgn := Fo.len_zero (f := g) (by omega)
    subst hgn
    rw [Fo.app_nil] at happ
    subst happ
    clear hga hat hi h
    have hb3 := hb2.ext x3
    have x03 := x2.trans x3
    have hB0 := boxedAll w3 [.int .i64 0, .int .i64 0, .int .i64 0] 3
    have hR0 := Rmy.new w3 [.int .i64 0, .int .i64 0, .int .i64 0] 3
    have x4 : Ext w3 (w3.alloc (.cells [.int .i64 0, .int .i64 0, .int .i64 0].toArray 3)) := Ext.new _ _
    refine loop_rule (σ := Nat) [7] 52 70 (fun q => [.int .i64 q])
      (fun q w' => Ext w3 w' ∧ q ≤ 3 ∧ q ≤ d.len ∧ Rmy w' w3.heap.size 3 ∧ CellsAt w' w3.heap.size 0 [.int .i64 (fil d q 0), .int .i64 (fil d q 1), .int .i64 (fil d q 2)])
      (fun q => 3 - q) 0 rfl ⟨x4, by decide, Nat.zero_le _, hR0, hB0⟩ ?_
    rintro i w4 junk'' ⟨x34, hi3, hik, hR4, hB4⟩ K hK
    show vc _ _ _ _ (over [7] [.int .i64 i] _) _
    have hcut : (d.len ≤ i ∨ 3 ≤ i) → CellsAt w4 w3.heap.size 0 [.int .i64 (kw (hdF d) 0), .int .i64 (kw (hdF d) 1), .int .i64 (kw (hdF d) 2)] := fun h => by
      have hf := fil_end h
      rw [hf 0 (by decide), hf 1 (by decide), hf 2 (by decide)] at hB4
      exact hB4
    have hb4 := hb3.ext x34
    have x04 := x03.trans x34
    have step : i < d.len → i < 3 → ∃ b o t, a = some ⟨b, o, none⟩ ∧ w4.cell? ⟨b, o + i * 5 + 1, none⟩ = some (.int .i64 t) ∧ CellsAt (w4.setCell ⟨w3.heap.size, 0 + (i : Int).toNat * 1, none⟩ (.int .i64 t)) w3.heap.size 0 [.int .i64 (fil d (i + 1) 0), .int .i64 (fil d (i + 1) 1), .int .i64 (fil d (i + 1) 2)] := fun h1 h2 => by
      obtain ⟨t, g1, g2⟩ := tms_get h1
      obtain ⟨b, o, c', s', e, _, _, _, hc, _⟩ := TSl.kid (ok := anyB) (hs.ext x04) g1
      cases e
      refine ⟨b, o, t.1.w, rfl, hc.2.1, ?_⟩
      have hset := hR4 i h2
      have h3 : i = 0 ∨ i = 1 ∨ i = 2 := by omega
      have same : ∀ j v, w4.cell? ⟨w3.heap.size, j, none⟩ = some v → j ≠ i → (w4.setCell ⟨w3.heap.size, 0 + (i : Int).toNat * 1, none⟩ (.int .i64 t.1.w)).cell? ⟨w3.heap.size, j, none⟩ = some v := fun j v hj hne => (World.cell?_setCell_other _ _ _ _ (fun e => hne (by have := congrArg Addr.off e; simp only [Int.toNat_natCast] at this; omega))).trans hj
      obtain ⟨u, hu⟩ := hset.1
      have new : (w4.setCell ⟨w3.heap.size, 0 + (i : Int).toNat * 1, none⟩ (.int .i64 t.1.w)).cell? ⟨w3.heap.size, i, none⟩ = some (.int .i64 t.1.w) := by
        have e : (⟨w3.heap.size, 0 + (i : Int).toNat * 1, none⟩ : Addr) = ⟨w3.heap.size, i, none⟩ := by rw [Int.toNat_natCast, Nat.mul_one, Nat.zero_add]
        rw [e]; exact World.cell?_setCell_same _ _ _ hu
      have hfi : fil d (i + 1) i = t.1.w := by rw [fil, if_pos (Nat.lt_succ_self _)]; exact g2
      have hfo : ∀ j, j ≠ i → fil d (i + 1) j = fil d i j := fun j hj => by
        unfold fil
        by_cases h : j < i
        · rw [if_pos h, if_pos (by omega)]
        · rw [if_neg h, if_neg (by omega)]
      rcases h3 with rfl | rfl | rfl
      · rw [hfi, hfo 1 (by decide), hfo 2 (by decide)]
        exact ⟨new, same _ _ hB4.2.1 (by decide), same _ _ hB4.2.2.1 (by decide), trivial⟩
      · rw [hfi, hfo 0 (by decide), hfo 2 (by decide)]
        exact ⟨same _ _ hB4.1 (by decide), new, same _ _ hB4.2.2.1 (by decide), trivial⟩
      · rw [hfi, hfo 0 (by decide), hfo 1 (by decide)]
        exact ⟨same _ _ hB4.1 (by decide), same _ _ hB4.2.1 (by decide), new, trivial⟩
    have hiff := node_iff hw hnm hnum hok
    have hkidw : ∀ j, j < d.len → 1 ≤ kw (hdF d) j ∧ kw (hdF d) j ≤ 16 := fun j hj => by
      obtain ⟨t, g1, g2⟩ := tms_get hj
      rw [g2]
      exact (OkF_mem hok t (List.mem_of_getElem? g1)).1.width
    refine br_dec (fun h => ?inn) (fun h => ?out)
    case' inn => refine br_dec (fun h' => ?stp) (fun h' => ?ou2)
    case stp =>
      have hst := step (by omega) (by omega)
      obtain ⟨b, o, t, rfl, hct, hB5⟩ := hst
      have ei : o + (i : Int).toNat * 5 = o + i * 5 := by omega
      refine ⟨_, hb4.2.2.2.2.1, ⟨by omega, by omega⟩, .int .i64 t, by rw [ei]; exact hct, ⟨by omega, by show (i : Int) < ((3 : Nat) : Int); omega⟩, hR4 (0 + (i : Int).toNat * 1) (by omega), ?_⟩
      refine ⟨_, IntWalk.i64_in _ (by omega), ?_⟩
      refine hK (i + 1) _ _ (vs1 (vint (by show (i : Int) + 1 = ((i + 1 : Nat) : Int); omega))) ⟨x34.set (p := ⟨w3.heap.size, _, none⟩) (Nat.le_refl _) _, by omega, by omega, hR4.setCell, hB5⟩ (by omega) ?_
      ((repeat (first | (with_reducible exact Only.refl) | (with_reducible refine Only.skip ?_) | ((with_reducible refine Only.upd ?_ ?_); rfl) | ((with_reducible refine Only.over ?_ ?_ _); rfl) | ((with_reducible refine Only.hav ?_ ?_ ?_); rfl; rfl))))
    case' ou2 => have hB5 := hcut (.inr (by omega))
    case' out => have hB5 := hcut (.inl (by omega))
    all_goals
      clear step hcut hB4
      refine ⟨_, hb4.1, ?_⟩
      refine br_dec (fun h0 => ?_) (fun h0 => ?_)
      · refine br_dec (fun hl => ?_) (fun hl => ?_)
        · refine ⟨_, hb4.2.1, _, hb4.2.2.1, ?_⟩
          refine Or.inl ((spec_WordOk _ _ _).mono ?_)
          rintro _ _ ⟨rfl, rfl⟩
          exact ⟨vbool (beq_of_iff (by rw [decide_eq_true_iff, cls0 hiff h0]; exact ⟨fun h => ⟨hl, h⟩, fun h => h.2⟩)), x04⟩
        · exact ⟨vbool (decide_eq_false (fun h => hl ((cls0 hiff h0).1 h).1)).symm, x04⟩
      refine ⟨_, hb4.1, ?_⟩
      refine br_dec (fun h22 => ?_) (fun h22 => ?_)
      · refine br_dec (fun hl => ?_) (fun hl => ?_)
        · refine ⟨_, hb4.2.2.2.1, ?_⟩
          refine Or.inl ((spec_IsName _ (by have := hx.2.2.2; omega) _).mono ?_)
          rintro _ _ ⟨rfl, rfl⟩
          exact ⟨vbool (beq_of_iff (by rw [decide_eq_true_iff, cls22 hiff h22]; exact ⟨fun h => ⟨hl, h⟩, fun h => h.2⟩)), x04⟩
        · exact ⟨vbool (decide_eq_false (fun h => hl ((cls22 hiff h22).1 h).1)).symm, x04⟩
      refine ⟨_, hb4.1, ?_⟩
      refine Or.inl ((l01In_ret _ _ _ _).mono ?_)
      rintro _ _ ⟨rfl, rfl⟩
      refine br_split (fun ho => ?_) (fun ho1 => ?_)
      · have ho := inR_iff.1 ho
        have hI := clsF hiff (by omega) (by omega) (kc1 (by omega)) (fitU (l := hdF d) (show x.op = 1 ∨ x.op = 2 by omega))
        refine .inl ⟨by kernel_rfl, ?_⟩
        by_cases hl : (d.len : Int) = 1
        · repeat refine br_dec_true hl ?_
          refine ⟨⟨by decide, by decide⟩, ?_⟩
          repeat refine br_dec_true hl ?_
          refine ⟨_, hB5.1, ?_⟩
          repeat refine br_dec_true hl ?_
          refine ⟨_, hb4.2.1, ?_⟩
          repeat refine br_dec_true hl ?_
          exact fun w' hw' => ⟨dbool (hI.trans ⟨fun h => h.2, fun h => ⟨hl, h⟩⟩), x04.trans hw'⟩
        · repeat refine br_dec_false hl ?_
          exact fun w' hw' => ⟨vbool (decide_eq_false (fun h => hl (hI.1 h).1)).symm, x04.trans hw'⟩
      have ho1 := inR_not.1 ho1
      refine ⟨_, hb4.1, ?_⟩
      refine Or.inl ((l01In_ret _ _ _ _).mono ?_)
      rintro _ _ ⟨rfl, rfl⟩
      refine br_split (fun ho => ?_) (fun ho2 => ?_)
      · have ho := inR_iff.1 ho
        have hI := clsF hiff (by omega) (by omega) (kc2 (by omega)) (fitA (l := hdF d) (show 3 ≤ x.op ∧ x.op ≤ 13 by omega))
        refine .inl ⟨by kernel_rfl, ?_⟩
        by_cases hl : (d.len : Int) = 2
        · repeat refine br_dec_true hl ?_
          refine ⟨⟨by decide, by decide⟩, ?_⟩
          repeat refine br_dec_true hl ?_
          refine ⟨_, hB5.1, ?_⟩
          repeat refine br_dec_true hl ?_
          refine ⟨_, hb4.2.1, ?_⟩
          repeat refine br_dec_true hl ?_
          by_cases hk : kw (hdF d) 0 = x.w
          · repeat refine br_dec_true hk ?_
            refine ⟨⟨by decide, by decide⟩, ?_⟩
            repeat refine br_dec_true hk ?_
            refine ⟨_, hB5.2.1, ?_⟩
            repeat refine br_dec_true hk ?_
            refine ⟨_, hb4.2.1, ?_⟩
            repeat refine br_dec_true hk ?_
            exact fun w' hw' => ⟨dbool (hI.trans ⟨fun h => h.2.2, fun h => ⟨hl, hk, h⟩⟩), x04.trans hw'⟩
          · repeat refine br_dec_false hk ?_
            exact fun w' hw' => ⟨vbool (decide_eq_false (fun h => hk (hI.1 h).2.1)).symm, x04.trans hw'⟩
        · repeat refine br_dec_false hl ?_
          exact fun w' hw' => ⟨vbool (decide_eq_false (fun h => hl (hI.1 h).1)).symm, x04.trans hw'⟩
      have ho2 := inR_not.1 ho2
      refine ⟨_, hb4.1, ?_⟩
      refine Or.inl ((l01In_ret _ _ _ _).mono ?_)
      rintro _ _ ⟨rfl, rfl⟩
      refine br_split (fun ho => ?_) (fun ho3 => ?_)
      · have ho := inR_iff.1 ho
        have hI := clsF hiff (by omega) (by omega) (kc2 (by omega)) (fitC (l := hdF d) (show 14 ≤ x.op ∧ x.op ≤ 16 by omega))
        refine .inl ⟨by kernel_rfl, ?_⟩
        by_cases hl : (d.len : Int) = 2
        · repeat refine br_dec_true hl ?_
          refine ⟨⟨by decide, by decide⟩, ?_⟩
          repeat refine br_dec_true hl ?_
          refine ⟨_, hB5.1, ?_⟩
          repeat refine br_dec_true hl ?_
          refine ⟨⟨by decide, by decide⟩, ?_⟩
          repeat refine br_dec_true hl ?_
          refine ⟨_, hB5.2.1, ?_⟩
          repeat refine br_dec_true hl ?_
          by_cases hk : kw (hdF d) 0 = kw (hdF d) 1
          · repeat refine br_dec_true hk ?_
            refine ⟨_, hb4.2.1, ?_⟩
            repeat refine br_dec_true hk ?_
            exact fun w' hw' => ⟨dbool (hI.trans ⟨fun h => h.2.2, fun h => ⟨hl, hk, h⟩⟩), x04.trans hw'⟩
          · repeat refine br_dec_false hk ?_
            exact fun w' hw' => ⟨vbool (decide_eq_false (fun h => hk (hI.1 h).2.1)).symm, x04.trans hw'⟩
        · repeat refine br_dec_false hl ?_
          exact fun w' hw' => ⟨vbool (decide_eq_false (fun h => hl (hI.1 h).1)).symm, x04.trans hw'⟩
      have ho3 := inR_not.1 ho3
      refine ⟨_, hb4.1, ?_⟩
      refine br_dec (fun ho => ?_) (fun ho4 => ?_)
      · have hI := clsF hiff (by omega) (by omega) (show kc x.op = 3 by rw [ho]; rfl) (fitI (l := hdF d) ho)
        refine .inl ⟨by kernel_rfl, ?_⟩
        by_cases hl : (d.len : Int) = 3
        · repeat refine br_dec_true hl ?_
          refine ⟨⟨by decide, by decide⟩, ?_⟩
          repeat refine br_dec_true hl ?_
          refine ⟨_, hB5.1, ?_⟩
          repeat refine br_dec_true hl ?_
          by_cases hk : kw (hdF d) 0 = 1
          · repeat refine br_dec_true hk ?_
            refine ⟨⟨by decide, by decide⟩, ?_⟩
            repeat refine br_dec_true hk ?_
            refine ⟨_, hB5.2.1, ?_⟩
            repeat refine br_dec_true hk ?_
            refine ⟨_, hb4.2.1, ?_⟩
            repeat refine br_dec_true hk ?_
            by_cases hk1 : kw (hdF d) 1 = x.w
            · repeat refine br_dec_true hk1 ?_
              refine ⟨⟨by decide, by decide⟩, ?_⟩
              repeat refine br_dec_true hk1 ?_
              refine ⟨_, hB5.2.2.1, ?_⟩
              repeat refine br_dec_true hk1 ?_
              refine ⟨_, hb4.2.1, ?_⟩
              repeat refine br_dec_true hk1 ?_
              exact fun w' hw' => ⟨dbool (hI.trans ⟨fun h => h.2.2.2, fun h => ⟨hl, hk, hk1, h⟩⟩), x04.trans hw'⟩
            · repeat refine br_dec_false hk1 ?_
              exact fun w' hw' => ⟨vbool (decide_eq_false (fun h => hk1 (hI.1 h).2.2.1)).symm, x04.trans hw'⟩
          · repeat refine br_dec_false hk ?_
            exact fun w' hw' => ⟨vbool (decide_eq_false (fun h => hk (hI.1 h).2.1)).symm, x04.trans hw'⟩
        · repeat refine br_dec_false hl ?_
          exact fun w' hw' => ⟨vbool (decide_eq_false (fun h => hl (hI.1 h).1)).symm, x04.trans hw'⟩
      refine ⟨_, hb4.1, ?_⟩
      refine br_dec (fun ho => ?_) (fun ho5 => ?_)
      · have hI := clsF hiff (by omega) (by omega) (kc2 (.inr ho)) (fitJ (l := hdF d) ho)
        refine .inl ⟨by kernel_rfl, ?_⟩
        by_cases hl : (d.len : Int) = 2
        · have hw0 := hkidw 0 (by omega)
          have hw1 := hkidw 1 (by omega)
          repeat refine br_dec_true hl ?_
          refine ⟨⟨by decide, by decide⟩, ?_⟩
          repeat refine br_dec_true hl ?_
          refine ⟨_, hB5.1, ?_⟩
          repeat refine br_dec_true hl ?_
          refine ⟨⟨by decide, by decide⟩, ?_⟩
          repeat refine br_dec_true hl ?_
          refine ⟨_, hB5.2.1, ?_⟩
          repeat refine br_dec_true hl ?_
          refine ⟨_, IntWalk.i64_in _ (by omega), ?_⟩
          repeat refine br_dec_true hl ?_
          refine ⟨_, hb4.2.1, ?_⟩
          repeat refine br_dec_true hl ?_
          exact fun w' hw' => ⟨dbool (hI.trans ⟨fun h => h.2, fun h => ⟨hl, h⟩⟩), x04.trans hw'⟩
        · repeat refine br_dec_false hl ?_
          exact fun w' hw' => ⟨vbool (decide_eq_false (fun h => hl (hI.1 h).1)).symm, x04.trans hw'⟩
      refine ⟨_, hb4.1, ?_⟩
      refine br_dec (fun ho => ?_) (fun ho6 => ?_)
      · have hI := clsF hiff (by omega) (by omega) (kc1 (by omega)) (fitT (l := hdF d) ho)
        refine .inl ⟨by kernel_rfl, ?_⟩
        by_cases hl : (d.len : Int) = 1
        · have hw0 := hkidw 0 (by omega)
          repeat refine br_dec_true hl ?_
          refine ⟨_, hb4.2.2.1, ?_⟩
          repeat refine br_dec_true hl ?_
          cases hnr : inR x.n 0 16 with
          | true =>
            have hnr' := inR_iff.1 hnr
            refine ⟨.bool true, fun w' _ => (l01In_ret _ _ _ _).mono fun v w'' h => ⟨by rw [h.1, hnr], by rw [h.2]; exact Ext.refl _⟩, ?_⟩
            repeat refine br_dec_true hl ?_
            refine ⟨_, hb4.2.2.1, ?_⟩
            repeat refine br_dec_true hl ?_
            refine ⟨_, hb4.2.1, ?_⟩
            repeat refine br_dec_true hl ?_
            refine ⟨_, IntWalk.i64_in _ (by omega), ?_⟩
            repeat refine br_dec_true hl ?_
            refine ⟨⟨by decide, by decide⟩, ?_⟩
            repeat refine br_dec_true hl ?_
            refine ⟨_, hB5.1, ?_⟩
            repeat refine br_dec_true hl ?_
            exact fun w' hw' => ⟨dbool (hI.trans ⟨fun h => (by have := h.2.2; omega), fun h => ⟨hl, hnr'.1, by omega⟩⟩), x04.trans hw'⟩
          | false =>
            refine ⟨.bool false, fun w' _ => (l01In_ret _ _ _ _).mono fun v w'' h => ⟨by rw [h.1, hnr], by rw [h.2]; exact Ext.refl _⟩, ?_⟩
            repeat refine br_dec_true hl ?_
            exact fun w' hw' => ⟨vbool (decide_eq_false (fun h => inR_not.1 hnr (by have := (hI.1 h).2; omega))).symm, x04.trans hw'⟩
        · repeat refine br_dec_false hl ?_
          exact fun w' hw' => ⟨vbool (decide_eq_false (fun h => hl (hI.1 h).1)).symm, x04.trans hw'⟩
      refine .inl ⟨by kernel_rfl, ?_⟩
      refine ⟨_, hb4.1, ?_⟩
      cases hor : inR x.op 20 21 with
      | true =>
        have hor' := inR_iff.1 hor
        have hI := clsF hiff (by omega) (by omega) (kc1 (by omega)) (fitW (l := hdF d) (show x.op = 20 ∨ x.op = 21 by omega))
        refine ⟨.bool true, fun w' _ => (l01In_ret _ _ _ _).mono fun v w'' h => ⟨by rw [h.1, hor], by rw [h.2]; exact Ext.refl _⟩, ?_⟩
        by_cases hl : (d.len : Int) = 1
        · repeat refine br_dec_true hl ?_
          refine ⟨⟨by decide, by decide⟩, ?_⟩
          repeat refine br_dec_true hl ?_
          refine ⟨_, hB5.1, ?_⟩
          repeat refine br_dec_true hl ?_
          refine ⟨_, hb4.2.1, ?_⟩
          repeat refine br_dec_true hl ?_
          exact fun w' hw' => ⟨dbool (hI.trans ⟨fun h => h.2, fun h => ⟨hl, h⟩⟩), x04.trans hw'⟩
        · repeat refine br_dec_false hl ?_
          exact fun w' hw' => ⟨vbool (decide_eq_false (fun h => hl (hI.1 h).1)).symm, x04.trans hw'⟩
      | false =>
        have hor' := inR_not.1 hor
        refine ⟨.bool false, fun w' _ => (l01In_ret _ _ _ _).mono fun v w'' h => ⟨by rw [h.1, hor], by rw [h.2]; exact Ext.refl _⟩, ?_⟩
        exact fun w' hw' => ⟨vbool (decide_eq_false (clsX hiff (by omega))).symm, x04.trans hw'⟩
end Go.Proofs.Ytkoaicjcanplaaa
namespace Go.Proofs.Ytkoaicjcanplaaa
open Go Go.Vc Go.RowKit
set_option linter.unusedVariables false
/-! variables, ascending by name -/
theorem less_irr (a : ByteArray) : less a a = false := by rw [less_cmp, decide_eq_false]; rw [cmpS_zero.2 rfl]; decide
theorem less_trans {a b c : ByteArray} (h1 : less a b = true) (h2 : less b c = true) : less a c = true := by
  rw [less_cmp] at *
  exact decide_eq_true (cmpS_trans (of_decide_eq_true h1) (of_decide_eq_true h2))
theorem less_asym {a b : ByteArray} (h1 : less a b = true) : less b a = false := by
  cases h : less b a with
  | false => rfl
  | true => have := less_trans h1 h; rw [less_irr] at this; cases this
theorem less_ne {a b : ByteArray} (h1 : less a b = true) : a ≠ b := by rintro rfl; rw [less_irr] at h1; cases h1
theorem less_tri {a b : ByteArray} (h1 : less a b = false) (h2 : a ≠ b) : less b a = true := by
  rw [less_cmp] at *
  have h := of_decide_eq_false h1
  refine decide_eq_true ?_
  have := cmpS_val a b
  have := cmpS_swap a b
  have : cmpS a b ≠ 0 := fun e => h2 (cmpS_zero.1 e)
  omega
/-- Ascending by name. -/
def Asc : Vs → Prop
  | [] => True
  | p :: l => (∀ q ∈ l, less p.1 q.1 = true) ∧ Asc l
def insV (s : ByteArray) (w : Int) : Vs → Vs
  | [] => [(s, w)]
  | p :: l => if less p.1 s = true then p :: insV s w l else if p.1 = s then p :: l else (s, w) :: p :: l
theorem insV_mem {s : ByteArray} {w : Int} : ∀ {l : Vs} {q : ByteArray × Int}, q ∈ insV s w l → q = (s, w) ∨ q ∈ l := by
  intro l
  induction l with
  | nil => intro q h; simp only [insV, List.mem_singleton] at h; exact .inl h
  | cons p l ih =>
    intro q h
    unfold insV at h
    split at h
    · rcases List.mem_cons.1 h with rfl | h
      · exact .inr (by simp)
      · exact (ih h).imp id fun h => List.mem_cons_of_mem _ h
    split at h
    · exact .inr h
    · rcases List.mem_cons.1 h with rfl | h
      · exact .inl rfl
      · exact .inr h
theorem insV_asc {s : ByteArray} {w : Int} : ∀ {l : Vs}, Asc l → Asc (insV s w l) := by
  intro l
  induction l with
  | nil => intro _; exact ⟨fun _ h => (by cases h), trivial⟩
  | cons p l ih =>
    rintro ⟨h1, h2⟩
    unfold insV
    split
    · rename_i hl
      refine ⟨fun q hq => ?_, ih h2⟩
      rcases insV_mem hq with rfl | hq
      · exact hl
      · exact h1 q hq
    split
    · exact ⟨h1, h2⟩
    · rename_i hl hn
      have hl := less_tri (by simpa using hl) hn
      refine ⟨fun q hq => ?_, h1, h2⟩
      rcases List.mem_cons.1 hq with rfl | hq
      · exact hl
      · exact less_trans hl (h1 q hq)
theorem insV_lk {s : ByteArray} {w : Int} {t : ByteArray} : ∀ {l : Vs}, Asc l → lk t (insV s w l) = (lk t l).or (if t = s then some w else none) := by
  intro l
  induction l with
  | nil =>
    intro _
    simp only [insV, lk]
    rfl
  | cons p l ih =>
    rintro ⟨h1, h2⟩
    unfold insV
    split
    · rename_i hl
      simp only [lk]
      split
      · rfl
      · exact ih h2
    split
    · rename_i hl he
      simp only [lk]
      by_cases ht : t = p.1
      · rw [if_pos ht]; rfl
      · rw [if_neg ht, if_neg (by rw [← he]; exact ht), Option.or_none]
    · rename_i hl hn
      have hl := less_tri (by simpa using hl) hn
      simp only [lk]
      by_cases ht : t = s
      · rw [if_pos ht]
        subst ht
        rw [if_neg (fun e => hn e.symm)]
        have : lk t l = none := lk_none.2 fun q hq e => by
          have := less_trans hl (h1 q hq)
          exact less_ne this e.symm
        rw [this]; simp
      · rw [if_neg ht]
        simp only [if_neg ht, Option.or_none]
/-- All of them put in. -/
def vput (acc ws : Vs) : Vs := ws.foldl (fun a p => insV p.1 p.2 a) acc
theorem vput_asc : ∀ (ws acc : Vs), Asc acc → Asc (vput acc ws) := by
  intro ws
  induction ws with
  | nil => intro acc h; exact h
  | cons p ws ih => intro acc h; exact ih _ (insV_asc h)
theorem vput_app (acc ws us : Vs) : vput acc (ws ++ us) = vput (vput acc ws) us := by simp [vput]
theorem vput_lk {t : ByteArray} : ∀ (ws acc : Vs), Asc acc → lk t (vput acc ws) = (lk t acc).or (lk t ws) := by
  intro ws
  induction ws with
  | nil => intro acc _; simp [vput, lk]
  | cons p ws ih =>
    intro acc h
    show lk t (vput (insV p.1 p.2 acc) ws) = _
    rw [ih _ (insV_asc h), insV_lk h, Option.or_assoc]
    congr 1
    simp only [lk]
    split <;> simp
/-- A row that ascends is known by what it says of each name. -/
theorem asc_ext : ∀ {l m : Vs}, Asc l → Asc m → (∀ t, lk t l = lk t m) → l = m := by
  intro l
  induction l with
  | nil =>
    intro m _ _ h
    cases m with
    | nil => rfl
    | cons q m =>
      have := h q.1
      simp [lk] at this
  | cons p l ih =>
    rintro m ⟨h1, h2⟩ hm h
    cases m with
    | nil =>
      have := h p.1
      simp [lk] at this
    | cons q m =>
      obtain ⟨g1, g2⟩ := hm
      have nol : lk p.1 l = none := lk_none.2 fun r hr e => less_ne (h1 r hr) e.symm
      have nom : lk q.1 m = none := lk_none.2 fun r hr e => less_ne (g1 r hr) e.symm
      have hpq : p = q := by
        by_cases e : p.1 = q.1
        · have := h p.1
          simp only [lk, if_pos e, ite_true, Option.some.injEq] at this
          exact Prod.ext e this
        · have a1 := h p.1
          have a2 := h q.1
          simp only [lk, ite_true, if_neg e] at a1
          simp only [lk, ite_true, if_neg (fun h => e h.symm : ¬ q.1 = p.1)] at a2
          have b1 := g1 _ (lk_mem a1.symm)
          have b2 := h1 _ (lk_mem a2)
          have := less_trans b1 b2
          rw [less_irr] at this; cases this
      subst hpq
      refine congrArg (p :: ·) (ih h2 g2 fun t => ?_)
      have := h t
      simp only [lk] at this
      by_cases e : t = p.1
      · subst e; rw [nol, nom]
      · rwa [if_neg e, if_neg e] at this
def Nod (l : Vs) : Prop := (l.map (·.1)).Nodup
theorem asc_nod : ∀ {l : Vs}, Asc l → Nod l := by
  intro l
  induction l with
  | nil => intro _; exact List.nodup_nil
  | cons p l ih =>
    rintro ⟨h1, h2⟩
    refine List.nodup_cons.2 ⟨fun h => ?_, ih h2⟩
    obtain ⟨q, hq, e⟩ := List.mem_map.1 h
    exact less_ne (h1 q hq) e.symm
theorem lk_mem_iff {s : ByteArray} {w : Int} : ∀ {l : Vs}, Nod l → (lk s l = some w ↔ (s, w) ∈ l) := by
  intro l
  induction l with
  | nil => intro _; simp [lk]
  | cons p l ih =>
    intro h
    obtain ⟨h1, h2⟩ := List.nodup_cons.1 h
    simp only [lk, List.mem_cons]
    by_cases e : s = p.1
    · rw [if_pos e]
      constructor
      · intro hw; left; cases hw; exact Prod.ext e rfl
      · rintro (hw | hw)
        · rw [← hw]
        · exact absurd (List.mem_map.2 ⟨_, hw, e⟩) h1
    · rw [if_neg e, ih h2]
      constructor
      · exact .inr
      · rintro (hw | hw)
        · exact absurd (congrArg Prod.fst hw) e
        · exact hw
theorem lk_perm {l m : Vs} (h : l.Perm m) (hn : Nod m) (t : ByteArray) : lk t l = lk t m := by
  have hl : Nod l := (h.map _).nodup_iff.2 hn
  cases e : lk t m with
  | some w => exact (lk_mem_iff hl).2 (h.mem_iff.2 ((lk_mem_iff hn).1 e))
  | none =>
    cases e' : lk t l with
    | none => rfl
    | some w =>
      have := (lk_mem_iff hn).2 (h.mem_iff.1 ((lk_mem_iff hl).1 e'))
      rw [e] at this; cases this
theorem perm_asc {l m : Vs} (h : l.Perm m) (hl : Asc l) (hm : Asc m) : l = m := asc_ext hl hm fun t => lk_perm h (asc_nod hm) t
/-- The variables of a term. -/
def vsT (t : Tm) : Vs := vput [] (varsT t)
theorem vsT_asc (t : Tm) : Asc (vsT t) := vput_asc _ [] (show Asc [] from trivial)
theorem vsT_lk (t : Tm) (s : ByteArray) : lk s (vsT t) = lk s (varsT t) := by unfold vsT; rw [vput_lk _ [] (show Asc [] from trivial)]; simp [lk]
end Go.Proofs.Ytkoaicjcanplaaa
namespace Go.Proofs.Ytkoaicjcanplaaa
open Go Go.Vc Go.RowKit
set_option linter.unusedVariables false

def eV : Rep VLab := Rep.flat vlc 3 vlc_len (fun _ => rfl) (by decide)
def vl0 (p : ByteArray × Int) : VLab := ⟨p.1, p.2, 0⟩
def vls (l : Vs) : List VLab := l.map vl0
theorem vls_len (l : Vs) : (vls l).length = l.length := by simp [vls]
theorem vls_app (l m : Vs) : vls (l ++ m) = vls l ++ vls m := by simp [vls]
theorem vls_take (l : Vs) (i : Nat) : vls (l.take i) = (vls l).take i := by simp [vls, List.map_take]
theorem vls_drop (l : Vs) (i : Nat) : vls (l.drop i) = (vls l).drop i := by simp [vls, List.map_drop]
theorem flat_at {ok ok' : Nat → Prop} {w : World} : ∀ {l : List VLab} {b o : Nat}, RAt eV ok w l b o → RAt eV ok' w l b o
  | [], _, _, _ => trivial
  | _ :: _, _, _, ⟨h, hl⟩ => ⟨h, flat_at hl⟩
theorem eV_at {ok : Nat → Prop} {w : World} {s : Value} {l : List VLab} (h : SlR eV ok w s l) {i : Nat} (hi : i < l.length) :
    ∃ b o c, s = .slice (some ⟨b, o, none⟩) l.length c ∧ ok b ∧ CellsAt w b (o + i * 3) (vlc (l[i]'hi)) := by
  obtain ⟨b, o, c, cs, h1, h2, h3, h4⟩ := h.at hi
  have h4 : cs = vlc _ := h4
  subst h4
  exact ⟨b, o, c, h1, h2, h3⟩

theorem sl_lo {α : Type} {E : Rep α} {ok : Nat → Prop} {w : World} {a : Option Addr} {cp n m : Nat} {l : List α} (h : SlR E ok w (.slice a n cp) l) {k : Nat} (hk : k ≤ l.length) :
    ∃ a' c', Value.slice (if cp = (0 : Int).toNat then a else a.map (·.add ((0 : Int).toNat * m))) ((k : Int).toNat - (0 : Int).toNat) (cp - (0 : Int).toNat) = .slice a' (l.take k).length c' ∧ ((l.take k).length = 0 ∨ ∃ b o, a' = some ⟨b, o, none⟩ ∧ RAt E ok w (l.take k) b o) := by
  have hlt : (l.take k).length = k := by rw [List.length_take]; omega
  have hz : (0 : Int).toNat = 0 := rfl
  refine ⟨_, _, by rw [hlt, Int.toNat_natCast, hz, Nat.sub_zero], ?_⟩
  by_cases h0 : k = 0
  · left; omega
  · right
    obtain ⟨a', c', he, h1, h2, h3⟩ := h
    cases he
    obtain ⟨b, o, rfl, _, hr⟩ := h3.resolve_left (by omega)
    refine ⟨b, o, ?_, hr.take⟩
    rw [if_neg (by omega), Nat.zero_mul]; rfl
theorem sl_hi {α : Type} {E : Rep α} {ok : Nat → Prop} {w : World} {a : Option Addr} {cp n m : Nat} {l : List α} (hm : E.m = m) (h : SlR E ok w (.slice a n cp) l) {k : Nat} (hk : k ≤ l.length) :
    ∃ a' c', Value.slice (if cp = (k : Int).toNat then a else a.map (·.add ((k : Int).toNat * m))) ((n : Int).toNat - (k : Int).toNat) (cp - (k : Int).toNat) = .slice a' (l.drop k).length c' ∧ ((l.drop k).length = 0 ∨ ∃ b o, a' = some ⟨b, o, none⟩ ∧ RAt E ok w (l.drop k) b o) := by
  obtain ⟨a', c', he, h1, h2, h3⟩ := h
  cases he
  have hld : (l.drop k).length = l.length - k := List.length_drop
  refine ⟨_, _, by rw [hld, Int.toNat_natCast, Int.toNat_natCast], ?_⟩
  by_cases h0 : l.length = k
  · left; omega
  · right
    obtain ⟨b, o, rfl, _, hr⟩ := h3.resolve_left (by omega)
    refine ⟨b, o + k * m, ?_, by rw [← hm]; exact hr.drop⟩
    rw [if_neg (by omega)]
    exact congrArg some (by unfold Addr.add; split <;> simp_all)

theorem arg_no {V : Value} {w : World} {l : List VLab} (h : ∃ a c, V = .slice a l.length c ∧ (l.length = 0 ∨ ∃ b o, a = some ⟨b, o, none⟩ ∧ RAt eV allB w l b o)) :
    ∃ a c, V = .slice a l.length c ∧ (l.length = 0 ∨ ∃ b o, a = some ⟨b, o, none⟩ ∧ RAt eV noB w l b o) := by
  obtain ⟨a, c, h1, h2⟩ := h
  exact ⟨a, c, h1, h2.imp id fun ⟨b, o, h3, h4⟩ => ⟨b, o, h3, flat_at h4⟩⟩

/-! an insertion -/
theorem insV_here {s : ByteArray} {w : Int} : ∀ (l : Vs) (i : Nat), (∀ j (h : j < l.length), j < i → less (l[j]'h).1 s = true) → (h : i < l.length) → (l[i]'h).1 = s → insV s w l = l ∧ lk s l = some (l[i]'h).2 := by
  intro l
  induction l with
  | nil => intro i _ h; exact absurd h (Nat.not_lt_zero _)
  | cons p l ih =>
    intro i hlt h he
    cases i with
    | zero =>
      have he : p.1 = s := he
      refine ⟨?_, by simp only [lk, if_pos he.symm]; rfl⟩
      unfold insV
      rw [if_neg (by rw [he, less_irr]; decide), if_pos he]
    | succ i =>
      have h0 : less p.1 s = true := hlt 0 (by simp) (by omega)
      have := ih i (fun j hj hji => hlt (j + 1) (by simp; omega) (by omega)) (by simpa using h) he
      unfold insV
      rw [if_pos h0, this.1]
      refine ⟨rfl, ?_⟩
      simp only [lk]
      rw [if_neg (fun e => less_ne h0 e.symm)]
      exact this.2
theorem insV_new {s : ByteArray} {w : Int} : ∀ (l : Vs) (i : Nat), Asc l → i ≤ l.length → (∀ j (h : j < l.length), j < i → less (l[j]'h).1 s = true) → (∀ h : i < l.length, less (l[i]'h).1 s = false ∧ (l[i]'h).1 ≠ s) → insV s w l = l.take i ++ [(s, w)] ++ l.drop i ∧ lk s l = none := by
  intro l
  induction l with
  | nil => intro i _ hi _ _; exact ⟨by simp [insV], rfl⟩
  | cons p l ih =>
    rintro i ⟨ha, hl⟩ hi hlt hat
    cases i with
    | zero =>
      have h0 := hat (by simp)
      have h1 : less p.1 s = false := h0.1
      have h2 : p.1 ≠ s := h0.2
      have h3 := less_tri h1 h2
      refine ⟨?_, lk_none.2 fun q hq => ?_⟩
      · unfold insV
        rw [if_neg (by rw [h1]; decide), if_neg h2]; rfl
      · rcases List.mem_cons.1 hq with rfl | hq
        · exact h2
        · exact fun e => less_ne (less_trans h3 (ha q hq)) e.symm
    | succ i =>
      have h0 : less p.1 s = true := hlt 0 (by simp) (by omega)
      have := ih i hl (by simpa using hi) (fun j hj hji => hlt (j + 1) (by simp; omega) (by omega)) (fun h => hat (by simp; omega))
      unfold insV
      rw [if_pos h0, this.1]
      refine ⟨by simp, ?_⟩
      simp only [lk]
      rw [if_neg (fun e => less_ne h0 e.symm)]
      exact this.2
/-- Names that come have the widths that a row says. -/
def consA : Vs → Vs → Prop
  | _, [] => True
  | acc, p :: ws => (∀ n, lk p.1 acc = some n → n = p.2) ∧ consA (insV p.1 p.2 acc) ws
theorem consA_app : ∀ (ws us acc : Vs), consA acc (ws ++ us) ↔ consA acc ws ∧ consA (vput acc ws) us := by
  intro ws us
  induction ws with
  | nil => intro acc; simp [consA, vput]
  | cons p ws ih => intro acc; simp only [List.cons_append, consA, ih, and_assoc]; rfl
theorem consA_B : ∀ (ws acc vs : Vs), Asc acc → (∀ s, lk s acc = lk s vs) → (consA acc ws ↔ consB vs ws) := by
  intro ws
  induction ws with
  | nil => intro _ _ _ _; exact Iff.rfl
  | cons p ws ih =>
    intro acc vs ha hl
    simp only [consA, consB]
    rw [hl]
    refine and_congr_right fun _ => ih _ _ (insV_asc ha) fun s => ?_
    rw [insV_lk ha, lk_app, hl]
    simp only [lk]
theorem consA_nil (ws : Vs) : consA [] ws ↔ Cons ws := (consA_B ws [] [] trivial fun _ => rfl).trans (consB_nil ws)
theorem insV_len (s : ByteArray) (w : Int) : ∀ l : Vs, (insV s w l).length ≤ l.length + 1 := by
  intro l
  induction l with
  | nil => simp [insV]
  | cons p l ih =>
    unfold insV
    split
    · simp only [List.length_cons]; omega
    split
    · omega
    · simp
theorem vput_len : ∀ (ws acc : Vs), (vput acc ws).length ≤ acc.length + ws.length := by
  intro ws
  induction ws with
  | nil => intro acc; exact Nat.le_refl _
  | cons p ws ih =>
    intro acc
    have h1 := ih (insV p.1 p.2 acc)
    have h2 := insV_len p.1 p.2 acc
    show (vput (insV p.1 p.2 acc) ws).length ≤ _
    simp only [List.length_cons]
    omega
theorem varsF_len : ∀ f : TF, (varsF f).length ≤ f.size := by
  intro f
  induction f with
  | nil => exact Nat.le_refl _
  | cons x k r ihk ihr =>
    simp only [varsF, Fo.size, List.length_append]
    split <;> simp <;> omega

/-! l02Vars -/
def VrR (acc ws : Vs) (W : World) (v : Value) (w' : World) : Prop := ∃ v1 b, v = .tuple #[v1, .bool b] ∧ Ext W w' ∧ (b = true ↔ consA acc ws) ∧ (b = true → SlR eV allB w' v1 (vls (vput acc ws)))
def VrS (f : TF) : Prop := ∀ (x : Lab) (s sl : Value) (acc : Vs) (W : World), TSl anyB W s f → OkT (x, f) → SlR eV allB W sl (vls acc) → Asc acc → acc.length + (f.size + 1) ≤ 1000000 →
  Ret Try.prog 67 #[tv x s, sl] W (VrR acc (varsT (x, f)) W)
set_option maxHeartbeats 4000000 in
/-- A variable. -/
theorem l02Vars_var (x : Lab) (s sl : Value) (acc : Vs) (W : World) (hs : TSl anyB W s .nil) (h22 : x.op = 22) (hl : SlR eV allB W sl (vls acc)) (ha : Asc acc) (hlen : acc.length < 1000000) :
    Ret Try.prog 67 #[tv x s, sl] W (VrR acc [(x.name, x.w)] W) := by
  have x1 : Ext W (W.alloc (.cells (tc x s).toArray 25)) := Ext.new _ _
  have hb := boxedAll W (tc x s) 25
  obtain ⟨a, c, rfl, hlc, hcm, hat⟩ := id hl
  rw [vls_len] at hlc hat hl ⊢
  have hlm : (maxLen : Int) ≤ 9223372036854775807 := by decide
  have hl0 : SlR eV allB W (.slice a (vls acc).length c) (vls acc) := by rw [vls_len]; exact hl
  have row : ∀ i (hi : i < acc.length), ∃ b o, a = some ⟨b, o, none⟩ ∧ CellsAt (W.alloc (.cells (tc x s).toArray 25)) b (o + i * 3) [.string (acc[i]'hi).1, .int .i64 (acc[i]'hi).2, .int .i64 0] := fun i hi => by
    obtain ⟨b, o, c', e, _, h⟩ := eV_at hl0 (i := i) (by rw [vls_len]; exact hi)
    cases e
    refine ⟨b, o, rfl, ?_⟩
    have : vlc ((vls acc)[i]'(by rw [vls_len]; exact hi)) = [.string (acc[i]'hi).1, .int .i64 (acc[i]'hi).2, .int .i64 0] := by simp [vls, vlc, vl0]
    rw [this] at h
    exact h.ext x1
  have hW1 : ∀ w, Ext (W.alloc (.cells (tc x s).toArray 25)) w → Ext W w := fun w h => x1.trans h
  refine ret_of_vc ties mixed Try.func67 rfl (by kernel_rfl) rfl rfl ?_
  refine ⟨_, hb.1, ?_⟩
  refine br_dec_true h22 ?_
  refine loop_rule (σ := Nat) [6] 15 31 (fun q => [.int .i64 q])
    (fun q w' => Ext (W.alloc (.cells (tc x s).toArray 25)) w' ∧ q ≤ acc.length ∧ ∀ j (h : j < acc.length), j < q → less (acc[j]'h).1 x.name = true)
    (fun q => acc.length - q) 0 rfl ⟨Ext.refl _, Nat.zero_le _, fun _ _ h => absurd h (Nat.not_lt_zero _)⟩ ?_
  rintro i w2 junk ⟨x2, hi, hall⟩ K hK
  show vc _ _ _ _ (over [6] [.int .i64 i] _) _
  have hb2 := hb.ext x2
  refine .inl ⟨by kernel_rfl, ?_⟩
  by_cases hlt : (i : Int) < acc.length
  case' pos =>
    have hlt' : i < acc.length := by omega
    obtain ⟨b, o, rfl, hrow⟩ := row i hlt'
    have ei : o + (i : Int).toNat * 3 = o + i * 3 := by omega
    repeat refine br_dec_true hlt ?_
    refine ⟨⟨by omega, by omega⟩, ?_⟩
    repeat refine br_dec_true hlt ?_
    refine ⟨_, by rw [ei]; exact x2.cell hrow.1, ?_⟩
    repeat refine br_dec_true hlt ?_
    refine ⟨_, hb2.2.2.2.1, ?_⟩
    repeat refine br_dec_true hlt ?_
    intro w3 x3
    refine br_split (fun hb => ?stp) (fun hb => ?ou2)
  case stp =>
    refine ⟨_, IntWalk.i64_in _ (by omega), ?_⟩
    refine hK (i + 1) _ _ (vs1 (vint (by show (i : Int) + 1 = ((i + 1 : Nat) : Int); omega))) ⟨x2.trans x3, by omega, fun j hj hji => ?_⟩ (by omega) ?_
    · by_cases e : j = i
      · subst e; exact hb
      · exact hall j hj (by omega)
    · ((repeat (first | (with_reducible exact Only.refl) | (with_reducible refine Only.skip ?_) | ((with_reducible refine Only.upd ?_ ?_); rfl) | ((with_reducible refine Only.over ?_ ?_ _); rfl) | ((with_reducible refine Only.hav ?_ ?_ ?_); rfl; rfl))))
  case' ou2 =>
    have hb3 := hb2.ext x3
    have hno : less (acc[i]'hlt').1 x.name = false := hb
    refine .inl ⟨by kernel_rfl, ?_⟩
    repeat refine br_dec_true hlt ?_
    refine ⟨⟨by omega, by omega⟩, ?_⟩
    repeat refine br_dec_true hlt ?_
    refine ⟨_, by rw [ei]; exact (x2.trans x3).cell hrow.1, ?_⟩
    repeat refine br_dec_true hlt ?_
    refine ⟨_, hb3.2.2.2.1, ?_⟩
    repeat refine br_dec_true hlt ?_
    intro w4 x4
    refine br_dec (fun he => ?eqq) (fun he => ?new)
  case eqq =>
    have hh := insV_here (w := x.w) acc i hall hlt' he
    refine .inl ⟨by kernel_rfl, ⟨by omega, by omega⟩, _, by rw [ei]; exact ((x2.trans x3).trans x4).cell hrow.2.1, _, (hb3.ext x4).2.1, ?_⟩
    intro w5 x5
    refine ⟨_, _, rfl, hW1 _ (((x2.trans x3).trans x4).trans x5), ?_, fun hd => ?_⟩
    · simp only [consA, hh.2, Option.some.injEq, and_true, decide_eq_true_eq, forall_eq']
    · show SlR eV allB w5 _ (vls (insV x.name x.w acc))
      rw [hh.1]
      exact hl.ext (hW1 _ (((x2.trans x3).trans x4).trans x5))
  case' neg =>
    repeat refine br_dec_false hlt ?_
    intro w3 x3
    have hb3 := hb2.ext x3
    refine .inl ⟨by kernel_rfl, ?_⟩
    repeat refine br_dec_false hlt ?_
    intro w4 x4
    have hnew : ∀ h : i < acc.length, less (acc[i]'h).1 x.name = false ∧ (acc[i]'h).1 ≠ x.name := fun h => absurd (Int.ofNat_lt.2 h) hlt
  case' new =>
    have hnew : ∀ h : i < acc.length, less (acc[i]'h).1 x.name = false ∧ (acc[i]'h).1 ≠ x.name := fun h => ⟨hno, he⟩
  all_goals
    have hin := insV_new (w := x.w) acc i ha hi hall hnew
    have x24 := (x2.trans x3).trans x4
    have x04 := hW1 _ x24
    have hb4 := hb3.ext x4
    have hl4 := hl.ext x04
    have hvl := vls_len acc
    have hlt0 : (vls acc).length < 1000000 := by omega
    have htk : ((vls acc).take i).length ≤ (vls acc).length := by rw [List.length_take]; omega
    have hdr : ((vls acc).drop i).length ≤ (vls acc).length := by rw [List.length_drop]; omega
    have hil : i ≤ (vls acc).length := by omega
    clear hat hall row hnew
    refine ⟨⟨by decide, by omega, by omega⟩, ?_⟩
    refine raw_append (E := eV) (ok := noB) (l := []) (k := (vls acc).take i) ties rfl rfl rfl rfl rfl rfl rfl rfl rfl rfl (OwnR.nil _ _ _ _) noB_blk (arg_no (sl_lo (m := 3) (hl4.ext (Ext.new _ _)) hil)) (by show (0 + _) * 32 ≤ _; omega) (by show 0 + _ ≤ _; omega) ?_
    intro v5 w5 hv5 ch5 bl5
    have hv5b : ∀ b, blk v5 b → w4.heap.size ≤ b := fun b hb => by
      rcases bl5 b hb with e | e
      · exact Nat.le_of_eq e
      · exact Nat.le_trans (by simp) e.1
    have x45 : Ext w4 w5 := (Ext.new w4 (.cells #[] 74)).chg ch5 (fun b hb => Nat.le_of_eq hb)
    clear bl5 ch5
    have hb5 := hb4.ext x45
    refine ⟨_, hb5.2.2.2.1, _, hb5.2.1, ?_⟩
    refine raw_push (E := eV) (ok := noB) (x := vl0 (x.name, x.w)) (cs := vlc (vl0 (x.name, x.w))) ties rfl rfl rfl rfl rfl rfl rfl rfl rfl rfl rfl hv5 rfl noB_blk (by rw [List.nil_append]; show (_ + 1) * 32 ≤ _; omega) (by rw [List.nil_append]; omega) ?_
    intro v6 w6 hv6 ch6 sz6 bl6
    have hv6b : ∀ b, blk v6 b → w4.heap.size ≤ b := fun b hb => by
      rcases bl6 b hb with e | e
      · exact hv5b b e
      · have := x45.size; omega
    have x46 : Ext w4 w6 := x45.chg ch6 hv5b
    clear bl6 ch6 sz6
    have hl6 := hl4.ext x46
    refine ⟨⟨by omega, by omega, by omega⟩, ?_⟩
    refine raw_append (E := eV) (ok := noB) (l := [] ++ (vls acc).take i ++ [vl0 (x.name, x.w)]) (k := (vls acc).drop i) ties rfl rfl rfl rfl rfl rfl rfl rfl rfl rfl hv6 noB_blk (arg_no (sl_hi (m := 3) rfl hl6 hil)) (by rw [List.length_append, List.nil_append, List.length_singleton]; show (_ + 1 + _) * 32 ≤ _; omega) (by rw [List.length_append, List.nil_append, List.length_singleton]; omega) ?_
    intro v7 w7 hv7 ch7 bl7
    have x47 : Ext w4 w7 := x46.chg ch7 hv6b
    refine ⟨_, _, rfl, x04.trans x47, ?_, fun _ => ?_⟩
    · refine ⟨fun _ => ⟨fun n hn => ?_, trivial⟩, fun _ => rfl⟩
      rw [hin.2] at hn; cases hn
    · show SlR eV allB w7 v7 (vls (insV x.name x.w acc))
      rw [hin.1, vls_app, vls_app, vls_take, vls_drop]
      exact hv7.sl (fun _ _ => trivial) (fun _ _ => trivial)

set_option maxHeartbeats 4000000 in
theorem l02Vars_all : ∀ (n : Nat) (f : TF), f.size < n → VrS f := by
  intro n
  induction n with
  | zero => intro f hf; omega
  | succ n ih =>
    intro f hf x s sl acc W hs hok hl ha hlen
    by_cases h22 : x.op = 22
    · have := ok_nil hok (.inr h22)
      subst this
      have := l02Vars_var x s sl acc W hs h22 hl ha (by simp [Fo.size] at hlen; omega)
      rwa [varsT_eq, if_pos h22]
    have hvT : varsT (x, f) = varsF f := by rw [varsT_eq, if_neg h22]; rfl
    rw [hvT]
    obtain ⟨a, c, rfl, hlc, hat⟩ := id hs
    have hlm : (maxLen : Int) ≤ 9223372036854775807 := by decide
    have x1 : Ext W (W.alloc (.cells (tc x (.slice a f.len c)).toArray 25)) := Ext.new _ _
    have hb := boxedAll W (tc x (.slice a f.len c)) 25
    have hOkF : OkF f := hok.2
    refine ret_of_vc ties mixed Try.func67 rfl (by kernel_rfl) rfl rfl ?_
    refine ⟨_, hb.1, ?_⟩
    refine br_dec_false h22 ?_
    refine ⟨_, hb.2.2.2.2.1, ?_⟩
    refine loop_rule (σ := Nat × TF × TF × Value × Value × Value × Value) [75, 1, 9, 10, 11] 76 89 (fun q => [.int .i64 q.1, q.2.2.2.1, q.2.2.2.2.1, q.2.2.2.2.2.1, q.2.2.2.2.2.2])
      (fun q w' => Ext W w' ∧ q.1 + q.2.2.1.len = f.len ∧ q.2.1.app q.2.2.1 = f ∧ q.2.2.1.size ≤ f.size ∧ OkF q.2.2.1 ∧ consA acc (varsF q.2.1) ∧ SlR eV allB w' q.2.2.2.1 (vls (vput acc (varsF q.2.1))) ∧ (q.2.2.1.len = 0 ∨ ∃ b o, a = some ⟨b, o, none⟩ ∧ TAt anyB W q.2.2.1 b (o + q.1 * 5)))
      (fun q => q.2.2.1.len) (0, .nil, f, sl, undef, undef, undef) rfl ⟨x1, by simp, rfl, Nat.le_refl _, hOkF, trivial, hl.ext x1, ?_⟩ ?_
    · rcases hat with hat | ⟨b, o, ha, _, hat⟩
      · exact .inl hat
      · exact .inr ⟨b, o, ha, by simpa using hat⟩
    rintro ⟨i, d, g, sl', j9, j10, j11⟩ w junk ⟨hx, hi, happ, hg, hokg, hcd, hsl, hga⟩ K hK
    simp only at hi happ hg hokg hcd hsl hga
    show vc _ _ _ _ (over [75, 1, 9, 10, 11] [.int .i64 i, sl', j9, j10, j11] _) _
    refine br_dec (fun h => ?_) (fun h => ?_)
    · match g with
      | .nil => simp only [Fo.len] at hi; omega
      | .cons x' kk r =>
        obtain ⟨b, o, rfl, hga'⟩ := hga.resolve_left (by simp [Fo.len])
        obtain ⟨⟨s', hc, hs'⟩, hr⟩ := hga'.sl
        have hsz : d.size + (kk.size + r.size + 1) = f.size := by rw [← happ, Fo.size_app]; rfl
        have hvl := vput_len (varsF d) acc
        have hvd := varsF_len d
        simp only [Fo.len] at hi
        have ei : o + (i : Int).toNat * 5 = o + i * 5 := by omega
        obtain ⟨f4, c4, x4⟩ := keep5 (W := w) (x := x') (s := s') (tc_one hs')
        refine ⟨⟨by omega, by omega⟩, tc x' s', rfl, by rw [ei]; exact hc.ext hx, f4, tc x' s', rfl, c4, ?_⟩
        have x04 := hx.trans x4
        refine Or.inl ((ih kk (by omega) x' s' sl' _ _ (hs'.ext x04) hokg.1 (hsl.ext x4) (vput_asc _ _ ha) (by omega)).mono ?_)
        rintro _ w5 ⟨v1, bb, rfl, x5, hiff, hv⟩
        have hsplit : consA acc (varsF f) ↔ consA acc (varsF (d.app (.cons x' kk .nil))) ∧ consA (vput acc (varsF (d.app (.cons x' kk .nil)))) (varsF r) := by
          rw [← consA_app, ← varsF_app, Fo.app_assoc]
          show _ ↔ consA acc (varsF (d.app (.cons x' kk r)))
          rw [happ]
        have hone : consA acc (varsF (d.app (.cons x' kk .nil))) ↔ consA (vput acc (varsF d)) (varsT (x', kk)) := by
          rw [varsF_app, consA_app]
          exact ⟨fun h => h.2, fun h => ⟨hcd, h⟩⟩
        refine br_not (fun h' => ?_) (fun h' => ?_)
        · refine ⟨_, _, rfl, x04.trans x5, ?_, fun e => by cases e⟩
          refine ⟨fun e => (by cases e), fun e => ?_⟩
          have := hiff.2 (hone.1 (hsplit.1 e).1)
          rw [h'] at this; cases this
        · refine ⟨_, IntWalk.i64_in _ (by omega), ?_⟩
          refine hK (i + 1, d.app (.cons x' kk .nil), r, v1, _, _, _) _ _ (by rw [show ((i : Int) + 1) = ((i + 1 : Nat) : Int) from by omega]; rfl) ⟨x04.trans x5, by show i + 1 + r.len = f.len; omega, by show (d.app (.cons x' kk .nil)).app r = f; rw [Fo.app_assoc]; exact happ, by show r.size ≤ f.size; omega, hokg.2, hone.2 (hiff.1 h'), ?_, .inr ⟨b, o, rfl, ?_⟩⟩ (by show r.len < r.len + 1; omega) ?_
          · show SlR eV allB w5 v1 (vls (vput acc (varsF (d.app (.cons x' kk .nil)))))
            rw [varsF_app, vput_app]
            exact hv h'
          · show TAt _ W r b (o + (i + 1) * 5)
            rw [show o + (i + 1) * 5 = o + i * 5 + 5 from by omega]
            exact hr
          · ((repeat (first | (with_reducible exact Only.refl) | (with_reducible refine Only.skip ?_) | ((with_reducible refine Only.upd ?_ ?_); rfl) | ((with_reducible refine Only.over ?_ ?_ _); rfl) | ((with_reducible refine Only.hav ?_ ?_ ?_); rfl; rfl))))
    · have := Fo.len_zero (f := g) (by omega)
      subst this
      rw [Fo.app_nil] at happ
      subst happ
      exact ⟨_, _, rfl, hx, ⟨fun _ => hcd, fun _ => rfl⟩, fun _ => hsl⟩
theorem l02Vars_ret (x : Lab) (f : TF) (s sl : Value) (acc : Vs) (W : World) (hs : TSl anyB W s f) (hok : OkT (x, f)) (hl : SlR eV allB W sl (vls acc)) (ha : Asc acc) (hlen : acc.length + (f.size + 1) ≤ 1000000) : Ret Try.prog 67 #[tv x s, sl] W (VrR acc (varsT (x, f)) W) := l02Vars_all _ f (Nat.lt_succ_self _) x s sl acc W hs hok hl ha hlen
theorem nilV (W : World) : SlR eV allB W (.slice none 0 0) [] := ⟨none, 0, rfl, Nat.le_refl _, Nat.zero_le _, .inl rfl⟩
theorem TOk_iff (x : Lab) (k : TF) : TOk x k ↔ k.size + 1 ≤ 240 ∧ (NodeOk x (hdF k) ∧ OkF k) ∧ Cons (varsT (x, k)) := by
  unfold TOk
  rw [OkF_one]; rfl
set_option maxHeartbeats 4000000 in
theorem spec_TermOk (x : Lab) (k : TF) (s : Value) (W : World) (hs : TSl anyB W s k) (hx : okL x) (hp : k.All okL) : Ret Try.prog 18 #[tv x s] W (fun v w' => v = .bool (decide (TOk x k)) ∧ Ext W w') := by
  have hb := boxedAll W (tc x s) 25
  have x1 : Ext W (W.alloc (.cells (tc x s).toArray 25)) := Ext.new _ _
  have r2 := Rmy.new (W.alloc (.cells (tc x s).toArray 25)) [.int .i64 0] 3
  have x2 : Ext (W.alloc (.cells (tc x s).toArray 25)) ((W.alloc (.cells (tc x s).toArray 25)).alloc (.cells [.int .i64 0].toArray 3)) := Ext.new _ _
  have ch3 : Chg (fun i => i = (W.alloc (.cells (tc x s).toArray 25)).heap.size) ((W.alloc (.cells (tc x s).toArray 25)).alloc (.cells [.int .i64 0].toArray 3)) (((W.alloc (.cells (tc x s).toArray 25)).alloc (.cells [.int .i64 0].toArray 3)).setCell ⟨(W.alloc (.cells (tc x s).toArray 25)).heap.size, 0, none⟩ (.int .i64 240)) := Chg.setCell (S := fun i => i = (W.alloc (.cells (tc x s).toArray 25)).heap.size) (p := ⟨_, 0, none⟩) _ rfl _
  have hsz : W.heap.size < (W.alloc (.cells (tc x s).toArray 25)).heap.size := by simp
  have x13 := (x1.trans x2).chg ch3 (fun i hi => by rw [hi]; omega)
  have hb3 := ch3.cells (S := fun i => i = (W.alloc (.cells (tc x s).toArray 25)).heap.size) (by omega) (hb.ext x2)
  have hc3 := World.cell?_setCell_same ((W.alloc (.cells (tc x s).toArray 25)).alloc (.cells [.int .i64 0].toArray 3)) ⟨(W.alloc (.cells (tc x s).toArray 25)).heap.size, 0, none⟩ (.int .i64 240) (boxed _ _ _ _ _ rfl)
  have hs3 : TSl (fun b => b ≠ (W.alloc (.cells (tc x s).toArray 25)).heap.size) (((W.alloc (.cells (tc x s).toArray 25)).alloc (.cells [.int .i64 0].toArray 3)).setCell ⟨(W.alloc (.cells (tc x s).toArray 25)).heap.size, 0, none⟩ (.int .i64 240)) s k := (hs.lt.mono fun b hb => by omega).ext x13
  refine ret_of_vc ties mixed Try.func18 rfl (by kernel_rfl) rfl rfl ?_
  refine ⟨r2 0 (by decide), ?_⟩
  refine ⟨tc x s, rfl, hb3, ?_⟩
  refine Or.inl ((few_all _ k (Nat.lt_succ_self _) x s _ 240 _ hs3 r2.setCell hc3 (by decide) (by decide)).mono ?_)
  rintro _ w4 ⟨l', rfl, hc4, hr4, ch4, hres⟩
  have x04 := x13.chg ch4 (fun i hi => by rw [hi]; omega)
  have hb4 := ch4.cells (S := fun i => i = (W.alloc (.cells (tc x s).toArray 25)).heap.size) (by omega) hb3
  refine br_not (fun h => ?_) (fun h => ?_)
  · have h := of_decide_eq_false h
    exact ⟨vbool (decide_eq_false (fun ht => by have := (TOk_iff _ _).1 ht; omega)).symm, x04⟩
  have h := of_decide_eq_true h
  have hsize : k.size + 1 ≤ 240 := by omega
  refine ⟨tc x s, rfl, hb4, ?_⟩
  refine Or.inl ((l02Node_all _ k (Nat.lt_succ_self _) x s _ (hs.ext x04) hx hp).mono ?_)
  rintro _ w5 ⟨rfl, x5⟩
  refine br_not (fun hn => ?_) (fun hn => ?_)
  · exact ⟨vbool (decide_eq_false (fun ht => of_decide_eq_false hn ((TOk_iff _ _).1 ht).2.1)).symm, x04.trans x5⟩
  have hn := of_decide_eq_true hn
  have x05 := x04.trans x5
  refine ⟨tc x s, rfl, hb4.ext x5, ?_⟩
  refine Or.inl ((l02Vars_ret x k s (.slice none 0 0) [] _ (hs.ext x05) hn (nilV _) trivial (by simp only [List.length_nil]; omega)).mono ?_)
  rintro _ w6 ⟨v1, b, rfl, x6, hiff, _⟩
  refine ⟨vbool (beq_of_iff ?_), x05.trans x6⟩
  rw [hiff, consA_nil, decide_eq_true_iff, TOk_iff]
  exact ⟨fun h => ⟨hsize, hn, h⟩, fun h => h.2.2⟩
end Go.Proofs.Ytkoaicjcanplaaa
