/- TermOk of the program: contracts of the check of a variable and of a node. -/
import Derived.Test.YtkoaicjcanplaaaQk
namespace Go.Proofs.Ytkoaicjcanplaaa
open Go Go.Vc Go.RowKit
set_option linter.unusedVariables false

def iv (n : Int) : Value := .int .i64 n
/-- The widths that a check has met. -/
def MvS (n0 B : Nat) (w : World) (mv : Value) (vs : Vs) : Prop :=
  (mv = .map none ∧ vs = []) ∨ ∃ m al, mv = .map (some m) ∧ m ≠ B ∧ n0 ≤ m ∧ MapAt w m al ∧ ∀ s, al.get s = (lk s vs).map iv
structure CkS (n0 B cnt : Nat) (vs : Vs) (w : World) : Prop where
  lo : n0 ≤ B
  rm : Rmy w B 2
  st : ∃ mv, CellsAt w B 0 [.int .i64 cnt, mv] ∧ MvS n0 B w mv vs
theorem MvS.ext {n0 B : Nat} {w w' : World} {mv : Value} {vs : Vs} (h : MvS n0 B w mv vs) (x : Ext w w') : MvS n0 B w' mv vs :=
  h.imp id fun ⟨m, al, h1, h2, h3, h4, h5⟩ => ⟨m, al, h1, h2, h3, h4.ext x, h5⟩
theorem CkS.ext {n0 B cnt : Nat} {w w' : World} {vs : Vs} (h : CkS n0 B cnt vs w) (x : Ext w w') : CkS n0 B cnt vs w' :=
  ⟨h.lo, h.rm.ext x, h.st.imp fun mv ⟨h1, h2⟩ => ⟨h1.ext x, h2.ext x⟩⟩
theorem Al.get_put {s t : ByteArray} {v : Value} : ∀ {l : Al}, (l.put s v).get t = if t = s then some v else l.get t := by
  intro l
  induction l with
  | nil => simp only [Al.put, Al.get]
  | cons p l ih =>
    simp only [Al.put]
    split
    · rename_i h
      simp only [Al.get]
      by_cases ht : t = s
      · rw [if_pos ht, if_pos ht]
      · rw [if_neg ht, if_neg ht, if_neg (by rw [← h]; exact ht)]
    · rename_i h
      simp only [Al.get, ih]
      by_cases ht : t = p.1
      · rw [if_pos ht, if_pos ht, if_neg (by rw [ht]; exact fun e => h e.symm)]
      · rw [if_neg ht, if_neg ht]
theorem lk_snoc {s t : ByteArray} {n : Int} {vs : Vs} (h : lk s vs = none) : (lk t (vs ++ [(s, n)])).map iv = if t = s then some (iv n) else (lk t vs).map iv := by
  rw [lk_app]
  by_cases ht : t = s
  · subst ht
    rw [h, if_pos rfl]
    simp [lk]
  · rw [if_neg ht]
    simp only [lk, if_neg ht, Option.or_none]
theorem lk_again {s t : ByteArray} {n : Int} {vs : Vs} (h : lk s vs = some n) : lk t (vs ++ [(s, n)]) = lk t vs := by
  rw [lk_app]
  by_cases ht : t = s
  · subst ht; rw [h]; rfl
  · simp only [lk, if_neg ht, Option.or_none]

/-- Nothing has changed but the check's own block and maps from n0 on. -/
def Cm (n0 B : Nat) (W w : World) : Prop := Chg (fun i => n0 ≤ i ∧ (i = B ∨ ∃ es c, W.heap[i]? = some (.map es c))) W w
section
variable {n0 B : Nat} {W w w' : World}
theorem Cm.of (h : Ext W w) : Cm n0 B W w := Chg.of h
theorem Cm.refl (W : World) : Cm n0 B W W := Chg.refl _ _
theorem Cm.own (h : Chg (fun i => i = B) W w) (hB : n0 ≤ B) : Cm n0 B W w := h.mono fun i _ e => ⟨by omega, .inl e⟩
theorem Cm.map {m : Nat} {l : Al} (h : Chg (fun i => i = m) W w) (hm : MapAt W m l) (h0 : n0 ≤ m) : Cm n0 B W w := h.mono fun i _ e => by
  obtain ⟨es, c, h1, _⟩ := hm
  subst e
  exact ⟨h0, .inr ⟨es, c, h1⟩⟩
theorem Cm.trans (h : Cm n0 B W w) (k : Cm n0 B w w') : Cm n0 B W w' := by
  have h' : Chg (fun i => (n0 ≤ i ∧ (i = B ∨ ∃ es c, W.heap[i]? = some (.map es c))) ∨ W.heap.size ≤ i) W w := Chg.mono h fun i _ e => .inl e
  have k' : Chg (fun i => (n0 ≤ i ∧ (i = B ∨ ∃ es c, W.heap[i]? = some (.map es c))) ∨ W.heap.size ≤ i) w w' := by
    refine Chg.mono k fun i hi e => ?_
    by_cases hW : W.heap.size ≤ i
    · exact .inr hW
    · by_cases hS : n0 ≤ i ∧ (i = B ∨ ∃ es c, W.heap[i]? = some (.map es c))
      · exact .inl hS
      · obtain ⟨e0, e1⟩ := e
        refine .inl ⟨e0, e1.imp id fun ⟨es, c, h1⟩ => ⟨es, c, ?_⟩⟩
        rw [← Chg.block h i (by omega) hS]; exact h1
  exact (h'.trans k').mono fun i hi e => e.resolve_right (by omega)
theorem Cm.sl {s : Value} {k : TF} (h : Cm n0 B W w) (hs : TSl (fun b => b < n0) W s k) : TSl (fun b => b < n0) w s k := Fo.Sl.chg (fun b hb e => by omega) h hs
theorem Cm.cells {b o : Nat} {v : Value} {vs : List Value} (h : Cm n0 B W w) (hb : b ≠ B) (hc : CellsAt W b o (v :: vs)) : CellsAt w b o (v :: vs) := by
  refine Chg.cells h (fun e => ?_) hc
  rcases e.2 with e | ⟨es, c, e⟩
  · exact hb e
  · have h1 : W.cell? ⟨b, o, none⟩ = some v := hc.1
    unfold World.cell? at h1
    simp only [e] at h1
    cases h1
theorem Cm.size (h : Cm n0 B W w) : W.heap.size ≤ w.heap.size := Chg.size h
end
/-- What a check comes to: true just if it is Good, and then the state goes on. -/
def CkR (n0 B cnt : Nat) (vs : Vs) (W : World) (p : Prop) (v : Value) (w' : World) : Prop := ∃ b, v = .bool b ∧ Cm n0 B W w' ∧ (b = true ↔ p) ∧ (b = true → CkS n0 B cnt vs w')
theorem CkR.no {n0 B cnt : Nat} {vs : Vs} {W w' : World} {p : Prop} (h : Cm n0 B W w') (hp : ¬ p) : CkR n0 B cnt vs W p (.bool false) w' := ⟨false, rfl, h, by simp [hp], fun h => by cases h⟩
theorem CkR.yes {n0 B cnt : Nat} {vs : Vs} {W w' : World} {p : Prop} (h : Cm n0 B W w') (hp : p) (hs : CkS n0 B cnt vs w') : CkR n0 B cnt vs W p (.bool true) w' := ⟨true, rfl, h, by simp [hp], fun _ => hs⟩
set_option maxHeartbeats 4000000 in
theorem variable_ret (n0 B cnt : Nat) (vs : Vs) (x : Lab) (s : Value) (W : World) (hS : CkS n0 B cnt vs W) (hx : x.name.size ≤ 9223372036854775807) :
    Ret Try.prog 126 #[.pointer (some ⟨B, 0, none⟩), tv x s] W (CkR n0 B cnt (vs ++ [(x.name, x.w)]) W (isNm x.name = true ∧ ∀ n, lk x.name vs = some n → n = x.w)) := by
  obtain ⟨hlo, hrm, mv, hcell, hmv⟩ := hS
  have hBW : B < W.heap.size := World.block_lt_of_cell? _ _ hcell.1
  have x1 : Ext W (W.alloc (.cells (tc x s).toArray 25)) := Ext.new _ _
  have hb := boxedAll W (tc x s) 25
  have ch1 : Cm n0 B W (W.alloc (.cells (tc x s).toArray 25)) := .of x1
  rcases hmv with ⟨rfl, rfl⟩ | ⟨m, al, rfl, hmB, hm0, hma, hal⟩
  · -- no map yet
    refine ret_of_vc ties mixed Try.func126 rfl (by kernel_rfl) rfl rfl ?_
    refine ⟨_, hb.2.2.2.1, ?_⟩
    refine Or.inl ((impl_IsName _ hx _).mono ?_)
    rintro _ _ ⟨rfl, rfl⟩
    refine br_not (fun h => ?_) (fun h => ?_)
    · exact CkR.no ch1 (by rw [h]; simp)
    refine ⟨_, x1.cell hcell.2.1, ?_⟩
    have hrm1 := hrm.ext x1
    have x2 : Ext (W.alloc (.cells (tc x s).toArray 25)) ((W.alloc (.cells (tc x s).toArray 25)).alloc (.map #[] 0)) := Ext.new _ _
    refine ⟨(hrm1.ext x2) 1 (by decide), ?_⟩
    have hm2 : MapAt ((W.alloc (.cells (tc x s).toArray 25)).alloc (.map #[] 0)) (W.alloc (.cells (tc x s).toArray 25)).heap.size [] := MapAt.new _
    have hsz := x1.size
    have hch3 : Chg (fun i => i = B) ((W.alloc (.cells (tc x s).toArray 25)).alloc (.map #[] 0)) (((W.alloc (.cells (tc x s).toArray 25)).alloc (.map #[] 0)).setCell ⟨B, 1, none⟩ (.map (some (W.alloc (.cells (tc x s).toArray 25)).heap.size))) := Chg.setCell (S := fun i => i = B) (p := ⟨B, 1, none⟩) _ rfl _
    have hm3 := hm2.chg (S := fun i => i = B) (by omega) hch3
    have hc3 := World.cell?_setCell_same ((W.alloc (.cells (tc x s).toArray 25)).alloc (.map #[] 0)) ⟨B, 1, none⟩ (.map (some (W.alloc (.cells (tc x s).toArray 25)).heap.size)) (x2.cell (x1.cell hcell.2.1))
    have hc30 := (World.cell?_setCell_other ((W.alloc (.cells (tc x s).toArray 25)).alloc (.map #[] 0)) ⟨B, 1, none⟩ ⟨B, 0, none⟩ (.map (some (W.alloc (.cells (tc x s).toArray 25)).heap.size)) (by simp)).trans (x2.cell (x1.cell hcell.1))
    have hb3 := hch3.cells (S := fun i => i = B) (b := W.heap.size) (by omega) (hb.ext x2)
    have hr3 : Rmy (((W.alloc (.cells (tc x s).toArray 25)).alloc (.map #[] 0)).setCell ⟨B, 1, none⟩ (.map (some (W.alloc (.cells (tc x s).toArray 25)).heap.size))) B 2 := (hrm1.ext x2).setCell
    have ch3 : Cm n0 B W (((W.alloc (.cells (tc x s).toArray 25)).alloc (.map #[] 0)).setCell ⟨B, 1, none⟩ (.map (some (W.alloc (.cells (tc x s).toArray 25)).heap.size))) := (ch1.trans (.of x2)).trans (Cm.own hch3 hlo)
    refine .inl ⟨by kernel_rfl, _, hc3, _, hb3.2.2.2.1, .tuple #[.int .i64 0, .bool false], fun w' hw' => exec_look ties rfl rfl rfl rfl (by kernel_rfl) rfl rfl rfl (hm3.ext hw') rfl, ?_⟩
    intro w4 hw4
    refine .inr (.inr (hyb_rule ties mixed [(0, .quiet), (1, .quiet), (2, .quiet), (3, .quiet), (4, .quiet), (5, .quiet), (6, .quiet), (7, .quiet), (8, .wild)] (by kernel_rfl) ?_))
    refine ⟨_, hw4.cell hc3, _, hw4.cell hb3.2.2.2.1, _, hw4.cell hb3.2.1, ?_⟩
    intro w5 hw5
    refine raw_update ties (.inl rfl) rfl rfl rfl (by kernel_rfl) rfl rfl (hm3.ext (hw4.trans hw5)) (fun w6 hc6 hs6 hm6 => ?_)
    intro w7 hw7
    have x35 := hw4.trans hw5
    have hBlt : B < (((W.alloc (.cells (tc x s).toArray 25)).alloc (.map #[] 0)).setCell ⟨B, 1, none⟩ (.map (some (W.alloc (.cells (tc x s).toArray 25)).heap.size))).heap.size := World.block_lt_of_cell? _ _ hc3
    refine CkR.yes ((ch3.trans (.of x35)).trans ((Cm.map hc6 (hm3.ext x35) (by omega)).trans (.of hw7))) ⟨h, fun n hn => by simp [lk] at hn⟩ ⟨hlo, (hc6.rmy (by omega) (hr3.ext x35)).ext hw7, .map (some (W.alloc (.cells (tc x s).toArray 25)).heap.size), ⟨hw7.cell (hc6.cell (a := ⟨B, 0, none⟩) (by simp only; omega) (x35.cell hc30)), hw7.cell (hc6.cell (a := ⟨B, 1, none⟩) (by simp only; omega) (x35.cell hc3)), trivial⟩, .inr ⟨_, _, rfl, by omega, by omega, hm6.ext hw7, fun t => ?_⟩⟩
    rw [Al.get_put, lk_snoc rfl]; rfl
  · have hmW : m < W.heap.size := hma.lt
    cases hlk : lk x.name vs with
    | none =>
      have hget : al.get x.name = none := by rw [hal, hlk]; rfl
      refine ret_of_vc ties mixed Try.func126 rfl (by kernel_rfl) rfl rfl ?_
      refine ⟨_, hb.2.2.2.1, ?_⟩
      refine Or.inl ((impl_IsName _ hx _).mono ?_)
      rintro _ _ ⟨rfl, rfl⟩
      refine br_not (fun h => ?_) (fun h => ?_)
      · exact CkR.no ch1 (by rw [h]; simp)
      refine ⟨_, x1.cell hcell.2.1, ?_⟩
      refine .inl ⟨by kernel_rfl, _, x1.cell hcell.2.1, _, hb.2.2.2.1, .tuple #[.int .i64 0, .bool false], fun w' hw' => exec_look ties rfl rfl rfl rfl (by kernel_rfl) rfl rfl rfl (hma.ext (x1.trans hw')) (by rw [hget]; rfl), ?_⟩
      intro w4 hw4
      refine .inr (.inr (hyb_rule ties mixed [(0, .quiet), (1, .quiet), (2, .quiet), (3, .quiet), (4, .quiet), (5, .quiet), (6, .quiet), (7, .quiet), (8, .wild)] (by kernel_rfl) ?_))
      refine ⟨_, hw4.cell (x1.cell hcell.2.1), _, hw4.cell hb.2.2.2.1, _, hw4.cell hb.2.1, ?_⟩
      intro w5 hw5
      have x15 := (x1.trans hw4).trans hw5
      refine raw_update ties (.inl rfl) rfl rfl rfl (by kernel_rfl) rfl rfl (hma.ext x15) (fun w6 hc6 hs6 hm6 => ?_)
      intro w7 hw7
      refine CkR.yes ((Cm.of x15).trans ((Cm.map hc6 (hma.ext x15) hm0).trans (.of hw7))) ⟨h, fun n hn => by cases hn⟩ ⟨hlo, (hc6.rmy (by omega) (hrm.ext x15)).ext hw7, .map (some m), ⟨hw7.cell (hc6.cell (a := ⟨B, 0, none⟩) (by simp only; omega) (x15.cell hcell.1)), hw7.cell (hc6.cell (a := ⟨B, 1, none⟩) (by simp only; omega) (x15.cell hcell.2.1)), trivial⟩, .inr ⟨_, _, rfl, hmB, hm0, hm6.ext hw7, fun t => ?_⟩⟩
      rw [Al.get_put, lk_snoc hlk, hal]; rfl
    | some n =>
      have hget : al.get x.name = some (.int .i64 n) := by rw [hal, hlk]; rfl
      refine ret_of_vc ties mixed Try.func126 rfl (by kernel_rfl) rfl rfl ?_
      refine ⟨_, hb.2.2.2.1, ?_⟩
      refine Or.inl ((impl_IsName _ hx _).mono ?_)
      rintro _ _ ⟨rfl, rfl⟩
      refine br_not (fun h => ?_) (fun h => ?_)
      · exact CkR.no ch1 (by rw [h]; simp)
      refine ⟨_, x1.cell hcell.2.1, ?_⟩
      refine .inl ⟨by kernel_rfl, _, x1.cell hcell.2.1, _, hb.2.2.2.1, .tuple #[.int .i64 n, .bool true], fun w' hw' => exec_look ties rfl rfl rfl rfl (by kernel_rfl) rfl rfl rfl (hma.ext (x1.trans hw')) (by rw [hget]; rfl), ?_⟩
      intro w4 hw4
      refine ⟨_, hw4.cell hb.2.1, ?_⟩
      have x14 := x1.trans hw4
      refine ⟨decide (n = x.w), rfl, .of x14, ?_, fun h' => ?_⟩
      · rw [decide_eq_true_iff]
        exact ⟨fun e => ⟨h, fun n' hn => by cases hn; exact e⟩, fun e => e.2 n rfl⟩
      · have e := of_decide_eq_true h'
        subst e
        exact ⟨hlo, hrm.ext x14, .map (some m), hcell.ext x14, .inr ⟨_, _, rfl, hmB, hm0, hma.ext x14, fun t => by rw [lk_again hlk]; exact hal t⟩⟩
end Go.Proofs.Ytkoaicjcanplaaa
