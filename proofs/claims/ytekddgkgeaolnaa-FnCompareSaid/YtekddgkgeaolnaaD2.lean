/- Draws: l02Draw, GiveTerm: a valid term in new memory, whose variables tell their widths. -/
import Derived.Test.YtekddgkgeaolnaaD1
import Derived.Test.YtekddgkgeaolnaaVk
namespace Go.Proofs.Ytekddgkgeaolnaa.Dr
open Go Go.Vc Go.RowKit
set_option linter.unusedVariables false

/-- What a draw of a term gives. -/
def DrR (C : Nat) (l : List Int) (w : Int) (m : Nat) (W : World) (v : Value) (w' : World) : Prop := Drw C l W w' ∧ ∃ t s, v = tv t.1 s ∧ DrP w m t ∧ TSl (fun b => W.heap.size ≤ b) w' s t.2
/-- A node under way: the cursor in C, the result's block B, the node's block A. -/
structure Nd (C B A : Nat) (l : List Int) (W : World) (x : Lab) (s : Value) (w : World) : Prop where
  chg : Chg (fun b => b = C) W w
  cur : Cur C w l
  hC : C < W.heap.size
  hB : W.heap.size ≤ B
  hA : B < A
  lt : A < w.heap.size
  rB : Rmy w B 5
  rA : Rmy w A 5
  ca : CellsAt w A 0 (tc x s)
section
variable {C B A : Nat} {l : List Int} {W w w' : World} {x : Lab} {s : Value}
theorem Nd.draw (h : Nd C B A l W x s w) (d : Drw C l w w') : Nd C B A l W x s w' :=
  ⟨h.chg.trans d.1, d.2, h.hC, h.hB, h.hA, Nat.lt_of_lt_of_le h.lt d.1.size, d.1.rmy (by have := h.hC; have := h.hB; omega) h.rB, d.1.rmy (by have := h.hC; have := h.hB; have := h.hA; omega) h.rA, d.1.cells (by have := h.hC; have := h.hB; have := h.hA; omega) h.ca⟩
theorem Nd.ext (h : Nd C B A l W x s w) (e : Ext w w') : Nd C B A l W x s w' :=
  ⟨h.chg.trans (.of e), h.cur.ext e, h.hC, h.hB, h.hA, Nat.lt_of_lt_of_le h.lt e.size, h.rB.ext e, h.rA.ext e, h.ca.ext e⟩
/-- What is written into new blocks above the node. -/
theorem Nd.high (h : Nd C B A l W x s w) {S : Nat → Prop} (hS : ∀ b, S b → A < b) (e : Chg S w w') : Nd C B A l W x s w' :=
  ⟨Chg.later h.chg e (fun b hb => .inr (by have := hS b hb; have := h.hB; have := h.hA; omega)), h.cur.chg (fun b hb hs => by have := hS b hs; have := h.hC; have := h.hB; have := h.hA; omega) e, h.hC, h.hB, h.hA, Nat.lt_of_lt_of_le h.lt e.size,
    e.rmy (fun hs => by have := hS _ hs; have := h.hA; omega) h.rB, e.rmy (fun hs => by have := hS _ hs; omega) h.rA, e.cells (fun hs => by have := hS _ hs; omega) h.ca⟩
theorem Nd.setA (h : Nd C B A l W x s w) {o : Nat} {u : Value} {x' : Lab} {s' : Value} (hc : CellsAt (w.setCell ⟨A, 0 + o, none⟩ u) A 0 (tc x' s')) : Nd C B A l W x' s' (w.setCell ⟨A, 0 + o, none⟩ u) := by
  have hch : Chg (fun b => b = A) w (w.setCell ⟨A, 0 + o, none⟩ u) := Chg.setCell (S := fun b => b = A) _ rfl _
  have h1 := h.hC
  have h2 := h.hB
  have h3 := h.hA
  exact ⟨Chg.later h.chg hch (fun b hb => .inr (by omega)), h.cur.chg (fun b hb hs => by omega) hch, h.hC, h.hB, h.hA, by have := h.lt; simpa [World.setCell] using this, h.rB.setCell, h.rA.setCell, hc⟩
theorem Nd.width (h : Nd C B A l W x s w) (n : Int) : Nd C B A l W ⟨x.op, n, x.n, x.name⟩ s (w.setCell ⟨A, 0 + 1, none⟩ (.int .i64 n)) :=
  h.setA ⟨(World.cell?_setCell_other _ _ _ _ (by simp)).trans h.ca.1, World.cell?_setCell_same _ _ _ h.ca.2.1, (World.cell?_setCell_other _ _ _ _ (by simp)).trans h.ca.2.2.1, (World.cell?_setCell_other _ _ _ _ (by simp)).trans h.ca.2.2.2.1, (World.cell?_setCell_other _ _ _ _ (by simp)).trans h.ca.2.2.2.2.1, trivial⟩
theorem Nd.numb (h : Nd C B A l W x s w) (n : Int) : Nd C B A l W ⟨x.op, x.w, n, x.name⟩ s (w.setCell ⟨A, 0 + 2, none⟩ (.int .i64 n)) :=
  h.setA ⟨(World.cell?_setCell_other _ _ _ _ (by simp)).trans h.ca.1, (World.cell?_setCell_other _ _ _ _ (by simp)).trans h.ca.2.1, World.cell?_setCell_same _ _ _ h.ca.2.2.1, (World.cell?_setCell_other _ _ _ _ (by simp)).trans h.ca.2.2.2.1, (World.cell?_setCell_other _ _ _ _ (by simp)).trans h.ca.2.2.2.2.1, trivial⟩
theorem Nd.kids (h : Nd C B A l W x s w) (s' : Value) : Nd C B A l W x s' (w.setCell ⟨A, 0 + 4, none⟩ s') :=
  h.setA ⟨(World.cell?_setCell_other _ _ _ _ (by simp)).trans h.ca.1, (World.cell?_setCell_other _ _ _ _ (by simp)).trans h.ca.2.1, (World.cell?_setCell_other _ _ _ _ (by simp)).trans h.ca.2.2.1, (World.cell?_setCell_other _ _ _ _ (by simp)).trans h.ca.2.2.2.1, World.cell?_setCell_same _ _ _ h.ca.2.2.2.2.1, trivial⟩
/-- A node begins: the variable t takes it. -/
theorem Nd.make (hB : W.heap.size ≤ B) (hC : C < W.heap.size) (hr : Rmy w B 5) (hlt : B < w.heap.size) (hch : Chg (fun b => b = C) W w) (hc : Cur C w l) (x : Lab) :
    FreeAll (bzW w) w.heap.size 0 (tc x (.slice none 0 0)) ∧ Nd C B w.heap.size l W x (.slice none 0 0) (setCells (bzW w) w.heap.size 0 (tc x (.slice none 0 0))) := by
  have k := keep5 (W := w) (x := x) (s := .slice none 0 0) rfl
  have h5 : (setCells (bzW w) w.heap.size 0 (tc x (.slice none 0 0))).heap.size = w.heap.size + 1 := by rw [setCells_size]; exact bz_size w
  exact ⟨k.1, hch.trans (.of k.2.2), hc.ext k.2.2, hC, hB, hlt, by omega, hr.ext k.2.2, Rmy.setCells _ (bz_rmy w), k.2.1⟩
/-- The end: the node is given. -/
theorem Nd.fin {m : Nat} {n : Int} {k : TF} (h : Nd C B A l W x s w) (hs : TSl (fun b => A < b) w s k) (hp : DrP n m (x, k)) :
    FreeAll w B 0 (tc x s) ∧ CellsAt (setCells w B 0 (tc x s)) B 0 (tc x s) ∧ DrR C l n m W (tv x s) (setCells w B 0 (tc x s)) := by
  have h1 := h.hC
  have h2 := h.hB
  have h3 := h.hA
  have hch : Chg (fun b => b = B) w (setCells w B 0 (tc x s)) := Chg.setCells (S := fun b => b = B) rfl _ _ _
  refine ⟨h.rB.all _ 0 (Nat.le_refl 5) (tc_one hs), setCells_at _ _ 0 5 h.rB (Nat.le_refl 5), ⟨Chg.later h.chg hch (fun b hb => .inr (by omega)), h.cur.chg (fun b hb e => by omega) hch⟩, (x, k), s, rfl, hp, ?_⟩
  exact (Fo.Sl.chg (S := fun b => b = B) (fun b hb e => by omega) hch hs).mono fun b hb => by omega
/-- The end where another node is given. -/
theorem fin_other {m : Nat} {n : Int} {y : Lab} {sk : Value} {k : TF} (h : Nd C B A l W x s w) (hs : TSl (fun b => A < b) w sk k) (hp : DrP n m (y, k)) :
    FreeAll w B 0 (tc y sk) ∧ CellsAt (setCells w B 0 (tc y sk)) B 0 (tc y sk) ∧ DrR C l n m W (tv y sk) (setCells w B 0 (tc y sk)) := by
  have h1 := h.hC
  have h2 := h.hB
  have h3 := h.hA
  have hch : Chg (fun b => b = B) w (setCells w B 0 (tc y sk)) := Chg.setCells (S := fun b => b = B) rfl _ _ _
  refine ⟨h.rB.all _ 0 (Nat.le_refl 5) (tc_one hs), setCells_at _ _ 0 5 h.rB (Nat.le_refl 5), ⟨Chg.later h.chg hch (fun b hb => .inr (by omega)), h.cur.chg (fun b hb e => by omega) hch⟩, (y, k), sk, rfl, hp, ?_⟩
  exact (Fo.Sl.chg (S := fun b => b = B) (fun b hb e => by omega) hch hs).mono fun b hb => by omega
/-- A kid that a draw has just made. -/
theorem Nd.kid {m : Nat} {n : Int} {v : Value} (h : Nd C B A l W x s w) (d : DrR C l n m w v w') : Nd C B A l W x s w' ∧ ∃ t st, v = tv t.1 st ∧ DrP n m t ∧ TSl (fun b => A < b) w' st t.2 :=
  ⟨h.draw d.1, d.2.imp fun t ht => ht.imp fun st hst => ⟨hst.1, hst.2.1, hst.2.2.mono fun b hb => by have := h.lt; omega⟩⟩
theorem Nd.keepS (h : Nd C B A l W x s w) {st : Value} {k : TF} (hs : TSl (fun b => A < b) w st k) (d : Drw C l w w') : TSl (fun b => A < b) w' st k :=
  Fo.Sl.chg (S := fun b => b = C) (fun b hb e => by have := h.hC; have := h.hB; have := h.hA; omega) d.1 hs
end
/-! rows of kids -/
section
variable {A : Nat} {w w' : World} {a b d : Tm} {sa sb sd : Value}
theorem row1 (h : TSl (fun b => A < b) w sa a.2) (hA : A < w.heap.size) :
    Ext w (w.alloc (.cells (tc a.1 sa).toArray 25)) ∧ TSl (fun b => A < b) (w.alloc (.cells (tc a.1 sa).toArray 25)) (.slice (some ⟨w.heap.size, 0, none⟩) 1 1) (mkTF [a]) := by
  have x : Ext w (w.alloc (.cells (tc a.1 sa).toArray 25)) := Ext.new _ _
  exact ⟨x, _, 1, rfl, (by decide : 1 ≤ maxLen), .inr ⟨_, 0, rfl, hA, at1 (boxedAll w (tc a.1 sa) _) (h.ext x) trivial⟩⟩
/-- A row of two kids, in block K. -/
structure Row2 (A K : Nat) (a : Tm) (sa : Value) (b : Tm) (sb : Value) (w : World) : Prop where
  hK : A < K
  r : Rmy w K 10
  ca : CellsAt w K 0 (tc a.1 sa)
  cb : CellsAt w K 5 (tc b.1 sb)
  ha : TSl (fun b => A < b ∧ b ≠ K) w sa a.2
  hb : TSl (fun b => A < b ∧ b ≠ K) w sb b.2
theorem row2 (h : TSl (fun b => A < b) w sa a.2) (h' : TSl (fun b => A < b) w sb b.2) (hA : A < w.heap.size) :
    Ext w (w.alloc (.cells (tc a.1 sa ++ tc b.1 sb).toArray 25)) ∧ Row2 A w.heap.size a sa b sb (w.alloc (.cells (tc a.1 sa ++ tc b.1 sb).toArray 25)) := by
  have x : Ext w (w.alloc (.cells (tc a.1 sa ++ tc b.1 sb).toArray 25)) := Ext.new _ _
  have hb := boxedAll w (tc a.1 sa ++ tc b.1 sb) 25
  have h1 := CellsAt.split (us := tc a.1 sa) hb
  exact ⟨x, hA, Rmy.new w (tc a.1 sa ++ tc b.1 sb) _, h1.1, h1.2, (h.lt.mono fun b hb => ⟨hb.1, by omega⟩).ext x, (h'.lt.mono fun b hb => ⟨hb.1, by omega⟩).ext x⟩
theorem Row2.sl {K : Nat} (h : Row2 A K a sa b sb w) : TSl (fun b => A < b) w (.slice (some ⟨K, 0, none⟩) 2 2) (mkTF [a, b]) :=
  ⟨_, 2, rfl, (by decide : 2 ≤ maxLen), .inr ⟨_, 0, rfl, h.hK, at1 h.ca (h.ha.mono fun b hb => hb.1) (at1 h.cb (h.hb.mono fun b hb => hb.1) trivial)⟩⟩
theorem Row2.chg {K : Nat} {S : Nat → Prop} (h : Row2 A K a sa b sb w) (hS : ∀ b, S b → b ≤ A) (e : Chg S w w') : Row2 A K a sa b sb w' := by
  have hk : ¬ S K := fun hs => by have := hS _ hs; have := h.hK; omega
  exact ⟨h.hK, e.rmy hk h.r, e.cells hk h.ca, e.cells hk h.cb, Fo.Sl.chg (fun b hb hs => by have := hS _ hs; omega) e h.ha, Fo.Sl.chg (fun b hb hs => by have := hS _ hs; omega) e h.hb⟩
/-- Both kids are one: the second is written over by the first. -/
theorem Row2.alias {K : Nat} (h : Row2 A K a sa b sb w) : FreeAll w K 5 (tc a.1 sa) ∧ Chg (fun b => b = K) w (setCells w K 5 (tc a.1 sa)) ∧ Row2 A K a sa a sa (setCells w K 5 (tc a.1 sa)) := by
  have hch : Chg (fun b => b = K) w (setCells w K 5 (tc a.1 sa)) := Chg.setCells (S := fun b => b = K) rfl _ _ _
  have ha := Fo.Sl.chg (S := fun b => b = K) (fun b hb hs => hb.2 hs) hch h.ha
  refine ⟨h.r.all _ 5 (Nat.le_refl 10) (tc_one h.ha), hch, h.hK, Rmy.setCells _ h.r, h.ca.keep fun i h1 h2 => setCells_other _ _ _ _ fun _ => .inl (by simpa using h2), setCells_at _ _ 5 10 h.r (Nat.le_refl 10), ha, ha⟩
theorem row3 (h : TSl (fun b => A < b) w sa a.2) (h' : TSl (fun b => A < b) w sb b.2) (h'' : TSl (fun b => A < b) w sd d.2) (hA : A < w.heap.size) :
    Ext w (w.alloc (.cells (tc a.1 sa ++ (tc b.1 sb ++ tc d.1 sd)).toArray 25)) ∧ TSl (fun b => A < b) (w.alloc (.cells (tc a.1 sa ++ (tc b.1 sb ++ tc d.1 sd)).toArray 25)) (.slice (some ⟨w.heap.size, 0, none⟩) 3 3) (mkTF [a, b, d]) := by
  have x : Ext w (w.alloc (.cells (tc a.1 sa ++ (tc b.1 sb ++ tc d.1 sd)).toArray 25)) := Ext.new _ _
  have hb := boxedAll w (tc a.1 sa ++ (tc b.1 sb ++ tc d.1 sd)) 25
  have h1 := CellsAt.split (us := tc a.1 sa) hb
  have h2 := CellsAt.split (us := tc b.1 sb) h1.2
  exact ⟨x, _, 3, rfl, (by decide : 3 ≤ maxLen), .inr ⟨_, 0, rfl, hA, at1 h1.1 (h.ext x) (at1 h2.1 (h'.ext x) (at1 h2.2 (h''.ext x) trivial))⟩⟩
end

def DrawS (m : Nat) : Prop := ∀ (C : Nat) (l : List Int) (w : Int) (W : World), Cur C W l → 1 ≤ w ∧ w ≤ 16 - 2 * (m : Int) → Ret Try.prog 24 #[.pointer (some ⟨C, 0, none⟩), .int .i64 w, .int .i64 (m : Int)] W (DrR C l w m W)
end Go.Proofs.Ytekddgkgeaolnaa.Dr
