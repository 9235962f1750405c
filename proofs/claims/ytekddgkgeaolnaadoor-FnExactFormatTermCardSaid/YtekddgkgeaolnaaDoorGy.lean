/- The text of a term, by the program: termWord, writeTerm, FormatTerm. -/
import Derived.Test.YtekddgkgeaolnaaDoorGx
import Derived.Test.YtekddgkgeaolnaaDoorGu
import Derived.Test.YtekddgkgeaolnaaDoorGf
import Derived.Test.YtekddgkgeaolnaaDoorVi
namespace Go.Proofs.YtekddgkgeaolnaaDoor.Bu
open Go Go.Vc Go.RowKit
set_option linter.unusedVariables false

theorem termWord_ret (op : Int) (W : World) : Ret Tryd.prog 74 #[.int .i64 op] W (fun v w' => v = .string (tnm op) ∧ Ext W w') := by
  have key : ∀ s, tnm op = s → Value.string s = .string (tnm op) := fun s h => by rw [h]
  refine ret_of_vc ties mixed Tryd.func74 rfl (by kernel_rfl) rfl rfl ?_
  refine br_dec (fun h => ?_) (fun h1 => ?_)
  · exact ⟨key _ (by unfold tnm; rw [if_pos h]), Ext.refl _⟩
  refine br_dec (fun h => ?_) (fun h2 => ?_)
  · exact ⟨key _ (by unfold tnm; rw [if_neg h1, if_pos h]), Ext.refl _⟩
  refine br_dec (fun h => ?_) (fun h3 => ?_)
  · exact ⟨key _ (by unfold tnm; rw [if_neg h1, if_neg h2, if_pos h]), Ext.refl _⟩
  refine br_dec (fun h => ?_) (fun h4 => ?_)
  · exact ⟨key _ (by unfold tnm; rw [if_neg h1, if_neg h2, if_neg h3, if_pos h]), Ext.refl _⟩
  refine br_dec (fun h => ?_) (fun h5 => ?_)
  · exact ⟨key _ (by unfold tnm; rw [if_neg h1, if_neg h2, if_neg h3, if_neg h4, if_pos h]), Ext.refl _⟩
  refine Or.inl ((impl_OpName op W).mono ?_)
  rintro _ w2 ⟨rfl, x2⟩
  exact ⟨key _ (by unfold tnm; rw [if_neg h1, if_neg h2, if_neg h3, if_neg h4, if_neg h5]), x2⟩

abbrev Kp (b : Nat) (w w' : World) : Prop := Lib.OthersKept 5 (some b) w w'
theorem kp_ext {b : Nat} {w w' : World} (x : Ext w w') : Kp b w w' := fun k o hk _ _ => (x.block k (Array.getElem?_eq_some_iff.1 hk).1).trans hk
theorem kp_trans {b : Nat} {w w' w'' : World} (h : Kp b w w') (h' : Kp b w' w'') : Kp b w w'' := fun k o hk h1 h2 => h' k o (h k o hk h1 h2) h1 h2
/-- What a writing call may change: the builder, its rows, what is new. -/
def Sw (B b : Nat) (w0 : World) : Nat → Prop := fun k => k = b ∨ (B ≤ k ∧ ∃ c fz, w0.heap[k]? = some (.cells c 5 fz)) ∨ w0.heap.size ≤ k
theorem chg_write {B b : Nat} {w0 w w' : World} (x : Ext w0 w) (hb : Below B w w') (hk : Kp b w w') : Chg (Sw B b w0) w w' := by
  refine ⟨hb.os, hb.tape, hb.output, hb.size, fun k hlt hn => ?_⟩
  have h0 : k < w0.heap.size := Decidable.byContradiction fun h => hn (.inr (.inr (Nat.le_of_not_lt h)))
  by_cases hB : k < B
  · exact hb.block k hB
  · have e : w.heap[k]? = some (w.heap[k]'hlt) := Array.getElem?_eq_getElem hlt
    rw [e]
    refine hk k _ e (fun h => hn (.inl (Option.some.inj h))) fun c fz hc => hn (.inr (.inl ⟨Nat.le_of_not_lt hB, c, fz, ?_⟩))
    rw [hc] at e
    exact (x.block k h0).symm.trans e
theorem gPw : Tryd.prog.globalNamed "internal/strconv.uint64pow10" = some 3 := by kernel_rfl
theorem tab_chg {S : Nat → Prop} {W0 w w' : World} (htab : TabP W0) (hx : Ext W0 w) (hc : Chg S w w') (hS : ∀ k, k < W0.heap.size → ¬ S k) : TabP w' := by
  have h1 := Lib.tabBelow_of_tabIs htab w hx
  unfold TabP Lib.TabIs World.var? at htab h1 ⊢
  rw [gPw] at htab h1 ⊢
  simp only [Option.bind_some] at htab h1 ⊢
  have hg : 3 < W0.heap.size := by
    rcases Nat.lt_or_ge 3 W0.heap.size with h | h
    · exact h
    · rw [Array.getElem?_eq_none h] at htab; cases htab
  rw [hc.block _ (Nat.lt_of_lt_of_le hg hx.size) (hS _ hg)]
  exact h1
/-- How far the writing has come: the term's box stands in k0, the builder in b holds l. -/
structure Wr (W0 : World) (b k0 : Nat) (x : Lab) (s : Value) (w0 : World) (l : List UInt8) (w : World) : Prop where
  ext : Ext W0 w
  bl : Bl W0.heap.size b l w
  box : w.heap[k0]? = some (.cells (tc x s).toArray 50)
  kp : Kp b w0 w
  ne : b ≠ k0
section
variable {W0 : World} {b k0 : Nat} {x : Lab} {s : Value} {w0 w w' : World} {l m : List UInt8}
theorem Wr.cells (h : Wr W0 b k0 x s w0 l w) : CellsAt w k0 0 (tc x s) := by
  have hb := h.box
  have key : ∀ (i : Nat) (v : Value), (tc x s)[i]? = some v → w.cell? ⟨k0, i, none⟩ = some v := fun i v hi => by
    simp only [World.cell?, hb]
    simpa using hi
  exact ⟨key 0 _ rfl, key 1 _ rfl, key 2 _ rfl, key 3 _ rfl, key 4 _ rfl, trivial⟩
theorem Wr.more (h : Wr W0 b k0 x s w0 l w) (e : Ext w w') : Wr W0 b k0 x s w0 l w' :=
  ⟨h.ext.trans e, h.bl.ext e, (e.block _ (Array.getElem?_eq_some_iff.1 h.box).1).trans h.box, kp_trans h.kp (kp_ext e), h.ne⟩
theorem Wr.wrote (h : Wr W0 b k0 x s w0 l w) (hb : Bl W0.heap.size b m w') (e : Below W0.heap.size w w') (k : Kp b w w') : Wr W0 b k0 x s w0 m w' :=
  ⟨Below.trans h.ext e, hb, k k0 _ h.box (fun he => h.ne (Option.some.inj he).symm) (fun c fz he => by cases he), kp_trans h.kp k, h.ne⟩
theorem Wr.sub (h : Wr W0 b k0 x s w0 l w) (e : Ext W0 w') (hb : Bl W0.heap.size b m w') (k : Kp b w w') : Wr W0 b k0 x s w0 m w' :=
  ⟨e, hb, k k0 _ h.box (fun he => h.ne (Option.some.inj he).symm) (fun c fz he => by cases he), kp_trans h.kp k, h.ne⟩
theorem Wr.notS (h : Wr W0 b k0 x s w0 l w) : ¬ Sw W0.heap.size b w k0 := by
  rintro (e | ⟨_, c, fz, e⟩ | e)
  · exact h.ne e.symm
  · rw [h.box] at e; cases e
  · have := (Array.getElem?_eq_some_iff.1 h.box).1; omega
theorem Wr.lowS (h : Wr W0 b k0 x s w0 l w) (hB : W0.heap.size ≤ b) : ∀ k, k < W0.heap.size → ¬ Sw W0.heap.size b w k := by
  rintro k hk (e | ⟨e, _⟩ | e)
  · omega
  · omega
  · have := h.ext.size; omega
end
theorem Bl.ge {B b : Nat} {l : List UInt8} {w : World} (h : Bl B b l w) : B ≤ b ∧ b < w.heap.size := by
  rcases h with h | h
  · exact ⟨h.1, h.lt⟩
  · exact ⟨h.1, h.lt⟩
/-- What writing a term gives. -/
def WtR (W0 : World) (b : Nat) (l : List UInt8) (w0 : World) (v : Value) (w' : World) : Prop := v = .tuple #[] ∧ Ext W0 w' ∧ Bl W0.heap.size b l w' ∧ Kp b w0 w'
def WtS (W0 : World) (n : Nat) : Prop := ∀ (t : Tm) (s : Value) (b : Nat) (l : List UInt8) (w : World), t.sz ≤ n → OkT t → t.sz ≤ 1000000 → l.length + 64 * t.sz ≤ 1000000000 → TSl anyB W0 s t.2 → Ext W0 w → Bl W0.heap.size b l w →
  Ret Tryd.prog 58 #[.pointer (some ⟨b, 0, none⟩), tv t.1 s] w (WtR W0 b (l ++ fmT t) w)
theorem Wr.fin {W0 : World} {b k0 : Nat} {x : Lab} {s : Value} {w0 w : World} {l m : List UInt8} (h : Wr W0 b k0 x s w0 l w) (e : l = m) : WtR W0 b m w0 (.tuple #[]) w := ⟨rfl, h.ext, e ▸ h.bl, h.kp⟩
/-- The box is made. -/
theorem Wr.make {W0 : World} {b : Nat} {s : Value} {w0 : World} {l : List UInt8} (x : Lab) (hx : Ext W0 w0) (hb : Bl W0.heap.size b l w0) : Wr W0 b w0.heap.size x s w0 l (bxW w0 x s) :=
  ⟨hx.trans (bx_ext w0 x s), hb.ext (bx_ext w0 x s), heap_alloc_new w0 _, kp_ext (bx_ext w0 x s), by have := hb.ge; omega⟩
end Go.Proofs.YtekddgkgeaolnaaDoor.Bu
