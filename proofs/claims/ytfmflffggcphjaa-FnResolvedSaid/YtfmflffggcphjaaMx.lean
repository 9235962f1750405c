/- MakeClause: contract of the program's (over the shelf's slices.SortFunc and slices.Compact). -/
import Derived.Test.YtfmflffggcphjaaMw
import Derived.Test.YtfmflffggcphjaaMl
import Derived.Shelf.SlSortCmp.NoneTotal
import Derived.Shelf.Slices.CompactI
namespace Go.Proofs.Ytfmflffggcphjaa
open Go Go.Vc Go.RowKit Go.Sat
set_option linter.unusedVariables false

theorem swoL : Go.Sort.SWO (Go.Proofs.ltOf cfL) where
  irrefl x := by unfold Go.Proofs.ltOf; rw [decide_eq_false_iff_not, cfL_lt]; omega
  trans x y z h1 h2 := by unfold Go.Proofs.ltOf at *; rw [decide_eq_true_eq, cfL_lt] at *; omega
  ntrans x y z h1 h2 := by unfold Go.Proofs.ltOf at *; rw [decide_eq_false_iff_not, cfL_lt] at *; omega
theorem totL (x y : Int) (h1 : Go.Proofs.ltOf cfL x y = false) (h2 : Go.Proofs.ltOf cfL y x = false) : x = y := by
  unfold Go.Proofs.ltOf at *; rw [decide_eq_false_iff_not, cfL_lt] at *; omega

theorem sort_none (a : Option Addr) (cp : Nat) (w : World) : Ret Try.prog 104 #[.slice a 0 cp, .func (.func 105) #[] #[]] w (fun v w' => v = .tuple #[] ∧ w = w') :=
  ⟨⟨_, Try.func104, by kernel_rfl, by kernel_rfl⟩, (AnyF.slices_SortFunc_none (P := Try.prog) (ρ := Try.sortL_ren) { Try.sortL with } a cp _ w).mono fun e w' h => ⟨_, h.1, rfl, h.2.symm⟩⟩
theorem sort_ret (l : List Int) (B cp : Nat) (w : World) (h : OwnR eI noB w (.slice (some ⟨B, 0, none⟩) l.length cp) l) (hl : l.length ≠ 0) (hll : l.length ≤ 1000000000) :
    Ret Try.prog 104 #[.slice (some ⟨B, 0, none⟩) l.length cp, .func (.func 105) #[] #[]] w (fun v w' => v = .tuple #[] ∧ Chg (fun b => b = B) w w' ∧ ∃ d, OwnR eI noB w' (.slice (some ⟨B, 0, none⟩) l.length cp) d ∧ d.length = l.length ∧ (∀ y, y ∈ d ↔ y ∈ l) ∧ ∀ i j, i < j → j < d.length → ¬ cfL (d.getD j 0) (d.getD i 0) < 0) := by
  have hH := holds_own h hl
  have hB : B < w.heap.size := World.block_lt_of_cell? _ _ (hH 0 (by simpa using Nat.pos_of_ne_zero hl)).1
  have hcmp : Go.Proofs.CmpLays1 Try.prog 105 #[] encI cfL B 0 l.toArray.size w := fun m os dk _ x y => by
    refine (order_ret x y _).2.mono ?_
    rintro e w' ⟨v, rfl, rfl, rfl⟩
    exact ⟨rfl, 0, #[], by rw [Go.Sort.grow_empty]; rfl⟩
  have hcall := Any.slices_SortFunc_total (P := Try.prog) (ρ := Try.sortL_ren) Try.sortL encI (fun _ => rfl) cfL swoL 105 #[] B 0 cp l.toArray w (enters_of Try.func105 (by kernel_rfl) rfl) hcmp hH hB (by simp; omega) totL
  refine ⟨⟨_, Try.func104, by kernel_rfl, by kernel_rfl⟩, ?_⟩
  have hsz : l.toArray.size = l.length := by simp
  rw [hsz] at hcall
  refine hcall.mono ?_
  rintro e w' ⟨rfl, k, os, rfl⟩
  have hlen : (l.toArray.toList.mergeSort fun x y => !(Go.Proofs.ltOf cfL) y x).length = l.length := by rw [List.length_mergeSort]
  refine ⟨_, rfl, rfl, put_chg w k B _ os, _, put_own h hl hlen, hlen, fun y => by rw [List.mem_mergeSort], fun i j hij hj => ?_⟩
  have hp := List.pairwise_mergeSort (le := fun x y => !(Go.Proofs.ltOf cfL) y x) (fun a b c h1 h2 => by
    simp only [Bool.not_eq_true'] at *
    exact swoL.ntrans _ _ _ h2 h1) (fun a b => by
    cases h1 : Go.Proofs.ltOf cfL b a with
    | false => rfl
    | true =>
      have h2 : Go.Proofs.ltOf cfL a b = false := by
        unfold Go.Proofs.ltOf at *
        rw [decide_eq_true_eq, cfL_lt] at h1
        rw [decide_eq_false_iff_not, cfL_lt]
        omega
      rw [h2]; rfl) l.toArray.toList
  have := List.pairwise_iff_getElem.1 hp i j (by omega) hj hij
  rw [List.getD_eq_getElem?_getD, List.getD_eq_getElem?_getD, List.getElem?_eq_getElem hj, List.getElem?_eq_getElem (by omega)]
  unfold Go.Proofs.ltOf at this
  simp only [Bool.not_eq_true', decide_eq_false_iff_not] at this
  exact this
theorem cmpt_le (s : List Int) : (Lib.compact s).length ≤ s.length := by
  have key : ∀ m, (Lib.compactUpTo s.toArray m).length ≤ m := by
    intro m
    induction m with
    | zero => simp [Lib.compactUpTo]
    | succ m ih => rw [Lib.compactUpTo_succ, List.length_append]; split <;> simp <;> omega
  exact key s.length
theorem compact_none (a : Option Addr) (cp : Nat) (w : World) : Ret Try.prog 108 #[.slice a 0 cp] w (fun v w' => v = .slice a 0 cp ∧ w = w') :=
  ⟨⟨_, Try.func108, by kernel_rfl, by kernel_rfl⟩, (Any.slices_Compact_int_empty (P := Try.prog) (ρ := Try.compactL_ren) Try.compactL a cp w).mono fun e w' h => ⟨_, h.1, rfl, h.2.symm⟩⟩
theorem compact_ret (l : List Int) (B cp : Nat) (w : World) (h : OwnR eI noB w (.slice (some ⟨B, 0, none⟩) l.length cp) l) (hl : l.length ≠ 0) (hll : l.length ≤ 1000000000) :
    Ret Try.prog 108 #[.slice (some ⟨B, 0, none⟩) l.length cp] w (fun v w' => v = .slice (some ⟨B, 0, none⟩) (Lib.compact l).length cp ∧ Chg (fun b => b = B) w w' ∧ OwnR eI noB w' (.slice (some ⟨B, 0, none⟩) (Lib.compact l).length cp) (Lib.compact l)) := by
  have hH := holds_own h hl
  have hcp : l.length ≤ cp := by obtain ⟨a', c', he, h1, _⟩ := h; cases he; exact h1
  have hle : (Lib.compact l).length ≤ l.length := cmpt_le l
  have hcall := Any.slices_Compact_int (P := Try.prog) (ρ := Try.compactL_ren) Try.compactL B 0 cp l w hH (by omega) hcp
  refine ⟨⟨_, Try.func108, by kernel_rfl, by kernel_rfl⟩, hcall.mono ?_⟩
  rintro e w' ⟨rfl, q, rfl⟩
  have hd : (Lib.compact l ++ List.replicate (l.length - (Lib.compact l).length) 0).length = l.length := by simp; omega
  have hch := put_chg w q B (Lib.compact l ++ List.replicate (l.length - (Lib.compact l).length) 0).toArray #[]
  have hown := put_own (k := q) (os := #[]) h hl hd
  rw [Go.Sort.grow_empty] at hch hown
  refine ⟨_, rfl, rfl, hch, ?_⟩
  obtain ⟨a', c', he, h1, h2, h3⟩ := hown
  rw [hd] at he h1
  cases he
  refine ⟨_, cp, rfl, by omega, h2, .inr ?_⟩
  obtain ⟨B', hB', hr, ha⟩ := h3.resolve_left (by omega)
  cases hB'
  have := ha.take (k := (Lib.compact l).length)
  rw [List.take_left'] at this
  · exact ⟨B, rfl, hr, this⟩
  · rfl

set_option maxHeartbeats 4000000 in
theorem impl_MakeClause (l : List Int) (s : Value) (W : World) (hs : SlR eI allB W s l) (hll : l.length ≤ 10000000) :
    Ret Try.prog 66 #[s] W (MkR l W) := by
  refine ret_of_vc ties mixed Try.func66 rfl (by kernel_rfl) rfl rfl ?_
  refine Or.inl ((impl_literalsOk l s 400 W hs (by decide) (by decide)).mono ?_)
  rintro _ _ ⟨rfl, rfl⟩
  refine br_not (fun h => ?_) (fun h => ?_)
  · exact MkR.no (Ext.refl _) (mkcO_lits h)
  have hlo : litsOk 400 l = true := h
  refine Or.inl ((clone_ret l s W hs (by omega)).mono ?_)
  rintro v w2 ⟨x2, hv, hvb⟩
  by_cases h0 : l.length = 0
  · have : l = [] := List.eq_nil_of_length_eq_zero h0
    subst this
    obtain ⟨a, cp, rfl, -⟩ := id hv
    refine Or.inl ((sort_none a cp w2).mono ?_)
    rintro _ _ ⟨rfl, rfl⟩
    refine Or.inl ((compact_none a cp w2).mono ?_)
    rintro _ _ ⟨rfl, rfl⟩
    refine Or.inl ((impl_clauseOk [] (.slice a 0 cp) 400 w2 (hv.sl (fun _ _ => trivial) (fun _ _ => trivial)) (by decide) (by decide)).mono ?_)
    rintro _ w3 ⟨rfl, x3⟩
    exact MkR.yes (x2.trans x3) rfl (hv.ext x3) hvb
  obtain ⟨B, cp, rfl⟩ := own_ptr hv h0
  have hBW : W.heap.size ≤ B := hvb B rfl
  refine Or.inl ((sort_ret l B cp w2 hv h0 (by omega)).mono ?_)
  rintro _ w3 ⟨rfl, hch3, d, hd, hdl, hdm, hds⟩
  rw [← hdl] at hd h0 ⊢
  refine Or.inl ((compact_ret d B cp w3 hd h0 (by omega)).mono ?_)
  rintro _ w4 ⟨rfl, hch4, hc⟩
  have x4 : Ext W w4 := (x2.chg hch3 fun b hb => by rw [hb]; exact hBW).chg hch4 fun b hb => by rw [hb]; exact hBW
  have hdlit : ∀ y ∈ d, litOk 400 y = true := fun y hy => litsOk_iff.1 hlo y ((hdm y).1 hy)
  have hsort := compact_sorted (s := d) fun i j hij hj => by
    have h1 := hds i j hij hj
    rw [cfL_lt, avW_ok (hdlit _ (getD_mem hj)), avW_ok (hdlit _ (getD_mem (by omega)))] at h1
    exact h1
  have heq := mkcO_eq hlo hsort.1 fun y => (hsort.2 y).trans (hdm y)
  refine Or.inl ((impl_clauseOk (Lib.compact d) _ 400 w4 (hc.sl (fun _ _ => trivial) (fun _ _ => trivial)) (by decide) (by decide)).mono ?_)
  rintro _ w5 ⟨rfl, x5⟩
  refine br_not (fun h => ?_) (fun h => ?_)
  · exact MkR.no (x4.trans x5) (by rw [heq, if_neg (by rw [show clOk 400 (Lib.compact d) = false from h]; decide)])
  · exact MkR.yes (x4.trans x5) (by rw [heq, if_pos h]) (hc.ext x5) (fun b hb => by rw [blk_is hb]; exact hBW)

end Go.Proofs.Ytfmflffggcphjaa
