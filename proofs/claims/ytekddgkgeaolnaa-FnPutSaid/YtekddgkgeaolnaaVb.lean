/- slices.SortFunc at rows of values, by name: contract (over the shelf's). -/
import Derived.Test.YtekddgkgeaolnaaN9
import Derived.Test.YtekddgkgeaolnaaN1
import Derived.Test.YtekddgkgeaolnaaVa
import Derived.Test.YtekddgkgeaolnaaQc
import Derived.Shelf.SlSortCmp.NoneTotal
import Derived.Sort.Row
import Derived.Sort.Grow
namespace Go.Proofs.Ytekddgkgeaolnaa
open Go Go.Vc Go.RowKit
set_option linter.unusedVariables false

instance : Inhabited VLab := ⟨⟨ByteArray.empty, 0, 0⟩⟩
abbrev sW (w : World) (k B : Nat) (d : Array VLab) (os : Array Obj) : World := Go.Sort.grow (Go.Sort.putRowK vlc 3 (Go.Sort.ahead w k) B 0 d) os
theorem holdsV {w : World} {B n cp : Nat} {l : List VLab} (h : OwnR eV noB w (.slice (some ⟨B, 0, none⟩) n cp) l) (hl : l.length ≠ 0) : Go.Sort.HoldsK vlc 3 w B 0 l.toArray := by
  obtain ⟨a', c', he, h1, h2, h3⟩ := h
  cases he
  obtain ⟨B', hB', hr, hat⟩ := h3.resolve_left (by omega)
  cases hB'
  intro j hj
  rw [Go.Sort.size_flatK, List.size_toArray] at hj
  rw [Go.Sort.get_flatK _ _ _ _ (by rw [List.size_toArray]; exact hj)]
  have hi : j / 3 < l.length := by omega
  obtain ⟨cs, hc, hcs⟩ := hat.get (List.getElem?_eq_getElem hi)
  have hcs : cs = vlc (l[j / 3]'hi) := hcs
  subst hcs
  have hg : l.toArray[j / 3]! = l[j / 3]'hi := by simp [hi]
  rw [hg]
  have hr' := hr (0 + j) (by show 0 + j < cp * 3; omega)
  refine ⟨?_, hr'.2⟩
  have hm : j % 3 = 0 ∨ j % 3 = 1 ∨ j % 3 = 2 := by omega
  have hq : eV.m = 3 := rfl
  rw [hq] at hc
  rcases hm with e | e | e
  · rw [e, show 0 + j = 0 + j / 3 * 3 from by omega]; exact hc.1
  · rw [e, show 0 + j = 0 + j / 3 * 3 + 1 from by omega]; exact hc.2.1
  · rw [e, show 0 + j = 0 + j / 3 * 3 + 1 + 1 from by omega]; exact hc.2.2.1
theorem putV_size (w : World) (k B : Nat) (d : Array VLab) : (Go.Sort.putRowK vlc 3 (Go.Sort.ahead w k) B 0 d).heap.size = w.heap.size := by
  simp [Go.Sort.putRowK, Go.Sort.putRow, Go.Sort.mapBlock, Go.Sort.ahead]
theorem putV_chg (w : World) (k B : Nat) (d : Array VLab) (os : Array Obj) : Chg (fun b => b = B) w (sW w k B d os) := by
  refine ⟨rfl, rfl, rfl, ?_, fun b hb hn => ?_⟩
  · have := putV_size w k B d
    simp only [sW, Go.Sort.grow, Array.size_append]
    omega
  · rw [Go.Sort.heap_grow_old _ _ (by rw [putV_size]; exact hb)]
    simp only [Go.Sort.putRowK, Go.Sort.putRow, Go.Sort.mapBlock, Go.Sort.ahead]
    rw [Array.getElem?_modify, if_neg (fun e => hn e.symm)]
theorem putV_own {w : World} {k B n cp : Nat} {l d : List VLab} {os : Array Obj} (h : OwnR eV noB w (.slice (some ⟨B, 0, none⟩) n cp) l) (hl : l.length ≠ 0) (hd : d.length = l.length) :
    OwnR eV noB (sW w k B d.toArray os) (.slice (some ⟨B, 0, none⟩) n cp) d := by
  have hH := holdsV h hl
  obtain ⟨a', c', he, h1, h2, h3⟩ := h
  cases he
  obtain ⟨B', hB', hr, _⟩ := h3.resolve_left (by omega)
  cases hB'
  have hB : B < w.heap.size := World.block_lt_of_cell? _ _ (hr 0 (by show 0 < cp * 3; omega)).1.choose_spec
  have hBp : B < (Go.Sort.putRowK vlc 3 (Go.Sort.ahead w k) B 0 d.toArray).heap.size := by rw [putV_size]; exact hB
  have hN : Go.Sort.HoldsK vlc 3 (sW w k B d.toArray os) B 0 d.toArray := Go.Sort.holdsK_grow vlc 3 _ os B 0 _ hBp (Go.Sort.holdsK_putRowK vlc 3 (Go.Sort.ahead w k) B 0 l.toArray d.toArray (Go.Sort.holdsK_ahead vlc 3 w k B 0 _ hH) (by simp [hd]))
  have hfz : ∀ o, (sW w k B d.toArray os).frozen? ⟨B, o, none⟩ = w.frozen? ⟨B, o, none⟩ := fun o => by
    rw [Go.Sort.frozen?_grow _ _ _ hBp]
    exact Go.Sort.frozen?_mapBlock _ _ _ _
  have hcell : ∀ i c, (hi : i < d.length) → c < 3 → (sW w k B d.toArray os).cell? ⟨B, 0 + i * 3 + c, none⟩ = some (vlc (d[i]'hi))[c]! := fun i c hi hc => by
    have := (hN.cell (i := i) (c := c) (by simpa using hi) hc).1
    rwa [show d.toArray[i]! = d[i]'hi by simp [hi]] at this
  refine ⟨_, cp, by rw [hd], by omega, h2, .inr ⟨B, rfl, fun i hi => ?_, RAt.of fun i x hx => ?_⟩⟩
  · have hf := hr i hi
    refine ⟨?_, by rw [hfz]; exact hf.2⟩
    by_cases hid : i < d.length * 3
    · have := hcell (i / 3) (i % 3) (by omega) (by omega)
      rw [show 0 + i / 3 * 3 + i % 3 = i from by omega] at this
      exact ⟨_, this⟩
    · obtain ⟨u, hu⟩ := hf.1
      refine ⟨u, ?_⟩
      rw [Go.Sort.cell?_grow _ _ _ hBp]
      unfold Go.Sort.putRowK
      rw [Go.Sort.cell?_putRow_other _ _ _ _ _ _ (.inr (.inr (by rw [Go.Sort.size_flatK]; simp; omega)))]
      exact hu
  · have hil : i < d.length := (List.getElem?_eq_some_iff.1 hx).1
    have hxe : d[i]'hil = x := (List.getElem?_eq_some_iff.1 hx).2
    have h0 := hcell i 0 hil (by decide)
    have h1 := hcell i 1 hil (by decide)
    have h2 := hcell i 2 hil (by decide)
    rw [hxe] at h0 h1 h2
    exact ⟨vlc x, ⟨h0, h1, h2, trivial⟩, rfl⟩
theorem isNaNS_ret (x : ByteArray) (W : World) : Ret Try.prog 89 #[.string x] W (fun v w' => v = .bool false ∧ w' = W) := by
  refine ret_of_vc ties mixed Try.func89 rfl (by kernel_rfl) rfl rfl ?_
  exact ⟨vbool (by simp), rfl⟩
theorem cmpG_ret (x y : ByteArray) (W : World) : Ret Try.prog 65 #[.string x, .string y] W (fun v w' => v = .int .i64 (cmpS x y) ∧ w' = W) := by
  have hn := cmpS_name x y
  refine ret_of_vc ties mixed Try.func65 rfl (by kernel_rfl) rfl rfl ?_
  refine Or.inl ((isNaNS_ret x W).mono ?_)
  rintro _ _ ⟨rfl, rfl⟩
  refine Or.inl ((isNaNS_ret y _).mono ?_)
  rintro _ _ ⟨rfl, rfl⟩
  refine br_split (fun h => ?_) (fun h => ?_)
  · have hne : x ≠ y := less_ne h
    exact ⟨vint (by rw [hn, if_neg hne, if_pos (show less x y = true from h)]), rfl⟩
  refine br_not (fun h' => ?_) (fun h' => ?_)
  · rw [Bool.or_eq_false_iff] at h'
    have hne : x ≠ y := of_decide_eq_false h'.2
    exact ⟨vint (by rw [hn, if_neg hne, if_neg (by rw [show less x y = false from h]; decide)]), rfl⟩
  · rw [Bool.or_eq_true] at h'
    have he : x = y := of_decide_eq_true (h'.resolve_left (by rw [show Op.bytesLess x.toList y.toList = false from h]; decide))
    exact ⟨vint (by rw [hn, if_pos he]), rfl⟩
def cfN (x y : VLab) : Int := cmpS x.name y.name
theorem order_ret (x y : VLab) (W : World) : Ret Try.prog 64 #[.agg (vlc x).toArray, .agg (vlc y).toArray] W (fun v w' => v = .int .i64 (cfN x y) ∧ w' = (W.alloc (.cells (vlc x).toArray 47)).alloc (.cells (vlc y).toArray 47)) := by
  have x2 : Ext (W.alloc (.cells (vlc x).toArray 47)) ((W.alloc (.cells (vlc x).toArray 47)).alloc (.cells (vlc y).toArray 47)) := Ext.new _ _
  have hb := (boxedAll W (vlc x) 47).ext x2
  have hb2 := boxedAll (W.alloc (.cells (vlc x).toArray 47)) (vlc y) 47
  refine ret_of_vc ties mixed Try.func64 rfl (by kernel_rfl) rfl rfl ?_
  refine ⟨_, hb.1, _, hb2.1, ?_⟩
  refine Or.inl ((cmpG_ret _ _ _).mono ?_)
  rintro _ _ ⟨rfl, rfl⟩
  exact ⟨rfl, rfl⟩
theorem cfN_lt (x y : VLab) : Go.Proofs.ltOf cfN x y = true ↔ cmpS x.name y.name = -1 := by
  unfold Go.Proofs.ltOf cfN
  rw [decide_eq_true_eq]
  rcases cmpS_val x.name y.name with h | h | h <;> omega
theorem swoN : Go.Sort.SWO (Go.Proofs.ltOf cfN) where
  irrefl x := by
    cases h : Go.Proofs.ltOf cfN x x with
    | false => rfl
    | true => rw [cfN_lt, cmpS_zero.2 rfl] at h; cases h
  trans x y z h1 h2 := by rw [cfN_lt] at *; exact cmpS_trans h1 h2
  ntrans x y z h1 h2 := by
    cases h : Go.Proofs.ltOf cfN x z with
    | false => rfl
    | true =>
      have h3 : ¬ cmpS x.name y.name = -1 := fun e => by rw [(cfN_lt x y).2 e] at h1; cases h1
      have h4 : ¬ cmpS y.name z.name = -1 := fun e => by rw [(cfN_lt y z).2 e] at h2; cases h2
      rw [cfN_lt] at h
      have t := (cmpS_T3 z.name y.name x.name).1
      have s1 := cmpS_swap x.name y.name
      have s2 := cmpS_swap y.name z.name
      have s3 := cmpS_swap x.name z.name
      have v1 := cmpS_val x.name y.name
      have v2 := cmpS_val y.name z.name
      have := t (by omega) (by omega)
      omega
theorem sort_none (a : Option Addr) (cp : Nat) (w : World) : Ret Try.prog 63 #[.slice a 0 cp, .func (.func 64) #[] #[]] w (fun v w' => v = .tuple #[] ∧ w = w') :=
  ⟨⟨_, Try.func63, by kernel_rfl, by kernel_rfl⟩, (AnyF.slices_SortFunc_none (P := Try.prog) (ρ := Try.sortL_ren) Try.sortL a cp _ w).mono fun e w' h => ⟨_, h.1, rfl, h.2.symm⟩⟩
/-- A row of values becomes its ascending order. -/
theorem sort_ret (l : List VLab) (B cp : Nat) (w : World) (h : OwnR eV noB w (.slice (some ⟨B, 0, none⟩) l.length cp) l) (hl : l.length ≠ 0) (hll : l.length ≤ 1000000000) :
    Ret Try.prog 63 #[.slice (some ⟨B, 0, none⟩) l.length cp, .func (.func 64) #[] #[]] w (fun v w' => v = .tuple #[] ∧ Chg (fun b => b = B) w w' ∧ ∃ d, OwnR eV noB w' (.slice (some ⟨B, 0, none⟩) l.length cp) d ∧ d.Perm l ∧ ∀ i j, (hi : i < j) → (hj : j < d.length) → ¬ cmpS (d[j]'hj).name (d[i]'(by omega)).name = -1) := by
  have hH := holdsV h hl
  have hB : B < w.heap.size := World.block_lt_of_cell? _ _ (hH.cell (i := 0) (c := 0) (by simpa using Nat.pos_of_ne_zero hl) (by decide)).1
  have hcmp : Go.Proofs.CmpLays Try.prog 64 #[] vlc 3 cfN B 0 l.toArray.size w := fun m os dk _ x y => by
    refine (order_ret x y _).2.mono ?_
    rintro e w' ⟨v, rfl, rfl, rfl⟩
    exact ⟨rfl, 0, _, by rw [Go.Sort.alloc_eq_grow, Go.Sort.alloc_eq_grow, Go.Sort.grow_grow]; rfl⟩
  have hcall := AnyQ.slices_SortFunc (P := Try.prog) (ρ := Try.sortL_ren) Try.sortL 3 Try.isAgg47 Try.sizeOf47 vlc vlc_len (fun x v hv => by
    simp only [vlc, List.mem_cons, List.not_mem_nil, or_false] at hv
    rcases hv with rfl | rfl | rfl <;> rfl) cfN swoN 64 #[] B 0 cp l.toArray w (enters_of Try.func64 (by kernel_rfl) rfl) hcmp hH hB (by simp; omega)
  refine ⟨⟨_, Try.func63, by kernel_rfl, by kernel_rfl⟩, ?_⟩
  have hsz : l.toArray.size = l.length := by simp
  rw [hsz] at hcall
  refine hcall.mono ?_
  rintro e w' ⟨rfl, d', k, os, hp, hs, rfl⟩
  have hds : d'.size = l.length := by rw [hp.1]; simp
  have hperm : d'.toList.Perm l := by
    have := hp.2.2
    have e1 : d'.extract 0 l.length = d' := by rw [← hds]; exact Array.extract_size
    have e2 : l.toArray.extract 0 l.length = l.toArray := by rw [← hsz]; exact Array.extract_size
    rw [e1, e2] at this
    exact this
  have hown := putV_own (k := k) (os := os) (d := d'.toList) h hl (by rw [Array.length_toList]; exact hds)
  rw [Array.toArray_toList] at hown
  refine ⟨_, rfl, rfl, putV_chg w k B _ os, d'.toList, hown, hperm, fun i j hi hj e => ?_⟩
  have hj' : j < d'.size := by rwa [Array.length_toList] at hj
  have h3 := hs i j (Nat.zero_le _) hi (by omega)
  have g1 : d'[j]! = d'.toList[j]'hj := by simp [hj']
  have g2 : d'[i]! = d'.toList[i]'(by omega) := by simp [show i < d'.size by omega]
  rw [g1, g2] at h3
  rw [(cfN_lt _ _).2 e] at h3
  cases h3
end Go.Proofs.Ytekddgkgeaolnaa
