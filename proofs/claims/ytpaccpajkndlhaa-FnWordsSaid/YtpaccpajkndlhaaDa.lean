/- Draws (seats without l03): the cursor over a row of bytes; contracts of l01New, l11At, l01Byte, l01Below, l01Once, GiveNum, GiveSize (only ranges matter); rows of bytes opened. (OPTIONAL) -/
import Derived.Test.YtpaccpajkndlhaaIa
import Derived.Test.YtpaccpajkndlhaaVi
import Derived.WideShapes
namespace Go.Vc
open Go Go.RowKit

theorem and_mask {a m : Int} (h0 : 0 ≤ m) (h1 : m ≤ 4611686018427387904) : 0 ≤ bitsI .and .i64 a m ∧ bitsI .and .i64 a m ≤ m := by
  have hm : (BitVec.ofInt IntKind.i64.bits m).toNat = m.toNat := by
    rw [BitVec.toNat_ofInt]
    show (m % ((2 ^ 64 : Nat) : Int)).toNat = m.toNat
    omega
  have hle : ((BitVec.ofInt IntKind.i64.bits a) &&& (BitVec.ofInt IntKind.i64.bits m)).toNat ≤ m.toNat := by
    rw [BitVec.toNat_and, hm]
    exact Nat.and_le_right
  unfold bitsI
  simp only
  rw [IntWalk.i64_in _ (by omega)]
  omega

theorem any_eq {α : Type} {a : α} {K : α → Prop} (h : ∀ c, K c) : ∃ c, a = c ∧ K c := ⟨_, rfl, h _⟩

theorem any_mask {a m : Int} {K : Int → Prop} (h0 : 0 ≤ m) (h1 : m ≤ 4611686018427387904) (h : ∀ c, 0 ≤ c → c ≤ m → K c) : ∃ c, bitsI .and .i64 a m = c ∧ K c := ⟨_, rfl, h _ (and_mask h0 h1).1 (and_mask h0 h1).2⟩
end Go.Vc
namespace Go.Proofs.Ytpaccpajkndlhaa.Dr
open Go Go.Vc Go.RowKit
set_option linter.unusedVariables false

abbrev oldB (B : Nat) : Nat → Prop := fun b => b < B

def T : Tab := (89, ⟨true, [(0, 51), (1, 3), (2, 3)], .invalid, 3, 40, .agg #[.slice none 0 0, .int .i64 0, .int .i64 0]⟩) :: Go.Proofs.Ytpaccpajkndlhaa.T

theorem ties : Ties Try.prog T := by
  unfold T
  refine ties_cons ?_ ?_ Go.Proofs.Ytpaccpajkndlhaa.ties
  all_goals kernel_rfl

def eU : Rep Int := Rep.flat (fun x => [.int .u8 x]) 1 (fun _ => rfl) (fun _ => rfl) (by decide)
/-- A cursor. -/
structure Cur (C : Nat) (w : World) (l : List Int) : Prop where
  ex : ∃ cs i h, CellsAt w C 0 [cs, .int .i64 i, .int .i64 h] ∧ SlR eU (oldB C) w cs l ∧ 0 ≤ i ∧ i ≤ l.length
  room : Rmy w C 3

theorem Cur.chg {C : Nat} {S : Nat → Prop} {w w' : World} {l : List Int} (hS : ∀ b, b ≤ C → ¬ S b) (hc : Chg S w w') (h : Cur C w l) : Cur C w' l := by
  obtain ⟨⟨cs, i, hh, h1, h2, h3⟩, h4⟩ := h
  exact ⟨⟨cs, i, hh, hc.cells (hS C (Nat.le_refl _)) h1, h2.chg (fun b hb => hS b (by unfold oldB at hb; omega)) hc, h3⟩, hc.rmy (hS C (Nat.le_refl _)) h4⟩

theorem Cur.ext {C : Nat} {w w' : World} {l : List Int} (hx : Ext w w') (h : Cur C w l) : Cur C w' l := h.chg (S := fun _ => False) (fun _ _ h => h) (.of hx)
/-- A draw changes the cursor alone. -/
def Drw (C : Nat) (l : List Int) (W : World) (w' : World) : Prop := Chg (fun b => b = C) W w' ∧ Cur C w' l

set_option maxRecDepth 200000 in
set_option maxHeartbeats 1000000 in
theorem new_ret (l : List Int) (s : Value) (W : World) (hs : SlR eU allB W s l) : Ret Try.prog 64 #[s] W (fun v w' => Ext W w' ∧ ∃ C, v = .pointer (some ⟨C, 0, none⟩) ∧ W.heap.size ≤ C ∧ Cur C w' l) := by
  have hlm : (maxLen : Int) ≤ 9223372036854775807 := by decide
  obtain ⟨a, c, rfl, hlc, hcm, hat⟩ := id hs
  have hsO : SlR eU (oldB W.heap.size) W (.slice a l.length c) l := hs.lt.mono fun b hb => hb.2
  refine ret_of_vc ties mixed Try.func64 rfl (by kernel_rfl) rfl rfl ?_
  refine any_eq fun h0 => ?_
  refine loop_rule (σ := Nat × Int) [3, 4] 8 28 (fun q => [.int .i64 q.2, .int .i64 q.1]) (fun q w' => W = w' ∧ q.1 ≤ l.length) (fun q => l.length - q.1) (0, h0) rfl ⟨rfl, Nat.zero_le _⟩ ?_
  rintro ⟨k, h⟩ w junk ⟨hw, hk⟩ K hK
  subst hw
  simp only at hk
  show vc _ _ _ _ (over [3, 4] [.int .i64 h, .int .i64 k] _) _
  refine br_dec (fun h3 => ?_) (fun h3 => ?_)
  · refine br_dec (fun h4 => ?_) (fun h4 => ?_)
    · have hkl : k < l.length := by omega
      obtain ⟨b, o, c1, cs1, he, -, hcell, hcs⟩ := hs.at hkl
      cases he
      cases hcs
      refine any_eq fun c1 => ⟨⟨by omega, by omega⟩, _, hcell.1, any_eq fun c2 => any_eq fun c3 => any_eq fun c4 => any_eq fun c5 => ⟨_, IntWalk.i64_in _ (by omega), ?_⟩⟩
      refine hK (k + 1, c5) _ _ (vs2 rfl (vint (by show (k : Int) + 1 = ((k + 1 : Nat) : Int); omega))) ⟨rfl, by show k + 1 ≤ _; omega⟩ (by show l.length - (k + 1) < l.length - k; omega) ?_
      ((repeat (first | (with_reducible exact Only.refl) | (with_reducible refine Only.skip ?_) | ((with_reducible refine Only.upd ?_ ?_); rfl) | ((with_reducible refine Only.over ?_ ?_ _); rfl) | ((with_reducible refine Only.hav ?_ ?_ ?_); rfl; rfl))))
    · have hb := boxedAll W [.slice a l.length c, .int .i64 0, .int .i64 h] 89
      exact ⟨Ext.new _ _, W.heap.size, rfl, Nat.le_refl _, ⟨⟨_, 0, h, hb, hsO.ext (Ext.new _ _), by omega, by omega⟩, Rmy.new W [.slice a l.length c, .int .i64 0, .int .i64 h] _⟩⟩
  · have hb := boxedAll W [.slice a l.length c, .int .i64 0, .int .i64 h] 89
    exact ⟨Ext.new _ _, W.heap.size, rfl, Nat.le_refl _, ⟨⟨_, 0, h, hb, hsO.ext (Ext.new _ _), by omega, by omega⟩, Rmy.new W [.slice a l.length c, .int .i64 0, .int .i64 h] _⟩⟩

/-- A cell of the cursor is written. -/

theorem Cur.set {C : Nat} {w : World} {l : List Int} {cs : Value} {i h i' h' : Int} {o : Nat} {u : Value} (hc : CellsAt w C 0 [cs, .int .i64 i, .int .i64 h]) (hs : SlR eU (oldB C) w cs l) (hr : Rmy w C 3) (hi : 0 ≤ i' ∧ i' ≤ l.length) (ho : o = 1 ∧ u = .int .i64 i' ∧ h' = h ∨ o = 2 ∧ u = .int .i64 h' ∧ i' = i) :
    CellsAt (w.setCell ⟨C, 0 + o, none⟩ u) C 0 [cs, .int .i64 i', .int .i64 h'] ∧ SlR eU (oldB C) (w.setCell ⟨C, 0 + o, none⟩ u) cs l ∧ Rmy (w.setCell ⟨C, 0 + o, none⟩ u) C 3 ∧ Chg (fun b => b = C) w (w.setCell ⟨C, 0 + o, none⟩ u) := by
  have hch : Chg (fun b => b = C) w (w.setCell ⟨C, 0 + o, none⟩ u) := Chg.setCell (S := fun b => b = C) _ rfl _
  refine ⟨?_, hs.chg (S := fun b => b = C) (fun b hb e => by unfold oldB at hb; omega) hch, hr.setCell, hch⟩
  rcases ho with ⟨rfl, rfl, rfl⟩ | ⟨rfl, rfl, rfl⟩
  · exact ⟨(World.cell?_setCell_other _ _ _ _ (by simp)).trans hc.1, World.cell?_setCell_same _ _ _ hc.2.1, (World.cell?_setCell_other _ _ _ _ (by simp)).trans hc.2.2.1, trivial⟩
  · exact ⟨(World.cell?_setCell_other _ _ _ _ (by simp)).trans hc.1, (World.cell?_setCell_other _ _ _ _ (by simp)).trans hc.2.1, World.cell?_setCell_same _ _ _ hc.2.2.1, trivial⟩

set_option maxRecDepth 200000 in
set_option maxHeartbeats 1000000 in
theorem byte_ret (C : Nat) (l : List Int) (W : World) (hC : Cur C W l) : Ret Try.prog 56 #[.pointer (some ⟨C, 0, none⟩)] W (fun v w' => (∃ x, v = .int .i64 x ∧ 0 ≤ x ∧ x ≤ 255) ∧ Drw C l W w') := by
  have hlm : (maxLen : Int) ≤ 9223372036854775807 := by decide
  obtain ⟨⟨cs, i, h, hc, hs, hi⟩, hr⟩ := hC
  obtain ⟨a, cp, rfl, hlc, hcm, hat⟩ := id hs
  obtain ⟨k, rfl⟩ : ∃ k : Nat, i = k := ⟨i.toNat, by omega⟩
  refine ret_of_vc ties mixed Try.func56 rfl (by kernel_rfl) rfl rfl ?_
  refine ⟨_, hc.2.2.1, any_eq fun c1 => any_eq fun c2 => ⟨hr 2 (by decide), ?_⟩⟩
  obtain ⟨hc1, hs1, hr1, hch1⟩ := Cur.set (i' := (k : Int)) (h' := c2) (o := 2) (u := .int .i64 c2) hc hs hr hi (.inr ⟨rfl, rfl, rfl⟩)
  refine .inl ⟨by kernel_rfl, _, hc1.2.2.1, ⟨by decide, any_eq fun c3 => ⟨_, hc1.2.2.1, ⟨by decide, any_eq fun c4 => any_eq fun c5 => any_mask (by decide) (by decide) fun x hx0 hx1 => ?_⟩⟩⟩⟩
  intro w2 x2
  have hc2 := hc1.ext x2
  have hs2 := hs1.ext x2
  have hr2 := hr1.ext x2
  have hch2 := hch1.trans (.of x2)
  refine .inl ⟨by kernel_rfl, _, hc2.2.1, _, hc2.1, ?_⟩
  intro w3 x3
  have hc3 := hc2.ext x3
  have hs3 := hs2.ext x3
  have hr3 := hr2.ext x3
  have hch3 := hch2.trans (.of x3)
  refine br_dec (fun h4 => ?_) (fun h4 => ?_)
  · have hkl : k < l.length := by omega
    obtain ⟨b, o, c9, cs9, he, -, hcell, hcs⟩ := hs3.at hkl
    cases he
    cases hcs
    refine .inl ⟨by kernel_rfl, _, hc3.1, _, hc3.2.1, ⟨by omega, by omega⟩, _, hcell.1, any_eq fun c6 => any_eq fun c7 => any_mask (by decide) (by decide) fun y hy0 hy1 => ?_⟩
    intro w4 x4
    have hc4 := hc3.ext x4
    have hs4 := hs3.ext x4
    have hr4 := hr3.ext x4
    obtain ⟨hc5, hs5, hr5, hch5⟩ := Cur.set (i' := (k : Int) + 1) (h' := c2) (o := 1) (u := .int .i64 ((k : Int) + 1)) hc4 hs4 hr4 (by omega) (.inl ⟨rfl, rfl, rfl⟩)
    refine ⟨_, hc4.2.1, _, IntWalk.i64_in _ (by omega), hr4 1 (by decide), ?_⟩
    exact ⟨⟨y, rfl, hy0, hy1⟩, (hch3.trans (.of x4)).trans hch5, ⟨_, _, _, hc5, hs5, by omega, by omega⟩, hr5⟩
  · exact ⟨⟨x, rfl, hx0, hx1⟩, hch3, ⟨_, _, _, hc3, hs3, by omega, by omega⟩, hr3⟩

set_option maxRecDepth 200000 in
set_option maxHeartbeats 1000000 in
theorem at_ret (l : List Int) (n : Int) (hn : 0 ≤ n ∧ n ≤ 1000000) (s : Value) (W : World) (hs : SlR eU allB W s l) : Ret Try.prog 55 #[s, .int .i64 n] W (fun v w' => Ext W w' ∧ ∃ C, v = .pointer (some ⟨C, 0, none⟩) ∧ W.heap.size ≤ C ∧ C < w'.heap.size ∧ Cur C w' l) := by
  have hlm : (maxLen : Int) ≤ 9223372036854775807 := by decide
  obtain ⟨a, cp, rfl, hlc, hcm, hat⟩ := id hs
  refine ret_of_vc ties mixed Try.func55 rfl (by kernel_rfl) rfl rfl ?_
  refine Or.inl ((new_ret l _ W hs).mono ?_)
  rintro _ w2 ⟨x2, C, rfl, hCW, ⟨cs, i, h, hc, hsl, hi⟩, hr⟩
  have hmn : 0 ≤ (if (l.length : Int) < n then (l.length : Int) else n) ∧ (if (l.length : Int) < n then (l.length : Int) else n) ≤ (l.length : Int) := by split <;> omega
  refine ⟨hr 1 (by decide), ?_⟩
  obtain ⟨hc1, hs1, hr1, hch1⟩ := Cur.set (i' := if (l.length : Int) < n then (l.length : Int) else n) (h' := h) (o := 1) (u := .int .i64 (if (l.length : Int) < n then (l.length : Int) else n)) hc hsl hr hmn (.inl ⟨rfl, rfl, rfl⟩)
  refine ⟨_, hc1.2.2.1, any_eq fun c1 => any_eq fun c2 => any_eq fun c3 => any_eq fun c4 => any_eq fun c5 => ⟨hr1 2 (by decide), ?_⟩⟩
  obtain ⟨hc3, hs3, hr3, hch3⟩ := Cur.set (i' := if (l.length : Int) < n then (l.length : Int) else n) (h' := c5) (o := 2) (u := .int .i64 c5) hc1 hs1 hr1 hmn (.inr ⟨rfl, rfl, rfl⟩)
  refine ⟨(x2.chg hch1 fun b hb => by rw [hb]; exact hCW).chg hch3 fun b hb => by rw [hb]; exact hCW, C, rfl, hCW, World.block_lt_of_cell? _ _ hc3.1, ⟨⟨_, _, _, hc3, hs3, hmn⟩, hr3⟩⟩

set_option maxRecDepth 200000 in
theorem num_ret (l : List Int) (m : Int) (hm : 0 ≤ m ∧ m ≤ 1000000) (s : Value) (W : World) (hs : SlR eU allB W s l) : Ret Try.prog 32 #[s, .int .i64 m] W (fun v w' => (∃ x, v = .int .i64 x ∧ 0 ≤ x ∧ x ≤ 65535) ∧ Ext W w') := by
  refine ret_of_vc ties mixed Try.func32 rfl (by kernel_rfl) rfl rfl ?_
  refine Or.inl ((at_ret l m hm s _ hs).mono ?_)
  rintro _ w2 ⟨x2, C, rfl, hCW, hC2, hcu⟩
  refine Or.inl ((byte_ret C l w2 hcu).mono ?_)
  rintro _ w3 ⟨⟨x, rfl, hx0, hx1⟩, hch3, hcu3⟩
  refine ⟨_, IntWalk.i64_in _ (by omega), ?_⟩
  refine Or.inl ((byte_ret C l w3 hcu3).mono ?_)
  rintro _ w4 ⟨⟨y, rfl, hy0, hy1⟩, hch4, hcu4⟩
  refine ⟨_, IntWalk.i64_in _ (by omega), ?_⟩
  exact ⟨⟨_, rfl, by omega, by omega⟩, (x2.chg hch3 fun b hb => by omega).chg hch4 fun b hb => by omega⟩

set_option maxRecDepth 200000 in
theorem size_ret (l : List Int) (m lo hi : Int) (hm : 0 ≤ m ∧ m ≤ 1000000) (hlo : 0 ≤ lo ∧ lo ≤ hi ∧ hi ≤ 1000) (s : Value) (W : World) (hs : SlR eU allB W s l) : Ret Try.prog 30 #[s, .int .i64 m, .int .i64 lo, .int .i64 hi] W (fun v w' => (∃ x, v = .int .i64 x ∧ lo ≤ x ∧ x ≤ hi) ∧ Ext W w') := by
  refine ret_of_vc ties mixed Try.func30 rfl (by kernel_rfl) rfl rfl ?_
  refine Or.inl ((num_ret l m hm s _ hs).mono ?_)
  rintro _ w2 ⟨⟨x, rfl, hx0, hx1⟩, x2⟩
  have hr : x.tmod (hi - lo + 1) = x % (hi - lo + 1) := Int.tmod_eq_emod_of_nonneg hx0
  have h1 : 0 ≤ x % (hi - lo + 1) := Int.emod_nonneg _ (by omega)
  have h2 : x % (hi - lo + 1) < hi - lo + 1 := Int.emod_lt_of_pos _ (by omega)
  refine ⟨_, IntWalk.i64_in _ (by omega), _, IntWalk.i64_in _ (by omega), by omega, _, rfl, ?_⟩
  refine ⟨_, IntWalk.i64_in _ (by omega), ?_⟩
  exact ⟨⟨_, rfl, by omega, by omega⟩, x2⟩

section
variable {H : Type} {enc : TypeId × Value → H} {W : World}

theorem node_byte (n : Nat) (cs : List Value) (y : DataW H × List MemPlace) (h : DataW.trod enc Try.prog W 0 (fun _ => true) true n 5 cs = some y) : ∃ x, eU.R (fun _ => True) W x cs ∧ True := by
  obtain ⟨v, hv, _, hw⟩ := DataW.trod_int Try.underlying5 h
  exact ⟨v, hv, trivial⟩
set_option maxRecDepth 100000 in
theorem open_Bytes {r : Reach} {b0 : Nat} {v : Value} {d : DataW H} {ps : List MemPlace} (hval : Value.okWide Try.prog W r b0 51 v)
    (hd : DataW.Trod enc Try.prog W 0 (fun _ => true) true 51 v d ps) : ∃ l, SlR eU allB W v l := by
  obtain ⟨a, len, cap, rfl⟩ := Go.WideShapes.okWide_slice Try.underlying51 hval
  obtain ⟨fuel, h⟩ := hd
  obtain ⟨s, l, h1, h2, h3⟩ := slR_of eU Try.underlying51 (by kernel_rfl) (fun n cs y h => node_byte n cs y h) h
  have h1 : [Value.slice a len cap] = [s] := h1
  cases h1
  exact ⟨l, h2⟩
end

end Go.Proofs.Ytpaccpajkndlhaa.Dr
