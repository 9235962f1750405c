/- Draws: the cursor over a row of bytes; contracts of l01New, l11At, l01Byte, l01Below, l01Once (only ranges matter). Draws: contract of l03Row (a clause of n variables). -/
import Derived.Test.YtfmflffggcphjaaIm
import Derived.Test.YtfmflffggcphjaaVj
namespace Go.Vc
open Go Go.RowKit
theorem and_mask {a m : Int} (h0 : 0 ≤ m) (h1 : m ≤ 4611686018427387904) : 0 ≤ bitsI .and .i64 a m ∧ bitsI .and .i64 a m ≤ m := by
  have hm : (BitVec.ofInt IntKind.i64.bits m).toNat = m.toNat := by
    rw [BitVec.toNat_ofInt]
    show (m % ((2 ^ 64 : Nat) : Int)).toNat = m.toNat
    omega
  have hle : ((BitVec.ofInt IntKind.i64.bits a) &&& (BitVec.ofInt IntKind.i64.bits m)).toNat ≤ m.toNat := by
    rw [BitVec.toNat_and, hm]
    exact Nat.and_le_right
  unfold bitsI
  simp only
  rw [IntWalk.i64_in _ (by omega)]
  omega
theorem any_eq {α : Type} {a : α} {K : α → Prop} (h : ∀ c, K c) : ∃ c, a = c ∧ K c := ⟨_, rfl, h _⟩
theorem any_mask {a m : Int} {K : Int → Prop} (h0 : 0 ≤ m) (h1 : m ≤ 4611686018427387904) (h : ∀ c, 0 ≤ c → c ≤ m → K c) : ∃ c, bitsI .and .i64 a m = c ∧ K c := ⟨_, rfl, h _ (and_mask h0 h1).1 (and_mask h0 h1).2⟩
end Go.Vc
namespace Go.Proofs.Ytfmflffggcphjaa.Dr
open Go Go.Vc Go.RowKit Go.Sat
set_option linter.unusedVariables false

def T : Tab := (122, ⟨true, [(0, 22), (1, 3), (2, 3)], .invalid, 3, 40, .agg #[.slice none 0 0, .int .i64 0, .int .i64 0]⟩) :: Go.Proofs.Ytfmflffggcphjaa.T
theorem ties : Ties Try.prog T := by
  unfold T
  refine ties_cons ?_ ?_ Go.Proofs.Ytfmflffggcphjaa.ties
  all_goals kernel_rfl

def eU : Rep Int := Rep.flat (fun x => [.int .u8 x]) 1 (fun _ => rfl) (fun _ => rfl) (by decide)
/-- A cursor. -/
structure Cur (C : Nat) (w : World) (l : List Int) : Prop where
  ex : ∃ cs i h, CellsAt w C 0 [cs, .int .i64 i, .int .i64 h] ∧ SlR eU (oldB C) w cs l ∧ 0 ≤ i ∧ i ≤ l.length
  room : Rmy w C 3
theorem Cur.chg {C : Nat} {S : Nat → Prop} {w w' : World} {l : List Int} (hS : ∀ b, b ≤ C → ¬ S b) (hc : Chg S w w') (h : Cur C w l) : Cur C w' l := by
  obtain ⟨⟨cs, i, hh, h1, h2, h3⟩, h4⟩ := h
  exact ⟨⟨cs, i, hh, hc.cells (hS C (Nat.le_refl _)) h1, h2.chg (fun b hb => hS b (by unfold oldB at hb; omega)) hc, h3⟩, hc.rmy (hS C (Nat.le_refl _)) h4⟩
theorem Cur.ext {C : Nat} {w w' : World} {l : List Int} (hx : Ext w w') (h : Cur C w l) : Cur C w' l := h.chg (S := fun _ => False) (fun _ _ h => h) (.of hx)
/-- A draw changes the cursor alone. -/
def Drw (C : Nat) (l : List Int) (W : World) (w' : World) : Prop := Chg (fun b => b = C) W w' ∧ Cur C w' l

set_option maxRecDepth 200000 in
set_option maxHeartbeats 1000000 in
theorem new_ret (l : List Int) (s : Value) (W : World) (hs : SlR eU allB W s l) : Ret Try.prog 111 #[s] W (fun v w' => Ext W w' ∧ ∃ C, v = .pointer (some ⟨C, 0, none⟩) ∧ W.heap.size ≤ C ∧ Cur C w' l) := by
  have hlm : (maxLen : Int) ≤ 9223372036854775807 := by decide
  obtain ⟨a, c, rfl, hlc, hcm, hat⟩ := id hs
  have hsO : SlR eU (oldB W.heap.size) W (.slice a l.length c) l := hs.lt.mono fun b hb => hb.2
  refine ret_of_vc ties mixed Try.func111 rfl (by kernel_rfl) rfl rfl ?_
  refine any_eq fun h0 => ?_
  refine loop_rule (σ := Nat × Int) [3, 4] 8 28 (fun q => [.int .i64 q.2, .int .i64 q.1]) (fun q w' => W = w' ∧ q.1 ≤ l.length) (fun q => l.length - q.1) (0, h0) rfl ⟨rfl, Nat.zero_le _⟩ ?_
  rintro ⟨k, h⟩ w junk ⟨hw, hk⟩ K hK
  subst hw
  simp only at hk
  show vc _ _ _ _ (over [3, 4] [.int .i64 h, .int .i64 k] _) _
  refine br_dec (fun h3 => ?_) (fun h3 => ?_)
  · refine br_dec (fun h4 => ?_) (fun h4 => ?_)
    · have hkl : k < l.length := by omega
      obtain ⟨b, o, c1, cs1, he, -, hcell, hcs⟩ := hs.at hkl
      cases he
      cases hcs
      refine any_eq fun c1 => ⟨⟨by omega, by omega⟩, _, hcell.1, any_eq fun c2 => any_eq fun c3 => any_eq fun c4 => any_eq fun c5 => ⟨_, IntWalk.i64_in _ (by omega), ?_⟩⟩
      refine hK (k + 1, c5) _ _ (vs2 rfl (vint (by show (k : Int) + 1 = ((k + 1 : Nat) : Int); omega))) ⟨rfl, by show k + 1 ≤ _; omega⟩ (by show l.length - (k + 1) < l.length - k; omega) ?_
      ((repeat (first | (with_reducible exact Only.refl) | (with_reducible refine Only.skip ?_) | ((with_reducible refine Only.upd ?_ ?_); rfl) | ((with_reducible refine Only.over ?_ ?_ _); rfl) | ((with_reducible refine Only.hav ?_ ?_ ?_); rfl; rfl))))
    · have hb := boxedAll W [.slice a l.length c, .int .i64 0, .int .i64 h] 122
      exact ⟨Ext.new _ _, W.heap.size, rfl, Nat.le_refl _, ⟨⟨_, 0, h, hb, hsO.ext (Ext.new _ _), by omega, by omega⟩, Rmy.new W [.slice a l.length c, .int .i64 0, .int .i64 h] _⟩⟩
  · have hb := boxedAll W [.slice a l.length c, .int .i64 0, .int .i64 h] 122
    exact ⟨Ext.new _ _, W.heap.size, rfl, Nat.le_refl _, ⟨⟨_, 0, h, hb, hsO.ext (Ext.new _ _), by omega, by omega⟩, Rmy.new W [.slice a l.length c, .int .i64 0, .int .i64 h] _⟩⟩

/-- A cell of the cursor is written. -/
theorem Cur.set {C : Nat} {w : World} {l : List Int} {cs : Value} {i h i' h' : Int} {o : Nat} {u : Value} (hc : CellsAt w C 0 [cs, .int .i64 i, .int .i64 h]) (hs : SlR eU (oldB C) w cs l) (hr : Rmy w C 3) (hi : 0 ≤ i' ∧ i' ≤ l.length) (ho : o = 1 ∧ u = .int .i64 i' ∧ h' = h ∨ o = 2 ∧ u = .int .i64 h' ∧ i' = i) :
    CellsAt (w.setCell ⟨C, 0 + o, none⟩ u) C 0 [cs, .int .i64 i', .int .i64 h'] ∧ SlR eU (oldB C) (w.setCell ⟨C, 0 + o, none⟩ u) cs l ∧ Rmy (w.setCell ⟨C, 0 + o, none⟩ u) C 3 ∧ Chg (fun b => b = C) w (w.setCell ⟨C, 0 + o, none⟩ u) := by
  have hch : Chg (fun b => b = C) w (w.setCell ⟨C, 0 + o, none⟩ u) := Chg.setCell (S := fun b => b = C) _ rfl _
  refine ⟨?_, hs.chg (S := fun b => b = C) (fun b hb e => by unfold oldB at hb; omega) hch, hr.setCell, hch⟩
  rcases ho with ⟨rfl, rfl, rfl⟩ | ⟨rfl, rfl, rfl⟩
  · exact ⟨(World.cell?_setCell_other _ _ _ _ (by simp)).trans hc.1, World.cell?_setCell_same _ _ _ hc.2.1, (World.cell?_setCell_other _ _ _ _ (by simp)).trans hc.2.2.1, trivial⟩
  · exact ⟨(World.cell?_setCell_other _ _ _ _ (by simp)).trans hc.1, (World.cell?_setCell_other _ _ _ _ (by simp)).trans hc.2.1, World.cell?_setCell_same _ _ _ hc.2.2.1, trivial⟩

set_option maxRecDepth 200000 in
set_option maxHeartbeats 1000000 in
theorem byte_ret (C : Nat) (l : List Int) (W : World) (hC : Cur C W l) : Ret Try.prog 123 #[.pointer (some ⟨C, 0, none⟩)] W (fun v w' => (∃ x, v = .int .i64 x ∧ 0 ≤ x ∧ x ≤ 255) ∧ Drw C l W w') := by
  have hlm : (maxLen : Int) ≤ 9223372036854775807 := by decide
  obtain ⟨⟨cs, i, h, hc, hs, hi⟩, hr⟩ := hC
  obtain ⟨a, cp, rfl, hlc, hcm, hat⟩ := id hs
  obtain ⟨k, rfl⟩ : ∃ k : Nat, i = k := ⟨i.toNat, by omega⟩
  refine ret_of_vc ties mixed Try.func123 rfl (by kernel_rfl) rfl rfl ?_
  refine ⟨_, hc.2.2.1, any_eq fun c1 => any_eq fun c2 => ⟨hr 2 (by decide), ?_⟩⟩
  obtain ⟨hc1, hs1, hr1, hch1⟩ := Cur.set (i' := (k : Int)) (h' := c2) (o := 2) (u := .int .i64 c2) hc hs hr hi (.inr ⟨rfl, rfl, rfl⟩)
  refine .inl ⟨by kernel_rfl, _, hc1.2.2.1, ⟨by decide, any_eq fun c3 => ⟨_, hc1.2.2.1, ⟨by decide, any_eq fun c4 => any_eq fun c5 => any_mask (by decide) (by decide) fun x hx0 hx1 => ?_⟩⟩⟩⟩
  intro w2 x2
  have hc2 := hc1.ext x2
  have hs2 := hs1.ext x2
  have hr2 := hr1.ext x2
  have hch2 := hch1.trans (.of x2)
  refine .inl ⟨by kernel_rfl, _, hc2.2.1, _, hc2.1, ?_⟩
  intro w3 x3
  have hc3 := hc2.ext x3
  have hs3 := hs2.ext x3
  have hr3 := hr2.ext x3
  have hch3 := hch2.trans (.of x3)
  refine br_dec (fun h4 => ?_) (fun h4 => ?_)
  · have hkl : k < l.length := by omega
    obtain ⟨b, o, c9, cs9, he, -, hcell, hcs⟩ := hs3.at hkl
    cases he
    cases hcs
    refine .inl ⟨by kernel_rfl, _, hc3.1, _, hc3.2.1, ⟨by omega, by omega⟩, _, hcell.1, any_eq fun c6 => any_eq fun c7 => any_mask (by decide) (by decide) fun y hy0 hy1 => ?_⟩
    intro w4 x4
    have hc4 := hc3.ext x4
    have hs4 := hs3.ext x4
    have hr4 := hr3.ext x4
    obtain ⟨hc5, hs5, hr5, hch5⟩ := Cur.set (i' := (k : Int) + 1) (h' := c2) (o := 1) (u := .int .i64 ((k : Int) + 1)) hc4 hs4 hr4 (by omega) (.inl ⟨rfl, rfl, rfl⟩)
    refine ⟨_, hc4.2.1, _, IntWalk.i64_in _ (by omega), hr4 1 (by decide), ?_⟩
    exact ⟨⟨y, rfl, hy0, hy1⟩, (hch3.trans (.of x4)).trans hch5, ⟨_, _, _, hc5, hs5, by omega, by omega⟩, hr5⟩
  · exact ⟨⟨x, rfl, hx0, hx1⟩, hch3, ⟨_, _, _, hc3, hs3, by omega, by omega⟩, hr3⟩
theorem below_ret (C : Nat) (l : List Int) (n : Int) (W : World) (hC : Cur C W l) : Ret Try.prog 92 #[.pointer (some ⟨C, 0, none⟩), .int .i64 n] W (fun v w' => (∃ x, v = .int .i64 x ∧ 0 ≤ x ∧ x ≤ 255 ∧ (1 ≤ n → x < n)) ∧ Drw C l W w') := by
  refine ret_of_vc ties mixed Try.func92 rfl (by kernel_rfl) rfl rfl ?_
  refine br_dec (fun h => ?_) (fun h => ?_)
  · exact ⟨⟨0, rfl, by omega, by omega, fun h' => by omega⟩, Chg.refl _ _, hC⟩
  · refine Or.inl ((byte_ret C l W hC).mono ?_)
    rintro _ w2 ⟨⟨x, rfl, hx0, hx1⟩, hd⟩
    have hm : x.tmod n = x % n := Int.tmod_eq_emod_of_nonneg hx0
    have h1 : 0 ≤ x % n := Int.emod_nonneg _ (by omega)
    have h2 : x % n < n := Int.emod_lt_of_pos _ (by omega)
    have h3 : x % n ≤ x := by
      by_cases hlt : x < n
      · rw [Int.emod_eq_of_lt hx0 hlt]; exact Int.le_refl _
      · exact Int.le_trans (Int.le_of_lt h2) (by omega)
    refine ⟨by omega, x.tmod n, rfl, ?_⟩
    exact ⟨⟨x.tmod n, rfl, by rw [hm]; exact h1, by rw [hm]; exact Int.le_trans h3 hx1, fun _ => by rw [hm]; exact h2⟩, hd⟩
theorem once_ret (C : Nat) (l : List Int) (n : Int) (W : World) (hC : Cur C W l) : Ret Try.prog 70 #[.pointer (some ⟨C, 0, none⟩), .int .i64 n] W (fun v w' => (∃ b, v = .bool b) ∧ Drw C l W w') := by
  refine ret_of_vc ties mixed Try.func70 rfl (by kernel_rfl) rfl rfl ?_
  refine Or.inl ((below_ret C l n W hC).mono ?_)
  rintro _ w2 ⟨⟨x, rfl, _⟩, hd⟩
  exact ⟨⟨_, rfl⟩, hd⟩

end Go.Proofs.Ytfmflffggcphjaa.Dr
namespace Go.Sat
open Go.Vc
theorem clFrom_snoc {n y : Int} : ∀ {l : List Int} {last : Int}, clFrom n last l = true → last < av y → (∀ x ∈ l, av x < av y) → -n ≤ y ∧ y ≤ n → clFrom n last (l ++ [y]) = true := by
  intro l
  induction l with
  | nil => intro last _ h _ hy; simp only [List.nil_append, clFrom, Bool.and_true, decide_eq_true_eq]; omega
  | cons x t ih =>
    intro last h hl hx hy
    simp only [List.cons_append, clFrom, Bool.and_eq_true, decide_eq_true_eq] at h ⊢
    exact ⟨h.1, ih h.2 (hx x (List.mem_cons_self ..)) (fun z hz => hx z (List.mem_cons_of_mem _ hz)) hy⟩
/-- A clause of the variables below v. -/
def upto (n v : Int) (c : List Int) : Prop := clOk n c = true ∧ ∀ x ∈ c, av x < v
theorem upto_nil (n v : Int) : upto n v [] := ⟨rfl, fun x hx => (by cases hx)⟩
theorem upto_next {n v : Int} {c : List Int} (h : upto n v c) : upto n (v + 1) c := ⟨h.1, fun x hx => by have := h.2 x hx; omega⟩
theorem upto_snoc {n v y : Int} {c : List Int} (h : upto n v c) (hv : 1 ≤ v ∧ v ≤ n) (hy : y = v ∨ y = -v) : upto n (v + 1) (c ++ [y]) := by
  have ha : av y = v := by unfold av; omega
  refine ⟨clFrom_snoc h.1 (by omega) (fun x hx => by rw [ha]; exact h.2 x hx) (by omega), fun x hx => ?_⟩
  rcases List.mem_append.1 hx with hx | hx
  · have := h.2 x hx; omega
  · rw [List.mem_singleton.1 hx]; omega
end Go.Sat
namespace Go.Proofs.Ytfmflffggcphjaa.Dr
open Go Go.Vc Go.RowKit Go.Sat
set_option linter.unusedVariables false

set_option maxRecDepth 200000 in
set_option maxHeartbeats 2000000 in
theorem row_ret (C : Nat) (l : List Int) (n : Nat) (hn : n ≤ 400) (W : World) (hC : Cur C W l) (hCW : C < W.heap.size) : Ret Try.prog 112 #[.pointer (some ⟨C, 0, none⟩), .int .i64 n] W (fun s w' => (∃ c, OwnR eI noB w' s c ∧ clOk n c = true ∧ ∀ b, blk s b → W.heap.size ≤ b) ∧ Drw C l W w') := by
  have hlm : (maxLen : Int) ≤ 9223372036854775807 := by decide
  refine ret_of_vc ties mixed Try.func112 rfl (by kernel_rfl) rfl rfl ?_
  have x1 : Ext W (W.alloc (.cells #[] 3)) := Ext.new _ _
  refine loop_rule (σ := Nat × List Int × Value) [5, 6] 7 30 (fun q => [q.2.2, .int .i64 (q.1 + 1 : Nat)])
    (fun q w' => Chg (fun b => b = C) W w' ∧ Cur C w' l ∧ q.1 ≤ n ∧ OwnR eI noB w' q.2.2 q.2.1 ∧ upto n ((q.1 + 1 : Nat) : Int) q.2.1 ∧ ∀ b, blk q.2.2 b → W.heap.size ≤ b)
    (fun q => n - q.1) (0, [], .slice (some ⟨W.heap.size, 0, none⟩) 0 0) rfl ⟨.of x1, hC.ext x1, Nat.zero_le _, OwnR.nil _ _ _ _, upto_nil _ _, fun b hb => by cases hb; exact Nat.le_refl _⟩ ?_
  rintro ⟨k, c, ov⟩ w junk ⟨hch, hcu, hk, ho, hup, hob⟩ K hK
  simp only at hcu hk ho hup hob
  show vc _ _ _ _ (over [5, 6] [ov, .int .i64 (k + 1 : Nat)] _) _
  refine br_dec (fun h3 => ?_) (fun h3 => ?_)
  · have hkn : k < n := by omega
    refine ⟨_, IntWalk.i64_in _ (by omega), ?_⟩
    refine Or.inl ((below_ret C l _ w hcu).mono ?_)
    rintro _ w2 ⟨⟨x, rfl, hx0, hx1, -⟩, hch2, hcu2⟩
    have ho2 : OwnR eI noB w2 ov c := ho.chg (fun _ h => h.elim) (fun b hb e => by have := hob b hb; omega) hch2
    have hcl := cl_len hup.1
    have hchW := hch.trans hch2
    have hz := hchW.size
    have e1 : (((k + 1 : Nat) : Int) + 1) = ((k + 1 + 1 : Nat) : Int) := by omega
    refine br_dec (fun h4 => ?_) (fun h4 => ?_)
    · refine raw_push (E := eI) (ok := noB) (x := ((k + 1 : Nat) : Int)) ties rfl rfl rfl rfl rfl rfl rfl rfl rfl rfl rfl ho2 rfl noB_blk (by show (c.length + 1) * 8 ≤ _; omega) (by omega) ?_
      intro v8 w8 hv8 hch8 hsz8 hvb8
      refine ⟨_, IntWalk.i64_in _ (by omega), ?_⟩
      refine hK (k + 1, c ++ [((k + 1 : Nat) : Int)], v8) _ _ (vs2 rfl (vint e1)) ⟨hchW.fresh hch8 (fun b hb => .inl (hob b hb)), hcu2.chg (S := blk ov) (fun b hb e => by have := hob b e; omega) hch8, by show k + 1 ≤ n; omega, hv8, by show upto n ((k + 1 + 1 : Nat) : Int) _; rw [← e1]; exact upto_snoc hup (by omega) (.inl rfl), fun b hb => ?_⟩ (by show n - (k + 1) < n - k; omega) ?_
      · rcases hvb8 b hb with h | h
        · exact hob b h
        · omega
      · ((repeat (first | (with_reducible exact Only.refl) | (with_reducible refine Only.skip ?_) | ((with_reducible refine Only.upd ?_ ?_); rfl) | ((with_reducible refine Only.over ?_ ?_ _); rfl) | ((with_reducible refine Only.hav ?_ ?_ ?_); rfl; rfl))))
    refine br_dec (fun h5 => ?_) (fun h5 => ?_)
    · refine ⟨-((k + 1 : Nat) : Int), (congrArg _ (Int.zero_sub _)).trans (IntWalk.i64_in _ (by omega)), ?_⟩
      refine raw_push (E := eI) (ok := noB) (x := -((k + 1 : Nat) : Int)) ties rfl rfl rfl rfl rfl rfl rfl rfl rfl rfl rfl ho2 rfl noB_blk (by show (c.length + 1) * 8 ≤ _; omega) (by omega) ?_
      intro v8 w8 hv8 hch8 hsz8 hvb8
      refine ⟨_, IntWalk.i64_in _ (by omega), ?_⟩
      refine hK (k + 1, c ++ [-((k + 1 : Nat) : Int)], v8) _ _ (vs2 rfl (vint e1)) ⟨hchW.fresh hch8 (fun b hb => .inl (hob b hb)), hcu2.chg (S := blk ov) (fun b hb e => by have := hob b e; omega) hch8, by show k + 1 ≤ n; omega, hv8, by show upto n ((k + 1 + 1 : Nat) : Int) _; rw [← e1]; exact upto_snoc hup (by omega) (.inr rfl), fun b hb => ?_⟩ (by show n - (k + 1) < n - k; omega) ?_
      · rcases hvb8 b hb with h | h
        · exact hob b h
        · omega
      · ((repeat (first | (with_reducible exact Only.refl) | (with_reducible refine Only.skip ?_) | ((with_reducible refine Only.upd ?_ ?_); rfl) | ((with_reducible refine Only.over ?_ ?_ _); rfl) | ((with_reducible refine Only.hav ?_ ?_ ?_); rfl; rfl))))
    refine ⟨_, IntWalk.i64_in _ (by omega), ?_⟩
    refine hK (k + 1, c, ov) _ _ (vs2 rfl (vint e1)) ⟨hchW, hcu2, by show k + 1 ≤ n; omega, ho2, by show upto n ((k + 1 + 1 : Nat) : Int) _; rw [← e1]; exact upto_next hup, hob⟩ (by show n - (k + 1) < n - k; omega) ?_
    ((repeat (first | (with_reducible exact Only.refl) | (with_reducible refine Only.skip ?_) | ((with_reducible refine Only.upd ?_ ?_); rfl) | ((with_reducible refine Only.over ?_ ?_ _); rfl) | ((with_reducible refine Only.hav ?_ ?_ ?_); rfl; rfl))))
  · exact ⟨⟨c, ho, hup.1, hob⟩, hch, hcu⟩

set_option maxRecDepth 200000 in
set_option maxHeartbeats 1000000 in
theorem at_ret (l : List Int) (n : Int) (hn : 0 ≤ n ∧ n ≤ 1000000) (s : Value) (W : World) (hs : SlR eU allB W s l) : Ret Try.prog 69 #[s, .int .i64 n] W (fun v w' => Ext W w' ∧ ∃ C, v = .pointer (some ⟨C, 0, none⟩) ∧ W.heap.size ≤ C ∧ C < w'.heap.size ∧ Cur C w' l) := by
  have hlm : (maxLen : Int) ≤ 9223372036854775807 := by decide
  obtain ⟨a, cp, rfl, hlc, hcm, hat⟩ := id hs
  refine ret_of_vc ties mixed Try.func69 rfl (by kernel_rfl) rfl rfl ?_
  refine Or.inl ((new_ret l _ W hs).mono ?_)
  rintro _ w2 ⟨x2, C, rfl, hCW, ⟨cs, i, h, hc, hsl, hi⟩, hr⟩
  have hmn : 0 ≤ (if (l.length : Int) < n then (l.length : Int) else n) ∧ (if (l.length : Int) < n then (l.length : Int) else n) ≤ (l.length : Int) := by split <;> omega
  refine ⟨hr 1 (by decide), ?_⟩
  obtain ⟨hc1, hs1, hr1, hch1⟩ := Cur.set (i' := if (l.length : Int) < n then (l.length : Int) else n) (h' := h) (o := 1) (u := .int .i64 (if (l.length : Int) < n then (l.length : Int) else n)) hc hsl hr hmn (.inl ⟨rfl, rfl, rfl⟩)
  refine ⟨_, hc1.2.2.1, any_eq fun c1 => any_eq fun c2 => any_eq fun c3 => any_eq fun c4 => any_eq fun c5 => ⟨hr1 2 (by decide), ?_⟩⟩
  obtain ⟨hc3, hs3, hr3, hch3⟩ := Cur.set (i' := if (l.length : Int) < n then (l.length : Int) else n) (h' := c5) (o := 2) (u := .int .i64 c5) hc1 hs1 hr1 hmn (.inr ⟨rfl, rfl, rfl⟩)
  refine ⟨(x2.chg hch1 fun b hb => by rw [hb]; exact hCW).chg hch3 fun b hb => by rw [hb]; exact hCW, C, rfl, hCW, World.block_lt_of_cell? _ _ hc3.1, ⟨⟨_, _, _, hc3, hs3, hmn⟩, hr3⟩⟩

set_option maxRecDepth 200000 in
set_option maxHeartbeats 2000000 in
theorem giveLits_ret (l : List Int) (m : Int) (hm : 0 ≤ m ∧ m ≤ 1000000) (n : Nat) (hn : 1 ≤ n ∧ n ≤ 400) (fs s : Value) (W : World) (hs : SlR eU allB W s l) : Ret Try.prog 43 #[s, .int .i64 m, .agg #[.int .i64 n, fs]] W (fun v w' => Ext W w' ∧ ∃ lits : List Int, OwnR eI noB w' v lits ∧ (∀ x ∈ lits, litOk n x = true) ∧ lits.length ≤ 2 ∧ ∀ b, blk v b → W.heap.size ≤ b) := by
  have x1 : Ext W (W.alloc (.cells #[.int .i64 n, fs] 25)) := Ext.new _ _
  have hb := boxedAll W [.int .i64 n, fs] 25
  have hz1 := x1.size
  refine ret_of_vc ties mixed Try.func43 rfl (by kernel_rfl) rfl rfl ?_
  refine Or.inl ((at_ret l m hm s _ (hs.ext x1)).mono ?_)
  rintro _ w2 ⟨x2, C, rfl, hCW, hC2, hcu⟩
  have xn : Ext w2 (w2.alloc (.cells #[] 3)) := Ext.new _ _
  refine Or.inl ((below_ret C l 3 _ (hcu.ext xn)).mono ?_)
  rintro _ w3 ⟨⟨k0, rfl, hk0, -, hk3⟩, hch3, hcu3⟩
  obtain ⟨K0, rfl⟩ : ∃ K0 : Nat, k0 = K0 := ⟨k0.toNat, by omega⟩
  have hK2 : K0 ≤ 2 := by have := hk3 (by decide); omega
  have x3 : Ext (W.alloc (.cells #[.int .i64 n, fs] 25)) w3 := (x2.trans xn).chg hch3 fun b hb => by rw [hb]; exact hCW
  have hw3 : w2.heap.size ≤ w3.heap.size := Nat.le_trans xn.size hch3.size
  refine loop_rule (σ := Nat × List Int × Value × Value) [8, 9, 10] 17 34 (fun q => [q.2.2.1, .int .i64 q.1, q.2.2.2])
    (fun q w' => Ext (W.alloc (.cells #[.int .i64 n, fs] 25)) w' ∧ Cur C w' l ∧ q.1 + q.2.1.length ≤ 2 ∧ OwnR eI noB w' q.2.2.1 q.2.1 ∧ (∀ x ∈ q.2.1, litOk n x = true) ∧ (∀ b, blk q.2.2.1 b → w2.heap.size ≤ b) ∧ w2.heap.size ≤ w'.heap.size)
    (fun q => q.1) (K0, [], .slice (some ⟨w2.heap.size, 0, none⟩) 0 0, undef) rfl ⟨x3, hcu3, by simpa using hK2, OwnR.nil _ _ _ _, fun x hx => (by cases hx), fun b hb => by cases hb; exact Nat.le_refl _, hw3⟩ ?_
  clear hcu hcu3 hch3 x3 hw3
  rintro ⟨k, c, ov, j⟩ w junk ⟨hx, hcu, hkc, ho, hlit, hob, hsz⟩ K hK
  simp only at hkc ho hlit hob
  show vc _ _ _ _ (over [8, 9, 10] [ov, .int .i64 k, j] _) _
  refine br_dec (fun h3 => ?_) (fun h3 => ?_)
  · refine ⟨_, (hb.ext hx).1, ?_⟩
    refine Or.inl ((below_ret C l n w hcu).mono ?_)
    rintro _ w4 ⟨⟨x, rfl, hx0, -, hxn⟩, hch4, hcu4⟩
    have hxn := hxn (by omega)
    have ho4 : OwnR eI noB w4 ov c := ho.chg (fun _ h => h.elim) (fun b hb e => by have := hob b hb; omega) hch4
    refine ⟨_, IntWalk.i64_in _ (by omega), ?_⟩
    refine Or.inl ((once_ret C l 2 w4 hcu4).mono ?_)
    rintro _ w5 ⟨⟨bb, rfl⟩, hch5, hcu5⟩
    have ho5 : OwnR eI noB w5 ov c := ho4.chg (fun _ h => h.elim) (fun b hb e => by have := hob b hb; omega) hch5
    have x5 : Ext (W.alloc (.cells #[.int .i64 n, fs] 25)) w5 := (hx.chg hch4 fun b hb => by rw [hb]; exact hCW).chg hch5 fun b hb => by rw [hb]; exact hCW
    have hsz5 : w2.heap.size ≤ w5.heap.size := Nat.le_trans hsz (Nat.le_trans hch4.size hch5.size)
    cases bb with
    | true =>
      refine ⟨-(1 + x), (congrArg _ (Int.zero_sub _)).trans (IntWalk.i64_in _ (by omega)), ?_⟩
      refine raw_push (E := eI) (ok := noB) (x := -(1 + x)) ties rfl rfl rfl rfl rfl rfl rfl rfl rfl rfl rfl ho5 rfl noB_blk (by show (c.length + 1) * 8 ≤ _; omega) (by omega) ?_
      intro v8 w8 hv8 hch8 hsz8 hvb8
      refine ⟨_, IntWalk.i64_in _ (by omega), ?_⟩
      refine hK (k - 1, c ++ [-(1 + x)], v8, _) _ _ (vs3 rfl (vint (by show (k : Int) - 1 = ((k - 1 : Nat) : Int); omega)) rfl) ⟨x5.chg hch8 (fun b hb => Nat.le_trans x2.size (hob b hb)), hcu5.chg (S := blk ov) (fun b hb e => by have := hob b e; omega) hch8, by show k - 1 + (c ++ [-(1 + x)]).length ≤ 2; rw [List.length_append, List.length_singleton]; omega, hv8, fun y hy => ?_, fun b hb => ?_, by omega⟩ (by show k - 1 < k; omega) ?_
      · rcases List.mem_append.1 hy with hy | hy
        · exact hlit y hy
        · rw [List.mem_singleton.1 hy]; exact litOk_iff.2 (by omega)
      · rcases hvb8 b hb with h | h
        · exact hob b h
        · omega
      · ((repeat (first | (with_reducible exact Only.refl) | (with_reducible refine Only.skip ?_) | ((with_reducible refine Only.upd ?_ ?_); rfl) | ((with_reducible refine Only.over ?_ ?_ _); rfl) | ((with_reducible refine Only.hav ?_ ?_ ?_); rfl; rfl))))
    | false =>
      refine raw_push (E := eI) (ok := noB) (x := 1 + x) ties rfl rfl rfl rfl rfl rfl rfl rfl rfl rfl rfl ho5 rfl noB_blk (by show (c.length + 1) * 8 ≤ _; omega) (by omega) ?_
      intro v8 w8 hv8 hch8 hsz8 hvb8
      refine ⟨_, IntWalk.i64_in _ (by omega), ?_⟩
      refine hK (k - 1, c ++ [1 + x], v8, _) _ _ (vs3 rfl (vint (by show (k : Int) - 1 = ((k - 1 : Nat) : Int); omega)) rfl) ⟨x5.chg hch8 (fun b hb => Nat.le_trans x2.size (hob b hb)), hcu5.chg (S := blk ov) (fun b hb e => by have := hob b e; omega) hch8, by show k - 1 + (c ++ [1 + x]).length ≤ 2; rw [List.length_append, List.length_singleton]; omega, hv8, fun y hy => ?_, fun b hb => ?_, by omega⟩ (by show k - 1 < k; omega) ?_
      · rcases List.mem_append.1 hy with hy | hy
        · exact hlit y hy
        · rw [List.mem_singleton.1 hy]; exact litOk_iff.2 (by omega)
      · rcases hvb8 b hb with h | h
        · exact hob b h
        · omega
      · ((repeat (first | (with_reducible exact Only.refl) | (with_reducible refine Only.skip ?_) | ((with_reducible refine Only.upd ?_ ?_); rfl) | ((with_reducible refine Only.over ?_ ?_ _); rfl) | ((with_reducible refine Only.hav ?_ ?_ ?_); rfl; rfl))))
  · exact ⟨x1.trans hx, c, ho, hlit, by omega, fun b hb => Nat.le_trans (Nat.le_trans hz1 x2.size) (hob b hb)⟩

end Go.Proofs.Ytfmflffggcphjaa.Dr
