/- Contracts of l03Set, and of both Propagates. -/
import Derived.Test.YtfmflffggcphjaaSz
namespace Go.Sat
def outK (v : List Int) : Nat → List Int
  | 0 => []
  | k + 1 => outK v k ++ (if v.getD k 0 = 0 then [] else [v.getD k 0 * (k : Int)])
theorem outK_len (v : List Int) : ∀ k, (outK v k).length ≤ k
  | 0 => Nat.le_refl _
  | k + 1 => by have := outK_len v k; simp only [outK, List.length_append]; split <;> simp <;> omega
/-- What a propagation hands back: none, or the literals. -/
def PropO (n : Int) (F : Cnf) (lits : List Int) (o : Option (List Int)) : Prop :=
  if fOk n F = true ∧ litsOk n lits = true then ∃ u, Upr F n.toNat (fun l => l ∈ lits) u ∧ o = u.map (fun v => outK v (n.toNat + 1)) else o = none
theorem PropO.unique {n : Int} {F : Cnf} {lits : List Int} {o o' : Option (List Int)} (h : PropO n F lits o) (h' : PropO n F lits o') : o = o' := by
  unfold PropO at *
  split at h
  · rename_i hc
    rw [if_pos hc] at h'
    obtain ⟨u, h1, rfl⟩ := h
    obtain ⟨u', h1', rfl⟩ := h'
    rw [Upr.unique (fun _ h => .base h) (fun _ h => .base h) h1 h1']
  · rename_i hc
    rw [if_neg hc] at h'
    rw [h, h']
theorem PropO.len {n : Int} {F : Cnf} {lits : List Int} {o : Option (List Int)} (h : PropO n F lits o) : (o.getD []).length ≤ 100000000 := by
  unfold PropO at h
  split at h
  · rename_i hc
    obtain ⟨u, _, rfl⟩ := h
    have hn : n ≤ 400 := by have := hc.1; simp only [fOk, Bool.and_eq_true, decide_eq_true_eq] at this; omega
    cases u with
    | none => simp
    | some v => have := outK_len v (n.toNat + 1); simp only [Option.map_some, Option.getD_some]; omega
  · rw [h]; simp
theorem fOk_n' {n : Int} {F : Cnf} (h : fOk n F = true) : 0 ≤ n ∧ n ≤ 400 ∧ F.length ≤ 1600 := by
  simp only [fOk, Bool.and_eq_true, decide_eq_true_eq] at h; exact h.1
theorem getD_of {v : List Int} {i : Nat} {x : Int} (h : v[i]? = some x) : v.getD i 0 = x := by rw [List.getD_eq_getElem?_getD, h]; rfl
theorem put_tr {n : Nat} {v : List Int} (h : Vals n v) {l : Int} (hl : litOk n l = true) (hn : ¬ tr v (-l)) (m : Int) : tr (put v l) m ↔ tr v m ∨ m = l := by
  rcases h.three hl with hf | ht | ht
  · exact tr_put h hl hf m
  · have : put v l = v := by
      unfold put
      have hl' := litOk_iff.1 hl
      have hg : v[l.natAbs]? = some (sgn l) := by
        unfold sgn
        rcases ht with ⟨h1, h2⟩ | ⟨h1, h2⟩
        · rw [if_neg (by omega), ← h2]; congr 1; omega
        · rw [if_pos h1, ← h2]; congr 1; omega
      have hlt := (List.getElem?_eq_some_iff.1 hg)
      obtain ⟨hlt, he⟩ := hlt
      rw [← he, List.set_getElem_self]
    rw [this]
    constructor
    · exact .inl
    · rintro (h | rfl)
      · exact h
      · exact ht
  · exact absurd ht hn
end Go.Sat
namespace Go.Proofs.Ytfmflffggcphjaa
open Go Go.Vc Go.RowKit Go.Sat
set_option linter.unusedVariables false

def SetL (n : Nat) (lits : List Int) (W : World) (r : Value) (w' : World) : Prop := Ext W w' ∧ ((r = .tuple #[.slice none 0 0, .bool false] ∧ ∃ l, l ∈ lits ∧ -l ∈ lits) ∨
  ∃ s v, r = .tuple #[s, .bool true] ∧ OwnR eI noB w' s v ∧ Vals n v ∧ (∀ l, tr v l ↔ l ∈ lits) ∧ ∀ b, blk s b → W.heap.size ≤ b)

set_option maxHeartbeats 2000000 in
theorem l03Set_ret (n : Nat) (lits : List Int) (s : Value) (W : World) (hs : SlR eI allB W s lits) (hn : n ≤ 400) (hl : ∀ l ∈ lits, litOk n l = true) :
    Ret Try.prog 94 #[.int .i64 n, s] W (SetL n lits W) := by
  have hlm : (maxLen : Int) ≤ 9223372036854775807 := by decide
  obtain ⟨a, c, rfl, hlc, hcm, -⟩ := id hs
  refine ret_of_vc ties mixed Try.func94 rfl (by kernel_rfl) rfl rfl ?_
  have hz1 : ((n : Int) + 1).toNat = n + 1 := by omega
  have hnew := new_zero W ((n : Int) + 1).toNat 3 (by omega)
  rw [hz1] at hnew
  refine ⟨_, IntWalk.i64_in _ (by omega), ⟨by omega, by omega, by omega, by show (8 : Int) * ((n : Int) + 1) ≤ _; omega⟩, ?_⟩
  refine loop_rule (σ := Nat × Value × Value × List Int) [8, 9, 15] 16 38 (fun q => [q.2.1, q.2.2.1, .int .i64 q.1])
    (fun q w' => Ext W w' ∧ q.1 ≤ lits.length ∧ OwnR eI noB w' (.slice (some ⟨W.heap.size, 0, none⟩) (n + 1) (n + 1)) q.2.2.2 ∧ Vals n q.2.2.2 ∧ ∀ l, tr q.2.2.2 l ↔ l ∈ lits.take q.1)
    (fun q => lits.length - q.1) (0, undef, undef, List.replicate (n + 1) 0) rfl ⟨hnew.1, Nat.zero_le _, hnew.2.1, zero_vals n, fun l => ⟨fun h => absurd h (zero_tr n l), fun h => by cases h⟩⟩ ?_
  rintro ⟨k, j1, j2, v1⟩ w junk ⟨hx, hk, ho, hv, hm⟩ K hK
  simp only at hk ho hv hm
  show vc _ _ _ _ (over [8, 9, 15] [j1, j2, .int .i64 k] _) _
  refine br_dec (fun h3 => ?_) (fun h3 => ?_)
  · have hkl : k < lits.length := by omega
    obtain ⟨b, o, c1, cs1, he, -, hcell, rfl⟩ := hs.at hkl
    cases he
    have hsn := take_snoc hkl
    have hxm0 := List.getElem_mem hkl
    obtain ⟨x, hxe⟩ : ∃ x, lits[k]'hkl = x := ⟨_, rfl⟩
    rw [hxe] at hcell hsn hxm0
    have hxl := hl x hxm0
    have hxl' := litOk_iff.1 hxl
    have hix := @av_ix x
    have hvl := hv.len
    have ho' : OwnR eI noB w (.slice (some ⟨W.heap.size, 0, none⟩) v1.length (n + 1)) v1 := by rw [hvl]; exact ho
    obtain ⟨b6, c6, he6, g1, g2, -, -, g3⟩ := own_at ho' (i := (av x).toNat) (by omega)
    cases he6
    have hget : v1[x.natAbs]? = some (v1[(av x).toNat]'(by omega)) := (congrArg (fun i => v1[i]?) av_ix).symm.trans (List.getElem?_eq_getElem _)
    obtain ⟨y, hy⟩ : ∃ y, v1[(av x).toNat]'(by omega) = y := ⟨_, rfl⟩
    rw [hy] at hget g3
    have hs1 : sgn x = 1 ∨ sgn x = -1 := by unfold sgn; split <;> simp
    refine ⟨⟨by omega, by omega⟩, _, (hcell.ext hx).1, ?_⟩
    refine Or.inl ((l03Abs_ret _ _ (by omega)).mono ?_)
    rintro _ _ ⟨rfl, rfl⟩
    refine ⟨by unfold av; omega, sgn x, by rw [tdiv_sgn hxl'.1]; exact IntWalk.i64_in _ (by omega), ?_⟩
    refine Or.inl ((l03Abs_ret _ _ (by omega)).mono ?_)
    rintro _ _ ⟨rfl, rfl⟩
    refine ⟨⟨by unfold av; omega, by unfold av; omega⟩, _, g3, _, IntWalk.i64_in _ (by omega), ?_⟩
    have hneg : (y = 0 - sgn x) ↔ tr v1 (-x) := by
      unfold tr sgn
      constructor
      · intro e
        split at e
        · exact .inl ⟨by omega, by rw [show (-x).toNat = x.natAbs from by omega, hget, e]; rfl⟩
        · exact .inr ⟨by omega, by rw [show (- -x).toNat = x.natAbs from by omega, hget, e]; rfl⟩
      · rintro (⟨h1, h2⟩ | ⟨h1, h2⟩)
        · rw [show (-x).toNat = x.natAbs from by omega, hget] at h2
          simp only [Option.some.injEq] at h2
          rw [if_pos (by omega)]; omega
        · rw [show (- -x).toNat = x.natAbs from by omega, hget] at h2
          simp only [Option.some.injEq] at h2
          rw [if_neg (by omega)]; omega
    refine br_dec (fun h4 => ?_) (fun h4 => ?_)
    · refine ⟨hx, .inl ⟨rfl, x, hxm0, ?_⟩⟩
      exact List.mem_of_mem_take ((hm (-x)).1 (hneg.1 h4))
    · obtain ⟨hfree, hown⟩ := own_put hv hxl ho'
      rw [hvl] at hown
      refine Or.inl ((l03Abs_ret _ _ (by omega)).mono ?_)
      rintro _ _ ⟨rfl, rfl⟩
      refine ⟨⟨by unfold av; omega, by unfold av; omega⟩, hfree, ?_⟩
      refine ⟨_, IntWalk.i64_in _ (by omega), ?_⟩
      refine hK (k + 1, _, _, put v1 x) _ _ (vs3 rfl rfl (vint (by show (k : Int) + 1 = ((k + 1 : Nat) : Int); omega))) ⟨hx.set (Nat.le_refl _) _, by show k + 1 ≤ _; omega, hown, put_vals hv hxl, fun l => ?_⟩ (by show lits.length - (k + 1) < lits.length - k; omega) ?_
      · show tr (put v1 x) l ↔ l ∈ lits.take (k + 1)
        rw [put_tr hv hxl (fun h => h4 (hneg.2 h)), hm l, hsn, List.mem_append, List.mem_singleton]
      · ((repeat (first | (with_reducible exact Only.refl) | (with_reducible refine Only.skip ?_) | ((with_reducible refine Only.upd ?_ ?_); rfl) | ((with_reducible refine Only.over ?_ ?_ _); rfl) | ((with_reducible refine Only.hav ?_ ?_ ?_); rfl; rfl))))
  · have : k = lits.length := by omega
    subst this
    rw [List.take_length] at hm
    exact ⟨hx, .inr ⟨_, v1, rfl, by rw [hz1]; exact ho, hv, hm, fun b hb => by cases hb; exact Nat.le_refl _⟩⟩

/-- What a Propagate hands back. -/
def PropR (n : Int) (F : Cnf) (lits : List Int) (W : World) (r : Value) (w' : World) : Prop := Ext W w' ∧ ∃ o, PropO n F lits o ∧ ∃ s, r = .tuple #[s, .bool o.isSome] ∧ OwnR eI noB w' s (o.getD []) ∧ ∀ b, blk s b → W.heap.size ≤ b

set_option maxHeartbeats 2000000 in
theorem spec_Propagate (n : Int) (F : Cnf) (lits : List Int) (s t : Value) (W : World) (hs : SlR eL allB W s F) (ht : SlR eI allB W t lits) :
    Ret Try.prog 47 #[fv n s, t] W (PropR n F lits W) := by
  have hlm : (maxLen : Int) ≤ 9223372036854775807 := by decide
  have x1 : Ext W (W.alloc (.cells #[.int .i64 n, s] 25)) := Ext.new _ _
  have hb := boxedAll W [.int .i64 n, s] 25
  have nothing : ∀ {w' : World} {o : Option (List Int)}, Ext W w' → PropO n F lits none → PropR n F lits W (.tuple #[.slice none 0 0, .bool false]) w' := fun hx ho => ⟨hx, none, ho, _, rfl, OwnR.nil _ _ _ _, fun b hb => hb.elim⟩
  refine ret_of_vc ties mixed Try.func47 rfl (by kernel_rfl) rfl rfl ?_
  refine ⟨[.int .i64 n, s], rfl, hb, ?_⟩
  refine Or.inl ((spec_FormulaOk n F s _ (hs.ext x1)).mono ?_)
  rintro _ w2 ⟨rfl, x2⟩
  have x12 := x1.trans x2
  refine br_not (fun h => ?_) (fun hF => ?_)
  · exact nothing (o := none) x12 (by unfold PropO; rw [if_neg (by simp [h])])
  have hn := fOk_n' hF
  refine ⟨_, (hb.ext x2).1, ?_⟩
  refine Or.inl ((spec_l03Lits lits t n _ (ht.ext x12) hn.1 hn.2.1).mono ?_)
  rintro _ w3 ⟨rfl, e⟩
  subst e
  refine br_not (fun h => ?_) (fun hL => ?_)
  · exact nothing (o := none) x12 (by unfold PropO; rw [if_neg (by simp [h])])
  have hlits := litsOk_iff.1 hL
  have hprop : ∀ u, Upr F n.toNat (fun l => l ∈ lits) u → PropO n F lits (u.map fun v => outK v (n.toNat + 1)) := fun u hu => by unfold PropO; rw [if_pos ⟨hF, hL⟩]; exact ⟨u, hu, rfl⟩
  obtain ⟨N, rfl⟩ : ∃ N : Nat, n = N := ⟨n.toNat, by omega⟩
  rw [Int.toNat_natCast] at hprop
  refine ⟨_, (hb.ext x2).1, ?_⟩
  refine Or.inl ((l03Set_ret N lits t _ (ht.ext x12) (by omega) hlits).mono ?_)
  rintro r w4 ⟨x4, ⟨rfl, l, h1, h2⟩ | ⟨vs, v, rfl, hown, hv, hm, hvb⟩⟩
  · exact nothing (o := none) (x12.trans x4) (hprop none (.no (.inl ⟨l, .base h1, .base h2⟩)))
  have x14 := x12.trans x4
  refine ⟨[.int .i64 N, s], rfl, hb.ext (x2.trans x4), ?_⟩
  refine Or.inl ((spread_ret (oldB w2.heap.size) N F s vs v _ (((hs.ext x12).lt.mono fun b hb => hb.2).ext x4) (fun b hb e => by have := hvb b e; unfold oldB at hb; omega) hF hown hv).mono ?_)
  rintro r w5 ⟨hch5, ⟨rfl, hbad⟩ | ⟨rfl, u, hown5, hup⟩⟩
  all_goals have x5 : Ext W w5 := x14.chg hch5 (fun i hi => Nat.le_trans x12.size (hvb i hi))
  · exact nothing (o := none) x5 (hprop none (.no (hbad.mono fun l h => .base ((hm l).1 h))))
  have hup' := Upr.base (A := fun l => l ∈ lits) (fun l h => (hm l).2 h) (fun l h => .base ((hm l).1 h)) hup
  have huv : Vals N u := by cases hup with | yes h _ _ _ => exact h
  have hul := huv.len
  have hsl : SlR eI allB w5 vs u := hown5.sl (fun _ _ => trivial) (fun _ _ => trivial)
  obtain ⟨va, vcp, rfl, -⟩ := id hsl
  refine loop_rule (σ := Nat × Value × Value × Value) [8, 9, 10, 39] 40 54 (fun q => [q.2.1, q.2.2.1, q.2.2.2, .int .i64 q.1])
    (fun q w' => Ext w5 w' ∧ q.1 ≤ u.length ∧ OwnR eI noB w' q.2.1 (outK u q.1) ∧ ∀ b, blk q.2.1 b → w5.heap.size ≤ b)
    (fun q => u.length - q.1) (0, .slice (some ⟨w5.heap.size, 0, none⟩) 0 0, undef, undef) rfl ⟨Ext.new _ _, Nat.zero_le _, OwnR.nil _ _ _ _, fun b hb => by cases hb; exact Nat.le_refl _⟩ ?_
  rintro ⟨k, ov, j1, j2⟩ w junk ⟨hx, hk, ho, hob⟩ K hK
  simp only at hk ho hob
  show vc _ _ _ _ (over [8, 9, 10, 39] [ov, j1, j2, .int .i64 k] _) _
  refine br_dec (fun h3 => ?_) (fun h3 => ?_)
  · have hkl : k < u.length := by omega
    obtain ⟨b, o, c1, cs1, he, -, hcell, rfl⟩ := hsl.at hkl
    cases he
    have hy3 := huv.each k _ (List.getElem?_eq_getElem hkl)
    have hgd := getD_of (List.getElem?_eq_getElem hkl)
    obtain ⟨y, hy⟩ : ∃ y, u[k]'hkl = y := ⟨_, rfl⟩
    rw [hy] at hcell hy3 hgd
    refine ⟨⟨by omega, by omega⟩, _, (hcell.ext hx).1, ?_⟩
    refine br_dec (fun h4 => ?_) (fun h4 => ?_)
    · have hout : outK u (k + 1) = outK u k ++ [y * (k : Int)] := by rw [outK, hgd, if_neg h4]
      have hlen := outK_len u k
      refine ⟨y * (k : Int), IntWalk.i64_in _ (by rcases hy3 with rfl | rfl | rfl <;> omega), ?_⟩
      refine raw_push (E := eI) (ok := noB) (x := y * (k : Int)) ties rfl rfl rfl rfl rfl rfl rfl rfl rfl rfl rfl ho rfl noB_blk (by show ((outK u k).length + 1) * 8 ≤ _; omega) (by omega) ?_
      intro v' w' hv' hch' hsz' hvb'
      refine ⟨_, IntWalk.i64_in _ (by omega), ?_⟩
      refine hK (k + 1, v', _, _) _ _ (vs4 rfl rfl rfl (vint (by show (k : Int) + 1 = ((k + 1 : Nat) : Int); omega))) ⟨hx.chg hch' hob, by show k + 1 ≤ _; omega, ?_, fun b hb => ?_⟩ (by show u.length - (k + 1) < u.length - k; omega) ?_
      · show OwnR eI noB w' v' (outK u (k + 1))
        rw [hout]; exact hv'
      · rcases hvb' b hb with h | h
        · exact hob b h
        · exact Nat.le_trans hx.size (Nat.le_of_lt h.1)
      · ((repeat (first | (with_reducible exact Only.refl) | (with_reducible refine Only.skip ?_) | ((with_reducible refine Only.upd ?_ ?_); rfl) | ((with_reducible refine Only.over ?_ ?_ _); rfl) | ((with_reducible refine Only.hav ?_ ?_ ?_); rfl; rfl))))
    · have h4 : y = 0 := by omega
      refine ⟨_, IntWalk.i64_in _ (by omega), ?_⟩
      refine hK (k + 1, ov, _, _) _ _ (vs4 rfl rfl rfl (vint (by show (k : Int) + 1 = ((k + 1 : Nat) : Int); omega))) ⟨hx, by show k + 1 ≤ _; omega, ?_, hob⟩ (by show u.length - (k + 1) < u.length - k; omega) ?_
      · show OwnR eI noB w ov (outK u (k + 1))
        rw [outK, hgd, if_pos h4, List.append_nil]; exact ho
      · ((repeat (first | (with_reducible exact Only.refl) | (with_reducible refine Only.skip ?_) | ((with_reducible refine Only.upd ?_ ?_); rfl) | ((with_reducible refine Only.over ?_ ?_ _); rfl) | ((with_reducible refine Only.hav ?_ ?_ ?_); rfl; rfl))))
  · have : k = N + 1 := by omega
    subst this
    exact ⟨x5.trans hx, _, hprop _ hup', ov, rfl, ho, fun b hb => Nat.le_trans x5.size (hob b hb)⟩

set_option maxHeartbeats 2000000 in
theorem impl_Propagate (n : Int) (F : Cnf) (lits : List Int) (s t : Value) (W : World) (hs : SlR eL allB W s F) (ht : SlR eI allB W t lits) (hll : lits.length ≤ 10000000) :
    Ret Try.prog 44 #[fv n s, t] W (PropR n F lits W) := by
  have hlm : (maxLen : Int) ≤ 9223372036854775807 := by decide
  have x1 : Ext W (W.alloc (.cells #[.int .i64 n, s] 25)) := Ext.new _ _
  have hb := boxedAll W [.int .i64 n, s] 25
  have nothing : ∀ {w' : World} {o : Option (List Int)}, Ext W w' → PropO n F lits none → PropR n F lits W (.tuple #[.slice none 0 0, .bool false]) w' := fun hx ho => ⟨hx, none, ho, _, rfl, OwnR.nil _ _ _ _, fun b hb => hb.elim⟩
  refine ret_of_vc ties mixed Try.func44 rfl (by kernel_rfl) rfl rfl ?_
  refine ⟨[.int .i64 n, s], rfl, hb, ?_⟩
  refine Or.inl ((impl_FormulaOk n F s _ (hs.ext x1)).mono ?_)
  rintro _ w2 ⟨rfl, x2⟩
  have x12 := x1.trans x2
  refine br_not (fun h => ?_) (fun hF => ?_)
  · exact nothing (o := none) x12 (by unfold PropO; rw [if_neg (by simp [h])])
  have hn := fOk_n' hF
  refine ⟨_, (hb.ext x2).1, ?_⟩
  refine Or.inl ((impl_literalsOk lits t n _ (ht.ext x12) hn.1 hn.2.1).mono ?_)
  rintro _ w3 ⟨rfl, e⟩
  subst e
  refine br_not (fun h => ?_) (fun hL => ?_)
  · exact nothing (o := none) x12 (by unfold PropO; rw [if_neg (by simp [h])])
  have hlits := litsOk_iff.1 hL
  have hprop : ∀ u, Upr F n.toNat (fun l => l ∈ lits) u → PropO n F lits (u.map fun v => outK v (n.toNat + 1)) := fun u hu => by unfold PropO; rw [if_pos ⟨hF, hL⟩]; exact ⟨u, hu, rfl⟩
  obtain ⟨N, rfl⟩ : ∃ N : Nat, n = N := ⟨n.toNat, by omega⟩
  rw [Int.toNat_natCast] at hprop
  refine ⟨[.int .i64 N, s], rfl, hb.ext x2, ?_⟩
  refine Or.inl ((newSolver_ret N F s _ (hs.ext x12) hF).mono ?_)
  rintro sp w4 ⟨x4, hS⟩
  have x14 := x12.trans x4
  obtain ⟨S, rfl⟩ := hS.ptr
  refine Or.inl ((start_ret (.pointer (some ⟨S, 0, none⟩)) N F lits t _ hS (ht.ext x14) hF hlits hll).mono ?_)
  rintro r w5 ⟨x5, o, hup, ⟨rfl, rfl⟩ | ⟨u, p, rfl, rfl, hA⟩⟩
  · exact nothing (o := none) (x14.trans x5) (hprop none hup)
  have x15 := x14.trans x5
  have huv : Vals N u := by cases hup with | yes h _ _ _ => exact h
  have hul := huv.len
  obtain ⟨A, a1, a2, rfl, hc1, hc2, ho1, ho2⟩ := hA.ptr
  have ho0 : outK u 1 = [] := by rw [outK, getD_of huv.head]; rfl
  refine loop_rule (σ := Nat × Value) [8, 9] 29 56 (fun q => [q.2, .int .i64 (q.1 + 1 : Nat)])
    (fun q w' => Ext w5 w' ∧ q.1 ≤ N ∧ OwnR eI noB w' q.2 (outK u (q.1 + 1)) ∧ ∀ b, blk q.2 b → w5.heap.size ≤ b)
    (fun q => N - q.1) (0, .slice none 0 0) rfl ⟨Ext.refl _, Nat.zero_le _, by show OwnR eI noB w5 _ (outK u 1); rw [ho0]; exact OwnR.nil _ _ _ _, fun b hb => hb.elim⟩ ?_
  rintro ⟨k, ov⟩ w junk ⟨hx, hk, ho, hob⟩ K hK
  simp only at hk ho hob
  show vc _ _ _ _ (over [8, 9] [ov, .int .i64 (k + 1 : Nat)] _) _
  refine ⟨_, (hb.ext (((x2.trans x4).trans x5).trans hx)).1, ?_⟩
  refine br_dec (fun h3 => ?_) (fun h3 => ?_)
  · have hkl : k + 1 < u.length := by omega
    obtain ⟨b, c', rfl, g1, g2, -, -, g3⟩ := own_at ho1 hkl
    have hy3 := huv.each (k + 1) _ (List.getElem?_eq_getElem hkl)
    have hgd := getD_of (List.getElem?_eq_getElem hkl)
    obtain ⟨y, hy⟩ : ∃ y, u[k + 1]'hkl = y := ⟨_, rfl⟩
    rw [hy] at g3 hy3 hgd
    refine ⟨_, hx.cell hc1, ⟨by omega, by omega⟩, _, hx.cell g3, ?_⟩
    refine br_dec (fun h4 => ?_) (fun h4 => ?_)
    · have hout : outK u (k + 1 + 1) = outK u (k + 1) ++ [y * ((k + 1 : Nat) : Int)] := by rw [outK, hgd, if_neg h4]
      have hlen := outK_len u (k + 1)
      refine ⟨_, hx.cell hc1, ⟨by omega, by omega⟩, _, hx.cell g3, ?_⟩
      refine ⟨y * ((k + 1 : Nat) : Int), by rw [Int.mul_comm]; exact IntWalk.i64_in _ (by rcases hy3 with rfl | rfl | rfl <;> omega), ?_⟩
      refine raw_push (E := eI) (ok := noB) (x := y * ((k + 1 : Nat) : Int)) ties rfl rfl rfl rfl rfl rfl rfl rfl rfl rfl rfl ho rfl noB_blk (by show ((outK u (k + 1)).length + 1) * 8 ≤ _; omega) (by omega) ?_
      intro v' w' hv' hch' hsz' hvb'
      refine ⟨_, IntWalk.i64_in _ (by omega), ?_⟩
      refine hK (k + 1, v') _ _ (vs2 rfl (vint (by omega))) ⟨hx.chg hch' hob, by show k + 1 ≤ _; omega, ?_, fun b hb => ?_⟩ (by show N - (k + 1) < N - k; omega) ?_
      · show OwnR eI noB w' v' (outK u (k + 1 + 1))
        rw [hout]; exact hv'
      · rcases hvb' b hb with h | h
        · exact hob b h
        · exact Nat.le_trans hx.size (Nat.le_of_lt h.1)
      · ((repeat (first | (with_reducible exact Only.refl) | (with_reducible refine Only.skip ?_) | ((with_reducible refine Only.upd ?_ ?_); rfl) | ((with_reducible refine Only.over ?_ ?_ _); rfl) | ((with_reducible refine Only.hav ?_ ?_ ?_); rfl; rfl))))
    · have h4 : y = 0 := by omega
      refine ⟨_, IntWalk.i64_in _ (by omega), ?_⟩
      refine hK (k + 1, ov) _ _ (vs2 rfl (vint (by omega))) ⟨hx, by show k + 1 ≤ _; omega, ?_, hob⟩ (by show N - (k + 1) < N - k; omega) ?_
      · show OwnR eI noB w ov (outK u (k + 1 + 1))
        rw [outK, hgd, if_pos h4, List.append_nil]; exact ho
      · ((repeat (first | (with_reducible exact Only.refl) | (with_reducible refine Only.skip ?_) | ((with_reducible refine Only.upd ?_ ?_); rfl) | ((with_reducible refine Only.over ?_ ?_ _); rfl) | ((with_reducible refine Only.hav ?_ ?_ ?_); rfl; rfl))))
  · have : k = N := by omega
    subst this
    exact ⟨x15.trans hx, _, hprop _ hup, ov, rfl, ho, fun b hb => Nat.le_trans x15.size (hob b hb)⟩

end Go.Proofs.Ytfmflffggcphjaa
