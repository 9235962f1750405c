/- Implied: both contracts. -/
import Derived.Test.YtfmflffggcphjaaSg
namespace Go.Sat
open Go.Vc
def flipC (k : Int) : Int := if k = 1 then 2 else if k = 2 then 1 else 3
def negs (c : List Int) : List Int := c.map fun x => -x
/-- What 'Implied' computes. -/
def ImpO (n : Int) (F : Cnf) (c : List Int) (limit : Int) (k : Int) : Prop :=
  if fOk n F = true ∧ clOk n c = true ∧ 0 ≤ limit ∧ limit ≤ 3000 then ∃ r, SeaO n F (negs c) limit r ∧ k = flipC r.code else k = 0
theorem ImpO.unique {n : Int} {F : Cnf} {c : List Int} {limit k k' : Int} (h : ImpO n F c limit k) (h' : ImpO n F c limit k') : k = k' := by
  unfold ImpO at h h'
  split at h
  · rename_i hc
    rw [if_pos hc] at h'
    obtain ⟨o, h1, rfl⟩ := h
    obtain ⟨o', h1', rfl⟩ := h'
    rw [SeaO.unique h1 h1']
  · rename_i hc
    rw [if_neg hc] at h'
    rw [h, h']
theorem negs_ok {n : Int} {c : List Int} (h : clOk n c = true) : ∀ l ∈ negs c, litOk n l = true := by
  intro l hl
  obtain ⟨x, hx, rfl⟩ := List.mem_map.1 hl
  have := litOk_iff.1 (clOk_lits h x hx)
  exact litOk_iff.2 (by omega)
theorem seaRes_code {F : Cnf} {n m : Nat} {o : Option (List Int)} : (seaRes F n m o).code = 1 ∨ (seaRes F n m o).code = 2 ∨ (seaRes F n m o).code = 3 := by
  cases o with
  | none => exact .inr (.inl rfl)
  | some u => exact srch_code _ _ _
theorem negs_take {c : List Int} {k : Nat} (hk : k < c.length) : (negs c).take (k + 1) = (negs c).take k ++ [-(c.getD k 0)] := by
  have hl : k < (negs c).length := by simpa [negs] using hk
  rw [take_snoc' hl]
  congr 1
  simp [negs, List.getD_eq_getElem?_getD, List.getElem?_eq_getElem hk]
end Go.Sat
namespace Go.Proofs.Ytfmflffggcphjaa
open Go Go.Vc Go.RowKit Go.Sat
set_option linter.unusedVariables false

def ImpR (n : Int) (F : Cnf) (c : List Int) (limit : Int) (W : World) (v : Value) (w' : World) : Prop := Ext W w' ∧ ∃ k, v = .int .i64 k ∧ ImpO n F c limit k

theorem sl_cells {w : World} {s : Value} {l : List Int} (hs : SlR eI allB w s l) : ∃ a cp, s = .slice a l.length cp ∧ l.length ≤ maxLen ∧ ∀ k, k < l.length → ∃ b o, a = some ⟨b, o, none⟩ ∧ w.cell? ⟨b, o + k * 1, none⟩ = some (.int .i64 (l.getD k 0)) := by
  obtain ⟨a, cp, rfl, h1, h2, h3⟩ := id hs
  refine ⟨a, cp, rfl, by omega, fun k hk => ?_⟩
  obtain ⟨b, o, c1, cs1, he, -, hcell, rfl⟩ := hs.at hk
  cases he
  refine ⟨b, o, rfl, ?_⟩
  rw [List.getD_eq_getElem?_getD, List.getElem?_eq_getElem hk]
  exact hcell.1

set_option maxHeartbeats 4000000 in
theorem spec_Implied (n : Int) (F : Cnf) (c : List Int) (limit : Int) (s t : Value) (W : World) (hs : SlR eL allB W s F) (ht : SlR eI allB W t c) :
    Ret Try.prog 55 #[fv n s, t, .int .i64 limit] W (ImpR n F c limit W) := by
  have hlm : (maxLen : Int) ≤ 9223372036854775807 := by decide
  obtain ⟨a, cp, rfl, hcl, hcells⟩ := sl_cells ht
  have x1 : Ext W (W.alloc (.cells #[.int .i64 n, s] 25)) := Ext.new _ _
  have hb := boxedAll W [.int .i64 n, s] 25
  have nothing : ∀ {w' : World}, Ext W w' → ¬ (fOk n F = true ∧ clOk n c = true ∧ 0 ≤ limit ∧ limit ≤ 3000) → ImpR n F c limit W (.int .i64 0) w' := fun hx h => ⟨hx, 0, rfl, by unfold ImpO; rw [if_neg h]⟩
  refine ret_of_vc ties mixed Try.func55 rfl (by kernel_rfl) rfl rfl ?_
  refine ⟨[.int .i64 n, s], rfl, hb, ?_⟩
  refine Or.inl ((spec_FormulaOk n F s _ (hs.ext x1)).mono ?_)
  rintro _ w2 ⟨rfl, x2⟩
  have x12 := x1.trans x2
  refine br_not (fun h => ?_) (fun hF => ?_)
  · exact nothing x12 (by simp [h])
  have hn := fOk_n' hF
  refine ⟨_, (hb.ext x2).1, ?_⟩
  refine Or.inl ((spec_l03Clause c _ n _ (ht.ext x12) hn.1 hn.2.1).mono ?_)
  rintro _ w3 ⟨rfl, e⟩
  subst e
  refine br_not (fun h => ?_) (fun hL => ?_)
  · exact nothing x12 (by simp [h])
  refine Or.inl ((l01In_ret limit 0 3000 _).mono ?_)
  rintro _ _ ⟨rfl, rfl⟩
  refine br_ndec (fun h => ?_) (fun hlm => ?_)
  · exact nothing x12 fun h' => h h'.2.2
  obtain ⟨N, rfl⟩ : ∃ N : Nat, n = N := ⟨n.toNat, by omega⟩
  have hcn := cl_len hL
  have hlits := clOk_lits hL
  have hnl : (negs c).length = c.length := by simp [negs]
  refine loop_rule (σ := Nat × Value × Value) [7, 9, 31] 32 41 (fun q => [q.2.1, q.2.2, .int .i64 q.1])
    (fun q w' => Ext w2 w' ∧ q.1 ≤ c.length ∧ OwnR eI noB w' q.2.1 ((negs c).take q.1) ∧ ∀ b, blk q.2.1 b → w2.heap.size ≤ b)
    (fun q => c.length - q.1) (0, _, undef) (vs3 rfl rfl rfl) ⟨Ext.new _ _, Nat.zero_le _, OwnR.nil _ _ _ _, fun b hb => by cases hb; exact Nat.le_refl _⟩ ?_
  rintro ⟨k, ov, j1⟩ w junk ⟨hx, hk, ho, hob⟩ K hK
  simp only at hk ho hob
  show vc _ _ _ _ (over [7, 9, 31] [ov, j1, .int .i64 k] _) _
  refine br_dec (fun h3 => ?_) (fun h3 => ?_)
  · have hkl : k < c.length := by omega
    have hlk := litOk_iff.1 (hlits (c.getD k 0) (by rw [List.getD_eq_getElem?_getD, List.getElem?_eq_getElem hkl]; exact List.getElem_mem hkl))
    refine Exists.elim (hcells k hkl) fun b h => Exists.elim h fun o hbo => ?_
    have hae := hbo.1
    subst hae
    have hcell := (x12.trans hx).cell hbo.2
    have htk := negs_take hkl
    refine ⟨⟨by omega, by omega⟩, _, hcell, ?_⟩
    refine ⟨-(c.getD k 0), (congrArg _ (Int.zero_sub _)).trans (IntWalk.i64_in _ (by omega)), ?_⟩
    refine raw_push (E := eI) (ok := noB) (x := -(c.getD k 0)) ties rfl rfl rfl rfl rfl rfl rfl rfl rfl rfl rfl ho rfl noB_blk (by rw [List.length_take]; show (min k (negs c).length + 1) * 8 ≤ _; omega) (by rw [List.length_take]; omega) ?_
    intro v' w' hv' hch' hsz' hvb'
    refine ⟨_, IntWalk.i64_in _ (by omega), ?_⟩
    refine hK (k + 1, v', _) _ _ (vs3 rfl rfl (vint (by show (k : Int) + 1 = ((k + 1 : Nat) : Int); omega))) ⟨hx.chg hch' hob, by show k + 1 ≤ _; omega, ?_, fun b hb => ?_⟩ (by show c.length - (k + 1) < c.length - k; omega) ?_
    · show OwnR eI noB w' v' ((negs c).take (k + 1))
      rw [htk]; exact hv'
    · rcases hvb' b hb with h | h
      · exact hob b h
      · exact Nat.le_trans hx.size (Nat.le_of_lt h.1)
    · ((repeat (first | (with_reducible exact Only.refl) | (with_reducible refine Only.skip ?_) | ((with_reducible refine Only.upd ?_ ?_); rfl) | ((with_reducible refine Only.over ?_ ?_ _); rfl) | ((with_reducible refine Only.hav ?_ ?_ ?_); rfl; rfl))))
  · have : k = c.length := by omega
    subst this
    rw [← hnl, List.take_length] at ho
    refine ⟨[.int .i64 N, s], rfl, hb.ext (x2.trans hx), ?_⟩
    refine Or.inl ((spec_Search N F (negs c) limit s ov w (hs.ext (x12.trans hx)) (ho.sl (fun _ _ => trivial) (fun _ _ => trivial))).mono ?_)
    intro r w5 hr
    have x5 := (x12.trans hx).trans hr.1
    refine Exists.elim hr.2 fun R hR => ?_
    have hSR := hR.1
    refine Exists.elim hR.2 fun sv hsv => ?_
    have hre := hsv.1
    subst hre
    have hend : ∀ k : Int, k = flipC R.code → ImpO N F c limit k := fun k hk => by
      unfold ImpO
      rw [if_pos ⟨hF, hL, hlm⟩]
      exact ⟨R, hSR, hk⟩
    have hcode : R.code = 1 ∨ R.code = 2 ∨ R.code = 3 := by
      unfold SeaO at hSR
      rw [if_pos ⟨hF, litsOk_iff.2 (negs_ok hL), hlm⟩] at hSR
      obtain ⟨o, _, rfl⟩ := hSR
      exact seaRes_code
    refine br_dec (fun h1 => ?_) (fun h1 => ?_)
    · exact ⟨x5, 2, rfl, hend 2 (by unfold flipC; rw [if_pos h1])⟩
    refine br_dec (fun h2 => ?_) (fun h2 => ?_)
    · exact ⟨x5, 1, rfl, hend 1 (by unfold flipC; rw [if_neg h1, if_pos h2])⟩
    exact ⟨x5, R.code, rfl, hend _ (by unfold flipC; rw [if_neg h1, if_neg h2]; omega)⟩

set_option maxHeartbeats 4000000 in
theorem impl_Implied (n : Int) (F : Cnf) (c : List Int) (limit : Int) (s t : Value) (W : World) (hs : SlR eL allB W s F) (ht : SlR eI allB W t c) :
    Ret Try.prog 56 #[fv n s, t, .int .i64 limit] W (ImpR n F c limit W) := by
  have hlm : (maxLen : Int) ≤ 9223372036854775807 := by decide
  obtain ⟨a, cp, rfl, hcl, hcells⟩ := sl_cells ht
  have x1 : Ext W (W.alloc (.cells #[.int .i64 n, s] 25)) := Ext.new _ _
  have hb := boxedAll W [.int .i64 n, s] 25
  have nothing : ∀ {w' : World}, Ext W w' → ¬ (fOk n F = true ∧ clOk n c = true ∧ 0 ≤ limit ∧ limit ≤ 3000) → ImpR n F c limit W (.int .i64 0) w' := fun hx h => ⟨hx, 0, rfl, by unfold ImpO; rw [if_neg h]⟩
  refine ret_of_vc ties mixed Try.func56 rfl (by kernel_rfl) rfl rfl ?_
  refine ⟨[.int .i64 n, s], rfl, hb, ?_⟩
  refine Or.inl ((impl_FormulaOk n F s _ (hs.ext x1)).mono ?_)
  rintro _ w2 ⟨rfl, x2⟩
  have x12 := x1.trans x2
  refine br_not (fun h => ?_) (fun hF => ?_)
  · exact nothing x12 (by simp [h])
  have hn := fOk_n' hF
  refine ⟨_, (hb.ext x2).1, ?_⟩
  refine Or.inl ((impl_clauseOk c _ n _ (ht.ext x12) hn.1 hn.2.1).mono ?_)
  rintro _ w3 ⟨rfl, x3⟩
  have x13 := x12.trans x3
  refine br_not (fun h => ?_) (fun hL => ?_)
  · exact nothing x13 (by simp [h])
  refine Or.inl ((limitOk_ret limit _).mono ?_)
  rintro _ _ ⟨rfl, rfl⟩
  refine br_ndec (fun h => ?_) (fun hlm => ?_)
  · exact nothing x13 fun h' => h h'.2.2
  obtain ⟨N, rfl⟩ : ∃ N : Nat, n = N := ⟨n.toNat, by omega⟩
  obtain ⟨m, rfl⟩ : ∃ m : Nat, limit = m := ⟨limit.toNat, by omega⟩
  have hcn := cl_len hL
  have hlits := clOk_lits hL
  have hnl : (negs c).length = c.length := by simp [negs]
  refine loop_rule (σ := Nat × Value × Value) [7, 9, 30] 31 40 (fun q => [q.2.1, q.2.2, .int .i64 q.1])
    (fun q w' => Ext w3 w' ∧ q.1 ≤ c.length ∧ OwnR eI noB w' q.2.1 ((negs c).take q.1) ∧ ∀ b, blk q.2.1 b → w3.heap.size ≤ b)
    (fun q => c.length - q.1) (0, _, undef) (vs3 rfl rfl rfl) ⟨Ext.refl _, Nat.zero_le _, OwnR.nil _ _ _ _, fun b hb => hb.elim⟩ ?_
  rintro ⟨k, ov, j1⟩ w junk ⟨hx, hk, ho, hob⟩ K hK
  simp only at hk ho hob
  show vc _ _ _ _ (over [7, 9, 30] [ov, j1, .int .i64 k] _) _
  refine br_dec (fun h3 => ?_) (fun h3 => ?_)
  · have hkl : k < c.length := by omega
    have hlk := litOk_iff.1 (hlits (c.getD k 0) (by rw [List.getD_eq_getElem?_getD, List.getElem?_eq_getElem hkl]; exact List.getElem_mem hkl))
    refine Exists.elim (hcells k hkl) fun b h => Exists.elim h fun o hbo => ?_
    have hae := hbo.1
    subst hae
    have hcell := (x13.trans hx).cell hbo.2
    have htk := negs_take hkl
    refine ⟨⟨by omega, by omega⟩, _, hcell, ?_⟩
    refine ⟨-(c.getD k 0), (congrArg _ (Int.zero_sub _)).trans (IntWalk.i64_in _ (by omega)), ?_⟩
    refine raw_push (E := eI) (ok := noB) (x := -(c.getD k 0)) ties rfl rfl rfl rfl rfl rfl rfl rfl rfl rfl rfl ho rfl noB_blk (by rw [List.length_take]; show (min k (negs c).length + 1) * 8 ≤ _; omega) (by rw [List.length_take]; omega) ?_
    intro v' w' hv' hch' hsz' hvb'
    refine ⟨_, IntWalk.i64_in _ (by omega), ?_⟩
    refine hK (k + 1, v', _) _ _ (vs3 rfl rfl (vint (by show (k : Int) + 1 = ((k + 1 : Nat) : Int); omega))) ⟨hx.chg hch' hob, by show k + 1 ≤ _; omega, ?_, fun b hb => ?_⟩ (by show c.length - (k + 1) < c.length - k; omega) ?_
    · show OwnR eI noB w' v' ((negs c).take (k + 1))
      rw [htk]; exact hv'
    · rcases hvb' b hb with h | h
      · exact hob b h
      · exact Nat.le_trans hx.size (Nat.le_of_lt h.1)
    · ((repeat (first | (with_reducible exact Only.refl) | (with_reducible refine Only.skip ?_) | ((with_reducible refine Only.upd ?_ ?_); rfl) | ((with_reducible refine Only.over ?_ ?_ _); rfl) | ((with_reducible refine Only.hav ?_ ?_ ?_); rfl; rfl))))
  · have : k = c.length := by omega
    subst this
    rw [← hnl, List.take_length] at ho
    refine ⟨[.int .i64 N, s], rfl, hb.ext ((x2.trans x3).trans hx), ?_⟩
    have x1w := x13.trans hx
    refine Or.inl ((newSolver_ret N F s _ (hs.ext x1w) hF).mono ?_)
    intro sp w4 hS
    refine Or.inl ((search_ret N F m (negs c) ov sp _ hS.2 ((ho.ext hS.1).sl (fun _ _ => trivial) (fun _ _ => trivial)) hF (negs_ok hL) (by omega) (by omega)).mono ?_)
    intro r w5 hr
    have x5 := (x1w.trans hS.1).trans hr.1
    refine Exists.elim hr.2 fun o hR => ?_
    refine Exists.elim hR.2 fun sv hsv => ?_
    have hre := hsv.1
    subst hre
    have hSR : SeaO N F (negs c) m (seaRes F N m o) := by
      unfold SeaO
      rw [if_pos ⟨hF, litsOk_iff.2 (negs_ok hL), hlm⟩]
      exact ⟨o, by rw [Int.toNat_natCast]; exact hR.1, by rw [Int.toNat_natCast, Int.toNat_natCast]⟩
    have hend : ∀ k : Int, k = flipC (seaRes F N m o).code → ImpO N F c m k := fun k hk => by
      unfold ImpO
      rw [if_pos ⟨hF, hL, hlm⟩]
      exact ⟨_, hSR, hk⟩
    refine br_dec (fun h1 => ?_) (fun h1 => ?_)
    · exact ⟨x5, 1, rfl, hend 1 (by unfold flipC; rw [if_neg (by omega), if_pos h1])⟩
    refine br_dec (fun h2 => ?_) (fun h2 => ?_)
    · exact ⟨x5, 2, rfl, hend 2 (by unfold flipC; rw [if_pos h2])⟩
    exact ⟨x5, 3, rfl, hend _ (by unfold flipC; rw [if_neg h2, if_neg h1])⟩

end Go.Proofs.Ytfmflffggcphjaa
