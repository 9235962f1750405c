/- Resolve: both contracts. -/
import Derived.Test.YtfmflffggcphjaaMx
namespace Go.Sat
open Go.Vc
def flt (l : List Int) (x : Int) (k : Nat) : List Int := (l.take k).filter fun y => decide (y ≠ x)
theorem flt_step {l : List Int} {x : Int} {k : Nat} (hk : k < l.length) : flt l x (k + 1) = flt l x k ++ (if l.getD k 0 = x then [] else [l.getD k 0]) := by
  unfold flt
  rw [take_snoc' hk, List.filter_append, List.getD_eq_getElem?_getD, List.getElem?_eq_getElem hk]
  congr 1
  simp only [Option.getD_some]
  by_cases h : l[k]'hk = x
  · rw [if_pos h]; simp [h]
  · rw [if_neg h]; simp [h]
theorem flt_len {l : List Int} {x : Int} {k : Nat} : (flt l x k).length ≤ l.length := Nat.le_trans (List.length_filter_le _ _) (by rw [List.length_take]; omega)
/-- What Resolve gives. -/
def resO (a b : List Int) (v : Int) : Option (List Int) := if clOk 400 a = true ∧ clOk 400 b = true ∧ 1 ≤ v ∧ v ∈ a ∧ -v ∈ b then mkcO (flt a v a.length ++ flt b (-v) b.length) else none
theorem resO_no {a b : List Int} {v : Int} (h : ¬ (clOk 400 a = true ∧ clOk 400 b = true ∧ 1 ≤ v ∧ v ∈ a ∧ -v ∈ b)) : resO a b v = none := by unfold resO; rw [if_neg h]
end Go.Sat
namespace Go.Proofs.Ytfmflffggcphjaa
open Go Go.Vc Go.RowKit Go.Sat
set_option linter.unusedVariables false

theorem resO_len {a b : List Int} {v : Int} : ((resO a b v).getD []).length ≤ 400 := by
  cases h : resO a b v with
  | none => simp
  | some c =>
    unfold resO at h
    split at h
    · have := cl_len (n := 400) (mkcO_some h).1
      simpa using this
    · cases h
def OptR (o : Option (List Int)) (W : World) (r : Value) (w' : World) : Prop := Ext W w' ∧ ∃ s, r = .tuple #[s, .bool o.isSome] ∧ OwnR eI noB w' s (o.getD []) ∧ ∀ b, blk s b → W.heap.size ≤ b
theorem OptR.no {o : Option (List Int)} {W w' : World} (hx : Ext W w') (h : o = none) : OptR o W (.tuple #[.slice none 0 0, .bool false]) w' := by
  subst h
  exact ⟨hx, _, rfl, OwnR.nil _ _ _ _, fun b hb => hb.elim⟩
theorem getD_iff {l : List Int} {x : Int} : x ∈ l ↔ ∃ j, j < l.length ∧ l.getD j 0 = x := by
  rw [List.mem_iff_getElem?]
  constructor
  · rintro ⟨j, hj⟩
    exact ⟨j, (List.getElem?_eq_some_iff.1 hj).1, by rw [List.getD_eq_getElem?_getD, hj]; rfl⟩
  · rintro ⟨j, hj, rfl⟩
    exact ⟨j, by rw [List.getD_eq_getElem?_getD, List.getElem?_eq_getElem hj]; rfl⟩
theorem l03Has_ret (l : List Int) (s : Value) (x : Int) (W : World) (hs : SlR eI allB W s l) : Ret Try.prog 109 #[s, .int .i64 x] W (fun v w' => v = .bool (decide (x ∈ l)) ∧ W = w') := by
  have hlm : (maxLen : Int) ≤ 9223372036854775807 := by decide
  obtain ⟨pa, cpa, rfl, hla, hcells⟩ := sl_cells hs
  refine ret_of_vc ties mixed Try.func109 rfl (by kernel_rfl) rfl rfl ?_
  refine loop_rule (σ := Nat × Value) [6, 9] 10 17 (fun q => [q.2, .int .i64 q.1]) (fun q w' => W = w' ∧ q.1 ≤ l.length ∧ ∀ j, j < q.1 → l.getD j 0 ≠ x) (fun q => l.length - q.1) (0, undef) rfl ⟨rfl, Nat.zero_le _, fun j hj => by omega⟩ ?_
  rintro ⟨k, j6⟩ w junk ⟨hw, hk, hno⟩ K hK
  subst hw
  simp only at hk hno
  show vc _ _ _ _ (over [6, 9] [j6, .int .i64 k] _) _
  refine br_dec (fun h3 => ?_) (fun h3 => ?_)
  · have hkl : k < l.length := by omega
    refine Exists.elim (hcells k hkl) fun b0 h => Exists.elim h fun o0 hh => ?_
    have hae := hh.1
    subst hae
    refine ⟨⟨by omega, by omega⟩, _, hh.2, ?_⟩
    refine br_dec (fun h4 => ?_) (fun h4 => ?_)
    · exact ⟨vbool (by rw [decide_eq_true (getD_iff.2 ⟨k, hkl, h4.symm⟩)]), rfl⟩
    · refine ⟨_, IntWalk.i64_in _ (by omega), ?_⟩
      refine hK (k + 1, _) _ _ (vs2 rfl (vint (by show (k : Int) + 1 = ((k + 1 : Nat) : Int); omega))) ⟨rfl, by show k + 1 ≤ _; omega, fun j hj => ?_⟩ (by show l.length - (k + 1) < l.length - k; omega) ?_
      · by_cases e : j = k
        · rw [e]; exact fun e2 => h4 e2.symm
        · exact hno j (by have : j < k + 1 := hj; omega)
      · ((repeat (first | (with_reducible exact Only.refl) | (with_reducible refine Only.skip ?_) | ((with_reducible refine Only.upd ?_ ?_); rfl) | ((with_reducible refine Only.over ?_ ?_ _); rfl) | ((with_reducible refine Only.hav ?_ ?_ ?_); rfl; rfl))))
  · have hke : k = l.length := by omega
    refine ⟨vbool ?_, rfl⟩
    rw [decide_eq_false]
    intro hm
    obtain ⟨j, hj, he⟩ := getD_iff.1 hm
    exact hno j (by omega) he
theorem contains_ret (l : List Int) (s : Value) (x : Int) (W : World) (hs : SlR eI allB W s l) : Ret Try.prog 110 #[s, .int .i64 x] W (fun v w' => v = .bool (decide (x ∈ l)) ∧ W = w') := by
  have hix : Ret Try.prog 128 #[s, .int .i64 x] W (fun v w' => (∃ i : Int, v = .int .i64 i ∧ (0 ≤ i ↔ x ∈ l)) ∧ W = w') := by
    have hlm : (maxLen : Int) ≤ 9223372036854775807 := by decide
    obtain ⟨pa, cpa, rfl, hla, hcells⟩ := sl_cells hs
    refine ret_of_vc ties mixed Try.func128 rfl (by kernel_rfl) rfl rfl ?_
    refine loop_rule (σ := Nat × Value) [5, 8] 9 19 (fun q => [q.2, .int .i64 q.1]) (fun q w' => W = w' ∧ q.1 ≤ l.length ∧ ∀ j, j < q.1 → l.getD j 0 ≠ x) (fun q => l.length - q.1) (0, undef) rfl ⟨rfl, Nat.zero_le _, fun j hj => by omega⟩ ?_
    rintro ⟨k, j6⟩ w junk ⟨hw, hk, hno⟩ K hK
    subst hw
    simp only at hk hno
    show vc _ _ _ _ (over [5, 8] [j6, .int .i64 k] _) _
    refine br_dec (fun h3 => ?_) (fun h3 => ?_)
    · have hkl : k < l.length := by omega
      refine Exists.elim (hcells k hkl) fun b0 h => Exists.elim h fun o0 hh => ?_
      have hae := hh.1
      subst hae
      refine ⟨⟨by omega, by omega⟩, _, hh.2, ?_⟩
      refine br_dec (fun h4 => ?_) (fun h4 => ?_)
      · exact ⟨⟨(k : Int), rfl, ⟨fun _ => getD_iff.2 ⟨k, hkl, h4.symm⟩, fun _ => by omega⟩⟩, rfl⟩
      · refine ⟨_, IntWalk.i64_in _ (by omega), ?_⟩
        refine hK (k + 1, _) _ _ (vs2 rfl (vint (by show (k : Int) + 1 = ((k + 1 : Nat) : Int); omega))) ⟨rfl, by show k + 1 ≤ _; omega, fun j hj => ?_⟩ (by show l.length - (k + 1) < l.length - k; omega) ?_
        · by_cases e : j = k
          · rw [e]; exact fun e2 => h4 e2.symm
          · exact hno j (by have : j < k + 1 := hj; omega)
        · ((repeat (first | (with_reducible exact Only.refl) | (with_reducible refine Only.skip ?_) | ((with_reducible refine Only.upd ?_ ?_); rfl) | ((with_reducible refine Only.over ?_ ?_ _); rfl) | ((with_reducible refine Only.hav ?_ ?_ ?_); rfl; rfl))))
    · have hke : k = l.length := by omega
      refine ⟨⟨-1, rfl, ⟨fun h => by omega, fun hm => ?_⟩⟩, rfl⟩
      obtain ⟨j, hj, he⟩ := getD_iff.1 hm
      exact absurd he (hno j (by omega))
  refine ret_of_vc ties mixed Try.func110 rfl (by kernel_rfl) rfl rfl ?_
  refine Or.inl ((hix).mono ?_)
  rintro _ _ ⟨⟨i, rfl, hi⟩, rfl⟩
  exact ⟨vbool (by by_cases h : x ∈ l <;> simp [h, hi]), rfl⟩

set_option maxHeartbeats 4000000 in
theorem spec_Resolve (a b : List Int) (v : Int) (s t : Value) (W : World) (ha : SlR eI allB W s a) (hb : SlR eI allB W t b) (hvi : v ≤ 9223372036854775807) :
    Ret Try.prog 67 #[s, t, .int .i64 v] W (OptR (resO a b v) W) := by
  have hlm : (maxLen : Int) ≤ 9223372036854775807 := by decide
  obtain ⟨pa, cpa, rfl, hla, hca0⟩ := sl_cells ha
  obtain ⟨pb, cpb, rfl, hlb, hcb0⟩ := sl_cells hb
  refine ret_of_vc ties mixed Try.func67 rfl (by kernel_rfl) rfl rfl ?_
  refine Or.inl ((spec_l03Clause a _ 400 W ha (by decide) (by decide)).mono ?_)
  rintro _ _ ⟨rfl, rfl⟩
  refine br_not (fun h => ?_) (fun hca => ?_)
  · exact OptR.no (Ext.refl _) (resO_no fun h' => by rw [h'.1] at h; cases h)
  refine Or.inl ((spec_l03Clause b _ 400 W hb (by decide) (by decide)).mono ?_)
  rintro _ _ ⟨rfl, rfl⟩
  refine br_not (fun h => ?_) (fun hcb => ?_)
  · exact OptR.no (Ext.refl _) (resO_no fun h' => by rw [h'.2.1] at h; cases h)
  refine br_dec (fun h => ?_) (fun hv1 => ?_)
  · exact OptR.no (Ext.refl _) (resO_no fun h' => by have := h'.2.2.1; omega)
  refine Or.inl ((l03Has_ret a _ v W ha).mono ?_)
  rintro _ _ ⟨rfl, rfl⟩
  refine br_ndec (fun h => ?_) (fun hma => ?_)
  · exact OptR.no (Ext.refl _) (resO_no fun h' => h h'.2.2.2.1)
  refine ⟨-v, (congrArg _ (Int.zero_sub _)).trans (IntWalk.i64_in _ (by omega)), ?_⟩
  refine Or.inl ((l03Has_ret b _ (-v) W hb).mono ?_)
  rintro _ _ ⟨rfl, rfl⟩
  refine br_ndec (fun h => ?_) (fun hmb => ?_)
  · exact OptR.no (Ext.refl _) (resO_no fun h' => h h'.2.2.2.2)
  have x0 : Ext W W := Ext.refl W
  have hna := cl_len (n := 400) hca
  have hnb := cl_len (n := 400) hcb
  have hres : resO a b v = mkcO (flt a v a.length ++ flt b (-v) b.length) := by unfold resO; rw [if_pos ⟨hca, hcb, by omega, hma, hmb⟩]
  refine loop_rule (σ := Nat × Value × Value) [8, 10, 41] 42 53 (fun q => [q.2.1, q.2.2, .int .i64 q.1])
    (fun q w' => Ext W w' ∧ q.1 ≤ a.length ∧ OwnR eI noB w' q.2.1 (flt a v q.1) ∧ ∀ b, blk q.2.1 b → W.heap.size ≤ b)
    (fun q => a.length - q.1) (0, _, undef) (vs3 rfl rfl rfl) ⟨Ext.new _ _, Nat.zero_le _, OwnR.nil _ _ _ _, fun b hb => by rw [blk_is hb]; exact Nat.le_refl _⟩ ?_
  rintro ⟨k, ov, j1⟩ w junk ⟨hx, hk, ho, hob⟩ K hK
  simp only at hk ho hob
  show vc _ _ _ _ (over [8, 10, 41] [ov, j1, .int .i64 k] _) _
  refine br_dec (fun h3 => ?_) (fun h3 => ?_)
  · have hkl : k < a.length := by omega
    refine Exists.elim (hca0 k hkl) fun b0 h => Exists.elim h fun o0 hh => ?_
    have hae := hh.1
    subst hae
    have hcell := (x0.trans hx).cell hh.2
    have hft := flt_step (x := v) hkl
    have hfl := flt_len (l := a) (x := v) (k := k)
    refine ⟨⟨by omega, by omega⟩, _, hcell, ?_⟩
    skip
    refine br_dec (fun h4 => ?_) (fun h4 => ?_)
    · rw [if_neg (show ¬ a.getD k 0 = v from h4)] at hft
      refine raw_push (E := eI) (ok := noB) (x := a.getD k 0) ties rfl rfl rfl rfl rfl rfl rfl rfl rfl rfl rfl ho rfl noB_blk (by show ((flt a v k).length + 1) * 8 ≤ _; omega) (by omega) ?_
      intro v8 w8 hv8 hch8 hsz8 hvb8
      refine ⟨_, IntWalk.i64_in _ (by omega), ?_⟩
      refine hK (k + 1, v8, _) _ _ (vs3 rfl rfl (vint (by show (k : Int) + 1 = ((k + 1 : Nat) : Int); omega))) ⟨hx.chg hch8 hob, by show k + 1 ≤ _; omega, by show OwnR eI noB w8 v8 (flt a v (k + 1)); rw [hft]; exact hv8, fun b hb => ?_⟩ (by show a.length - (k + 1) < a.length - k; omega) ?_
      · rcases hvb8 b hb with h | h
        · exact hob b h
        · exact Nat.le_trans hx.size (Nat.le_of_lt h.1)
      · ((repeat (first | (with_reducible exact Only.refl) | (with_reducible refine Only.skip ?_) | ((with_reducible refine Only.upd ?_ ?_); rfl) | ((with_reducible refine Only.over ?_ ?_ _); rfl) | ((with_reducible refine Only.hav ?_ ?_ ?_); rfl; rfl))))
    · rw [if_pos (show a.getD k 0 = v by omega), List.append_nil] at hft
      refine ⟨_, IntWalk.i64_in _ (by omega), ?_⟩
      refine hK (k + 1, ov, _) _ _ (vs3 rfl rfl (vint (by show (k : Int) + 1 = ((k + 1 : Nat) : Int); omega))) ⟨hx, by show k + 1 ≤ _; omega, by show OwnR eI noB w ov (flt a v (k + 1)); rw [hft]; exact ho, hob⟩ (by show a.length - (k + 1) < a.length - k; omega) ?_
      ((repeat (first | (with_reducible exact Only.refl) | (with_reducible refine Only.skip ?_) | ((with_reducible refine Only.upd ?_ ?_); rfl) | ((with_reducible refine Only.over ?_ ?_ _); rfl) | ((with_reducible refine Only.hav ?_ ?_ ?_); rfl; rfl))))
  · have hke : k = a.length := by omega
    rw [hke] at ho
    have hini : OwnR eI noB w ov (flt a v a.length ++ flt b (-v) 0) := by simp only [flt, List.take_zero, List.filter_nil, List.append_nil]; exact ho
    refine loop_rule (σ := Nat × Value × Value) [8, 12, 55] 56 68 (fun q => [q.2.1, q.2.2, .int .i64 q.1])
      (fun q w' => Ext W w' ∧ q.1 ≤ b.length ∧ OwnR eI noB w' q.2.1 (flt a v a.length ++ flt b (-v) q.1) ∧ ∀ b, blk q.2.1 b → W.heap.size ≤ b)
      (fun q => b.length - q.1) (0, ov, undef) (vs3 rfl rfl rfl) ⟨hx, Nat.zero_le _, hini, hob⟩ ?_
    clear hini ho hob hx hk hK h3 hke
    have hfa := flt_len (l := a) (x := v) (k := a.length)
    rintro ⟨k, ov, j1⟩ w junk ⟨hx, hk, ho, hob⟩ K hK
    simp only at hk ho hob
    show vc _ _ _ _ (over [8, 12, 55] [ov, j1, .int .i64 k] _) _
    refine br_dec (fun h3 => ?_) (fun h3 => ?_)
    · have hkl : k < b.length := by omega
      refine Exists.elim (hcb0 k hkl) fun b0 h => Exists.elim h fun o0 hh => ?_
      have hae := hh.1
      subst hae
      have hcell := (x0.trans hx).cell hh.2
      have hft := flt_step (x := (-v)) hkl
      have hfl := flt_len (l := b) (x := (-v)) (k := k)
      refine ⟨⟨by omega, by omega⟩, _, hcell, ?_⟩
      refine ⟨-v, (congrArg _ (Int.zero_sub _)).trans (IntWalk.i64_in _ (by omega)), ?_⟩
      refine br_dec (fun h4 => ?_) (fun h4 => ?_)
      · rw [if_neg (show ¬ b.getD k 0 = (-v) from h4)] at hft
        refine raw_push (E := eI) (ok := noB) (x := b.getD k 0) ties rfl rfl rfl rfl rfl rfl rfl rfl rfl rfl rfl ho rfl noB_blk (by rw [List.length_append]; show (_ + _ + 1) * 8 ≤ _; omega) (by rw [List.length_append]; omega) ?_
        intro v8 w8 hv8 hch8 hsz8 hvb8
        refine ⟨_, IntWalk.i64_in _ (by omega), ?_⟩
        refine hK (k + 1, v8, _) _ _ (vs3 rfl rfl (vint (by show (k : Int) + 1 = ((k + 1 : Nat) : Int); omega))) ⟨hx.chg hch8 hob, by show k + 1 ≤ _; omega, by show OwnR eI noB w8 v8 (flt a v a.length ++ flt b (-v) (k + 1)); rw [hft, ← List.append_assoc]; exact hv8, fun b hb => ?_⟩ (by show b.length - (k + 1) < b.length - k; omega) ?_
        · rcases hvb8 b hb with h | h
          · exact hob b h
          · exact Nat.le_trans hx.size (Nat.le_of_lt h.1)
        · ((repeat (first | (with_reducible exact Only.refl) | (with_reducible refine Only.skip ?_) | ((with_reducible refine Only.upd ?_ ?_); rfl) | ((with_reducible refine Only.over ?_ ?_ _); rfl) | ((with_reducible refine Only.hav ?_ ?_ ?_); rfl; rfl))))
      · rw [if_pos (show b.getD k 0 = (-v) by omega), List.append_nil] at hft
        refine ⟨_, IntWalk.i64_in _ (by omega), ?_⟩
        refine hK (k + 1, ov, _) _ _ (vs3 rfl rfl (vint (by show (k : Int) + 1 = ((k + 1 : Nat) : Int); omega))) ⟨hx, by show k + 1 ≤ _; omega, by show OwnR eI noB w ov (flt a v a.length ++ flt b (-v) (k + 1)); rw [hft]; exact ho, hob⟩ (by show b.length - (k + 1) < b.length - k; omega) ?_
        ((repeat (first | (with_reducible exact Only.refl) | (with_reducible refine Only.skip ?_) | ((with_reducible refine Only.upd ?_ ?_); rfl) | ((with_reducible refine Only.over ?_ ?_ _); rfl) | ((with_reducible refine Only.hav ?_ ?_ ?_); rfl; rfl))))
    · have hke : k = b.length := by omega
      rw [hke] at ho
      refine Or.inl ((spec_MakeClause (flt a v a.length ++ flt b (-v) b.length) ov w (ho.sl (fun _ _ => trivial) (fun _ _ => trivial))).mono ?_)
      intro r w9 hr
      have x9 := x0.trans hx
      refine Exists.elim hr.2 fun sv hsv => ?_
      have hre := hsv.1
      subst hre
      have hown : OwnR eI noB w9 sv ((resO a b v).getD []) := by rw [hres]; exact hsv.2.1
      have heq : Value.tuple #[sv, .bool (mkcO (flt a v a.length ++ flt b (-v) b.length)).isSome] = Value.tuple #[sv, .bool (resO a b v).isSome] := by rw [hres]
      exact ⟨x9.trans hr.1, sv, Eq.trans (b := Value.tuple #[sv, .bool (mkcO (flt a v a.length ++ flt b (-v) b.length)).isSome]) rfl heq, hown, fun b hb => Nat.le_trans x9.size (hsv.2.2 b hb)⟩

set_option maxHeartbeats 4000000 in
theorem impl_Resolve (a b : List Int) (v : Int) (s t : Value) (W : World) (ha : SlR eI allB W s a) (hb : SlR eI allB W t b) (hvi : v ≤ 9223372036854775807) :
    Ret Try.prog 68 #[s, t, .int .i64 v] W (OptR (resO a b v) W) := by
  have hlm : (maxLen : Int) ≤ 9223372036854775807 := by decide
  obtain ⟨pa, cpa, rfl, hla, hca0⟩ := sl_cells ha
  obtain ⟨pb, cpb, rfl, hlb, hcb0⟩ := sl_cells hb
  refine ret_of_vc ties mixed Try.func68 rfl (by kernel_rfl) rfl rfl ?_
  refine Or.inl ((impl_clauseOk a _ 400 W ha (by decide) (by decide)).mono ?_)
  rintro _ w1 ⟨rfl, x1⟩
  refine br_not (fun h => ?_) (fun hca => ?_)
  · exact OptR.no x1 (resO_no fun h' => by rw [h'.1] at h; cases h)
  refine Or.inl ((impl_clauseOk b _ 400 w1 (hb.ext x1) (by decide) (by decide)).mono ?_)
  rintro _ w2 ⟨rfl, x2⟩
  refine br_not (fun h => ?_) (fun hcb => ?_)
  · exact OptR.no (x1.trans x2) (resO_no fun h' => by rw [h'.2.1] at h; cases h)
  have x0 := x1.trans x2
  refine br_dec (fun h => ?_) (fun hv1 => ?_)
  · exact OptR.no x0 (resO_no fun h' => by have := h'.2.2.1; omega)
  refine Or.inl ((contains_ret a _ v w2 (ha.ext x0)).mono ?_)
  rintro _ _ ⟨rfl, rfl⟩
  refine br_ndec (fun h => ?_) (fun hma => ?_)
  · exact OptR.no x0 (resO_no fun h' => h h'.2.2.2.1)
  refine ⟨-v, (congrArg _ (Int.zero_sub _)).trans (IntWalk.i64_in _ (by omega)), ?_⟩
  refine Or.inl ((contains_ret b _ (-v) w2 (hb.ext x0)).mono ?_)
  rintro _ _ ⟨rfl, rfl⟩
  refine br_ndec (fun h => ?_) (fun hmb => ?_)
  · exact OptR.no x0 (resO_no fun h' => h h'.2.2.2.2)
  have hna := cl_len (n := 400) hca
  have hnb := cl_len (n := 400) hcb
  have hres : resO a b v = mkcO (flt a v a.length ++ flt b (-v) b.length) := by unfold resO; rw [if_pos ⟨hca, hcb, by omega, hma, hmb⟩]
  refine loop_rule (σ := Nat × Value × Value) [8, 10, 38] 39 50 (fun q => [q.2.1, q.2.2, .int .i64 q.1])
    (fun q w' => Ext w2 w' ∧ q.1 ≤ a.length ∧ OwnR eI noB w' q.2.1 (flt a v q.1) ∧ ∀ b, blk q.2.1 b → w2.heap.size ≤ b)
    (fun q => a.length - q.1) (0, .slice none 0 0, undef) (vs3 rfl rfl rfl) ⟨Ext.refl _, Nat.zero_le _, OwnR.nil _ _ _ _, fun b hb => hb.elim⟩ ?_
  rintro ⟨k, ov, j1⟩ w junk ⟨hx, hk, ho, hob⟩ K hK
  simp only at hk ho hob
  show vc _ _ _ _ (over [8, 10, 38] [ov, j1, .int .i64 k] _) _
  refine br_dec (fun h3 => ?_) (fun h3 => ?_)
  · have hkl : k < a.length := by omega
    refine Exists.elim (hca0 k hkl) fun b0 h => Exists.elim h fun o0 hh => ?_
    have hae := hh.1
    subst hae
    have hcell := (x0.trans hx).cell hh.2
    have hft := flt_step (x := v) hkl
    have hfl := flt_len (l := a) (x := v) (k := k)
    refine ⟨⟨by omega, by omega⟩, _, hcell, ?_⟩
    skip
    refine br_dec (fun h4 => ?_) (fun h4 => ?_)
    · rw [if_neg (show ¬ a.getD k 0 = v from h4)] at hft
      refine raw_push (E := eI) (ok := noB) (x := a.getD k 0) ties rfl rfl rfl rfl rfl rfl rfl rfl rfl rfl rfl ho rfl noB_blk (by show ((flt a v k).length + 1) * 8 ≤ _; omega) (by omega) ?_
      intro v8 w8 hv8 hch8 hsz8 hvb8
      refine ⟨_, IntWalk.i64_in _ (by omega), ?_⟩
      refine hK (k + 1, v8, _) _ _ (vs3 rfl rfl (vint (by show (k : Int) + 1 = ((k + 1 : Nat) : Int); omega))) ⟨hx.chg hch8 hob, by show k + 1 ≤ _; omega, by show OwnR eI noB w8 v8 (flt a v (k + 1)); rw [hft]; exact hv8, fun b hb => ?_⟩ (by show a.length - (k + 1) < a.length - k; omega) ?_
      · rcases hvb8 b hb with h | h
        · exact hob b h
        · exact Nat.le_trans hx.size (Nat.le_of_lt h.1)
      · ((repeat (first | (with_reducible exact Only.refl) | (with_reducible refine Only.skip ?_) | ((with_reducible refine Only.upd ?_ ?_); rfl) | ((with_reducible refine Only.over ?_ ?_ _); rfl) | ((with_reducible refine Only.hav ?_ ?_ ?_); rfl; rfl))))
    · rw [if_pos (show a.getD k 0 = v by omega), List.append_nil] at hft
      refine ⟨_, IntWalk.i64_in _ (by omega), ?_⟩
      refine hK (k + 1, ov, _) _ _ (vs3 rfl rfl (vint (by show (k : Int) + 1 = ((k + 1 : Nat) : Int); omega))) ⟨hx, by show k + 1 ≤ _; omega, by show OwnR eI noB w ov (flt a v (k + 1)); rw [hft]; exact ho, hob⟩ (by show a.length - (k + 1) < a.length - k; omega) ?_
      ((repeat (first | (with_reducible exact Only.refl) | (with_reducible refine Only.skip ?_) | ((with_reducible refine Only.upd ?_ ?_); rfl) | ((with_reducible refine Only.over ?_ ?_ _); rfl) | ((with_reducible refine Only.hav ?_ ?_ ?_); rfl; rfl))))
  · have hke : k = a.length := by omega
    rw [hke] at ho
    have hini : OwnR eI noB w ov (flt a v a.length ++ flt b (-v) 0) := by simp only [flt, List.take_zero, List.filter_nil, List.append_nil]; exact ho
    refine loop_rule (σ := Nat × Value × Value) [8, 12, 52] 53 65 (fun q => [q.2.1, q.2.2, .int .i64 q.1])
      (fun q w' => Ext w2 w' ∧ q.1 ≤ b.length ∧ OwnR eI noB w' q.2.1 (flt a v a.length ++ flt b (-v) q.1) ∧ ∀ b, blk q.2.1 b → w2.heap.size ≤ b)
      (fun q => b.length - q.1) (0, ov, undef) (vs3 rfl rfl rfl) ⟨hx, Nat.zero_le _, hini, hob⟩ ?_
    clear hini ho hob hx hk hK h3 hke
    have hfa := flt_len (l := a) (x := v) (k := a.length)
    rintro ⟨k, ov, j1⟩ w junk ⟨hx, hk, ho, hob⟩ K hK
    simp only at hk ho hob
    show vc _ _ _ _ (over [8, 12, 52] [ov, j1, .int .i64 k] _) _
    refine br_dec (fun h3 => ?_) (fun h3 => ?_)
    · have hkl : k < b.length := by omega
      refine Exists.elim (hcb0 k hkl) fun b0 h => Exists.elim h fun o0 hh => ?_
      have hae := hh.1
      subst hae
      have hcell := (x0.trans hx).cell hh.2
      have hft := flt_step (x := (-v)) hkl
      have hfl := flt_len (l := b) (x := (-v)) (k := k)
      refine ⟨⟨by omega, by omega⟩, _, hcell, ?_⟩
      refine ⟨-v, (congrArg _ (Int.zero_sub _)).trans (IntWalk.i64_in _ (by omega)), ?_⟩
      refine br_dec (fun h4 => ?_) (fun h4 => ?_)
      · rw [if_neg (show ¬ b.getD k 0 = (-v) from h4)] at hft
        refine raw_push (E := eI) (ok := noB) (x := b.getD k 0) ties rfl rfl rfl rfl rfl rfl rfl rfl rfl rfl rfl ho rfl noB_blk (by rw [List.length_append]; show (_ + _ + 1) * 8 ≤ _; omega) (by rw [List.length_append]; omega) ?_
        intro v8 w8 hv8 hch8 hsz8 hvb8
        refine ⟨_, IntWalk.i64_in _ (by omega), ?_⟩
        refine hK (k + 1, v8, _) _ _ (vs3 rfl rfl (vint (by show (k : Int) + 1 = ((k + 1 : Nat) : Int); omega))) ⟨hx.chg hch8 hob, by show k + 1 ≤ _; omega, by show OwnR eI noB w8 v8 (flt a v a.length ++ flt b (-v) (k + 1)); rw [hft, ← List.append_assoc]; exact hv8, fun b hb => ?_⟩ (by show b.length - (k + 1) < b.length - k; omega) ?_
        · rcases hvb8 b hb with h | h
          · exact hob b h
          · exact Nat.le_trans hx.size (Nat.le_of_lt h.1)
        · ((repeat (first | (with_reducible exact Only.refl) | (with_reducible refine Only.skip ?_) | ((with_reducible refine Only.upd ?_ ?_); rfl) | ((with_reducible refine Only.over ?_ ?_ _); rfl) | ((with_reducible refine Only.hav ?_ ?_ ?_); rfl; rfl))))
      · rw [if_pos (show b.getD k 0 = (-v) by omega), List.append_nil] at hft
        refine ⟨_, IntWalk.i64_in _ (by omega), ?_⟩
        refine hK (k + 1, ov, _) _ _ (vs3 rfl rfl (vint (by show (k : Int) + 1 = ((k + 1 : Nat) : Int); omega))) ⟨hx, by show k + 1 ≤ _; omega, by show OwnR eI noB w ov (flt a v a.length ++ flt b (-v) (k + 1)); rw [hft]; exact ho, hob⟩ (by show b.length - (k + 1) < b.length - k; omega) ?_
        ((repeat (first | (with_reducible exact Only.refl) | (with_reducible refine Only.skip ?_) | ((with_reducible refine Only.upd ?_ ?_); rfl) | ((with_reducible refine Only.over ?_ ?_ _); rfl) | ((with_reducible refine Only.hav ?_ ?_ ?_); rfl; rfl))))
    · have hke : k = b.length := by omega
      rw [hke] at ho
      refine Or.inl ((impl_MakeClause (flt a v a.length ++ flt b (-v) b.length) ov w (ho.sl (fun _ _ => trivial) (fun _ _ => trivial)) (by rw [List.length_append]; have := flt_len (l := b) (x := -v) (k := b.length); omega)).mono ?_)
      intro r w9 hr
      have x9 := x0.trans hx
      refine Exists.elim hr.2 fun sv hsv => ?_
      have hre := hsv.1
      subst hre
      have hown : OwnR eI noB w9 sv ((resO a b v).getD []) := by rw [hres]; exact hsv.2.1
      have heq : Value.tuple #[sv, .bool (mkcO (flt a v a.length ++ flt b (-v) b.length)).isSome] = Value.tuple #[sv, .bool (resO a b v).isSome] := by rw [hres]
      exact ⟨x9.trans hr.1, sv, Eq.trans (b := Value.tuple #[sv, .bool (mkcO (flt a v a.length ++ flt b (-v) b.length)).isSome]) rfl heq, hown, fun b hb => Nat.le_trans x9.size (hsv.2.2 b hb)⟩

end Go.Proofs.Ytfmflffggcphjaa
