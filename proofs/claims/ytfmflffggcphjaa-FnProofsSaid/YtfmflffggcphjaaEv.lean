/- Contracts of EvalFormula, CountModels. -/
import Derived.Test.YtfmflffggcphjaaFm
namespace Go.Sat
open Go.Vc Go.RowKit
def satL (m : List Bool) (x : Int) : Bool := m.getD (av x - 1).toNat false == decide (0 < x)
def satC (m : List Bool) (c : Cl) : Bool := c.any (satL m)
def evF (F : Cnf) (m : List Bool) : Bool := F.all (satC m)
theorem any_step {α : Type} {p : α → Bool} {l : List α} {k : Nat} (h : k < l.length) : (l.take (k + 1)).any p = ((l.take k).any p || p (l[k]'h)) := by
  rw [List.take_succ_eq_append_getElem h, List.any_append]; simp
theorem any_yes {α : Type} {p : α → Bool} {l : List α} {k : Nat} (h : k < l.length) (hp : p (l[k]'h) = true) : l.any p = true := List.any_eq_true.2 ⟨_, List.getElem_mem h, hp⟩
theorem fOk_n {n : Int} {F : Cnf} (h : fOk n F = true) : 0 ≤ n ∧ n ≤ 400 ∧ F.length ≤ 1600 := by
  simp only [fOk, Bool.and_eq_true, decide_eq_true_eq] at h; exact h.1
theorem fOk_cl {n : Int} {F : Cnf} (h : fOk n F = true) : ∀ c ∈ F, clOk n c = true := by
  simp only [fOk, Bool.and_eq_true, List.all_eq_true] at h; exact h.2
theorem fOk_lit {n : Int} {F : Cnf} (h : fOk n F = true) : ∀ c ∈ F, ∀ x ∈ c, litOk n x = true := fun c hc => clOk_lits (fOk_cl h c hc)
def evalF (n : Int) (F : Cnf) (m : List Bool) : Bool := fOk n F && decide ((m.length : Int) = n) && evF F m
def bitAt (k i : Int) : Bool := decide (bitsI .and .i64 (k.fdiv (2 ^ min i.toNat IntKind.i64.bits)) 1 = 1)
def bitsOf (n k : Nat) : List Bool := (List.range n).map fun i : Nat => bitAt k i
theorem bitsOf_len (n k : Nat) : (bitsOf n k).length = n := by simp [bitsOf]
theorem bitsOf_get {n k i : Nat} (h : i < n) : (bitsOf n k)[i]'(by rw [bitsOf_len]; exact h) = bitAt k i := by simp [bitsOf]
def cntF (n : Nat) (F : Cnf) : Nat → Nat
  | 0 => 0
  | k + 1 => cntF n F k + if evF F (bitsOf n k) then 1 else 0
theorem cntF_le (n : Nat) (F : Cnf) : ∀ k, cntF n F k ≤ k
  | 0 => Nat.le_refl _
  | k + 1 => by have := cntF_le n F k; simp only [cntF]; split <;> omega
def cntM (n : Int) (F : Cnf) : Int := if fOk n F = true ∧ n ≤ 12 then cntF n.toNat F (2 ^ n.toNat) else -1
theorem shl12 : ∀ n : Nat, n ≤ 12 → IntKind.i64.wrap (1 * 2 ^ min n IntKind.i64.bits) = 2 ^ n := by decide
theorem pow12 : ∀ n : Nat, n ≤ 12 → 2 ^ n ≤ 4096 := by decide
theorem take_set {α : Type} {l m : List α} {i : Nat} {x : α} (h : l.take i = m.take i) (hl : i < l.length) (hm : i < m.length) (hx : m[i]'hm = x) : (l.set i x).take (i + 1) = m.take (i + 1) := by
  rw [take_snoc hm, hx, ← h, take_snoc (by rw [List.length_set]; exact hl), List.getElem_set_self, List.take_set_of_le (Nat.le_refl _)]
end Go.Sat
namespace Go.Proofs.Ytfmflffggcphjaa
open Go Go.Vc Go.RowKit Go.Sat

/-- The value of a variable, read. -/
theorem read_var {l : List Bool} {n x : Int} {s : Value} {W : World} (hs : SlR eB allB W s l) (hl : (l.length : Int) = n) (hx : litOk n x = true) :
    ∃ b o c, s = .slice (some ⟨b, o, none⟩) l.length c ∧ 0 ≤ av x - 1 ∧ av x - 1 < (l.length : Int) ∧ W.cell? ⟨b, o + (av x - 1).toNat * 1, none⟩ = some (.bool (l.getD (av x - 1).toNat false)) := by
  have hx := litOk_iff.1 hx
  have h1 : 1 ≤ av x ∧ av x ≤ n := by unfold av; omega
  obtain ⟨b, o, c, cs, rfl, _, hc, rfl⟩ := hs.at (i := (av x - 1).toNat) (by omega)
  refine ⟨b, o, c, rfl, by omega, by omega, ?_⟩
  have := hc.1
  rw [List.getD_eq_getElem?_getD, List.getElem?_eq_getElem (by omega)]
  exact this

theorem impl_isModel (n : Int) (F : List (List Int)) (m : List Bool) (s t : Value) (W : World) (hs : SlR eL allB W s F) (ht : SlR eB allB W t m) (hF : fOk n F = true) (hm : (m.length : Int) = n) :
    Ret Try.prog 91 #[fv n s, t] W (fun v w' => v = .bool (evF F m) ∧ Ext W w') := by
  have hlm : (maxLen : Int) ≤ 9223372036854775807 := by decide
  obtain ⟨a, c, rfl, hlc, hcm, hat⟩ := id hs
  have hn := fOk_n hF
  have hlit := fOk_lit hF
  have x1 : Ext W (W.alloc (.cells #[.int .i64 n, .slice a F.length c] 25)) := Ext.new _ _
  refine ret_of_vc ties mixed Try.func91 rfl (by kernel_rfl) rfl rfl ?_
  refine ⟨_, boxed _ _ _ _ _ rfl, ?_⟩
  refine loop_rule (σ := Nat × Value × Value × Value) [6, 7, 9, 13] 14 36 (fun q => [q.2.1, q.2.2.1, q.2.2.2, .int .i64 q.1])
    (fun q w' => w' = (W.alloc (.cells #[.int .i64 n, .slice a F.length c] 25)) ∧ q.1 ≤ F.length ∧ (F.take q.1).all (satC m) = true) (fun q => F.length - q.1) (0, undef, undef, undef) rfl ⟨rfl, Nat.zero_le _, rfl⟩ ?_
  rintro ⟨k, j1, j2, j3⟩ w junk ⟨rfl, hk, hall⟩ K hK
  simp only at hk hall
  refine br_dec (fun h3 => ?_) (fun h3 => ?_)
  · have hkl : k < F.length := by omega
    obtain ⟨b, o, c1, cs, he, _, hc, s', rfl, hs'⟩ := hs.at hkl
    cases he
    have hlk := hlit _ (List.getElem_mem hkl)
    obtain ⟨cl, hcl⟩ : ∃ cl, F[k]'hkl = cl := ⟨_, rfl⟩
    rw [hcl] at hlk hs'
    obtain ⟨a', c', rfl, hlc', hcm', _⟩ := id hs'
    refine ⟨⟨by omega, by omega⟩, _, (hc.ext x1).1, ?_⟩
    refine loop_rule (σ := Nat × Value) [7, 9, 19] 20 36 (fun q => [.bool false, q.2, .int .i64 q.1])
      (fun q w' => w' = (W.alloc (.cells #[.int .i64 n, .slice (some ⟨b, o, none⟩) F.length c] 25)) ∧ q.1 ≤ cl.length ∧ (cl.take q.1).any (satL m) = false) (fun q => cl.length - q.1) (0, _) rfl ⟨rfl, Nat.zero_le _, rfl⟩ ?_
    rintro ⟨i, j4⟩ w junk ⟨rfl, hi, hany⟩ K' hK'
    simp only at hi hany
    refine br_dec (fun h4 => ?_) (fun h4 => ?_)
    · have hil : i < cl.length := by omega
      obtain ⟨b1, o1, c2, cs1, he1, _, hc1, rfl⟩ := (hs'.ext x1).at hil
      cases he1
      have hx := hlk _ (List.getElem_mem hil)
      have hst := any_step (p := satL m) hil
      refine ⟨⟨by omega, by omega⟩, _, hc1.1, ?_⟩
      refine Or.inl ((varOf_ret _ _ (lit400 hn.2.1 hx)).mono ?_)
      rintro _ _ ⟨rfl, rfl⟩
      obtain ⟨b2, o2, c3, rfl, g1, g2, g3⟩ := read_var (ht.ext x1) hm hx
      refine ⟨_, IntWalk.i64_in _ (by omega), ⟨g1, g2⟩, _, g3, ?_⟩
      refine br_split (fun h5 => ?_) (fun h5 => ?_)
      · refine ⟨_, IntWalk.i64_in _ (by omega), ?_⟩
        refine hK (k + 1, _, _, _) _ _ (vs4 rfl rfl rfl (vint (by show (k : Int) + 1 = ((k + 1 : Nat) : Int); omega))) ⟨rfl, by show k + 1 ≤ _; omega, all_step hkl hall ?_⟩ (by show F.length - (k + 1) < F.length - k; omega) ?_
        · rw [hcl]; exact any_yes hil h5
        · ((repeat (first | (with_reducible exact Only.refl) | (with_reducible refine Only.skip ?_) | ((with_reducible refine Only.upd ?_ ?_); rfl) | ((with_reducible refine Only.over ?_ ?_ _); rfl) | ((with_reducible refine Only.hav ?_ ?_ ?_); rfl; rfl))))
      · refine ⟨_, IntWalk.i64_in _ (by omega), ?_⟩
        refine hK' (i + 1, _) _ _ (vs3 rfl rfl (vint (by show (i : Int) + 1 = ((i + 1 : Nat) : Int); omega))) ⟨rfl, by show i + 1 ≤ _; omega, ?_⟩ (by show cl.length - (i + 1) < cl.length - i; omega) ?_
        · show (cl.take (i + 1)).any (satL m) = false
          rw [hst, hany]; exact h5
        · ((repeat (first | (with_reducible exact Only.refl) | (with_reducible refine Only.skip ?_) | ((with_reducible refine Only.upd ?_ ?_); rfl) | ((with_reducible refine Only.over ?_ ?_ _); rfl) | ((with_reducible refine Only.hav ?_ ?_ ?_); rfl; rfl))))
    · have : i = cl.length := by omega
      subst this
      rw [List.take_length] at hany
      exact ⟨vbool (all_no hkl (by rw [hcl]; exact hany)).symm, x1⟩
  · have : k = F.length := by omega
    subst this
    rw [List.take_length] at hall
    exact ⟨vbool hall.symm, x1⟩
theorem spec_EvalFormula (n : Int) (F : List (List Int)) (m : List Bool) (s t : Value) (W : World) (hs : SlR eL allB W s F) (ht : SlR eB allB W t m) :
    Ret Try.prog 38 #[fv n s, t] W (fun v w' => v = .bool (evalF n F m) ∧ Ext W w') := by
  have hlm : (maxLen : Int) ≤ 9223372036854775807 := by decide
  obtain ⟨a, c, rfl, hlc, hcm, hat⟩ := id hs
  obtain ⟨a2, c2, rfl, hlc2, hcm2, hat2⟩ := id ht
  have x1 : Ext W (W.alloc (.cells #[.int .i64 n, .slice a F.length c] 25)) := Ext.new _ _
  refine ret_of_vc ties mixed Try.func38 rfl (by kernel_rfl) rfl rfl ?_
  have hb := boxedAll W [.int .i64 n, .slice a F.length c] 25
  refine ⟨_, rfl, hb, ?_⟩
  refine Or.inl ((spec_FormulaOk n F (.slice a F.length c) _ (hs.ext x1)).mono ?_)
  rintro _ w4 ⟨rfl, x4⟩
  refine br_not (fun h => ?_) (fun hF => ?_)
  · exact ⟨vbool (by simp [evalF, h]), x1.trans x4⟩
  refine ⟨_, (hb.ext x4).1, ?_⟩
  refine br_dec (fun h => ?_) (fun hm => ?_)
  · exact ⟨vbool (by simp [evalF, h]), x1.trans x4⟩
  have hm : (m.length : Int) = n := by omega
  have hn := fOk_n hF
  have hlit := fOk_lit hF
  have hev : evalF n F m = evF F m := by simp [evalF, hF, hm]
  refine ⟨_, (hb.ext x4).2.1, ?_⟩
  have hs4 := hs.ext (x1.trans x4)
  have ht4 := ht.ext (x1.trans x4)
  refine loop_rule (σ := Nat × Value × Value × Value) [6, 7, 9, 23] 24 49 (fun q => [q.2.1, q.2.2.1, q.2.2.2, .int .i64 q.1])
    (fun q w' => w' = w4 ∧ q.1 ≤ F.length ∧ (F.take q.1).all (satC m) = true) (fun q => F.length - q.1) (0, undef, undef, undef) rfl ⟨rfl, Nat.zero_le _, rfl⟩ ?_
  rintro ⟨k, j1, j2, j3⟩ w junk ⟨rfl, hk, hall⟩ K hK
  simp only at hk hall
  refine br_dec (fun h3 => ?_) (fun h3 => ?_)
  · have hkl : k < F.length := by omega
    obtain ⟨b, o, c1, cs, he, _, hc, s', rfl, hs'⟩ := hs4.at hkl
    cases he
    have hlk := hlit _ (List.getElem_mem hkl)
    obtain ⟨cl, hcl⟩ : ∃ cl, F[k]'hkl = cl := ⟨_, rfl⟩
    rw [hcl] at hlk hs'
    obtain ⟨a', c', rfl, hlc', hcm', _⟩ := id hs'
    refine ⟨⟨by omega, by omega⟩, _, hc.1, ?_⟩
    refine loop_rule (σ := Nat × Bool × Value) [7, 9, 29] 30 49 (fun q => [.bool q.2.1, q.2.2, .int .i64 q.1])
      (fun q w' => w' = w ∧ q.1 ≤ cl.length ∧ q.2.1 = (cl.take q.1).any (satL m)) (fun q => cl.length - q.1) (0, false, _) rfl ⟨rfl, Nat.zero_le _, rfl⟩ ?_
    rintro ⟨i, f, j4⟩ w junk ⟨rfl, hi, hany⟩ K' hK'
    simp only at hi hany
    refine br_dec (fun h4 => ?_) (fun h4 => ?_)
    · have hil : i < cl.length := by omega
      obtain ⟨b1, o1, c2, cs1, he1, _, hc1, rfl⟩ := hs'.at hil
      cases he1
      have hx := hlk _ (List.getElem_mem hil)
      have hst := any_step (p := satL m) hil
      refine ⟨⟨by omega, by omega⟩, _, hc1.1, ?_⟩
      refine br_split (fun h5 => ?_) (fun h5 => ?_) <;> dsimp only at h5 <;> subst h5
      · refine ⟨_, IntWalk.i64_in _ (by omega), ?_⟩
        refine hK' (i + 1, true, _) _ _ (vs3 rfl rfl (vint (by show (i : Int) + 1 = ((i + 1 : Nat) : Int); omega))) ⟨rfl, by show i + 1 ≤ _; omega, ?_⟩ (by show cl.length - (i + 1) < cl.length - i; omega) ?_
        · show true = _
          rw [hst, ← hany, Bool.true_or]
        · ((repeat (first | (with_reducible exact Only.refl) | (with_reducible refine Only.skip ?_) | ((with_reducible refine Only.upd ?_ ?_); rfl) | ((with_reducible refine Only.over ?_ ?_ _); rfl) | ((with_reducible refine Only.hav ?_ ?_ ?_); rfl; rfl))))
      · refine Or.inl ((l03Abs_ret _ _ (by have := litOk_iff.1 hx; omega)).mono ?_)
        rintro _ _ ⟨rfl, rfl⟩
        obtain ⟨b2, o2, c3, he3, g1, g2, g3⟩ := read_var ht4 hm hx
        cases he3
        refine ⟨_, IntWalk.i64_in _ (by omega), ⟨g1, g2⟩, _, g3, ?_⟩
        refine ⟨_, IntWalk.i64_in _ (by omega), ?_⟩
        refine hK' (i + 1, satL m (cl[i]'hil), _) _ _ (vs3 rfl rfl (vint (by show (i : Int) + 1 = ((i + 1 : Nat) : Int); omega))) ⟨rfl, by show i + 1 ≤ _; omega, ?_⟩ (by show cl.length - (i + 1) < cl.length - i; omega) ?_
        · show satL m _ = _
          rw [hst, ← hany, Bool.false_or]
        · ((repeat (first | (with_reducible exact Only.refl) | (with_reducible refine Only.skip ?_) | ((with_reducible refine Only.upd ?_ ?_); rfl) | ((with_reducible refine Only.over ?_ ?_ _); rfl) | ((with_reducible refine Only.hav ?_ ?_ ?_); rfl; rfl))))
    · have : i = cl.length := by omega
      subst this
      rw [List.take_length] at hany
      refine br_not (fun h5 => ?_) (fun h5 => ?_) <;> dsimp only at h5
      · exact ⟨vbool (by rw [hev]; exact (all_no hkl (by rw [hcl]; exact hany.symm.trans h5)).symm), x1.trans x4⟩
      · refine ⟨_, IntWalk.i64_in _ (by omega), ?_⟩
        refine hK (k + 1, _, _, _) _ _ (vs4 rfl rfl rfl (vint (by show (k : Int) + 1 = ((k + 1 : Nat) : Int); omega))) ⟨rfl, by show k + 1 ≤ _; omega, all_step hkl hall ?_⟩ (by show F.length - (k + 1) < F.length - k; omega) ?_
        · rw [hcl]; exact hany.symm.trans h5
        · ((repeat (first | (with_reducible exact Only.refl) | (with_reducible refine Only.skip ?_) | ((with_reducible refine Only.upd ?_ ?_); rfl) | ((with_reducible refine Only.over ?_ ?_ _); rfl) | ((with_reducible refine Only.hav ?_ ?_ ?_); rfl; rfl))))
  · have : k = F.length := by omega
    subst this
    rw [List.take_length] at hall
    exact ⟨vbool (by rw [hev]; exact hall.symm), x1.trans x4⟩

theorem impl_EvalFormula (n : Int) (F : List (List Int)) (m : List Bool) (s t : Value) (W : World) (hs : SlR eL allB W s F) (ht : SlR eB allB W t m) :
    Ret Try.prog 40 #[fv n s, t] W (fun v w' => v = .bool (evalF n F m) ∧ Ext W w') := by
  have hlm : (maxLen : Int) ≤ 9223372036854775807 := by decide
  obtain ⟨a2, c2, rfl, hlc2, hcm2, hat2⟩ := id ht
  have x1 : Ext W (W.alloc (.cells #[.int .i64 n, s] 25)) := Ext.new _ _
  refine ret_of_vc ties mixed Try.func40 rfl (by kernel_rfl) rfl rfl ?_
  have hb := boxedAll W [.int .i64 n, s] 25
  refine ⟨[.int .i64 n, s], rfl, hb, ?_⟩
  refine Or.inl ((impl_FormulaOk n F s _ (hs.ext x1)).mono ?_)
  rintro _ w4 ⟨rfl, x4⟩
  refine br_not (fun h => ?_) (fun hF => ?_)
  · exact ⟨vbool (by simp [evalF, h]), x1.trans x4⟩
  refine ⟨_, (hb.ext x4).1, ?_⟩
  refine br_dec (fun h => ?_) (fun hm => ?_)
  · exact ⟨vbool (by simp [evalF, h]), x1.trans x4⟩
  have hm : (m.length : Int) = n := by omega
  refine ⟨[.int .i64 n, s], rfl, hb.ext x4, ?_⟩
  refine Or.inl ((impl_isModel n F m s _ _ (hs.ext (x1.trans x4)) (ht.ext (x1.trans x4)) hF hm).mono ?_)
  rintro _ w5 ⟨rfl, x5⟩
  exact ⟨vbool (by simp [evalF, hF, hm]), (x1.trans x4).trans x5⟩

theorem impl_CountModels (n : Int) (F : List (List Int)) (s : Value) (W : World) (hs : SlR eL allB W s F) :
    Ret Try.prog 42 #[fv n s] W (fun v w' => v = .int .i64 (cntM n F) ∧ Ext W w') := by
  have hlm : (maxLen : Int) ≤ 9223372036854775807 := by decide
  have x1 : Ext W (W.alloc (.cells #[.int .i64 n, s] 25)) := Ext.new _ _
  refine ret_of_vc ties mixed Try.func42 rfl (by kernel_rfl) rfl rfl ?_
  have hb := boxedAll W [.int .i64 n, s] 25
  refine ⟨[.int .i64 n, s], rfl, hb, ?_⟩
  refine Or.inl ((impl_FormulaOk n F s _ (hs.ext x1)).mono ?_)
  rintro _ w4 ⟨rfl, x4⟩
  refine br_not (fun h => ?_) (fun hF => ?_)
  · exact ⟨vint (by simp [cntM, h]), x1.trans x4⟩
  refine ⟨_, (hb.ext x4).1, ?_⟩
  refine br_dec (fun h => ?_) (fun h12 => ?_)
  · exact ⟨vint (by unfold cntM; rw [if_neg (by omega)]), x1.trans x4⟩
  have hn := fOk_n hF
  obtain ⟨N, rfl⟩ : ∃ N : Nat, n = N := ⟨n.toNat, by omega⟩
  have hN : N ≤ 12 := by omega
  have hcnt : cntM N F = cntF N F (2 ^ N) := by unfold cntM; rw [if_pos ⟨hF, by omega⟩]; rfl
  have hp := pow12 N hN
  have x14 := x1.trans x4
  refine ⟨_, (hb.ext x4).1, ⟨by omega, by omega, by omega, by show (1 : Int) * (N : Int) ≤ _; omega⟩, ?_⟩
  have room : Rmy (w4.alloc (.cells (zs N [.bool false]).toArray 4)) w4.heap.size N := by
    have := Rmy.new w4 (zs N [.bool false]) 4
    rwa [zs_length, List.length_singleton, Nat.mul_one] at this
  have hrep : ∀ (w : World) (q o : Nat), CellsAt w w4.heap.size o (zs q [.bool false]) → RAt eB noB w (List.replicate q false) w4.heap.size o := by
    intro w q
    induction q with
    | zero => intro o _; trivial
    | succ q ih => intro o h; exact ⟨⟨[.bool false], ⟨h.1, trivial⟩, rfl⟩, ih (o + 1) h.2⟩
  refine loop_rule (σ := Nat × Nat × Value × List Bool) [3, 5, 6] 18 47 (fun q => [.int .i64 q.2.1, .int .i64 q.1, q.2.2.1])
    (fun q w' => Ext w4 w' ∧ q.1 ≤ 2 ^ N ∧ q.2.1 = cntF N F q.1 ∧ q.2.2.2.length = N ∧ Rmy w' w4.heap.size N ∧ RAt eB noB w' q.2.2.2 w4.heap.size 0) (fun q => 2 ^ N - q.1) (0, 0, undef, List.replicate N false) rfl
    ⟨Ext.new _ _, Nat.zero_le _, rfl, by simp, room, hrep _ _ _ (boxedAll _ _ _)⟩ ?_
  rintro ⟨k, cnt, j1, l⟩ w junk ⟨hx, hk, hc, hl, hr, hra⟩ K hK
  simp only at hk hc hl hra
  have hcl := cntF_le N F k
  refine ⟨_, (hb.ext (x4.trans hx)).1, _, IntWalk.u64_in _ (by omega), by omega, _, shl12 N hN, ?_⟩
  refine br_dec (fun h3 => ?_) (fun h3 => ?_)
  · have hk2 : k < 2 ^ N := by have := h3; simp only at this; exact_mod_cast this
    refine loop_rule (σ := Nat × Value × List Bool) [6, 28] 29 47 (fun q => [q.2.1, .int .i64 q.1])
      (fun q w' => Ext w4 w' ∧ q.1 ≤ N ∧ q.2.2.length = N ∧ Rmy w' w4.heap.size N ∧ RAt eB noB w' q.2.2 w4.heap.size 0 ∧ q.2.2.take q.1 = (bitsOf N k).take q.1) (fun q => N - q.1) (0, _, l) rfl ⟨hx, Nat.zero_le _, hl, hr, hra, rfl⟩ ?_
    rintro ⟨i, j2, l2⟩ w junk ⟨hx, hi, hl2, hr, hra, htk⟩ K' hK'
    simp only at hi hl2 hra htk
    refine br_dec (fun h4 => ?_) (fun h4 => ?_)
    · have hiN : i < N := by have := h4; simp only at this; omega
      refine ⟨_, IntWalk.u64_in _ (by omega), by omega, _, rfl, _, rfl, ⟨by omega, by omega⟩, hr _ (by show 0 + (i : Int).toNat * 1 < N; omega), ?_⟩
      refine ⟨_, IntWalk.i64_in _ (by omega), ?_⟩
      refine hK' (i + 1, _, l2.set i (bitAt k i)) _ _ (vs2 rfl (vint (by show (i : Int) + 1 = ((i + 1 : Nat) : Int); omega))) ⟨hx.set (Nat.le_refl _) _, by show i + 1 ≤ N; omega, by simpa using hl2, hr.setCell, ?_, ?_⟩ (by show N - (i + 1) < N - i; omega) ?_
      · exact RAt.set (cs := [_]) (x := bitAt k i) noB_ne hr hra rfl (by show 0 + (i : Int).toNat * 1 = i * 1; omega) (by omega) (by show l2.length * 1 ≤ N; omega)
      · exact take_set htk (by omega) (by rw [bitsOf_len]; exact hiN) (bitsOf_get hiN)
      · ((repeat (first | (with_reducible exact Only.refl) | (with_reducible refine Only.skip ?_) | ((with_reducible refine Only.upd ?_ ?_); rfl) | ((with_reducible refine Only.over ?_ ?_ _); rfl) | ((with_reducible refine Only.hav ?_ ?_ ?_); rfl; rfl))))
    · have : i = N := by have := h4; simp only at this; omega
      subst this
      have hl3 : l2 = bitsOf i k := take_all_eq htk (by omega) (by rw [bitsOf_len]; exact Nat.le_refl _)
      subst hl3
      refine ⟨[.int .i64 i, s], rfl, hb.ext (x4.trans hx), ?_⟩
      have hm : SlR eB allB w (.slice (some ⟨w4.heap.size, 0, none⟩) (bitsOf i k).length i) (bitsOf i k) := ⟨_, _, rfl, by rw [hl2]; exact Nat.le_refl _, by have : 400 ≤ maxLen := (by decide); omega, .inr ⟨_, _, rfl, trivial, hra.mono fun _ _ => trivial⟩⟩
      rw [hl2] at hm
      refine Or.inl ((impl_isModel _ F _ s _ _ (hs.ext (x14.trans hx)) hm hF (by rw [hl2])).mono ?_)
      rintro _ w5 ⟨rfl, x5⟩
      refine br_split (fun h5 => ?_) (fun h5 => ?_)
      · refine ⟨_, IntWalk.i64_in _ (by simp only; omega), _, IntWalk.i64_in _ (by omega), ?_⟩
        refine hK (k + 1, cnt + 1, _, bitsOf i k) _ _ (vs3 (vint (by show (cnt : Int) + 1 = ((cnt + 1 : Nat) : Int); omega)) (vint (by show (k : Int) + 1 = ((k + 1 : Nat) : Int); omega)) rfl) ⟨hx.trans x5, by show k + 1 ≤ _; omega, by show cnt + 1 = cntF i F (k + 1); rw [cntF, h5, hc]; rfl, hl2, hr.ext x5, hra.ext x5⟩ (by show 2 ^ i - (k + 1) < 2 ^ i - k; omega) ?_
        ((repeat (first | (with_reducible exact Only.refl) | (with_reducible refine Only.skip ?_) | ((with_reducible refine Only.upd ?_ ?_); rfl) | ((with_reducible refine Only.over ?_ ?_ _); rfl) | ((with_reducible refine Only.hav ?_ ?_ ?_); rfl; rfl))))
      · refine ⟨_, IntWalk.i64_in _ (by omega), ?_⟩
        refine hK (k + 1, cnt, _, bitsOf i k) _ _ (vs3 rfl (vint (by show (k : Int) + 1 = ((k + 1 : Nat) : Int); omega)) rfl) ⟨hx.trans x5, by show k + 1 ≤ _; omega, by show cnt = cntF i F (k + 1); rw [cntF, h5, hc]; rfl, hl2, hr.ext x5, hra.ext x5⟩ (by show 2 ^ i - (k + 1) < 2 ^ i - k; omega) ?_
        ((repeat (first | (with_reducible exact Only.refl) | (with_reducible refine Only.skip ?_) | ((with_reducible refine Only.upd ?_ ?_); rfl) | ((with_reducible refine Only.over ?_ ?_ _); rfl) | ((with_reducible refine Only.hav ?_ ?_ ?_); rfl; rfl))))
  · have hk2 : k = 2 ^ N := by
      have h4 : ¬ k < 2 ^ N := fun e => h3 (by simp only; exact_mod_cast e)
      omega
    exact ⟨vint (by rw [hcnt, ← hk2, ← hc]), x14.trans hx⟩

theorem spec_CountModels (n : Int) (F : List (List Int)) (s : Value) (W : World) (hs : SlR eL allB W s F) :
    Ret Try.prog 23 #[fv n s] W (fun v w' => v = .int .i64 (cntM n F) ∧ Ext W w') := by
  have hlm : (maxLen : Int) ≤ 9223372036854775807 := by decide
  have x1 : Ext W (W.alloc (.cells #[.int .i64 n, s] 25)) := Ext.new _ _
  refine ret_of_vc ties mixed Try.func23 rfl (by kernel_rfl) rfl rfl ?_
  have hb := boxedAll W [.int .i64 n, s] 25
  refine ⟨[.int .i64 n, s], rfl, hb, ?_⟩
  refine Or.inl ((spec_FormulaOk n F s _ (hs.ext x1)).mono ?_)
  rintro _ w4 ⟨rfl, x4⟩
  refine br_not (fun h => ?_) (fun hF => ?_)
  · exact ⟨vint (by simp [cntM, h]), x1.trans x4⟩
  refine ⟨_, (hb.ext x4).1, ?_⟩
  refine br_dec (fun h => ?_) (fun h12 => ?_)
  · exact ⟨vint (by unfold cntM; rw [if_neg (by omega)]), x1.trans x4⟩
  have hn := fOk_n hF
  obtain ⟨N, rfl⟩ : ∃ N : Nat, n = N := ⟨n.toNat, by omega⟩
  have hN : N ≤ 12 := by omega
  have hcnt : cntM N F = cntF N F (2 ^ N) := by unfold cntM; rw [if_pos ⟨hF, by omega⟩]; rfl
  have hp := pow12 N hN
  have x14 := x1.trans x4
  refine loop_rule (σ := Nat × Nat × Value × Value) [3, 4, 5, 6] 15 43 (fun q => [.int .i64 q.2.1, .int .i64 q.1, q.2.2.1, q.2.2.2])
    (fun q w' => Ext w4 w' ∧ q.1 ≤ 2 ^ N ∧ q.2.1 = cntF N F q.1) (fun q => 2 ^ N - q.1) (0, 0, undef, undef) rfl
    ⟨Ext.refl _, Nat.zero_le _, rfl⟩ ?_
  rintro ⟨k, cnt, j1, j2⟩ w junk ⟨hx, hk, hc⟩ K hK
  simp only at hk hc
  have hcl := cntF_le N F k
  refine ⟨_, (hb.ext (x4.trans hx)).1, by omega, _, shl12 N hN, ?_⟩
  refine br_dec (fun h3 => ?_) (fun h3 => ?_)
  · have hk2 : k < 2 ^ N := by have := h3; simp only at this; exact_mod_cast this
    refine loop_rule (σ := Nat × Value) [5, 6] 23 43 (fun q => [q.2, .int .i64 q.1])
      (fun q w' => Ext w w' ∧ q.1 ≤ N ∧ OwnR eB noB w' q.2 ((bitsOf N k).take q.1) ∧ ∀ b, blk q.2 b → w.heap.size ≤ b) (fun q => N - q.1) (0, .slice (some ⟨w.heap.size, 0, none⟩) 0 0) rfl ⟨Ext.new _ _, Nat.zero_le _, OwnR.nil _ _ _ _, fun b hb => by cases hb; exact Nat.le_refl _⟩ ?_
    rintro ⟨i, mv⟩ w1 junk ⟨hx1, hi, ho, hob⟩ K' hK'
    simp only at hi ho hob
    refine ⟨_, (hb.ext ((x4.trans hx).trans hx1)).1, ?_⟩
    refine br_dec (fun h4 => ?_) (fun h4 => ?_)
    · have hiN : i < N := by have := h4; simp only at this; omega
      have hlen : ((bitsOf N k).take i).length = i := by rw [List.length_take, bitsOf_len]; omega
      refine ⟨by omega, _, rfl, _, rfl, ?_⟩
      refine raw_push (E := eB) (ok := noB) (x := bitAt k i) ties rfl rfl rfl rfl rfl rfl rfl rfl rfl rfl rfl ho rfl noB_blk (by rw [hlen]; show (i + 1) * 1 ≤ _; omega) (by omega) ?_
      intro v w2 hv hch hsz hvb
      refine ⟨_, IntWalk.i64_in _ (by omega), ?_⟩
      refine hK' (i + 1, v) _ _ (vs2 rfl (vint (by show (i : Int) + 1 = ((i + 1 : Nat) : Int); omega))) ⟨hx1.chg hch hob, by show i + 1 ≤ N; omega, ?_, fun b hb => ?_⟩ (by show N - (i + 1) < N - i; omega) ?_
      · show OwnR eB noB w2 v ((bitsOf N k).take (i + 1))
        rw [take_snoc (by rw [bitsOf_len]; exact hiN), bitsOf_get hiN]
        exact hv
      · rcases hvb b hb with h | h
        · exact hob b h
        · exact Nat.le_trans hx1.size (Nat.le_of_lt h.1)
      · ((repeat (first | (with_reducible exact Only.refl) | (with_reducible refine Only.skip ?_) | ((with_reducible refine Only.upd ?_ ?_); rfl) | ((with_reducible refine Only.over ?_ ?_ _); rfl) | ((with_reducible refine Only.hav ?_ ?_ ?_); rfl; rfl))))
    · have : i = N := by have := h4; simp only at this; omega
      subst this
      rw [List.take_of_length_le (by rw [bitsOf_len]; exact Nat.le_refl _)] at ho
      refine ⟨[.int .i64 i, s], rfl, hb.ext ((x4.trans hx).trans hx1), ?_⟩
      have hm : SlR eB allB w1 mv (bitsOf i k) := ho.sl (fun _ _ => trivial) (fun _ _ => trivial)
      refine Or.inl ((spec_EvalFormula _ F _ s _ _ (hs.ext ((x14.trans hx).trans hx1)) hm).mono ?_)
      rintro _ w5 ⟨rfl, x5⟩
      have hev : evalF i F (bitsOf i k) = evF F (bitsOf i k) := by simp [evalF, hF, bitsOf_len]
      rw [hev]
      refine br_split (fun h5 => ?_) (fun h5 => ?_)
      · refine ⟨_, IntWalk.i64_in _ (by simp only; omega), _, IntWalk.i64_in _ (by omega), ?_⟩
        refine hK (k + 1, cnt + 1, _, _) _ _ (vs4 (vint (by show (cnt : Int) + 1 = ((cnt + 1 : Nat) : Int); omega)) (vint (by show (k : Int) + 1 = ((k + 1 : Nat) : Int); omega)) rfl rfl) ⟨(hx.trans hx1).trans x5, by show k + 1 ≤ _; omega, by show cnt + 1 = cntF i F (k + 1); rw [cntF, h5, hc]; rfl⟩ (by show 2 ^ i - (k + 1) < 2 ^ i - k; omega) ?_
        ((repeat (first | (with_reducible exact Only.refl) | (with_reducible refine Only.skip ?_) | ((with_reducible refine Only.upd ?_ ?_); rfl) | ((with_reducible refine Only.over ?_ ?_ _); rfl) | ((with_reducible refine Only.hav ?_ ?_ ?_); rfl; rfl))))
      · refine ⟨_, IntWalk.i64_in _ (by omega), ?_⟩
        refine hK (k + 1, cnt, mv, .int .i64 i) _ _ (vs4 (vint rfl) (vint (by show (k : Int) + 1 = ((k + 1 : Nat) : Int); omega)) rfl rfl) ⟨(hx.trans hx1).trans x5, by show k + 1 ≤ _; omega, by show cnt = cntF i F (k + 1); rw [cntF, h5, hc]; rfl⟩ (by show 2 ^ i - (k + 1) < 2 ^ i - k; omega) ?_
        ((repeat (first | (with_reducible exact Only.refl) | (with_reducible refine Only.skip ?_) | ((with_reducible refine Only.upd ?_ ?_); rfl) | ((with_reducible refine Only.over ?_ ?_ _); rfl) | ((with_reducible refine Only.hav ?_ ?_ ?_); rfl; rfl))))
  · have hk2 : k = 2 ^ N := by
      have h4 : ¬ k < 2 ^ N := fun e => h3 (by simp only; exact_mod_cast e)
      omega
    exact ⟨vint (by rw [hcnt, ← hk2, ← hc]), x14.trans hx⟩

end Go.Proofs.Ytfmflffggcphjaa
