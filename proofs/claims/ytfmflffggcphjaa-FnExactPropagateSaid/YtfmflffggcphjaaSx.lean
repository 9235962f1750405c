/- The solver: contracts of leastFree, slices.Clone, start, extend. -/
import Derived.Test.YtfmflffggcphjaaSw
import Derived.Test.YtfmflffggcphjaaVi
namespace Go.Vc
open Go Go.RowKit
/-- A slice held against nil. -/
theorem raw_slnil {P : Program} {T : Tab} (hT : Ties P T) {o : Oper} {ρ : Fr} {w : World} {K : Value → World → Prop} {t ty e : Nat} {X Y : Operand} {r : TRow} {a : Option Addr} {l c : Nat} (ho : o.op = .binOp .eql t X Y ty)
    (hr : look T t = some r) (ha : r.agg = false) (hd : r.desc = .slice e) (hX : ev ρ X = .slice a l c) (hY : ev ρ Y = .slice none 0 0) (hK : K (.bool a.isNone) w) : Raw P o ρ w K := by
  have hu := ((ties_look hT hr).plain ha).trans (congrArg some hd)
  refine ⟨.value (.bool a.isNone), _, w, ?_, rfl, hK⟩
  have h1 := run_equal_slice_nil (P := P) w t e a l c hu
  simp only [execOp, ho, hX, hY]
  simp [eqGuard, binOp, h1]
variable {α : Type}
theorem Ext.trans' {a b c : World} (h : Ext a b) (k : Below a.heap.size b c) : Ext a c := Below.trans h k
end Go.Vc
namespace Go.Sat
theorem lf_at {v : List Int} {k : Nat} (hk : 1 ≤ k) (h0 : v[k]? = some 0) (hj : ∀ j, 1 ≤ j → j < k → v[j]? ≠ some 0) : lf v = k := by
  have hlt := (List.getElem?_eq_some_iff.1 h0).1
  cases v with
  | nil => simp at h0
  | cons y v =>
    unfold lf
    simp only [List.tail_cons, List.length_cons] at *
    obtain ⟨m, rfl⟩ : ∃ m, k = m + 1 := ⟨k - 1, by omega⟩
    rw [lfFrom_at (k := m) (by omega) (fun j hjm => ?_) (by simpa using h0)]
    · omega
    · have := hj (j + 1) (by omega) (by omega)
      rw [List.getElem?_cons_succ] at this
      have hjl : j < v.length := by omega
      refine ⟨v[j]'hjl, List.getElem?_eq_getElem hjl, fun e => this ?_⟩
      rw [List.getElem?_eq_getElem hjl, e]
theorem lf_none {v : List Int} (hj : ∀ j, 1 ≤ j → j < v.length → v[j]? ≠ some 0) : lf v = 0 := by
  cases v with
  | nil => rfl
  | cons y v =>
    unfold lf
    simp only [List.tail_cons, List.length_cons] at *
    refine lfFrom_none fun x hx e => ?_
    obtain ⟨j, hjl, hje⟩ := List.mem_iff_getElem.1 hx
    refine hj (j + 1) (by omega) (by omega) ?_
    rw [List.getElem?_cons_succ, List.getElem?_eq_getElem hjl, hje, e]
end Go.Sat
namespace Go.Proofs.Ytfmflffggcphjaa
open Go Go.Vc Go.RowKit Go.Sat
set_option linter.unusedVariables false

/-- An assignment that is only read. -/
def Rda (ok : Nat → Prop) (w : World) (p : Value) (v : List Int) : Prop := ∃ A a1, p = .pointer (some ⟨A, 0, none⟩) ∧ ok A ∧ w.cell? ⟨A, 0, none⟩ = some a1 ∧ SlR eI ok w a1 v
theorem Asg.rda {B : Nat} {w : World} {p : Value} {v q : List Int} (h : Asg B w p v q) : Rda (fun b => B ≤ b) w p v := by
  obtain ⟨A, a1, a2, rfl, h1, h2, h3, h4, h5, h6, h7, h8⟩ := h
  exact ⟨A, a1, rfl, h1, h3, h5.sl (fun _ h => h.elim) (fun b hb => (h7 b hb).1)⟩
theorem Rda.mono {ok ok' : Nat → Prop} {w : World} {p : Value} {v : List Int} (hok : ∀ b, ok b → ok' b) (h : Rda ok w p v) : Rda ok' w p v := by
  obtain ⟨A, a1, rfl, h1, h2, h3⟩ := h
  exact ⟨A, a1, rfl, hok A h1, h2, h3.mono hok⟩
theorem Rda.chg {ok S : Nat → Prop} {w w' : World} {p : Value} {v : List Int} (hok : ∀ b, ok b → ¬ S b) (hc : Chg S w w') (h : Rda ok w p v) : Rda ok w' p v := by
  obtain ⟨A, a1, rfl, h1, h2, h3⟩ := h
  exact ⟨A, a1, rfl, h1, hc.cell (a := ⟨A, 0, none⟩) (hok A h1) h2, h3.chg hok hc⟩
theorem Rda.ext {ok : Nat → Prop} {w w' : World} {p : Value} {v : List Int} (hx : Ext w w') (h : Rda ok w p v) : Rda ok w' p v := h.chg (S := fun _ => False) (fun _ _ h => h) (.of hx)
theorem Rda.lt {ok : Nat → Prop} {w : World} {p : Value} {v : List Int} (h : Rda ok w p v) : Rda (fun b => ok b ∧ b < w.heap.size) w p v := by
  obtain ⟨A, a1, rfl, h1, h2, h3⟩ := h
  exact ⟨A, a1, rfl, ⟨h1, World.block_lt_of_cell? w _ h2⟩, h2, h3.lt⟩
theorem rd_at {ok : Nat → Prop} {w : World} {s : Value} {v : List Int} (h : SlR eI ok w s v) {i : Nat} (hi : i < v.length) :
    ∃ b o c, s = .slice (some ⟨b, o, none⟩) v.length c ∧ w.cell? ⟨b, o + i * 1, none⟩ = some (.int .i64 (v[i]'hi)) := by
  obtain ⟨b, o, c, cs, rfl, _, hc, rfl⟩ := h.at hi
  exact ⟨b, o, c, rfl, hc.1⟩

theorem leastFree_ret (p : Value) (v : List Int) (W : World) (hA : Rda allB W p v) : Ret Try.prog 117 #[p] W (fun r w' => r = .int .i64 (lf v : Nat) ∧ W = w') := by
  have hlm : (maxLen : Int) ≤ 9223372036854775807 := by decide
  obtain ⟨A, a1, rfl, -, hc1, ho1⟩ := hA
  obtain ⟨a, c, rfl, hlc, hcm, -⟩ := id ho1
  refine ret_of_vc ties mixed Try.func117 rfl (by kernel_rfl) rfl rfl ?_
  refine loop_rule (σ := Nat) [3] 4 22 (fun k => [.int .i64 (k + 1 : Nat)])
    (fun k w' => W = w' ∧ (k = 0 ∨ k + 1 ≤ v.length) ∧ ∀ j, 1 ≤ j → j < k + 1 → v[j]? ≠ some 0) (fun k => v.length - k) 0 rfl ⟨rfl, .inl rfl, fun j h1 h2 => by omega⟩ ?_
  rintro k w junk ⟨rfl, hk, hall⟩ K hK
  refine ⟨_, hc1, ?_⟩
  refine br_dec (fun h3 => ?_) (fun h3 => ?_)
  · have hkl : k + 1 < v.length := by omega
    obtain ⟨b, o, c', he, g3⟩ := rd_at ho1 hkl
    cases he
    refine ⟨_, hc1, ⟨by omega, by omega⟩, _, g3, ?_⟩
    refine br_dec (fun h4 => ?_) (fun h4 => ?_)
    · exact ⟨vint (by rw [lf_at (v := v) (k := k + 1) (by omega) (by rw [List.getElem?_eq_getElem hkl, h4]) hall]), rfl⟩
    · refine ⟨_, IntWalk.i64_in _ (by omega), ?_⟩
      refine hK (k + 1) _ _ (vs1 (vint (by omega))) ⟨rfl, .inr (by omega), fun j h1 h2 => ?_⟩ (by omega) ?_
      · by_cases e : j = k + 1
        · subst e
          rw [List.getElem?_eq_getElem hkl]
          intro e; simp only [Option.some.injEq] at e; exact h4 e
        · exact hall j h1 (by omega)
      · ((repeat (first | (with_reducible exact Only.refl) | (with_reducible refine Only.skip ?_) | ((with_reducible refine Only.upd ?_ ?_); rfl) | ((with_reducible refine Only.over ?_ ?_ _); rfl) | ((with_reducible refine Only.hav ?_ ?_ ?_); rfl; rfl))))
  · exact ⟨vint (by rw [lf_none fun j h1 h2 => hall j h1 (by omega)]; rfl), rfl⟩

theorem clone_ret (l : List Int) (s : Value) (W : World) (hs : SlR eI allB W s l) (hl : l.length ≤ 1000000000) : Ret Try.prog 103 #[s] W (fun v w' => NewR eI noB W v w' l) := by
  obtain ⟨a, c, rfl, hlc, hcm, h3⟩ := id hs
  refine ret_of_vc ties mixed Try.func103 rfl (by kernel_rfl) rfl rfl ?_
  refine raw_slnil ties rfl rfl rfl rfl rfl rfl ?_
  cases a with
  | none =>
    rcases h3 with h | ⟨b, o, h, _⟩
    · have := List.eq_nil_of_length_eq_zero h
      subst this
      exact ⟨Ext.refl _, OwnR.nil _ _ _ _, fun b hb => hb.elim⟩
    · cases h
  | some a =>
    show vc _ _ _ _ _ _
    refine raw_append (E := eI) (ok := noB) (l := []) (k := l) ties rfl rfl rfl rfl rfl rfl rfl rfl rfl rfl (OwnR.nil _ _ _ _) noB_blk ⟨_, _, rfl, ?_⟩ (by show (0 + l.length) * 8 ≤ _; omega) (by show 0 + l.length ≤ _; omega) ?_
    · rcases (hs.ext (Ext.new W _)) with ⟨a', c', he, _, _, h⟩
      cases he
      rcases h with h | ⟨b, o, h, _, h'⟩
      · exact .inl h
      · exact .inr ⟨b, o, h, RAt.imp (E := eI) (E' := eI) (ok := allB) (ok' := noB) rfl (fun _ _ h => h) h'⟩
    · intro v w' h1 h2 h3
      refine ⟨(Ext.new W _).chg h2 (fun i hi => by cases hi; exact Nat.le_refl _), h1, fun b hb => ?_⟩
      rcases h3 b hb with h | h
      · cases h; exact Nat.le_refl _
      · have := h.1; simp at this; omega

/-- What 'start' and 'extend' give back. -/
def ResA (B : Nat) (w : World) (r : Value) (o : Option (List Int)) : Prop := (o = none ∧ r = .tuple #[.pointer none, .bool false]) ∨ ∃ u p, o = some u ∧ r = .tuple #[p, .bool true] ∧ Asg B w p u []
def StartR (n : Nat) (F : Cnf) (A : Int → Prop) (W : World) (r : Value) (w' : World) : Prop := Ext W w' ∧ ∃ o, Upr F n A o ∧ ResA W.heap.size w' r o

theorem zs_rat {w : World} {B : Nat} : ∀ (q o : Nat), CellsAt w B o (zs q [.int .i64 0]) → RAt eI noB w (List.replicate q (0 : Int)) B o := by
  intro q
  induction q with
  | zero => intro o _; trivial
  | succ q ih => intro o h; exact ⟨⟨[.int .i64 0], ⟨h.1, trivial⟩, rfl⟩, ih (o + 1) h.2⟩

theorem new_zero (W : World) (N t : Nat) (hN : N ≤ 1000000000) : NewR eI noB W (.slice (some ⟨W.heap.size, 0, none⟩) N N) (W.alloc (.cells (zs N [.int .i64 0]).toArray t)) (List.replicate N (0 : Int)) := by
  have hlm : 1000000000 ≤ maxLen := by decide
  have := Rmy.new W (zs N [.int .i64 0]) t
  rw [zs_length, List.length_singleton, Nat.mul_one] at this
  exact ⟨Ext.new _ _, ⟨_, N, by simp, by simp, by omega, .inr ⟨_, rfl, by rw [show eI.m = 1 from rfl, Nat.mul_one]; exact this, zs_rat _ _ (boxedAll _ _ _)⟩⟩, fun b hb => by cases hb; exact Nat.le_refl _⟩
theorem fresh_asg {W w1 : World} {vs : Value} {l : List Int} (t : Nat) (h : NewR eI noB W vs w1 l) (hl : l.length ≠ 0) :
    Ext W (w1.alloc (.cells #[vs, .slice none 0 0] t)) ∧ Asg W.heap.size (w1.alloc (.cells #[vs, .slice none 0 0] t)) (.pointer (some ⟨w1.heap.size, 0, none⟩)) l [] := by
  have hb := h.2.1.blk_lt hl
  refine ⟨h.1.trans (Ext.new _ _), _, vs, .slice none 0 0, rfl, h.1.size, ?_, boxed _ _ _ _ _ rfl, boxed _ _ _ _ _ rfl, h.2.1.ext (Ext.new _ _), OwnR.nil _ _ _ _, fun b hb' => ⟨h.2.2 b hb', Nat.ne_of_lt (hb b hb')⟩, fun b hb' => hb'.elim⟩
  exact Rmy.new w1 [vs, .slice none 0 0] t

set_option maxHeartbeats 2000000 in
theorem start_ret (sp : Value) (n : Nat) (F : Cnf) (lits : List Int) (s : Value) (W : World) (hS : Sol W.heap.size W sp n F) (hs : SlR eI allB W s lits) (hF : fOk n F = true) (hl : ∀ l ∈ lits, litOk n l = true) (hll : lits.length ≤ 10000000) :
    Ret Try.prog 78 #[sp, s] W (StartR n F (fun l => l ∈ lits) W) := by
  have hlm : (maxLen : Int) ≤ 9223372036854775807 := by decide
  have hn : n ≤ 400 ∧ F.length ≤ 1600 := by
    simp only [fOk, Bool.and_eq_true, decide_eq_true_eq] at hF; omega
  have hFc : ∀ c ∈ F, clOk n c = true := by
    simp only [fOk, Bool.and_eq_true, List.all_eq_true] at hF; exact hF.2
  obtain ⟨S, cs, os, O, rfl, hSB, hSc, hcs, hos, hocc⟩ := id hS
  obtain ⟨a, c, rfl, hlc, hcm, -⟩ := id hs
  obtain ⟨ca, cc, rfl, hclc, hccm, -⟩ := id hcs
  have hs0 : SlR eI (oldB W.heap.size) W (.slice a lits.length c) lits := hs.lt.mono fun b hb => hb.2
  refine ret_of_vc ties mixed Try.func78 rfl (by kernel_rfl) rfl rfl ?_
  refine ⟨_, hSc.1, _, IntWalk.i64_in _ (by omega), ⟨by omega, by omega, by omega, by show (8 : Int) * ((n : Int) + 1) ≤ _; omega⟩, ?_⟩
  have hz1 : ((n : Int) + 1).toNat = n + 1 := by omega
  have hnew := new_zero W ((n : Int) + 1).toNat 3 (by omega)
  have hzn : (List.replicate ((n : Int) + 1).toNat (0 : Int)).length ≠ 0 := by rw [List.length_replicate]; omega
  obtain ⟨x2, hA0⟩ := fresh_asg 107 hnew hzn
  rw [hz1] at hA0
  refine loop_rule (σ := Nat × Value × List Int × List Int) [8, 22] 23 51 (fun q => [q.2.1, .int .i64 q.1])
    (fun q w' => Ext W w' ∧ q.1 ≤ lits.length ∧ Asg W.heap.size w' (.pointer (some ⟨(W.alloc (.cells (zs ((n : Int) + 1).toNat [.int .i64 0]).toArray 3)).heap.size, 0, none⟩)) q.2.2.1 q.2.2.2 ∧ Vals n q.2.2.1 ∧ (∀ l ∈ q.2.2.2, litOk n l = true) ∧
      (∀ l ∈ lits.take q.1, tr q.2.2.1 l) ∧ (∀ l, tr q.2.2.1 l → l ∈ lits) ∧ q.2.2.2.length ≤ q.1)
    (fun q => lits.length - q.1) (0, undef, List.replicate (n + 1) 0, []) rfl ⟨x2, Nat.zero_le _, hA0, zero_vals n, fun l hl => (by cases hl), fun l hl => (by cases hl), fun l hl => absurd hl (zero_tr n l), Nat.le_refl _⟩ ?_
  rintro ⟨k, j1, v1, q1⟩ w junk ⟨hx, hk, hA1, hv1, hq1, hd1, hm1, hql⟩ K hK
  simp only at hk hA1 hv1 hq1 hd1 hm1 hql
  show vc _ _ _ _ (over [8, 22] [j1, .int .i64 k] _) _
  refine br_dec (fun h3 => ?_) (fun h3 => ?_)
  · have hkl : k < lits.length := by omega
    obtain ⟨b, o, c1, cs1, he, -, hcell, rfl⟩ := hs.at hkl
    cases he
    obtain ⟨x, hxe⟩ : ∃ x, lits[k]'hkl = x := ⟨_, rfl⟩
    have hxm : x ∈ lits := hxe ▸ List.getElem_mem hkl
    have hxl := hl x hxm
    have hsn := take_snoc hkl
    rw [hxe] at hcell hsn
    refine ⟨⟨by omega, by omega⟩, _, (hcell.ext hx).1, ?_⟩
    refine Or.inl ((set_ret W.heap.size _ v1 q1 n x w hA1 hv1 hxl hn.1 (by omega) hx.size).mono ?_)
    rintro r w' ⟨hb', ⟨hf, rfl, hA2⟩ | ⟨ht, rfl, hA2⟩ | ⟨ht, rfl⟩⟩
    · refine ⟨_, IntWalk.i64_in _ (by omega), ?_⟩
      refine hK (k + 1, _, put v1 x, q1 ++ [x]) _ _ (vs2 rfl (vint (by show (k : Int) + 1 = ((k + 1 : Nat) : Int); omega))) ⟨hx.trans' hb', by show k + 1 ≤ _; omega, hA2, put_vals hv1 hxl, fun y hy => ?_, fun y hy => ?_, fun y hy => ?_, by simp only [List.length_append, List.length_singleton]; omega⟩ (by show lits.length - (k + 1) < lits.length - k; omega) ?_
      · rcases List.mem_append.1 hy with hy | hy
        · exact hq1 y hy
        · rw [List.mem_singleton.1 hy]; exact hxl
      · rw [hsn] at hy
        rcases List.mem_append.1 hy with hy | hy
        · exact put_mono hv1 hxl hf (hd1 y hy)
        · rw [List.mem_singleton.1 hy]; exact (tr_put hv1 hxl hf x).2 (.inr rfl)
      · rcases (tr_put hv1 hxl hf y).1 hy with h | rfl
        · exact hm1 y h
        · exact hxm
      · ((repeat (first | (with_reducible exact Only.refl) | (with_reducible refine Only.skip ?_) | ((with_reducible refine Only.upd ?_ ?_); rfl) | ((with_reducible refine Only.over ?_ ?_ _); rfl) | ((with_reducible refine Only.hav ?_ ?_ ?_); rfl; rfl))))
    · refine ⟨_, IntWalk.i64_in _ (by omega), ?_⟩
      refine hK (k + 1, _, v1, q1) _ _ (vs2 rfl (vint (by show (k : Int) + 1 = ((k + 1 : Nat) : Int); omega))) ⟨hx.trans' hb', by show k + 1 ≤ _; omega, hA2, hv1, hq1, fun y hy => ?_, hm1, by show q1.length ≤ k + 1; omega⟩ (by show lits.length - (k + 1) < lits.length - k; omega) ?_
      · rw [hsn] at hy
        rcases List.mem_append.1 hy with hy | hy
        · exact hd1 y hy
        · rw [List.mem_singleton.1 hy]; exact ht
      · ((repeat (first | (with_reducible exact Only.refl) | (with_reducible refine Only.skip ?_) | ((with_reducible refine Only.upd ?_ ?_); rfl) | ((with_reducible refine Only.over ?_ ?_ _); rfl) | ((with_reducible refine Only.hav ?_ ?_ ?_); rfl; rfl))))
    · exact ⟨hx.trans' hb', none, .no (.inl ⟨x, .base hxm, .base (hm1 _ ht)⟩), .inl ⟨rfl, rfl⟩⟩
  have hke : k = lits.length := by omega
  subst hke
  rw [List.take_length] at hd1
  have hSc1 := hSc.ext hx
  have hcs1 := hcs.ext hx
  refine ⟨_, hSc1.2.1, ?_⟩
  refine loop_rule (σ := Nat × Value × List Int × List Int) [10, 37] 38 51 (fun q => [q.2.1, .int .i64 q.1])
    (fun q w' => Ext W w' ∧ q.1 ≤ F.length ∧ Asg W.heap.size w' (.pointer (some ⟨(W.alloc (.cells (zs ((n : Int) + 1).toNat [.int .i64 0]).toArray 3)).heap.size, 0, none⟩)) q.2.2.1 q.2.2.2 ∧ Vals n q.2.2.1 ∧ (∀ l ∈ q.2.2.2, litOk n l = true) ∧
      (∀ l ∈ lits, tr q.2.2.1 l) ∧ (∀ l, tr q.2.2.1 l → Der F (fun l => l ∈ lits) l) ∧ q.2.2.2.length ≤ lits.length + q.1 ∧ ∀ c ∈ F.take q.1, Fine q.2.2.1 c ∨ ∃ l ∈ q.2.2.2, -l ∈ c)
    (fun q => F.length - q.1) (0, _, v1, q1) rfl ⟨hx, Nat.zero_le _, hA1, hv1, hq1, hd1, fun l h => .base (hm1 l h), hql, fun c hc => (by cases hc)⟩ ?_
  clear hK h3 hSc1 hcs1 hql hm1 hd1 hq1 hv1 hA1 hk hx
  rintro ⟨k, j2, v1, q1⟩ w junk ⟨hx, hk, hA1, hv1, hq1, hd1, hm1, hql, hp1⟩ K hK
  simp only at hk hA1 hv1 hq1 hd1 hm1 hql hp1
  show vc _ _ _ _ (over [10, 37] [j2, .int .i64 k] _) _
  refine br_dec (fun h3 => ?_) (fun h3 => ?_)
  · have hkl : k < F.length := by omega
    obtain ⟨b, o, c1, cs1, he, -, hcell, s', rfl, hs'⟩ := hcs.at hkl
    cases he
    have hcm' := List.getElem_mem hkl
    have hcl := hFc _ hcm'
    have hsn := take_snoc hkl
    obtain ⟨cl, hcle⟩ : ∃ cl, F[k]'hkl = cl := ⟨_, rfl⟩
    rw [hcle] at hcl hcm' hs' hsn
    have hlc := clOk_lits hcl
    refine ⟨⟨by omega, by omega⟩, _, (hcell.ext hx).1, ?_⟩
    refine Or.inl ((look_ret W.heap.size _ s' v1 q1 n cl w hA1 (hs'.ext hx).any hv1 hcl hn.1 (by omega) hx.size).mono ?_)
    rintro r w' ⟨hb', ⟨hfine, rfl, hA2⟩ | ⟨m, hm, hf, hall, rfl, hA2⟩ | ⟨hall, rfl⟩⟩
    · refine ⟨_, IntWalk.i64_in _ (by omega), ?_⟩
      refine hK (k + 1, _, v1, q1) _ _ (vs2 rfl (vint (by show (k : Int) + 1 = ((k + 1 : Nat) : Int); omega))) ⟨hx.trans' hb', by show k + 1 ≤ _; omega, hA2, hv1, hq1, hd1, hm1, by show q1.length ≤ lits.length + (k + 1); omega, fun y hy => ?_⟩ (by show F.length - (k + 1) < F.length - k; omega) ?_
      · rw [hsn] at hy
        rcases List.mem_append.1 hy with hy | hy
        · exact hp1 y hy
        · rw [List.mem_singleton.1 hy]; exact .inl hfine
      · ((repeat (first | (with_reducible exact Only.refl) | (with_reducible refine Only.skip ?_) | ((with_reducible refine Only.upd ?_ ?_); rfl) | ((with_reducible refine Only.over ?_ ?_ _); rfl) | ((with_reducible refine Only.hav ?_ ?_ ?_); rfl; rfl))))
    · have hml := hlc m hm
      refine ⟨_, IntWalk.i64_in _ (by omega), ?_⟩
      refine hK (k + 1, _, put v1 m, q1 ++ [m]) _ _ (vs2 rfl (vint (by show (k : Int) + 1 = ((k + 1 : Nat) : Int); omega))) ⟨hx.trans' hb', by show k + 1 ≤ _; omega, hA2, put_vals hv1 hml, fun y hy => ?_, fun y hy => put_mono hv1 hml hf (hd1 y hy), Der.of_tr hv1 hm1 hcm' hm hall hml hf, by simp only [List.length_append, List.length_singleton]; omega, fun y hy => ?_⟩ (by show F.length - (k + 1) < F.length - k; omega) ?_
      · rcases List.mem_append.1 hy with hy | hy
        · exact hq1 y hy
        · rw [List.mem_singleton.1 hy]; exact hml
      · rw [hsn] at hy
        rcases List.mem_append.1 hy with hy | hy
        · rcases hp1 y hy with h | ⟨z, hz, h⟩
          · rcases h.put hv1 hml hf with h | h
            · exact .inl h
            · exact .inr ⟨m, by simp, h⟩
          · exact .inr ⟨z, List.mem_append_left _ hz, h⟩
        · rw [List.mem_singleton.1 hy]; exact .inl (.inl ⟨m, hm, (tr_put hv1 hml hf m).2 (.inr rfl)⟩)
      · ((repeat (first | (with_reducible exact Only.refl) | (with_reducible refine Only.skip ?_) | ((with_reducible refine Only.upd ?_ ?_); rfl) | ((with_reducible refine Only.over ?_ ?_ _); rfl) | ((with_reducible refine Only.hav ?_ ?_ ?_); rfl; rfl))))
    · exact ⟨hx.trans' hb', none, .no (.inr ⟨cl, hcm', fun y hy => hm1 _ (hall y hy)⟩), .inl ⟨rfl, rfl⟩⟩
  have hke : k = F.length := by omega
  subst hke
  rw [List.take_length] at hp1
  refine Or.inl ((drain_ret W.heap.size (.pointer (some ⟨S, 0, none⟩)) _ v1 q1 n F w hA1 (hS.below hx) hv1 hF hq1 hp1 (by omega) hx.size).mono ?_)
  rintro r w' ⟨hb', ⟨rfl, hbad⟩ | ⟨rfl, u, hA2, hup⟩⟩
  · exact ⟨hx.trans' hb', none, .no (hbad.mono hm1), .inl ⟨rfl, rfl⟩⟩
  · exact ⟨hx.trans' hb', some u, hup.base hd1 hm1, .inr ⟨u, _, rfl, rfl, hA2⟩⟩

theorem extend_ret (sp ap : Value) (n : Nat) (F : Cnf) (v : List Int) (l : Int) (W : World) (hS : Sol W.heap.size W sp n F) (hA : Rda allB W ap v) (hF : fOk n F = true) (hv : Vals n v) (hl : litOk n l = true) (hf : fre v l) (hfine : ∀ c ∈ F, Fine v c) :
    Ret Try.prog 118 #[sp, ap, .int .i64 l] W (StartR n F (tr (put v l)) W) := by
  have hn : n ≤ 400 ∧ F.length ≤ 1600 := by
    simp only [fOk, Bool.and_eq_true, decide_eq_true_eq] at hF; omega
  have hvl := hv.len
  obtain ⟨A, a1, rfl, -, hc1, ho1⟩ := hA
  obtain ⟨S, rfl⟩ := hS.ptr
  refine ret_of_vc ties mixed Try.func118 rfl (by kernel_rfl) rfl rfl ?_
  refine ⟨_, hc1, ?_⟩
  refine Or.inl ((clone_ret v a1 _ ho1 (by omega)).mono ?_)
  rintro vs w1 hnew
  obtain ⟨x2, hA0⟩ := fresh_asg 107 hnew (by omega)
  obtain ⟨_, _, rfl, _⟩ := id hnew.2.1
  refine Or.inl ((set_ret W.heap.size _ v [] n l _ hA0 hv hl hn.1 (by decide) x2.size).mono ?_)
  rintro r w' ⟨hb', ⟨_, rfl, hA2⟩ | ⟨ht, _⟩ | ⟨ht, _⟩⟩
  · have hx' := x2.trans' hb'
    refine Or.inl ((drain_ret W.heap.size (.pointer (some ⟨S, 0, none⟩)) _ (put v l) [l] n F w' hA2 (hS.below hx') (put_vals hv hl) hF (fun y hy => by rw [List.mem_singleton.1 hy]; exact hl) (fun c hc => (hfine c hc).put hv hl hf |>.imp id fun h => ⟨l, by simp, h⟩) (Nat.le_trans (Nat.le_refl 1) (by decide)) hx'.size).mono ?_)
    rintro r w' ⟨hb', ⟨rfl, hbad⟩ | ⟨rfl, u, hA3, hup⟩⟩
    · exact ⟨hx'.trans' hb', none, .no hbad, .inl ⟨rfl, rfl⟩⟩
    · exact ⟨hx'.trans' hb', some u, hup, .inr ⟨u, _, rfl, rfl, hA3⟩⟩
  · exact absurd ht (fre_not hf).1
  · exact absurd ht (fre_not hf).2

end Go.Proofs.Ytfmflffggcphjaa
