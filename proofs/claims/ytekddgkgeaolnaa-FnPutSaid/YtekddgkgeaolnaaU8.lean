/- Reference: l02First. (printed by genU8.py) Reference: l02Two (from l02Make at smaller terms). Reference: l02Make. MakeTerm: both contracts; makeTerm. AllOf: both contracts. -/
import Derived.Test.YtekddgkgeaolnaaU1
import Derived.Test.YtekddgkgeaolnaaQ1
namespace Go.Proofs.Ytekddgkgeaolnaa
open Go Go.Vc Go.RowKit
set_option linter.unusedVariables false
section
variable {n : Nat} {x : Lab} {a b : Tm} {s : Value} {ok : Nat → Prop} {W : World}
theorem fin_t {B g : Nat} {args : Array Value} {t : Tm} {w : World} (bb : Bool) (hr : Rmy w B 5) (hB : W.heap.size ≤ B) (hl : B < w.heap.size) (hx : Ext W w) (h : Ret Try.prog g args w (TRes (okB B W ok) t w)) :
    Ret Try.prog g args w (fun v w' => ∃ s2, v = tv t.1 s2 ∧ FreeAll w' B 0 (tc t.1 s2) ∧ ∃ vs, vs.length = 5 ∧ CellsAt (setCells w' B 0 (tc t.1 s2)) B 0 vs ∧ FirR ok bb t W (.tuple #[.agg vs.toArray, .bool bb]) (setCells w' B 0 (tc t.1 s2))) :=
  h.mono fun v w' hh => by
    obtain ⟨x2, s2, rfl, hs2⟩ := res_in hh hl hx.size
    exact ⟨s2, rfl, fin5t bb (hr.ext x2) hB (hx.trans x2) hs2⟩
theorem out_l (u d : Tm) : ((some (Sum.inl u : St)).map outT).getD d = u := rfl
theorem out_r (u d : Tm) : ((some (Sum.inr u : St)).map outT).getD d = red u := by simp only [Option.map_some, Option.getD_some, outT]
theorem out_n (d : Tm) : ((none : Option St).map outT).getD d = d := rfl
end
end Go.Proofs.Ytekddgkgeaolnaa
namespace Go.Proofs.Ytekddgkgeaolnaa
open Go Go.Vc Go.RowKit
set_option linter.unusedVariables false
section
variable {n : Nat} {x : Lab} {a b d : Tm} {s : Value} {ok : Nat → Prop} {W : World}
def tnW (op : Int) : Bool := decide (op = 3 ∨ op = 5 ∨ (8 ≤ op ∧ op ≤ 10))
theorem tnW_swp {op : Int} (h : 3 ≤ op ∧ op ≤ 16) : (swp op = true ↔ tnW op = true ∨ op = 14) ∧ (swp op = true ∧ op ≠ 14 ↔ tnW op = true) := by
  unfold swp tnW
  simp only [decide_eq_true_eq]
  omega
theorem lab_mkn {x : Lab} {l : List Lab} (h : NodeOk x l) (ho : 3 ≤ x.op ∧ x.op ≤ 16) : x = mkn x.op x.w 0 := by
  have h1 := h.num (by omega) (by omega)
  have h2 := h.noname (by omega)
  obtain ⟨o, w, m, nm⟩ := x
  simp only at h1 h2
  subst h1
  subst h2
  rfl
theorem eqO_rest {x : Lab} {a b : Tm} (m1 : ¬ (isC b 0 = true ∧ (x.op = 4 ∨ x.op = 11 ∨ x.op = 12 ∨ x.op = 13))) (m2 : ¬ (isC b 0 = true ∧ x.op = 15)) (hc : cmpT a b = 0) :
    (∀ u, eqO x a = some u → stRest (x, mkTF [a, b]) a b = .inl u) ∧ (eqO x a = none → ¬ (cmpT a b = 0 ∧ (x.op = 8 ∨ x.op = 9)) ∧ ¬ (cmpT a b = 0 ∧ (x.op = 4 ∨ x.op = 10 ∨ x.op = 15 ∨ x.op = 16)) ∧ ¬ (cmpT a b = 0 ∧ x.op = 14)) := by
  unfold eqO
  by_cases h1 : x.op = 8 ∨ x.op = 9
  · rw [if_pos h1]
    refine ⟨fun u hu => ?_, fun hu => by cases hu⟩
    rw [← Option.some.inj hu]
    unfold stRest
    rw [if_neg m1, if_neg m2, if_pos ⟨hc, h1⟩]
  rw [if_neg h1]
  by_cases h2 : x.op = 4 ∨ x.op = 10 ∨ x.op = 15 ∨ x.op = 16
  · rw [if_pos h2]
    refine ⟨fun u hu => ?_, fun hu => by cases hu⟩
    rw [← Option.some.inj hu]
    unfold stRest
    rw [if_neg m1, if_neg m2, if_neg (fun e => h1 e.2), if_pos ⟨hc, h2⟩]
  rw [if_neg h2]
  by_cases h3 : x.op = 14
  · rw [if_pos h3]
    refine ⟨fun u hu => ?_, fun hu => by cases hu⟩
    rw [← Option.some.inj hu]
    unfold stRest
    rw [if_neg m1, if_neg m2, if_neg (fun e => h1 e.2), if_neg (fun e => h2 e.2), if_pos ⟨hc, h3⟩]
  rw [if_neg h3]
  exact ⟨fun u hu => (by cases hu), fun _ => ⟨fun e => h1 e.2, fun e => h2 e.2, fun e => h3 e.2⟩⟩
end
end Go.Proofs.Ytekddgkgeaolnaa
namespace Go.Proofs.Ytekddgkgeaolnaa
open Go Go.Vc Go.RowKit
set_option linter.unusedVariables false
section
variable {x : Lab} {k : TF} (hk : k.len ≠ 0) (hc : ¬ allC k = true)
include hk hc
theorem redE_un (ho : x.op = 1 ∨ x.op = 2) : red (x, k) = if (kid k 0).1.op = x.op then kid (kid k 0).2 0 else (x, k) := by
  have hnil : ¬ k = .nil := fun e => hk (by rw [e]; rfl)
  refine red_inl ?_
  unfold step
  rw [if_neg hnil, if_neg hc, if_pos ho]
theorem redE_if (h : OkT (x, k)) (ho : x.op = 17) : red (x, k) = outT (stIf (x, k) (kid k 0) (kid k 1) (kid k 2)) := by
  have hnil : ¬ k = .nil := fun e => hk (by rw [e]; rfl)
  have n12 : ¬ (x.op = 1 ∨ x.op = 2) := by omega
  rw [red_out h]
  refine congrArg outT ?_
  unfold step
  rw [if_neg hnil, if_neg hc, if_neg n12, if_pos ho]
theorem redE_cut (h : OkT (x, k)) (ho : x.op = 19) : red (x, k) = outT (stCut (x, k) (kid k 0)) := by
  have hnil : ¬ k = .nil := fun e => hk (by rw [e]; rfl)
  have n12 : ¬ (x.op = 1 ∨ x.op = 2) := by omega
  have n17 : ¬ x.op = 17 := by omega
  rw [red_out h]
  refine congrArg outT ?_
  unfold step
  rw [if_neg hnil, if_neg hc, if_neg n12, if_neg n17, if_pos ho]
theorem redE_wid (h : OkT (x, k)) (ho : x.op = 20 ∨ x.op = 21) : red (x, k) = outT (stWid (x, k) (kid k 0)) := by
  have hnil : ¬ k = .nil := fun e => hk (by rw [e]; rfl)
  have n12 : ¬ (x.op = 1 ∨ x.op = 2) := by omega
  have n17 : ¬ x.op = 17 := by omega
  have n19 : ¬ x.op = 19 := by omega
  rw [red_out h]
  refine congrArg outT ?_
  unfold step
  rw [if_neg hnil, if_neg hc, if_neg n12, if_neg n17, if_neg n19, if_pos ho]
theorem redE_join (h : OkT (x, k)) (ho : x.op = 18) : red (x, k) = outT (stJoin (x, k) (kid k 0) (kid k 1)) := by
  have hnil : ¬ k = .nil := fun e => hk (by rw [e]; rfl)
  have n12 : ¬ (x.op = 1 ∨ x.op = 2) := by omega
  have n17 : ¬ x.op = 17 := by omega
  have n19 : ¬ x.op = 19 := by omega
  have n20 : ¬ (x.op = 20 ∨ x.op = 21) := by omega
  rw [red_out h]
  refine congrArg outT ?_
  unfold step
  rw [if_neg hnil, if_neg hc, if_neg n12, if_neg n17, if_neg n19, if_neg n20, if_pos ho]
theorem redE_bin (h : OkT (x, k)) (ho : 3 ≤ x.op ∧ x.op ≤ 16) : red (x, k) = outT (stBin (x, k) (kid k 0) (kid k 1)) := by
  have hnil : ¬ k = .nil := fun e => hk (by rw [e]; rfl)
  have n12 : ¬ (x.op = 1 ∨ x.op = 2) := by omega
  have n17 : ¬ x.op = 17 := by omega
  have n19 : ¬ x.op = 19 := by omega
  have n20 : ¬ (x.op = 20 ∨ x.op = 21) := by omega
  have n18 : ¬ x.op = 18 := by omega
  rw [red_out h]
  refine congrArg outT ?_
  unfold step
  rw [if_neg hnil, if_neg hc, if_neg n12, if_neg n17, if_neg n19, if_neg n20, if_neg n18]
end
theorem len1p (u : Tm) : (0 : Int) < ((mkTF [u]).len : Int) := by show (0 : Int) < ((0 + 1 : Nat) : Int); decide
theorem len2p (u v : Tm) : (0 : Int) < ((mkTF [u, v]).len : Int) := by show (0 : Int) < ((0 + 1 + 1 : Nat) : Int); decide
theorem len2q (u v : Tm) : (1 : Int) < ((mkTF [u, v]).len : Int) := by show (1 : Int) < ((0 + 1 + 1 : Nat) : Int); decide
def kn (k : TF) (i : Nat) : Bool := decide (0 < (k.len : Int)) && alC k i
end Go.Proofs.Ytekddgkgeaolnaa
namespace Go.Proofs.Ytekddgkgeaolnaa
open Go Go.Vc Go.RowKit
set_option linter.unusedVariables false

noncomputable def mkO (t : Tm) : Option Tm := @ite _ (TOk t.1 t.2) (Classical.propDecidable _) (some (red t)) none
theorem mkO_yes {x : Lab} {k : TF} (h : TOk x k) : mkO (x, k) = some (red (x, k)) := by unfold mkO; exact if_pos h
theorem mkO_no {x : Lab} {k : TF} (h : ¬ TOk x k) : mkO (x, k) = none := by unfold mkO; exact if_neg h
theorem okL_node {x : Lab} {l : List Lab} (h : NodeOk x l) : okL x := by
  have h1 := h.op
  have h2 := h.width
  refine ⟨⟨by omega, by omega⟩, ⟨by omega, by omega⟩, nin h, ?_⟩
  by_cases h22 : x.op = 22
  · have h3 := (of_decide_eq_true (h.name h22)).2.1
    have : (8 : Nat) ≤ maxLen := by decide
    omega
  · rw [h.noname h22]; exact Nat.zero_le _
theorem okL_F : ∀ {k : TF}, OkF k → k.All okL
  | .nil, _ => trivial
  | .cons _ _ _, ⟨⟨h1, h2⟩, h3⟩ => ⟨okL_node h1, okL_F h2, okL_F h3⟩
theorem okL_T {t : Tm} (h : OkT t) : okL t.1 ∧ t.2.All okL := ⟨okL_node h.1, okL_F h.2⟩
theorem okL_mk : ∀ {l : List Tm}, (∀ t ∈ l, okL t.1 ∧ t.2.All okL) → (mkTF l).All okL
  | [], _ => trivial
  | t :: l, h => ⟨(h t (by simp)).1, (h t (by simp)).2, okL_mk fun u hu => h u (by simp [hu])⟩
theorem red_sz {x : Lab} {k : TF} (h : TOk x k) : (red (x, k)).2.size ≤ 240 := by
  have h1 := (red_keeps (tok_okT h)).sz
  have h2 : Tm.sz (red (x, k)) = (red (x, k)).2.size + 1 := rfl
  have h3 : Tm.sz (x, k) = k.size + 1 := rfl
  have := h.1
  omega
theorem mkO_sz {t u : Tm} (h : mkO t = some u) : u.2.size ≤ 240 ∧ OkT u := by
  by_cases ht : TOk t.1 t.2
  · rw [show mkO t = _ from mkO_yes (x := t.1) (k := t.2) ht] at h
    rw [← Option.some.inj h]
    exact ⟨red_sz ht, (red_keeps (tok_okT ht)).ok⟩
  · rw [show mkO t = _ from mkO_no (x := t.1) (k := t.2) ht] at h
    cases h
theorem mkOd_sz (t : Tm) : ((mkO t).getD zeroT).2.size ≤ 240 := by
  cases h : mkO t with
  | none => exact Nat.zero_le _
  | some u => exact (mkO_sz h).1
/-- A pair of a term that lies apart and a bool. -/
def CFir (bb : Bool) (t : Tm) (W : World) (v : Value) (w : World) : Prop := ∃ v1, v = .tuple #[v1, .bool bb] ∧ CRes t W v1 w
theorem fin6t {t : Tm} {W w : World} {B : Nat} {s : Value} (bb : Bool) (hr : Rmy w B 5) (hB : W.heap.size ≤ B) (hx : Ext W w) {lo : Nat} (hlo : B < lo) (hs : TSep w s t.2 lo w.heap.size) :
    FreeAll w B 0 (tc t.1 s) ∧ ∃ vs, vs.length = 5 ∧ CellsAt (setCells w B 0 (tc t.1 s)) B 0 vs ∧ CFir bb t W (.tuple #[.agg vs.toArray, .bool bb]) (setCells w B 0 (tc t.1 s)) := by
  obtain ⟨h1, vs, h2, h3, h4⟩ := fin6 hr hB hx hlo hs
  exact ⟨h1, vs, h2, h3, _, rfl, h4⟩
def noF : Nat → Prop := fun _ => False
theorem fin8t {t : Tm} {W w : World} {B : Nat} {s : Value} (bb : Bool) (hr : Rmy w B 5) (hB : W.heap.size ≤ B) (hx : Ext W w) (hs : TSl (fun b => B < b) w s t.2) :
    FreeAll w B 0 (tc t.1 s) ∧ ∃ vs, vs.length = 5 ∧ CellsAt (setCells w B 0 (tc t.1 s)) B 0 vs ∧ FirR noF bb t W (.tuple #[.agg vs.toArray, .bool bb]) (setCells w B 0 (tc t.1 s)) := by
  have hch : Chg (fun b => b = B) w (setCells w B 0 (tc t.1 s)) := Chg.setCells (S := fun b => b = B) rfl _ _ _
  refine ⟨hr.all _ 0 (Nat.le_refl 5) (tc_one hs), tc t.1 s, rfl, setCells_at _ _ 0 5 hr (Nat.le_refl 5), _, rfl, hx.chg hch (fun b hb => by rw [hb]; exact hB), s, rfl, ?_⟩
  exact (Fo.Sl.chg (fun b hb => by omega) hch hs).mono fun b hb => .inr (by omega)
theorem FirR.mono {ok ok' : Nat → Prop} {bb : Bool} {t : Tm} {W w : World} {v : Value} (h : FirR ok bb t W v w) (hk : ∀ b, ok b → ok' b) : FirR ok' bb t W v w := by
  obtain ⟨v1, rfl, x, s, rfl, hs⟩ := h
  exact ⟨_, rfl, x, s, rfl, hs.mono fun b hb => hb.imp (hk b) id⟩
theorem okL_mkn {op w n : Int} (ho : inI op ∧ inI w ∧ inI n) : okL (mkn op w n) := ⟨ho.1, ho.2.1, ho.2.2, Nat.zero_le _⟩
section
variable (op w n : Int) (k : TF) (s : Value) (W : World) (ho : inI op ∧ inI w ∧ inI n) (hp : k.All okL)
include ho hp
end
end Go.Proofs.Ytekddgkgeaolnaa
namespace Go.Proofs.Ytekddgkgeaolnaa
open Go Go.Vc Go.RowKit
set_option linter.unusedVariables false

noncomputable def accO : Tm → List Tm → Option Tm
  | acc, [] => some acc
  | acc, t :: l => match mkO (mkn 8 1 0, mkTF [acc, t]) with
    | none => none
    | some u => accO u l
def allP (l : List Tm) : Prop := ∀ t ∈ l, TOk t.1 t.2 ∧ t.1.w = 1
noncomputable def allO (l : List Tm) : Option Tm := @ite _ (allP l) (Classical.propDecidable _) (accO (conT 1 1) l) none
theorem allO_yes {l : List Tm} (h : allP l) : allO l = accO (conT 1 1) l := by unfold allO; exact if_pos h
theorem allO_no {l : List Tm} (h : ¬ allP l) : allO l = none := by unfold allO; exact if_neg h
theorem accO_sz : ∀ (l : List Tm) (acc u : Tm), acc.2.size ≤ 240 → accO acc l = some u → u.2.size ≤ 240
  | [], acc, u, h, e => by rw [accO] at e; rw [← Option.some.inj e]; exact h
  | t :: l, acc, u, h, e => by
    rw [accO] at e
    cases hm : mkO (mkn 8 1 0, mkTF [acc, t]) with
    | none => rw [hm] at e; cases e
    | some v => rw [hm] at e; exact accO_sz l v u (mkO_sz hm).1 e
theorem allO_sz (l : List Tm) : ((allO l).getD zeroT).2.size ≤ 240 := by
  by_cases h : allP l
  · rw [allO_yes h]
    cases he : accO (conT 1 1) l with
    | none => exact Nat.zero_le _
    | some u => exact accO_sz l _ u (Nat.zero_le _) he
  · rw [allO_no h]; exact Nat.zero_le _
theorem accO_at {l : List Tm} {i : Nat} {t acc : Tm} (h : l[i]? = some t) : accO acc (l.drop i) = match mkO (mkn 8 1 0, mkTF [acc, t]) with | none => none | some u => accO u (l.drop (i + 1)) := by
  obtain ⟨hi, e⟩ := List.getElem?_eq_some_iff.1 h
  rw [List.drop_eq_getElem_cons hi, accO, e]
theorem mkT2 {ok : Nat → Prop} {w : World} {a b : Tm} {sa sb : Value} (h : TSl ok w sa a.2) (h' : TSl ok w sb b.2) : Ext w (w.alloc (.cells (tc a.1 sa ++ tc b.1 sb).toArray 25)) ∧
    TSl (fun q => ok q ∨ q = w.heap.size) (w.alloc (.cells (tc a.1 sa ++ tc b.1 sb).toArray 25)) (.slice (some ⟨w.heap.size, 0, none⟩) 2 2) (mkTF [a, b]) := by
  have x : Ext w (w.alloc (.cells (tc a.1 sa ++ tc b.1 sb).toArray 25)) := Ext.new _ _
  have hc := (boxedAll w (tc a.1 sa ++ tc b.1 sb) 25).split
  have h1 : TSl (fun q => ok q ∨ q = w.heap.size) (w.alloc (.cells (tc a.1 sa ++ tc b.1 sb).toArray 25)) sa a.2 := (h.ext x).mono fun q hq => .inl hq
  have h2 : TSl (fun q => ok q ∨ q = w.heap.size) (w.alloc (.cells (tc a.1 sa ++ tc b.1 sb).toArray 25)) sb b.2 := (h'.ext x).mono fun q hq => .inl hq
  exact ⟨x, some ⟨w.heap.size, 0, none⟩, 2, rfl, by show 2 ≤ maxLen; decide, .inr ⟨w.heap.size, 0, rfl, .inr rfl, at1 hc.1 h1 (at1 hc.2 h2 trivial)⟩⟩
/-- A new variable, made at any time, that takes a term. -/
theorem term_made {B : Nat} {w9 w10 : World} {t : Tm} {s : Value} {ok : Nat → Prop} (hm : Made (.cells z5.toArray 25) B w10) (hs : TSl ok w9 s t.2) (hx : Ext w9 w10) (hok : ∀ b, ok b → b ≠ B) :
    FreeAll w10 B 0 (tc t.1 s) ∧ Chg (fun b => b = B) w10 (setCells w10 B 0 (tc t.1 s)) ∧ ∀ w11, Ext (setCells w10 B 0 (tc t.1 s)) w11 → CellsAt w11 B 0 (tc t.1 s) ∧ TSl ok w11 s t.2 := by
  have hr := hm.rmy (l := z5)
  have hch : Chg (fun b => b = B) w10 (setCells w10 B 0 (tc t.1 s)) := Chg.setCells (S := fun b => b = B) rfl _ _ _
  refine ⟨hr.all _ 0 (Nat.le_refl 5) (tc_one hs), hch, fun w11 x11 => ⟨(setCells_at (tc t.1 s) _ 0 5 hr (Nat.le_refl 5)).ext x11, ?_⟩⟩
  exact Fo.Sl.ext x11 (Fo.Sl.chg (fun b hb e => hok b hb e) hch (Fo.Sl.ext hx hs))
/-- What the loop holds: the accumulator in its variable, the row apart. -/
structure AccJ (W : World) (l : List Tm) (A B i : Nat) (w : World) : Prop where
  ext : Ext W w
  ra : Rmy w A 5
  rb : Rmy w B 5
  lt : A < w.heap.size ∧ B < w.heap.size ∧ A ≠ B
  le : i ≤ l.length
  acc : ∃ (acc : Tm) (sa : Value), CellsAt w A 0 (tc acc.1 sa) ∧ TSl (fun b => b ≠ A ∧ b ≠ B) w sa acc.2 ∧ OkT acc ∧ accO (conT 1 1) l = accO acc (l.drop i)
theorem AccJ.fin {W w : World} {l : List Tm} {A B : Nat} (h : AccJ W l A B l.length w) (hall : allP l) (hB : W.heap.size ≤ B) : ∃ (acc : Tm) (sa : Value), CellsAt w A 0 (tc acc.1 sa) ∧ (tc acc.1 sa).all oneB = true ∧ FreeAll w B 0 (tc acc.1 sa) ∧ ∃ vs, vs.length = 5 ∧ CellsAt (setCells w B 0 (tc acc.1 sa)) B 0 vs ∧ FirR anyB (allO l).isSome ((allO l).getD zeroT) W (.tuple #[.agg vs.toArray, .bool true]) (setCells w B 0 (tc acc.1 sa)) := by
  obtain ⟨acc, sa, h1, h2, h3, h4⟩ := h.acc
  have e : allO l = some acc := by rw [allO_yes hall, h4, List.drop_length]; rfl
  rw [e]
  have h5 := fin5t (ok := anyB) (y := acc.1) (k := acc.2) true h.rb hB h.ext (h2.mono fun b hb => ⟨hb.2, .inl trivial⟩)
  exact ⟨acc, sa, h1, tc_one h2, h5⟩
section
variable (k : TF) (s : Value) (W : World) (hs : TSl anyB W s k) (hp : k.All okL)
include hs hp
end
end Go.Proofs.Ytekddgkgeaolnaa
