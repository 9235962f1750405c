/- MakeClause: what the reference's computes, and its contract. -/
import Derived.Test.YtfmflffggcphjaaCi
import Derived.Test.YtfmflffggcphjaaIm
namespace Go.Sat
open Go.Vc
/-- A literal is put into a clause; none if its opposite is there. -/
def insC (x : Int) : List Int → Option (List Int)
  | [] => some [x]
  | y :: t => if av y < av x then (insC x t).map (fun o => y :: o) else if y = x then some (y :: t) else if y = -x then none else some (x :: y :: t)
def mkc : List Int → List Int → Option (List Int)
  | out, [] => some out
  | out, x :: l => if litOk 400 x = true then (match insC x out with | none => none | some o => mkc o l) else none
theorem insC_from {n x : Int} : ∀ {out o : List Int} {last : Int}, -n ≤ x ∧ x ≤ n → last < av x → clFrom n last out = true → insC x out = some o → clFrom n last o = true := by
  intro out
  induction out with
  | nil => intro o last hx hl _ h; cases h; simp only [clFrom, Bool.and_true, decide_eq_true_eq]; omega
  | cons y t ih =>
    intro o last hx hl hf h
    simp only [clFrom, Bool.and_eq_true, decide_eq_true_eq] at hf
    unfold insC at h
    split at h
    · rename_i h1
      cases hi : insC x t with
      | none => rw [hi] at h; cases h
      | some o' =>
        rw [hi] at h
        cases h
        simp only [clFrom, Bool.and_eq_true, decide_eq_true_eq]
        exact ⟨hf.1, ih hx h1 hf.2 hi⟩
    · rename_i h1
      split at h
      · cases h
        simp only [clFrom, Bool.and_eq_true, decide_eq_true_eq]
        exact hf
      · rename_i h2
        split at h
        · cases h
        · rename_i h3
          cases h
          simp only [clFrom, Bool.and_eq_true, decide_eq_true_eq]
          refine ⟨by omega, ⟨by omega, by omega, ?_⟩, hf.2⟩
          unfold av at *
          omega
theorem insC_ok {out o : List Int} {x : Int} (hx : litOk 400 x = true) (h : clOk 400 out = true) (hi : insC x out = some o) : clOk 400 o = true := by
  have hx := litOk_iff.1 hx
  exact insC_from hx.2 (by unfold av; omega) h hi
theorem insC_drop {x : Int} : ∀ (k : Nat) (out : List Int), k ≤ out.length → (∀ j, j < k → av (out.getD j 0) < av x) → insC x out = (insC x (out.drop k)).map (fun o => out.take k ++ o) := by
  intro k
  induction k with
  | zero => intro out _ _; simp
  | succ k ih =>
    intro out hk hpre
    cases out with
    | nil => simp at hk
    | cons y t =>
      have h0 := hpre 0 (by omega)
      simp only [List.getD_cons_zero] at h0
      have := ih t (by simpa using hk) (fun j hj => by have := hpre (j + 1) (by omega); simpa using this)
      rw [insC, if_pos h0, this]
      simp only [List.drop_succ_cons, List.take_succ_cons, Option.map_map]
      congr 1
section
variable {x : Int} {k : Nat} {out : List Int}
theorem insC_end (hk : k = out.length) (hpre : ∀ j, j < k → av (out.getD j 0) < av x) : insC x out = some (out.take k ++ [x] ++ out.drop k) := by
  rw [insC_drop k out (by omega) hpre, hk]
  simp [insC]
theorem drop_at (hk : k < out.length) : out.drop k = out.getD k 0 :: out.drop (k + 1) := by
  rw [List.drop_eq_getElem_cons hk, List.getD_eq_getElem?_getD, List.getElem?_eq_getElem hk]
  rfl
theorem insC_dup (hk : k < out.length) (hpre : ∀ j, j < k → av (out.getD j 0) < av x) (he : out.getD k 0 = x) : insC x out = some out := by
  rw [insC_drop k out (by omega) hpre, drop_at hk, insC, if_neg (by rw [he]; omega), if_pos he, ← drop_at hk]
  simp
theorem insC_neg (hk : k < out.length) (hpre : ∀ j, j < k → av (out.getD j 0) < av x) (h0 : ¬ out.getD k 0 = x) (he : out.getD k 0 = -x) : insC x out = none := by
  rw [insC_drop k out (by omega) hpre, drop_at hk, insC, if_neg (by rw [he]; unfold av; omega), if_neg h0, if_pos he]
  rfl
theorem insC_ins (hk : k < out.length) (hpre : ∀ j, j < k → av (out.getD j 0) < av x) (hs : ¬ av (out.getD k 0) < av x) (h0 : ¬ out.getD k 0 = x) (h1 : ¬ out.getD k 0 = -x) : insC x out = some (out.take k ++ [x] ++ out.drop k) := by
  rw [insC_drop k out (by omega) hpre, drop_at hk, insC, if_neg hs, if_neg h0, if_neg h1]
  simp
end
/-- The state after k literals. -/
def mkcK (l : List Int) : Nat → Option (List Int)
  | 0 => some []
  | k + 1 => match mkcK l k with
    | none => none
    | some o => if litOk 400 (l.getD k 0) = true then insC (l.getD k 0) o else none
theorem mkcK_ok {l : List Int} : ∀ {k : Nat} {o : List Int}, mkcK l k = some o → clOk 400 o = true := by
  intro k
  induction k with
  | zero => intro o h; cases h; rfl
  | succ k ih =>
    intro o h
    rw [mkcK] at h
    split at h
    · cases h
    · rename_i o' ho
      split at h
      · rename_i hx; exact insC_ok hx (ih ho) h
      · cases h
theorem mkcK_none {l : List Int} {i : Nat} (h : mkcK l i = none) : ∀ j, i ≤ j → mkcK l j = none := by
  intro j hj
  induction j with
  | zero => rwa [show i = 0 by omega] at h
  | succ j ih =>
    by_cases e : i = j + 1
    · rw [← e]; exact h
    · rw [mkcK, ih (by omega)]
def mkcO (l : List Int) : Option (List Int) := mkcK l l.length
end Go.Sat
namespace Go.Vc
open Go Go.RowKit
theorem own_from {α : Type} {E : Rep α} {ok : Nat → Prop} (hm : E.m = 1) {w : World} {a : Option Addr} {cp n : Nat} {l : List α} (h : OwnR E ok w (.slice a n cp) l) {k : Nat} (hk : k ≤ l.length) :
    ∃ a' c', Value.slice (if cp = (k : Int).toNat then a else a.map (·.add ((k : Int).toNat * 1))) ((n : Int).toNat - (k : Int).toNat) (cp - (k : Int).toNat) = .slice a' (l.drop k).length c' ∧ ((l.drop k).length = 0 ∨ ∃ b o, a' = some ⟨b, o, none⟩ ∧ RAt E ok w (l.drop k) b o) := by
  have hk1 : (k : Int).toNat = k := by omega
  obtain ⟨a', c', he, h1, h2, h3⟩ := h
  cases he
  have hld : (l.drop k).length = l.length - k := List.length_drop
  rw [hk1]
  refine ⟨_, _, by rw [hld, Int.toNat_natCast], ?_⟩
  by_cases h0 : l.length = k
  · left; omega
  · right
    obtain ⟨B, rfl, _, hr⟩ := h3.resolve_left (by omega)
    refine ⟨B, 0 + k * E.m, ?_, hr.drop⟩
    rw [if_neg (by omega), hm]
    simp only [Option.map, Addr.add, Nat.mul_one, Nat.zero_add]
    by_cases hk0 : k = 0
    · subst hk0; rfl
    · simp [hk0]
end Go.Vc
namespace Go.Proofs.Ytfmflffggcphjaa
open Go Go.Vc Go.RowKit Go.Sat
set_option linter.unusedVariables false

theorem vs5 {a b c d e a' b' c' d' e' : Value} (h1 : a = a') (h2 : b = b') (h3 : c = c') (h4 : d = d') (h5 : e = e') : [a, b, c, d, e] = [a', b', c', d', e'] := by rw [h1, h2, h3, h4, h5]
def MkR (l : List Int) (W : World) (r : Value) (w' : World) : Prop := Ext W w' ∧ ∃ s, r = .tuple #[s, .bool (mkcO l).isSome] ∧ OwnR eI noB w' s ((mkcO l).getD []) ∧ ∀ b, blk s b → W.heap.size ≤ b
theorem MkR.no {l : List Int} {W w' : World} (hx : Ext W w') (h : mkcO l = none) : MkR l W (.tuple #[.slice none 0 0, .bool false]) w' := by
  unfold MkR
  rw [h]
  exact ⟨hx, _, rfl, OwnR.nil _ _ _ _, fun b hb => hb.elim⟩
theorem MkR.yes {l c : List Int} {W w' : World} {s : Value} (hx : Ext W w') (h : mkcO l = some c) (ho : OwnR eI noB w' s c) (hb : ∀ b, blk s b → W.heap.size ≤ b) : MkR l W (.tuple #[s, .bool true]) w' := by
  unfold MkR
  rw [h]
  exact ⟨hx, _, rfl, ho, hb⟩
theorem own_cell {w : World} {a : Option Addr} {n c : Nat} {l : List Int} (h : OwnR eI noB w (.slice a n c) l) : ∀ j, j < l.length → ∃ b, a = some ⟨b, 0, none⟩ ∧ w.cell? ⟨b, 0 + j * 1, none⟩ = some (.int .i64 (l.getD j 0)) := by
  intro j hj
  obtain ⟨b, c', he, h1, h2, h3, h4, h5⟩ := own_at h hj
  cases he
  refine ⟨b, rfl, ?_⟩
  rw [List.getD_eq_getElem?_getD, List.getElem?_eq_getElem hj]
  exact h5

set_option maxHeartbeats 4000000 in
theorem spec_MakeClause (l : List Int) (s : Value) (W : World) (hs : SlR eI allB W s l) :
    Ret Try.prog 65 #[s] W (MkR l W) := by
  have hlm : (maxLen : Int) ≤ 9223372036854775807 := by decide
  obtain ⟨a, cp, rfl, hcl, hcells⟩ := sl_cells hs
  refine ret_of_vc ties mixed Try.func65 rfl (by kernel_rfl) rfl rfl ?_
  refine loop_rule (σ := Nat × List Int × Value × Value × Value × Value) [4, 6, 7, 8, 12] 13 79 (fun q => [q.2.2.1, q.2.2.2.1, q.2.2.2.2.1, q.2.2.2.2.2, .int .i64 q.1])
    (fun q w' => Ext W w' ∧ q.1 ≤ l.length ∧ mkcK l q.1 = some q.2.1 ∧ OwnR eI noB w' q.2.2.1 q.2.1 ∧ ∀ b, blk q.2.2.1 b → W.heap.size ≤ b)
    (fun q => l.length - q.1) (0, [], _, undef, undef, undef) rfl ⟨Ext.new _ _, Nat.zero_le _, rfl, OwnR.nil _ _ _ _, fun b hb => by rw [blk_is hb]; exact Nat.le_refl _⟩ ?_
  rintro ⟨i, o, ov, j6, j7, j8⟩ w junk ⟨hx, hi, hmk, ho, hob⟩ K hK
  simp only at hi hmk ho hob
  show vc _ _ _ _ (over [4, 6, 7, 8, 12] [ov, j6, j7, j8, .int .i64 i] _) _
  have hok := mkcK_ok hmk
  have hlo := cl_len (n := 400) hok
  have hlit := clOk_lits hok
  refine br_dec (fun h3 => ?_) (fun h3 => ?_)
  · have hil : i < l.length := by omega
    refine Exists.elim (hcells i hil) fun b h => Exists.elim h fun ob hh => ?_
    have hae := hh.1
    subst hae
    have hcell := hx.cell hh.2
    have hnext : mkcK l (i + 1) = if litOk 400 (l.getD i 0) = true then insC (l.getD i 0) o else none := by rw [mkcK, hmk]
    refine Exists.elim (show ∃ x, l.getD i 0 = x from ⟨_, rfl⟩) fun x hxe => ?_
    rw [hxe] at hcell hnext
    have hbad : mkcK l (i + 1) = none → mkcO l = none := fun h => mkcK_none h l.length (by omega)
    refine Exists.elim ho fun oa h => Exists.elim h fun ocp hoo => ?_
    have he := hoo.1
    subst he
    have hoc := own_cell ho
    refine ⟨⟨by omega, by omega⟩, _, hcell, ?_⟩
    refine br_dec (fun h0 => ?_) (fun h0 => ?_)
    · exact MkR.no hx (hbad (by rw [hnext, if_neg (by rw [litOk_iff]; omega)]))
    refine Or.inl ((l01In_ret x (-400) 400 _).mono ?_)
    rintro _ _ ⟨rfl, rfl⟩
    refine br_ndec (fun h1 => ?_) (fun h1 => ?_)
    · exact MkR.no hx (hbad (by rw [hnext, if_neg (by rw [litOk_iff]; omega)]))
    have hlx : litOk 400 x = true := litOk_iff.2 ⟨h0, h1.1, h1.2⟩
    rw [if_pos hlx] at hnext
    refine loop_rule (σ := Nat) [7] 23 39 (fun q => [.int .i64 q]) (fun q w' => w' = w ∧ q ≤ o.length ∧ ∀ j, j < q → av (o.getD j 0) < av x) (fun q => o.length - q) 0 rfl ⟨rfl, Nat.zero_le _, fun j hj => by omega⟩ ?_
    rintro k w' junk2 ⟨hww, hk, hpre⟩ K2 hK2
    have hww : w = w' := hww.symm
    subst hww
    show vc _ _ _ _ (over [7] [.int .i64 k] _) _
    refine br_dec (fun h4 => ?_) (fun h4 => ?_)
    · have hkl : k < o.length := by omega
      refine Exists.elim (hoc k hkl) fun ob hh2 => ?_
      have hae2 := hh2.1
      subst hae2
      refine Exists.elim (show ∃ y, o.getD k 0 = y from ⟨_, rfl⟩) fun y hye => ?_
      have hcy := hh2.2
      have hly := litOk_iff.1 (hlit (o.getD k 0) (by rw [List.getD_eq_getElem?_getD, List.getElem?_eq_getElem hkl]; exact List.getElem_mem hkl))
      rw [hye] at hcy hly
      refine ⟨⟨by omega, by omega⟩, _, hcy, ?_⟩
      refine Or.inl ((l03Abs_ret y _ (by omega)).mono ?_)
      rintro _ _ ⟨rfl, rfl⟩
      refine Or.inl ((l03Abs_ret x _ (by omega)).mono ?_)
      rintro _ _ ⟨rfl, rfl⟩
      refine br_dec (fun h5 => ?_) (fun h5 => ?_)
      · refine ⟨_, IntWalk.i64_in _ (by omega), ?_⟩
        refine hK2 (k + 1) _ _ (vs1 (vint (by show (k : Int) + 1 = ((k + 1 : Nat) : Int); omega))) ⟨rfl, by omega, fun j hj => ?_⟩ (by omega) ?_
        · by_cases e : j = k
          · rw [e, hye]; exact h5
          · exact hpre j (by omega)
        · ((repeat (first | (with_reducible exact Only.refl) | (with_reducible refine Only.skip ?_) | ((with_reducible refine Only.upd ?_ ?_); rfl) | ((with_reducible refine Only.over ?_ ?_ _); rfl) | ((with_reducible refine Only.hav ?_ ?_ ?_); rfl; rfl))))
      · have hs5 : ¬ av (o.getD k 0) < av x := by rw [hye]; exact h5
        refine br_dec_true h4 ?_
        refine ⟨⟨by omega, by omega⟩, _, hcy, ?_⟩
        refine br_dec (fun h6 => ?_) (fun h6 => ?_)
        · rw [insC_dup hkl hpre (by rw [hye]; exact h6)] at hnext
          refine ⟨_, IntWalk.i64_in _ (by omega), ?_⟩
          refine hK (i + 1, o, _, _, _, _) _ _ (vs5 rfl rfl rfl rfl (vint (by show (i : Int) + 1 = ((i + 1 : Nat) : Int); omega))) ⟨hx, by show i + 1 ≤ _; omega, hnext, ho, hob⟩ (by show l.length - (i + 1) < l.length - i; omega) ?_
          ((repeat (first | (with_reducible exact Only.refl) | (with_reducible refine Only.skip ?_) | ((with_reducible refine Only.upd ?_ ?_); rfl) | ((with_reducible refine Only.over ?_ ?_ _); rfl) | ((with_reducible refine Only.hav ?_ ?_ ?_); rfl; rfl))))
        refine br_dec_true h4 ?_
        refine ⟨⟨by omega, by omega⟩, _, hcy, -x, (congrArg _ (Int.zero_sub _)).trans (IntWalk.i64_in _ (by omega)), ?_⟩
        refine br_dec (fun h7 => ?_) (fun h7 => ?_)
        · exact MkR.no hx (hbad (by rw [hnext, insC_neg hkl hpre (by rw [hye]; exact h6) (by rw [hye]; exact h7)]))
        refine ⟨⟨by omega, by omega, by omega⟩, ?_⟩
        refine raw_append (E := eI) (ok := noB) (l := []) (k := o.take k) ties rfl rfl rfl rfl rfl rfl rfl rfl rfl rfl (OwnR.nil _ _ _ _) noB_blk (own_lo (ho.ext (Ext.new _ _)) hk) (by rw [List.length_take]; show (0 + min _ _) * 8 ≤ _; omega) (by rw [List.length_take]; show 0 + min _ _ ≤ _; omega) ?_
        intro v5 w5 hv5 hch5 hvb5
        rw [List.nil_append] at hv5
        have x5 : Ext w w5 := (Ext.new w _).chg hch5 (fun i hi => by rw [blk_is hi]; exact Nat.le_refl _)
        have e5 : ∀ o : Obj, (w.alloc o).heap.size = w.heap.size + 1 := fun o => by simp
        have hv5b : ∀ b, blk v5 b → w.heap.size ≤ b := fun b hb => by
          rcases hvb5 b hb with h | h
          · rw [blk_is h]; exact Nat.le_refl _
          · rw [e5] at h; omega
        refine raw_push (E := eI) (ok := noB) (x := x) ties rfl rfl rfl rfl rfl rfl rfl rfl rfl rfl rfl hv5 rfl noB_blk (by rw [List.length_take]; show (min _ _ + 1) * 8 ≤ _; omega) (by rw [List.length_take]; omega) ?_
        intro v6 w6 hv6 hch6 hsz6 hvb6
        have x6 : Ext w w6 := x5.chg hch6 hv5b
        have hv6b : ∀ b, blk v6 b → w.heap.size ≤ b := fun b hb => by
          rcases hvb6 b hb with h | h
          · exact hv5b b h
          · have := x5.size; omega
        refine ⟨⟨by omega, by omega, by omega⟩, ?_⟩
        refine raw_append (E := eI) (ok := noB) (l := o.take k ++ [x]) (k := o.drop k) ties rfl rfl rfl rfl rfl rfl rfl rfl rfl rfl hv6 noB_blk (own_from rfl (ho.ext x6) hk) (by rw [List.length_append, List.length_take, List.length_drop, List.length_singleton]; show (min _ _ + 1 + (_ - _)) * 8 ≤ _; omega) (by rw [List.length_append, List.length_take, List.length_drop, List.length_singleton]; omega) ?_
        intro v7 w7 hv7 hch7 hvb7
        have x7 : Ext w w7 := x6.chg hch7 hv6b
        have hv7b : ∀ b, blk v7 b → W.heap.size ≤ b := fun b hb => by
          have hw := hx.size
          rcases hvb7 b hb with h | h
          · exact Nat.le_trans hw (hv6b b h)
          · have := x6.size; omega
        rw [insC_ins hkl hpre hs5 (by rw [hye]; exact h6) (by rw [hye]; exact h7)] at hnext
        refine ⟨_, IntWalk.i64_in _ (by omega), ?_⟩
        refine hK (i + 1, o.take k ++ [x] ++ o.drop k, v7, _, _, _) _ _ (vs5 rfl rfl rfl rfl (vint (by show (i : Int) + 1 = ((i + 1 : Nat) : Int); omega))) ⟨hx.trans x7, by show i + 1 ≤ _; omega, hnext, hv7, hv7b⟩ (by show l.length - (i + 1) < l.length - i; omega) ?_
        ((repeat (first | (with_reducible exact Only.refl) | (with_reducible refine Only.skip ?_) | ((with_reducible refine Only.upd ?_ ?_); rfl) | ((with_reducible refine Only.over ?_ ?_ _); rfl) | ((with_reducible refine Only.hav ?_ ?_ ?_); rfl; rfl))))
    · have hke : k = o.length := by omega
      refine br_dec_false h4 ?_
      refine br_dec_false h4 ?_
      refine ⟨⟨by omega, by omega, by omega⟩, ?_⟩
      refine raw_append (E := eI) (ok := noB) (l := []) (k := o.take k) ties rfl rfl rfl rfl rfl rfl rfl rfl rfl rfl (OwnR.nil _ _ _ _) noB_blk (own_lo (ho.ext (Ext.new _ _)) hk) (by rw [List.length_take]; show (0 + min _ _) * 8 ≤ _; omega) (by rw [List.length_take]; show 0 + min _ _ ≤ _; omega) ?_
      intro v5 w5 hv5 hch5 hvb5
      rw [List.nil_append] at hv5
      have x5 : Ext w w5 := (Ext.new w _).chg hch5 (fun i hi => by rw [blk_is hi]; exact Nat.le_refl _)
      have e5 : ∀ o : Obj, (w.alloc o).heap.size = w.heap.size + 1 := fun o => by simp
      have hv5b : ∀ b, blk v5 b → w.heap.size ≤ b := fun b hb => by
        rcases hvb5 b hb with h | h
        · rw [blk_is h]; exact Nat.le_refl _
        · rw [e5] at h; omega
      refine raw_push (E := eI) (ok := noB) (x := x) ties rfl rfl rfl rfl rfl rfl rfl rfl rfl rfl rfl hv5 rfl noB_blk (by rw [List.length_take]; show (min _ _ + 1) * 8 ≤ _; omega) (by rw [List.length_take]; omega) ?_
      intro v6 w6 hv6 hch6 hsz6 hvb6
      have x6 : Ext w w6 := x5.chg hch6 hv5b
      have hv6b : ∀ b, blk v6 b → w.heap.size ≤ b := fun b hb => by
        rcases hvb6 b hb with h | h
        · exact hv5b b h
        · have := x5.size; omega
      refine ⟨⟨by omega, by omega, by omega⟩, ?_⟩
      refine raw_append (E := eI) (ok := noB) (l := o.take k ++ [x]) (k := o.drop k) ties rfl rfl rfl rfl rfl rfl rfl rfl rfl rfl hv6 noB_blk (own_from rfl (ho.ext x6) hk) (by rw [List.length_append, List.length_take, List.length_drop, List.length_singleton]; show (min _ _ + 1 + (_ - _)) * 8 ≤ _; omega) (by rw [List.length_append, List.length_take, List.length_drop, List.length_singleton]; omega) ?_
      intro v7 w7 hv7 hch7 hvb7
      have x7 : Ext w w7 := x6.chg hch7 hv6b
      have hv7b : ∀ b, blk v7 b → W.heap.size ≤ b := fun b hb => by
        have hw := hx.size
        rcases hvb7 b hb with h | h
        · exact Nat.le_trans hw (hv6b b h)
        · have := x6.size; omega
      rw [insC_end hke hpre] at hnext
      refine ⟨_, IntWalk.i64_in _ (by omega), ?_⟩
      refine hK (i + 1, o.take k ++ [x] ++ o.drop k, v7, _, _, _) _ _ (vs5 rfl rfl rfl rfl (vint (by show (i : Int) + 1 = ((i + 1 : Nat) : Int); omega))) ⟨hx.trans x7, by show i + 1 ≤ _; omega, hnext, hv7, hv7b⟩ (by show l.length - (i + 1) < l.length - i; omega) ?_
      ((repeat (first | (with_reducible exact Only.refl) | (with_reducible refine Only.skip ?_) | ((with_reducible refine Only.upd ?_ ?_); rfl) | ((with_reducible refine Only.over ?_ ?_ _); rfl) | ((with_reducible refine Only.hav ?_ ?_ ?_); rfl; rfl))))
  · have hie : i = l.length := by omega
    rw [hie] at hmk
    exact MkR.yes hx hmk ho hob

end Go.Proofs.Ytfmflffggcphjaa
