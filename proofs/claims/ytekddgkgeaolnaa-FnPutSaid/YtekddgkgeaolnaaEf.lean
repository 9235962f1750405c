/- PutTerm: both contracts. -/
import Derived.Test.YtekddgkgeaolnaaEd
namespace Go.Proofs.Ytekddgkgeaolnaa
open Go Go.Vc Go.RowKit
set_option linter.unusedVariables false

def nmOk (t : Tm) (name : ByteArray) (w : Int) : Prop := ∀ p ∈ varsT t, p.1 = name → p.2 = w
def putC (t u : Tm) (name : ByteArray) : Prop := (TOk t.1 t.2 ∧ TOk u.1 u.2) ∧ nmOk t name u.1.w ∧ TOk (putT (onePut name u) t).1 (putT (onePut name u) t).2
noncomputable def putP (t u : Tm) (name : ByteArray) : Option Tm := @ite _ (putC t u name) (Classical.propDecidable _) (some (putT (onePut name u) t)) none
theorem putP_yes {t u : Tm} {name : ByteArray} (h : putC t u name) : putP t u name = some (putT (onePut name u) t) := by unfold putP; exact if_pos h
theorem putP_no {t u : Tm} {name : ByteArray} (h : ¬ putC t u name) : putP t u name = none := by unfold putP; exact if_neg h
theorem putP_sz (t u : Tm) (name : ByteArray) : ((putP t u name).getD zeroT).2.size ≤ 240 := by
  by_cases h : putC t u name
  · rw [putP_yes h]
    have := h.2.2.1
    show (putT (onePut name u) t).2.size ≤ 240
    omega
  · rw [putP_no h]; exact Nat.zero_le _
theorem one_all {p : Lab → Prop} {name : ByteArray} {u : Tm} (h1 : p u.1) (h2 : u.2.All p) : ∀ s v, onePut name u s = some v → p v.1 ∧ v.2.All p := fun s v e => by
  unfold onePut at e
  by_cases h : s = name
  · rw [if_pos h] at e; rw [← Option.some.inj e]; exact ⟨h1, h2⟩
  · rw [if_neg h] at e; cases e
theorem fnd_vls (l : Vs) (s : ByteArray) : fnd (vls l) s = (lk s l).map fun w => vl0 (s, w) := by
  induction l with
  | nil => rfl
  | cons p l ih =>
    show fnd (vl0 p :: vls l) s = _
    rw [fnd_cons, lk, ih]
    by_cases h : s = p.1
    · rw [if_pos (show (vl0 p).name = s from h.symm), if_pos h, h]; rfl
    · rw [if_neg (show ¬ (vl0 p).name = s from fun e => h e.symm), if_neg h]
theorem nmOk_lk {t : Tm} (hc : Cons (varsT t)) (name : ByteArray) (w : Int) : nmOk t name w ↔ ∀ n, lk name (vsT t) = some n → n = w := by
  rw [vsT_lk]
  constructor
  · intro h n hn
    exact h _ (lk_mem hn) rfl
  · intro h p hp e
    subst e
    exact h _ (lk_of_mem hc hp)
section
variable (x y : Lab) (k q : TF) (s su : Value) (name : ByteArray) (W : World) (hs : TSl anyB W s k) (hsu : TSl anyB W su q) (hx : okL x) (hp : k.All okL) (hy : okL y) (hq : q.All okL)
include hs hsu hx hp hy hq
set_option maxRecDepth 100000 in
set_option maxHeartbeats 16000000 in
theorem spec_PutTerm : Ret Try.prog 22 #[tv x s, .string name, tv y su] W (FirR noF (putP (x, k) (y, q) name).isSome ((putP (x, k) (y, q) name).getD zeroT) W) := by
  have xA : Ext W (bxW W x s) := bx_ext W x s
  have xB : Ext (bxW W x s) (bxW (bxW W x s) y su) := bx_ext _ _ _
  have x1 : Ext W (bzW (bxW (bxW W x s) y su)) := xA.trans (xB.trans (bz_ext _))
  have hb := (bx_at W x s).ext (xB.trans (bz_ext _))
  have hbu := (bx_at (bxW W x s) y su).ext (bz_ext _)
  have zA : (bxW W x s).heap.size = W.heap.size + 1 := bx_size _ _ _
  have zB : (bxW (bxW W x s) y su).heap.size = (bxW W x s).heap.size + 1 := bx_size _ _ _
  have hlt : (bxW (bxW W x s) y su).heap.size < (bzW (bxW (bxW W x s) y su)).heap.size := by rw [bz_size]; omega
  have hr : Rmy (bzW (bxW (bxW W x s) y su)) (bxW (bxW W x s) y su).heap.size 5 := bz_rmy _
  have hB : W.heap.size ≤ (bxW (bxW W x s) y su).heap.size := by omega
  have no : ∀ w, Ext (bzW (bxW (bxW W x s) y su)) w → putP (x, k) (y, q) name = none → FreeAll w (bxW (bxW W x s) y su).heap.size 0 (tc zeroL (.slice none 0 0)) ∧ ∃ vs, vs.length = 5 ∧ CellsAt (setCells w (bxW (bxW W x s) y su).heap.size 0 (tc zeroL (.slice none 0 0))) (bxW (bxW W x s) y su).heap.size 0 vs ∧ FirR noF (putP (x, k) (y, q) name).isSome ((putP (x, k) (y, q) name).getD zeroT) W (.tuple #[.agg vs.toArray, .bool false]) (setCells w (bxW (bxW W x s) y su).heap.size 0 (tc zeroL (.slice none 0 0))) := fun w xw e => by
    rw [e]
    exact fin8t (t := zeroT) false (hr.ext xw) hB (x1.trans xw) (nil_sl _ _)
  have hok := fun w (xw : Ext W w) => spec_TermOk x k s w (hs.ext xw) hx hp
  have hoku := fun w (xw : Ext W w) => spec_TermOk y q su w (hsu.ext xw) hy hq
  by_cases ht : TOk x k
  rotate_left
  · simp only [decide_eq_false ht] at hok
    have e := putP_no (t := (x, k)) (u := (y, q)) (name := name) (fun h => ht h.1.1)
    obtain ⟨a, c, rfl, _, _⟩ := id hs
    refine ret_of_vc ties mixed Try.func22 rfl (by kernel_rfl) rfl rfl ?_
    refine ⟨tc x _, rfl, hb, ?_⟩
    refine Or.inl ((hok _ x1).mono ?_)
    rintro _ w2 ⟨rfl, x2⟩
    exact no w2 x2 e
  simp only [decide_eq_true ht] at hok
  by_cases htu : TOk y q
  rotate_left
  · simp only [decide_eq_false htu] at hoku
    have e := putP_no (t := (x, k)) (u := (y, q)) (name := name) (fun h => htu h.1.2)
    obtain ⟨a, c, rfl, _, _⟩ := id hs
    obtain ⟨a', c', rfl, _, _⟩ := id hsu
    refine ret_of_vc ties mixed Try.func22 rfl (by kernel_rfl) rfl rfl ?_
    refine ⟨tc x _, rfl, hb, ?_⟩
    refine Or.inl ((hok _ x1).mono ?_)
    rintro _ w2 ⟨rfl, x2⟩
    refine ⟨tc y _, rfl, hbu.ext x2, ?_⟩
    refine Or.inl ((hoku _ (x1.trans x2)).mono ?_)
    rintro _ w3 ⟨rfl, x3⟩
    exact no w3 (x2.trans x3) e
  simp only [decide_eq_true htu] at hoku
  have hcons : Cons (varsT (x, k)) := ((TOk_iff x k).1 ht).2.2
  have hv := fun w (xw : Ext W w) => spec_VarsOf x k s w (hs.ext xw) hx hp
  rw [varsP_yes ht] at hv
  have hfi := fun w v (h : SlR eV allB w v (vls (vsT (x, k)))) => l02Find_ret (vls (vsT (x, k))) v name w h
  have hput := fun w (xw : Ext W w) => l02Put_all name (y, q) _ (x, k) s su anyB w (Nat.le_refl _) (tok_okT ht) (hs.ext xw) (hsu.ext xw)
  obtain ⟨o, ho⟩ : ∃ o, putT (onePut name (y, q)) (x, k) = o := ⟨_, rfl⟩
  have hol := putT_all (p := okL) (one_all (name := name) (u := (y, q)) hy hq) (t := (x, k)) hx hp
  rw [ho] at hput hol
  have hoko := fun w so (h : TSl anyB w so o.2) => spec_TermOk o.1 o.2 so w h hol.1 hol.2
  have hnm := nmOk_lk hcons name y.w
  obtain ⟨a, c, rfl, _, _⟩ := id hs
  obtain ⟨a', c', rfl, _, _⟩ := id hsu
  refine ret_of_vc ties mixed Try.func22 rfl (by kernel_rfl) rfl rfl ?_
  refine ⟨tc x _, rfl, hb, ?_⟩
  refine Or.inl ((hok _ x1).mono ?_)
  rintro _ w2 ⟨rfl, x2⟩
  refine ⟨tc y _, rfl, hbu.ext x2, ?_⟩
  refine Or.inl ((hoku _ (x1.trans x2)).mono ?_)
  rintro _ w3 ⟨rfl, x3⟩
  have X3 := x2.trans x3
  refine ⟨tc x _, rfl, hb.ext X3, ?_⟩
  refine Or.inl ((hv _ (x1.trans X3)).mono ?_)
  rintro v4 w4 ⟨x4, hv4⟩
  have X4 := X3.trans x4
  refine Or.inl ((hfi w4 v4 hv4).mono ?_)
  rintro v5 w5 ⟨x5, hv5⟩
  have X5 := X4.trans x5
  have hfl := fnd_vls (vsT (x, k)) name
  show vc _ _ (Code.seq _ _) _ _ _
  refine seq_cut (x := .seq (.region 5 _ _) _) (σ := Unit) [] 25 38 (fun _ => []) (fun _ w' => Ext (bzW (bxW (bxW W x (.slice a k.len c)) y (.slice a' q.len c'))) w' ∧ nmOk (x, k) name y.w) (fun K hK => ?_) (fun _ w6 junk hJ => ?_)
  ·
    as_aux_lemma =>
      rcases hv5 with ⟨rfl, hnone⟩ | ⟨j, hj, rfl, hsome⟩
      · have hk : nmOk (x, k) name y.w := hnm.2 fun n hn => by rw [hnone, hn] at hfl; cases hfl
        refine .inl ⟨by kernel_rfl, ?_⟩
        intro w6 x6
        refine hK () _ _ rfl ⟨X5.trans x6, hk⟩ ?_
        ((repeat (first | (with_reducible exact Only.refl) | (with_reducible refine Only.skip ?_) | ((with_reducible refine Only.upd ?_ ?_); rfl) | ((with_reducible refine Only.over ?_ ?_ _); rfl) | ((with_reducible refine Only.hav ?_ ?_ ?_); rfl; rfl))))
      · obtain ⟨b, o2, c2, rfl, _, hcv⟩ := eV_at hv4 hj
        have hcv5 := hcv.ext x5
        have hlv : lk name (vsT (x, k)) = some ((vls (vsT (x, k)))[j]'hj).w := by
          rw [hsome] at hfl
          cases hl : lk name (vsT (x, k)) with
          | none => rw [hl] at hfl; cases hfl
          | some n => rw [hl] at hfl; rw [Option.some.inj hfl]; rfl
        by_cases hw : ((vls (vsT (x, k)))[j]'hj).w = y.w
        · have hk : nmOk (x, k) name y.w := hnm.2 fun n hn => by rw [hlv] at hn; rw [← Option.some.inj hn]; exact hw
          refine .inl ⟨by kernel_rfl, ?_⟩
          repeat refine br_dec_true (show (0 : Int) ≤ (j : Int) by omega) ?_
          refine ⟨⟨by omega, by omega⟩, ?_⟩
          repeat refine br_dec_true (show (0 : Int) ≤ (j : Int) by omega) ?_
          refine ⟨_, hcv5.2.1, ?_⟩
          repeat refine br_dec_true (show (0 : Int) ≤ (j : Int) by omega) ?_
          refine ⟨_, (hbu.ext X5).2.1, ?_⟩
          repeat refine br_dec_true (show (0 : Int) ≤ (j : Int) by omega) ?_
          intro w6 x6
          refine br_dec_false (fun h => h hw) ?_
          refine hK () _ _ rfl ⟨X5.trans x6, hk⟩ ?_
          ((repeat (first | (with_reducible exact Only.refl) | (with_reducible refine Only.skip ?_) | ((with_reducible refine Only.upd ?_ ?_); rfl) | ((with_reducible refine Only.over ?_ ?_ _); rfl) | ((with_reducible refine Only.hav ?_ ?_ ?_); rfl; rfl))))
        · have e := putP_no (t := (x, k)) (u := (y, q)) (name := name) (fun h => hw (hnm.1 h.2.1 _ hlv))
          refine .inl ⟨by kernel_rfl, ?_⟩
          repeat refine br_dec_true (show (0 : Int) ≤ (j : Int) by omega) ?_
          refine ⟨⟨by omega, by omega⟩, ?_⟩
          repeat refine br_dec_true (show (0 : Int) ≤ (j : Int) by omega) ?_
          refine ⟨_, hcv5.2.1, ?_⟩
          repeat refine br_dec_true (show (0 : Int) ≤ (j : Int) by omega) ?_
          refine ⟨_, (hbu.ext X5).2.1, ?_⟩
          repeat refine br_dec_true (show (0 : Int) ≤ (j : Int) by omega) ?_
          intro w6 x6
          refine br_dec_true hw ?_
          exact no w6 (X5.trans x6) e
  obtain ⟨X6, hk⟩ := hJ
  clear hv4 hv5 X5 x5 hfi hv hok hoku x4 X4 X3 x3 x2
  refine ⟨tc x _, rfl, hb.ext X6, tc y _, rfl, hbu.ext X6, ?_⟩
  refine Or.inl ((hput _ (x1.trans X6)).mono ?_)
  rintro _ w7 ⟨x7, so, rfl, hso⟩
  have k8 := keep5 (W := w7) (x := o.1) (s := so) (tc_one hso)
  have c8 := k8.2.1
  have x8 := k8.2.2
  have X8 := X6.trans (x7.trans x8)
  have hso8 := (hso.mono (ok' := anyB) fun _ _ => trivial).ext x8
  refine ⟨k8.1, ?_⟩
  refine ⟨tc o.1 so, rfl, c8, ?_⟩
  by_cases hto : TOk o.1 o.2
  · have hk9 := hoko _ so hso8
    simp only [decide_eq_true hto] at hk9
    have e : putP (x, k) (y, q) name = some o := by rw [putP_yes ⟨⟨ht, htu⟩, hk, by rw [ho]; exact hto⟩, ho]
    have hz := hto.1
    have hcp := fun w' s' (h : TSl anyB w' s' o.2) => l02Copy_all _ o s' w' (Nat.le_refl _) (by omega) h
    have hend : ∀ w s', Ext (bzW (bxW (bxW W x (.slice a k.len c)) y (.slice a' q.len c'))) w → TSl (fun b => (bxW (bxW W x (.slice a k.len c)) y (.slice a' q.len c')).heap.size < b) w s' o.2 → FreeAll w (bxW (bxW W x (.slice a k.len c)) y (.slice a' q.len c')).heap.size 0 (tc o.1 s') ∧ ∃ vs, vs.length = 5 ∧ CellsAt (setCells w (bxW (bxW W x (.slice a k.len c)) y (.slice a' q.len c')).heap.size 0 (tc o.1 s')) (bxW (bxW W x (.slice a k.len c)) y (.slice a' q.len c')).heap.size 0 vs ∧ FirR noF (putP (x, k) (y, q) name).isSome ((putP (x, k) (y, q) name).getD zeroT) W (.tuple #[.agg vs.toArray, .bool true]) (setCells w (bxW (bxW W x (.slice a k.len c)) y (.slice a' q.len c')).heap.size 0 (tc o.1 s')) := fun w s' xw h => by
      rw [e]
      exact fin8t (t := o) true (hr.ext xw) hB (x1.trans xw) h
    refine Or.inl ((hk9).mono ?_)
    rintro _ w9 ⟨rfl, x9⟩
    refine ⟨tc o.1 so, rfl, c8.ext x9, ?_⟩
    refine Or.inl ((hcp w9 so (hso8.ext x9)).mono ?_)
    rintro _ w10 ⟨x10, s10, rfl, hs10⟩
    have X9 := X8.trans x9
    have hl9 := Nat.lt_of_lt_of_le hlt X9.size
    exact hend w10 s10 (X9.trans x10) (hs10.mono fun b hb => Nat.lt_of_lt_of_le hl9 hb)
  · have hk9 := hoko _ so hso8
    simp only [decide_eq_false hto] at hk9
    have e := putP_no (t := (x, k)) (u := (y, q)) (name := name) (fun h => hto (by have := h.2.2; rw [ho] at this; exact this))
    refine Or.inl ((hk9).mono ?_)
    rintro _ w9 ⟨rfl, x9⟩
    exact no w9 (X8.trans x9) e
end
end Go.Proofs.Ytekddgkgeaolnaa
