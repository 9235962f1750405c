/- PutTerm (the program's). -/
import Derived.Test.YtekddgkgeaolnaaEf
namespace Go.Proofs.Ytekddgkgeaolnaa
open Go Go.Vc Go.RowKit
set_option linter.unusedVariables false
section
variable (x y : Lab) (k q : TF) (s su : Value) (name : ByteArray) (W : World) (hs : TSl anyB W s k) (hsu : TSl anyB W su q) (hx : okL x) (hp : k.All okL) (hy : okL y) (hq : q.All okL)
include hs hsu hx hp hy hq
set_option maxRecDepth 100000 in
set_option maxHeartbeats 16000000 in
theorem impl_PutTerm : Ret Try.prog 21 #[tv x s, .string name, tv y su] W (CFir (putP (x, k) (y, q) name).isSome ((putP (x, k) (y, q) name).getD zeroT) W) := by
  have xA : Ext W (bxW W x s) := bx_ext W x s
  have xB : Ext (bxW W x s) (bxW (bxW W x s) y su) := bx_ext _ _ _
  have x1 : Ext W (bzW (bxW (bxW W x s) y su)) := xA.trans (xB.trans (bz_ext _))
  have hb := (bx_at W x s).ext (xB.trans (bz_ext _))
  have hbu := (bx_at (bxW W x s) y su).ext (bz_ext _)
  have zA : (bxW W x s).heap.size = W.heap.size + 1 := bx_size _ _ _
  have zB : (bxW (bxW W x s) y su).heap.size = (bxW W x s).heap.size + 1 := bx_size _ _ _
  have hlt : (bxW (bxW W x s) y su).heap.size < (bzW (bxW (bxW W x s) y su)).heap.size := by rw [bz_size]; omega
  have hr : Rmy (bzW (bxW (bxW W x s) y su)) (bxW (bxW W x s) y su).heap.size 5 := bz_rmy _
  have hB : W.heap.size ≤ (bxW (bxW W x s) y su).heap.size := by omega
  have no : ∀ w, Ext (bzW (bxW (bxW W x s) y su)) w → putP (x, k) (y, q) name = none → FreeAll w (bxW (bxW W x s) y su).heap.size 0 (tc zeroL (.slice none 0 0)) ∧ ∃ vs, vs.length = 5 ∧ CellsAt (setCells w (bxW (bxW W x s) y su).heap.size 0 (tc zeroL (.slice none 0 0))) (bxW (bxW W x s) y su).heap.size 0 vs ∧ CFir (putP (x, k) (y, q) name).isSome ((putP (x, k) (y, q) name).getD zeroT) W (.tuple #[.agg vs.toArray, .bool false]) (setCells w (bxW (bxW W x s) y su).heap.size 0 (tc zeroL (.slice none 0 0))) := fun w xw e => by
    rw [e]
    exact fin6t (t := zeroT) false (hr.ext xw) hB (x1.trans xw) (Nat.lt_succ_self _) (zero_sep _ _ _)
  have hok := fun w (xw : Ext W w) => impl_TermOk x k s w (hs.ext xw) hx hp
  have hoku := fun w (xw : Ext W w) => impl_TermOk y q su w (hsu.ext xw) hy hq
  by_cases ht : TOk x k
  rotate_left
  · simp only [decide_eq_false ht] at hok
    have e := putP_no (t := (x, k)) (u := (y, q)) (name := name) (fun h => ht h.1.1)
    obtain ⟨a, c, rfl, _, _⟩ := id hs
    obtain ⟨a', c', rfl, _, _⟩ := id hsu
    refine ret_of_vc ties mixed Try.func21 rfl (by kernel_rfl) rfl rfl ?_
    refine ⟨tc x _, rfl, hb, ?_⟩
    refine Or.inl ((hok _ x1).mono ?_)
    rintro _ w2 ⟨rfl, x2⟩
    exact no w2 x2 e
  simp only [decide_eq_true ht] at hok
  by_cases htu : TOk y q
  rotate_left
  · simp only [decide_eq_false htu] at hoku
    have e := putP_no (t := (x, k)) (u := (y, q)) (name := name) (fun h => htu h.1.2)
    obtain ⟨a, c, rfl, _, _⟩ := id hs
    obtain ⟨a', c', rfl, _, _⟩ := id hsu
    refine ret_of_vc ties mixed Try.func21 rfl (by kernel_rfl) rfl rfl ?_
    refine ⟨tc x _, rfl, hb, ?_⟩
    refine Or.inl ((hok _ x1).mono ?_)
    rintro _ w2 ⟨rfl, x2⟩
    refine ⟨tc y _, rfl, hbu.ext x2, ?_⟩
    refine Or.inl ((hoku _ (x1.trans x2)).mono ?_)
    rintro _ w3 ⟨rfl, x3⟩
    exact no w3 (x2.trans x3) e
  simp only [decide_eq_true htu] at hoku
  have hcons : Cons (varsT (x, k)) := ((TOk_iff x k).1 ht).2.2
  have hv := fun w (xw : Ext W w) => impl_VarsOf x k s w (hs.ext xw) hx hp
  rw [varsP_yes ht] at hv
  have hput := fun w m (xw : Ext W w) hm => replaceVars_all (onePut name (y, q)) _ (x, k) s m anyB w (Nat.le_refl _) (tok_okT ht) (hs.ext xw) hm
  obtain ⟨o, ho⟩ : ∃ o, putT (onePut name (y, q)) (x, k) = o := ⟨_, rfl⟩
  have hol := putT_all (p := okL) (one_all (name := name) (u := (y, q)) hy hq) (t := (x, k)) hx hp
  rw [ho] at hput hol
  have hoko := fun w so (h : TSl anyB w so o.2) => impl_TermOk o.1 o.2 so w h hol.1 hol.2
  have hnm := nmOk_lk hcons name y.w
  have hvlen := vls_len (vsT (x, k))
  have hlm : (maxLen : Int) ≤ 9223372036854775807 := by decide
  obtain ⟨a, c, rfl, _, _⟩ := id hs
  obtain ⟨a', c', rfl, _, _⟩ := id hsu
  refine ret_of_vc ties mixed Try.func21 rfl (by kernel_rfl) rfl rfl ?_
  refine ⟨tc x _, rfl, hb, ?_⟩
  refine Or.inl ((hok _ x1).mono ?_)
  rintro _ w2 ⟨rfl, x2⟩
  refine ⟨tc y _, rfl, hbu.ext x2, ?_⟩
  refine Or.inl ((hoku _ (x1.trans x2)).mono ?_)
  rintro _ w3 ⟨rfl, x3⟩
  have X3 := x2.trans x3
  refine ⟨tc x _, rfl, hb.ext X3, ?_⟩
  refine Or.inl ((hv _ (x1.trans X3)).mono ?_)
  rintro v4 w4 ⟨x4, hv4, hb4⟩
  have X4 := X3.trans x4
  have hv4s : SlR eV allB w4 v4 (vls (vsT (x, k))) := hv4.sl (fun _ _ => trivial) (fun _ _ => trivial)
  obtain ⟨a4, c4, rfl, _, hc4, _⟩ := id hv4s
  clear hv hok hoku
  refine loop_rule (σ := Nat × Value) [23, 9] 24 40 (fun q => [.int .i64 q.1, q.2])
    (fun q w' => Ext w4 w' ∧ q.1 ≤ (vls (vsT (x, k))).length ∧ ∀ j, j < q.1 → ∀ p, (vsT (x, k))[j]? = some p → p.1 = name → p.2 = y.w) (fun q => (vls (vsT (x, k))).length - q.1) (0, undef) rfl ⟨Ext.refl _, Nat.zero_le _, fun j hj => absurd hj (Nat.not_lt_zero j)⟩ ?_
  rintro ⟨i, j9⟩ w5 junk ⟨x5, hi, hall⟩ K hK
  simp only at hi hall
  show vc _ _ _ _ (over [23, 9] [.int .i64 i, j9] _) _
  have him : (vls (vsT (x, k))).length ≤ 9223372036854775807 := by have := hv4s; omega
  refine br_dec (fun hlt' => ?_) (fun hge => ?_)
  ·
    as_aux_lemma =>
      have hil : i < (vls (vsT (x, k))).length := by omega
      have hil' : i < (vsT (x, k)).length := by omega
      obtain ⟨b, o2, c2, e, _, hcv6⟩ := eV_at hv4s hil
      cases e
      have hg : (vls (vsT (x, k)))[i]'hil = vl0 ((vsT (x, k))[i]'hil') := List.getElem_map _
      rw [hg] at hcv6
      obtain ⟨p, hpp⟩ : ∃ p, (vsT (x, k))[i]'hil' = p := ⟨_, rfl⟩
      rw [hpp] at hcv6
      have hpm : (vsT (x, k))[i]? = some p := by rw [List.getElem?_eq_getElem hil', hpp]
      have hpmem := List.mem_of_getElem? hpm
      have k7 := keep3 w5 (vl0 p)
      have c7 := k7.2.1
      have x7 := k7.2.2
      have X7 := X4.trans (x5.trans x7)
      by_cases hn : p.1 = name
      · by_cases hw : p.2 = y.w
        · refine ⟨⟨by omega, by omega⟩, vlc (vl0 p), rfl, hcv6.ext x5, k7.1, ?_⟩
          refine ⟨_, c7.1, ?_⟩
          repeat refine br_dec_true hn ?_
          refine ⟨_, c7.2.1, ?_⟩
          repeat refine br_dec_true hn ?_
          refine ⟨_, (hbu.ext X7).2.1, ?_⟩
          repeat refine br_dec_true hn ?_
          refine br_dec_false (fun h => h hw) ?_
          refine ⟨_, IntWalk.i64_in _ (by omega), ?_⟩
          refine hK (i + 1, _) _ _ (vs2 (vint (by show (i : Int) + 1 = ((i + 1 : Nat) : Int); omega)) rfl) ⟨x5.trans x7, by show i + 1 ≤ _; omega, fun j hj p' hp' hn' => ?_⟩ (by show _ - (i + 1) < _ - i; omega) ?_
          · by_cases e : j = i
            · subst e; rw [hpm] at hp'; rw [← Option.some.inj hp']; exact hw
            · exact hall j (by have : j < i + 1 := hj; omega) p' hp' hn'
          · ((repeat (first | (with_reducible exact Only.refl) | (with_reducible refine Only.skip ?_) | ((with_reducible refine Only.upd ?_ ?_); rfl) | ((with_reducible refine Only.over ?_ ?_ _); rfl) | ((with_reducible refine Only.hav ?_ ?_ ?_); rfl; rfl))))
        · have e := putP_no (t := (x, k)) (u := (y, q)) (name := name) (fun h => hw (h.2.1 p ((mem_vsT hcons p).1 hpmem) hn))
          refine ⟨⟨by omega, by omega⟩, vlc (vl0 p), rfl, hcv6.ext x5, k7.1, ?_⟩
          refine ⟨_, c7.1, ?_⟩
          repeat refine br_dec_true hn ?_
          refine ⟨_, c7.2.1, ?_⟩
          repeat refine br_dec_true hn ?_
          refine ⟨_, (hbu.ext X7).2.1, ?_⟩
          repeat refine br_dec_true hn ?_
          refine br_dec_true hw ?_
          exact no _ X7 e
      · refine ⟨⟨by omega, by omega⟩, vlc (vl0 p), rfl, hcv6.ext x5, k7.1, ?_⟩
        refine ⟨_, c7.1, ?_⟩
        repeat refine br_dec_false hn ?_
        refine ⟨_, IntWalk.i64_in _ (by omega), ?_⟩
        refine hK (i + 1, _) _ _ (vs2 (vint (by show (i : Int) + 1 = ((i + 1 : Nat) : Int); omega)) rfl) ⟨x5.trans x7, by show i + 1 ≤ _; omega, fun j hj p' hp' hn' => ?_⟩ (by show _ - (i + 1) < _ - i; omega) ?_
        · by_cases e : j = i
          · subst e; rw [hpm] at hp'; rw [← Option.some.inj hp'] at hn'; exact absurd hn' hn
          · exact hall j (by have : j < i + 1 := hj; omega) p' hp' hn'
        · ((repeat (first | (with_reducible exact Only.refl) | (with_reducible refine Only.skip ?_) | ((with_reducible refine Only.upd ?_ ?_); rfl) | ((with_reducible refine Only.over ?_ ?_ _); rfl) | ((with_reducible refine Only.hav ?_ ?_ ?_); rfl; rfl))))
  ·
    as_aux_lemma =>
      have hk : nmOk (x, k) name y.w := fun p hp hn => by
        obtain ⟨j, hj⟩ := List.mem_iff_getElem?.1 ((mem_vsT hcons p).2 hp)
        exact hall j (by have := (List.getElem?_eq_some_iff.1 hj).1; omega) p hj hn
      have X5 := X4.trans x5
      have y1 : Ext w5 (w5.alloc (.map #[] 0)) := Ext.new _ _
      have X6 := X5.trans y1
      refine ⟨tc x _, rfl, hb.ext X5, ?_⟩
      refine ⟨tc y _, rfl, hbu.ext X6, ?_⟩
      refine raw_update ties (.inr rfl) rfl rfl rfl (by kernel_rfl) rfl rfl (MapAt.new w5) (fun w6 ch6 z6 hm6 => ?_)
      have z5 := X5.size
      have X6' : Ext (bzW (bxW (bxW W x (.slice a k.len c)) y (.slice a' q.len c'))) w6 := X6.chg ch6 (fun b hb => by omega)
      have hm : MapT w6 w5.heap.size (onePut name (y, q)) anyB := ⟨_, hm6, fun t => by
        rw [Al.get_put]
        by_cases h : t = name
        · exact .inr ⟨(y, q), _, by unfold onePut; exact if_pos h, by rw [if_pos h]; rfl, hsu.ext (x1.trans X6')⟩
        · exact .inl ⟨by unfold onePut; exact if_neg h, by rw [if_neg h]; rfl⟩⟩
      refine Or.inl ((hput w6 _ (x1.trans X6') hm).mono ?_)
      rintro _ w7 ⟨x7, so, rfl, hso⟩
      have k8 := keep5 (W := w7) (x := o.1) (s := so) (tc_one hso)
      have c8 := k8.2.1
      have x8 := k8.2.2
      have X8 := X6'.trans (x7.trans x8)
      have hso8 := (hso.mono (ok' := anyB) fun _ _ => trivial).ext x8
      refine ⟨k8.1, ?_⟩
      refine ⟨tc o.1 so, rfl, c8, ?_⟩
      by_cases hto : TOk o.1 o.2
      · have hk9 := hoko _ so hso8
        simp only [decide_eq_true hto] at hk9
        have e : putP (x, k) (y, q) name = some o := by rw [putP_yes ⟨⟨ht, htu⟩, hk, by rw [ho]; exact hto⟩, ho]
        have hz := hto.1
        have hcp := fun w' s' (h : TSl anyB w' s' o.2) => copyTerm_sep o.2 o.1 s' w' h (by omega)
        have hend : ∀ w lo s', (bxW (bxW W x (.slice a k.len c)) y (.slice a' q.len c')).heap.size < lo → Ext (bzW (bxW (bxW W x (.slice a k.len c)) y (.slice a' q.len c'))) w → TSep w s' o.2 lo w.heap.size → FreeAll w (bxW (bxW W x (.slice a k.len c)) y (.slice a' q.len c')).heap.size 0 (tc o.1 s') ∧ ∃ vs, vs.length = 5 ∧ CellsAt (setCells w (bxW (bxW W x (.slice a k.len c)) y (.slice a' q.len c')).heap.size 0 (tc o.1 s')) (bxW (bxW W x (.slice a k.len c)) y (.slice a' q.len c')).heap.size 0 vs ∧ CFir (putP (x, k) (y, q) name).isSome ((putP (x, k) (y, q) name).getD zeroT) W (.tuple #[.agg vs.toArray, .bool true]) (setCells w (bxW (bxW W x (.slice a k.len c)) y (.slice a' q.len c')).heap.size 0 (tc o.1 s')) := fun w lo s' hlo xw h => by
          rw [e]
          exact fin6t (t := o) true (hr.ext xw) hB (x1.trans xw) hlo h
        refine Or.inl ((hk9).mono ?_)
        rintro _ w9 ⟨rfl, x9⟩
        refine ⟨tc o.1 so, rfl, c8.ext x9, ?_⟩
        refine Or.inl ((hcp w9 so (hso8.ext x9)).mono ?_)
        rintro _ w10 ⟨x10, s10, rfl, hs10⟩
        have X9 := X8.trans x9
        have hl9 := Nat.lt_of_lt_of_le hlt X9.size
        exact hend w10 _ s10 hl9 (X9.trans x10) hs10
      · have hk9 := hoko _ so hso8
        simp only [decide_eq_false hto] at hk9
        have e := putP_no (t := (x, k)) (u := (y, q)) (name := name) (fun h => hto (by have := h.2.2; rw [ho] at this; exact this))
        refine Or.inl ((hk9).mono ?_)
        rintro _ w9 ⟨rfl, x9⟩
        exact no w9 (X8.trans x9) e
end
end Go.Proofs.Ytekddgkgeaolnaa
