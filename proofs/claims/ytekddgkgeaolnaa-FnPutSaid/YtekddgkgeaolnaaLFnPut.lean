/- The law FnPut: whatever the bytes, it returns true; all that was there is as it was. No condition. -/
import Derived.Test.YtekddgkgeaolnaaD7
import Derived.Test.YtekddgkgeaolnaaEg
import Derived.Test.YtekddgkgeaolnaaGk
import Derived.Test.YtekddgkgeaolnaaZw
import Derived.WalkKit
import Derived.ProofKit
import Derived.OpenShut
import Derived.ShutString
import Derived.ChangeOld
import Derived.Below
namespace Go.Proofs.Ytekddgkgeaolnaa.lawFnPut
open Go Go.Vc Go.ChangeShapes Go.WideShapes Go.ChangeAt Go.RowKit
open Go.Proofs.Ytekddgkgeaolnaa.Dr (eU open_Bytes giveTerm_ret size_ret values_ret node_okL okF_okL lets itoaB bothL setN put_facts both_few both_bd both_vars)
set_option linter.unusedVariables false

abbrev abx : List Value := [.string ⟨#[97]⟩, .string ⟨#[98]⟩, .string ⟨#[120]⟩]
/-- What the operations of region 6 give. -/
def fact (v0 : Value) (w : Int) : Nat → List Value → (Nat → Prop) → World → Prop
  | 0, vs, B, W => ∃ b, vs = [.slice (some ⟨b, 0, none⟩) 3 3] ∧ CellsAt W b 0 abx ∧ B b
  | 1, vs, _, _ => vs = [v0]
  | 2, vs, _, _ => ∃ x : Nat, x ≤ 2 ∧ vs = [.int .i64 x]
  | 3, vs, B, W => ∃ b, ∃ x : Nat, x ≤ 2 ∧ vs = [.pointer (some ⟨b, 0 + x * 1, none⟩)] ∧ CellsAt W b 0 abx ∧ B b
  | 4, vs, _, _ => ∃ s ∈ lets, vs = [.string s]
  | 5, vs, _, _ => vs = [.int .i64 w]
  | 6, vs, _, _ => vs = [.string (itoaB w)]
  | 7, vs, _, _ => ∃ s ∈ lets, vs = [.string (s ++ itoaB w)]
  | 8, vs, _, _ => ∃ s ∈ lets, vs = [.string (s ++ itoaB w)]
  | _, _, _, _ => False
theorem fact_stab (v0 : Value) (w : Int) (W : World) : ∀ i vs B S w1 w2, fact v0 w i vs B w1 → Chg S w1 w2 → (∀ b, B b → ¬ S b) → (∀ b, S b → W.heap.size ≤ b) → fact v0 w i vs B w2 := by
  intro i vs B S w1 w2 h hc hB hS
  match i, h with
  | 0, ⟨b, h1, h2, h3⟩ => exact ⟨b, h1, hc.cells (hB b h3) h2, h3⟩
  | 1, h => exact h
  | 2, h => exact h
  | 3, ⟨b, x, h0, h1, h2, h3⟩ => exact ⟨b, x, h0, h1, hc.cells (hB b h3) h2, h3⟩
  | 4, h => exact h
  | 5, h => exact h
  | 6, h => exact h
  | 7, h => exact h
  | 8, h => exact h
def frk : Frk := [([], [35]), ([], [36]), ([1], [37]), ([0, 2], [38]), ([3], [39]), ([], [40]), ([5], [41]), ([4, 6], [42]), ([7], [6])]
theorem abx_get {W : World} {b : Nat} (h : CellsAt W b 0 abx) {x : Nat} (hx : x ≤ 2) : ∃ s ∈ lets, W.cell? ⟨b, 0 + x * 1, none⟩ = some (.string s) := by
  match x, hx with
  | 0, _ => exact ⟨_, by simp [lets], h.1⟩
  | 1, _ => exact ⟨_, by simp [lets], h.2.1⟩
  | 2, _ => exact ⟨_, by simp [lets], h.2.2.1⟩
theorem row2a {w : World} {a b : Tm} {sa sb : Value} (h : TSl anyB w sa a.2) (h' : TSl anyB w sb b.2) :
    Ext w (w.alloc (.cells (tc a.1 sa ++ tc b.1 sb).toArray 25)) ∧ TSl anyB (w.alloc (.cells (tc a.1 sa ++ tc b.1 sb).toArray 25)) (.slice (some ⟨w.heap.size, 0, none⟩) 2 2) (mkTF [a, b]) := by
  have x : Ext w (w.alloc (.cells (tc a.1 sa ++ tc b.1 sb).toArray 25)) := Ext.new _ _
  have hb := boxedAll w (tc a.1 sa ++ tc b.1 sb) 25
  have h1 := CellsAt.split (us := tc a.1 sa) hb
  exact ⟨x, _, 2, rfl, (by decide : 2 ≤ maxLen), .inr ⟨_, 0, rfl, trivial, at1 h1.1 (h.ext x) (at1 h1.2 (h'.ext x) trivial)⟩⟩
theorem values_slice (l : List Int) (s : Value) (n : Int) (hn : 0 ≤ n ∧ n ≤ 1000000) (L : List VLab) (sl : Value) (W : World) (hs : SlR eU allB W s l) (hl : SlR eV allB W sl L) (hw : ∀ v ∈ L, 1 ≤ v.w ∧ v.w ≤ 16) (hlen : L.length ≤ 100000) :
    Ret Try.prog 12 #[s, .int .i64 n, sl] W (fun v w' => ∃ M am cm, v = .slice am M.length cm ∧ Ext W w' ∧ Dr.DrawnV L M ∧ SlR eV allB w' (.slice am M.length cm) M ∧ M.length ≤ 9223372036854775807) := by
  refine (values_ret l s n hn L sl W hs hl hw hlen).mono ?_
  rintro v w' ⟨x, M, hM, hml⟩
  obtain ⟨am, cm, rfl, h1, h2, h3⟩ := hml
  refine ⟨M, am, cm, rfl, x, hM, ⟨am, cm, rfl, h1, h2, h3⟩, ?_⟩
  have hlm : (maxLen : Int) ≤ 9223372036854775807 := by decide
  omega
theorem neq_self {p q : Bool} (h : p = q) : (!(p == q)) = false := by subst h; cases p <;> rfl
theorem let_size : ∀ s ∈ lets, s.size = 1 := by decide
theorem vs10 {a b c d e f g h i j a' b' c' d' e' f' g' h' i' j' : Value} (h1 : a = a') (h2 : b = b') (h3 : c = c') (h4 : d = d') (h5 : e = e') (h6 : f = f') (h7 : g = g') (h8 : h = h') (h9 : i = i') (h10 : j = j') :
    [a, b, c, d, e, f, g, h, i, j] = [a', b', c', d', e', f', g', h', i', j'] := by rw [h1, h2, h3, h4, h5, h6, h7, h8, h9, h10]
set_option maxRecDepth 200000 in
set_option maxHeartbeats 8000000 in
theorem walk (W : World) (L : List Int) (v0 : Value) (HS : SlR eU allB W v0 L) : Ret Try.prog 5 #[v0] W (fun v w' => v = .bool true ∧ Ext W w') := by
  have hlm : (maxLen : Int) ≤ 9223372036854775807 := by decide
  obtain ⟨a0, cp, rfl, hlc, hcm, hat⟩ := id HS
  refine ret_of_vc ties mixed Try.func5 rfl (by kernel_rfl) rfl rfl ?_
  refine br_dec (fun h => ⟨rfl, Ext.refl _⟩) (fun _ => ?_)
  refine Or.inl ((size_ret L 40 1 4 (by decide) (by decide) _ W HS).mono ?_)
  rintro _ w0 ⟨⟨wd, rfl, hw1, hw4⟩, x0⟩
  refine Or.inl ((giveTerm_ret L 0 (by decide) wd 3 (by decide) (by omega) _ w0 (HS.ext x0)).mono ?_)
  rintro _ w1 ⟨x1, t, st, rfl, pt, qt⟩
  have qt : TSl anyB w1 st t.2 := qt.mono fun _ _ => trivial
  have kt := keep5 (W := w1) (x := t.1) (tc_one qt)
  refine ⟨kt.1, ?_⟩
  have X2 := (x0.trans x1).trans kt.2.2
  have okt : okL t.1 ∧ t.2.All okL := ⟨node_okL pt.ok.1, okF_okL _ pt.ok.2⟩
  refine Or.inl ((size_ret L 42 1 3 (by decide) (by decide) _ _ (HS.ext X2)).mono ?_)
  rintro _ w3 ⟨⟨w, rfl, hv1, hv3⟩, x3⟩
  have X3 := X2.trans x3
  refine Or.inl ((giveTerm_ret L 50 (by decide) w 2 (by decide) (by omega) _ w3 (HS.ext X3)).mono ?_)
  rintro _ w4 ⟨x4, u, su, rfl, pu, qu⟩
  have qu : TSl anyB w4 su u.2 := qu.mono fun _ _ => trivial
  have ku := keep5 (W := w4) (x := u.1) (tc_one qu)
  refine ⟨ku.1, ?_⟩
  have X5 := (X3.trans x4).trans ku.2.2
  have oku : okL u.1 ∧ u.2.All okL := ⟨node_okL pu.ok.1, okF_okL _ pu.ok.2⟩
  have e25 := (x3.trans x4).trans ku.2.2
  have ct5 := kt.2.1.ext e25
  have qt5 := (qt.ext kt.2.2).ext e25
  have cu5 := ku.2.1
  have qu5 := qu.ext ku.2.2
  have hwi : inI w := by unfold inI; omega
  have hil := Lib.itoa_length_le w hwi.1 hwi.2
  have hiz : (itoaB w).size ≤ 21 := by show (Lib.itoa w).toArray.size ≤ 21; rw [List.size_toArray]; exact hil
  refine .inr (.inr (fork_rule ties mixed frk 8 35 43 (fact (.slice a0 L.length cp) w) (by kernel_rfl) (fact_stab _ w _) ?_ ?_))
  · intro i o ho ρ' w6 x6 hs Bs hu hd
    match i, ho with
    | 0, ho =>
      have := Option.some.inj ho
      subst this
      exact ⟨fun b => b = w6.heap.size, Chg.alloc _ _, ⟨_, rfl, boxedAll w6 abx _, rfl⟩, fun b h => .inr ⟨by omega, by rw [h, World.size_alloc]; omega⟩⟩
    | 1, ho =>
      have := Option.some.inj ho
      subst this
      rw [at_slot ((hs 0 (by kernel_rfl)).trans rfl : ρ' 0 = .slice a0 L.length cp)]
      exact ⟨fun _ => False, Chg.refl _ _, rfl, fun b h => h.elim⟩
    | 2, ho =>
      have := Option.some.inj ho
      subst this
      rw [at_slot ((List.cons.inj (hu 1 (by decide)).1).1 : ρ' 36 = .slice a0 L.length cp)]
      refine Or.inl ((size_ret L 44 0 2 (by decide) (by decide) _ w6 (HS.ext (X5.trans x6))).mono ?_)
      rintro _ w7 ⟨⟨y, rfl, hy0, hy2⟩, x7⟩
      obtain ⟨y, rfl⟩ : ∃ n : Nat, y = n := ⟨y.toNat, by omega⟩
      exact ⟨fun _ => False, .of x7, ⟨y, by omega, rfl⟩, fun b h => h.elim⟩
    | 3, ho =>
      have := Option.some.inj ho
      subst this
      obtain ⟨b, h1, h2, h3⟩ := (hu 0 (by decide)).1
      obtain ⟨y, h4, h5⟩ := (hu 2 (by decide)).1
      rw [at_slot ((List.cons.inj h1).1 : ρ' 35 = .slice (some ⟨b, 0, none⟩) 3 3), at_slot (show upd ρ' (some 35) _ 37 = _ from (List.cons.inj h5).1)]
      refine ⟨⟨by omega, by omega⟩, fun q => q = b, Chg.refl _ _, ⟨b, y, h4, rfl, h2, rfl⟩, fun q hq => .inl ⟨0, by decide, by rw [hq]; exact h3⟩⟩
    | 4, ho =>
      have := Option.some.inj ho
      subst this
      obtain ⟨b, y, h0, h1, h2, h3⟩ := (hu 3 (by decide)).1
      obtain ⟨s, hs', hcs⟩ := abx_get h2 h0
      rw [at_slot ((List.cons.inj h1).1 : ρ' 38 = .pointer (some ⟨b, 0 + y * 1, none⟩))]
      exact ⟨_, hcs, fun _ => False, Chg.refl _ _, ⟨s, hs', rfl⟩, fun b h => h.elim⟩
    | 5, ho =>
      have := Option.some.inj ho
      subst this
      rw [at_slot ((hs 4 (by kernel_rfl)).trans rfl : ρ' 4 = .int .i64 w)]
      exact ⟨fun _ => False, Chg.refl _ _, rfl, fun b h => h.elim⟩
    | 6, ho =>
      have := Option.some.inj ho
      subst this
      rw [at_slot ((List.cons.inj (hu 5 (by decide)).1).1 : ρ' 40 = .int .i64 w)]
      refine Or.inl ((Fn.fmtN w hwi (by omega) w6).mono ?_)
      rintro _ w7 ⟨rfl, x7⟩
      exact ⟨fun _ => False, .of x7, rfl, fun b h => h.elim⟩
    | 7, ho =>
      have := Option.some.inj ho
      subst this
      obtain ⟨s, hs', e39⟩ := (hu 4 (by decide)).1
      have e41 := (List.cons.inj (hu 6 (by decide)).1).1
      have hz := let_size s hs'
      rw [at_slot (show ρ' 39 = _ from (List.cons.inj e39).1), at_slot (show upd ρ' (some 39) _ 41 = _ from e41)]
      exact ⟨by show s.size + (itoaB w).size ≤ _; omega, fun _ => False, Chg.refl _ _, ⟨s, hs', rfl⟩, fun b h => h.elim⟩
    | 8, ho =>
      have := Option.some.inj ho
      subst this
      obtain ⟨s, hs', e42⟩ := (hu 7 (by decide)).1
      rw [at_slot (show ρ' 42 = _ from (List.cons.inj e42).1)]
      exact ⟨fun _ => False, Chg.refl _ _, ⟨s, hs', rfl⟩, fun b h => h.elim⟩
    | n + 9, ho => cases ho
  · intro vs junk w6 B x6 hfa hb
    obtain ⟨s, hs, rfl⟩ : ∃ s ∈ lets, vs = [.string (s ++ itoaB w)] := hfa
    clear hb
    obtain ⟨name, hname⟩ : ∃ name, s ++ itoaB w = name := ⟨_, rfl⟩
    obtain ⟨bb, hbb⟩ : ∃ bb, (putP (t.1, t.2) (u.1, u.2) name).isSome = bb := ⟨_, rfl⟩
    obtain ⟨r, hr⟩ : ∃ r, (putP (t.1, t.2) (u.1, u.2) name).getD zeroT = r := ⟨_, rfl⟩
    have iP := fun w' h h' => impl_PutTerm t.1 u.1 t.2 u.2 st su name w' h h' okt.1 okt.2 oku.1 oku.2
    rw [hbb, hr] at iP
    have sP := fun w' h h' => spec_PutTerm t.1 u.1 t.2 u.2 st su name w' h h' okt.1 okt.2 oku.1 oku.2
    rw [hbb, hr] at sP
    rw [hname]
    have X6 := X5.trans x6
    refine ⟨tc t.1 st, rfl, ct5.ext x6, tc u.1 su, rfl, cu5.ext x6, ?_⟩
    refine Or.inl ((iP w6 (qt5.ext x6) (qu5.ext x6)).mono ?_)
    rintro _ w7 ⟨v7, rfl, x7, sr, rfl, qr⟩
    have qr : TSl anyB w7 sr r.2 := qr.any
    have kr := keep5 (W := w7) (x := r.1) (tc_one qr)
    refine ⟨kr.1, ?_⟩
    have x68 := (x6.trans x7).trans kr.2.2
    refine ⟨tc t.1 st, rfl, ct5.ext x68, tc u.1 su, rfl, cu5.ext x68, ?_⟩
    refine Or.inl ((sP _ (qt5.ext x68) (qu5.ext x68)).mono ?_)
    rintro _ w9 ⟨v9, rfl, x9, sq, rfl, qq⟩
    have qq : TSl anyB w9 sq r.2 := qq.mono fun _ _ => trivial
    have kq := keep5 (W := w9) (x := r.1) (tc_one qq)
    refine ⟨kq.1, ?_⟩
    have e79 := x9.trans kq.2.2
    have x6a := x68.trans e79
    refine br_false (neq_self rfl) ?_
    refine br_not (fun hf => ⟨rfl, X5.trans x6a⟩) (fun hbt => ?_)
    have hc : putC t u name := Classical.byContradiction fun h => by
      rw [putP_no (t := (t.1, t.2)) (u := (u.1, u.2)) h] at hbb
      rw [← hbb] at hbt; cases hbt
    have hre : r = putT (onePut name u) t := by
      rw [putP_yes (t := (t.1, t.2)) (u := (u.1, u.2)) hc] at hr
      exact hr.symm
    have hrt : TOk r.1 r.2 := by rw [hre]; exact hc.2.2
    have okr : okL r.1 ∧ r.2.All okL := ⟨node_okL (tok_okT hrt).1, okF_okL _ (tok_okT hrt).2⟩
    have ctA := ct5.ext x6a
    have cuA := cu5.ext x6a
    have crA := kr.2.1.ext e79
    have qtA := qt5.ext x6a
    have quA := qu5.ext x6a
    have qrA := (qr.ext kr.2.2).ext e79
    have XA := X5.trans x6a
    have htw : t.1.w = wd := pt.wd
    refine ⟨_, ctA.2.1, _, IntWalk.i64_in _ (by omega), tc t.1 st, rfl, ctA, tc u.1 su, rfl, cuA, ?_⟩
    have rw2 := row2a (a := t) (b := u) qtA quA
    have kb := keep5 (W := (setCells (bzW w9) w9.heap.size 0 (tc r.1 sq)).alloc (.cells (tc t.1 st ++ tc u.1 su).toArray 25)) (x := bothL t.1.w w) (tc_one rw2.2)
    refine ⟨kb.1, ?_⟩
    have eAB := rw2.1.trans kb.2.2
    have okb : okL (bothL t.1.w w) ∧ (mkTF [t, u]).All okL := ⟨⟨by show inI 18; unfold inI; omega, by show inI (t.1.w + w); unfold inI; omega, by show inI 0; unfold inI; omega, Nat.zero_le _⟩, okt.1, okt.2, oku.1, oku.2, trivial⟩
    have qb := rw2.2.ext kb.2.2
    refine ⟨tc _ _, rfl, kb.2.1, ?_⟩
    refine Or.inl ((spec_TermOk (bothL t.1.w w) (mkTF [t, u]) _ _ qb okb.1 okb.2).mono ?_)
    rintro _ wC ⟨rfl, xC⟩
    have XB := XA.trans eAB
    refine br_ndec (fun _ => ⟨rfl, XB.trans xC⟩) (fun hbo => ?_)
    have hvp : varsP (bothL t.1.w w) (mkTF [t, u]) = vsT (bothL t.1.w w, mkTF [t, u]) := varsP_yes hbo
    have hwv : ∀ v ∈ vls (varsP (bothL t.1.w w) (mkTF [t, u])), 1 ≤ v.w ∧ v.w ≤ 16 := fun v hv => by
      rw [hvp] at hv
      obtain ⟨p, hp, rfl⟩ := List.mem_map.1 hv
      have h1 := (both_bd pt pu hw4 ⟨hv1, hv3⟩ hbo p hp).1
      show 1 ≤ p.2 ∧ p.2 ≤ 16
      omega
    have hfew := both_few pt pu hw4 ⟨hv1, hv3⟩ hbo
    have hvlen : (vls (varsP (bothL t.1.w w) (mkTF [t, u]))).length ≤ 100000 := by rw [hvp, vls_len]; omega
    have eAC := eAB.trans xC
    have ctC := ctA.ext eAC
    have cuC := cuA.ext eAC
    have crC := crA.ext eAC
    have cbC := kb.2.1.ext xC
    have qtC := qtA.ext eAC
    have quC := quA.ext eAC
    have qrC := qrA.ext eAC
    have qbC := qb.ext xC
    have XC := XB.trans xC
    refine loop_rule (σ := Nat × Value × Value × Value × Value × Value × Value × Value × Value × Value) [12, 13, 14, 15, 16, 17, 18, 20, 21, 22] 73 134 (fun q => [.int .i64 q.1, q.2.1, q.2.2.1, q.2.2.2.1, q.2.2.2.2.1, q.2.2.2.2.2.1, q.2.2.2.2.2.2.1, q.2.2.2.2.2.2.2.1, q.2.2.2.2.2.2.2.2.1, q.2.2.2.2.2.2.2.2.2])
      (fun q w' => Ext wC w' ∧ q.1 ≤ 8) (fun q => 8 - q.1) (0, undef, undef, undef, undef, undef, undef, undef, undef, undef) rfl ⟨Ext.refl _, Nat.zero_le _⟩ ?_
    rintro ⟨k, g1, g2, g3, g4, g5, g6, g7, g8, g9⟩ wD junk2 ⟨xD, hk8⟩ K hK
    simp only at hk8
    show vc _ _ _ _ (over [12, 13, 14, 15, 16, 17, 18, 20, 21, 22] [.int .i64 k, g1, g2, g3, g4, g5, g6, g7, g8, g9] _) _
    refine br_dec (fun h3 => ?_) (fun h3 => ?_)
    · refine ⟨_, IntWalk.i64_in _ (by omega), tc _ _, rfl, cbC.ext xD, ?_⟩
      refine Or.inl ((spec_VarsOf_new (bothL t.1.w w) (mkTF [t, u]) _ wD (qbC.ext xD) okb.1 okb.2).mono ?_)
      rintro vl wE ⟨xE, hvl⟩
      have xDE := xD.trans xE
      refine Or.inl ((values_slice L _ (60 + (k : Int)) (by omega) (vls (varsP (bothL t.1.w w) (mkTF [t, u]))) vl wE (HS.ext (XC.trans xDE)) hvl.sl hwv hvlen).mono ?_)
      rintro _ wF ⟨M, am, cm, rfl, xF, hM, hml, hmM⟩
      refine Exists.elim (put_facts pt pu hw4 ⟨hv1, hv3⟩ hbo hs (by rw [hname]; exact hc) hM) fun n hn => Exists.elim hn fun a sp => ?_
      rw [hname, ← hre] at sp
      have xDF := xDE.trans xF
      have iU := fun w' (h : Ext wF w') => spec_EvalTerm u.1 u.2 M su (.slice am M.length cm) w' ((quC.ext xDF).ext h) oku.1 oku.2 (SlR.vsl (hml.ext h)) sp.okv
      rw [sp.eu] at iU
      have iR := fun w' (h : Ext wF w') => impl_EvalTerm r.1 r.2 M sr (.slice am M.length cm) w' ((qrC.ext xDF).ext h) okr.1 okr.2 (SlR.vsl (hml.ext h)) sp.okv
      rw [sp.er] at iR
      have iT := fun w' (h : Ext wF w') sl (hsl : SlR eV allB w' sl (setN name n M)) => spec_EvalTerm t.1 t.2 (setN name n M) st sl w' ((qtC.ext xDF).ext h) okt.1 okt.2 (SlR.vsl hsl) sp.okn
      rw [sp.et] at iT
      refine ⟨tc u.1 su, rfl, cuC.ext xDF, ?_⟩
      refine Or.inl ((iU wF (Ext.refl _)).mono ?_)
      rintro _ wG ⟨rfl, xG⟩
      refine ⟨tc r.1 sr, rfl, (crC.ext xDF).ext xG, ?_⟩
      refine Or.inl ((iR wG xG).mono ?_)
      rintro _ wH ⟨rfl, xH⟩
      have xGH := xG.trans xH
      have hmlH := hml.ext xGH
      have hmlen : M.length ≤ 100000 := by
        have h1 := congrArg List.length hM.1
        rw [List.length_map, List.length_map] at h1
        omega
      have hcell : ∀ (i : Nat) (hil : i < M.length), ∃ b o, am = some ⟨b, o, none⟩ ∧ CellsAt wH b (o + i * 3) (vlc (M[i]'hil)) := fun i hil => by
        obtain ⟨b, o, c', e, _, hcv⟩ := eV_at hmlH hil
        cases e
        exact ⟨b, o, rfl, hcv⟩
      have hfull : setN name n (M.take M.length) = setN name n M := by rw [List.take_length]
      refine loop_rule (σ := Nat × Value × Value × List VLab) [18, 20, 98] 99 113 (fun q => [q.2.1, q.2.2.1, .int .i64 q.1])
        (fun q w' => Ext wH w' ∧ OwnR eV noB w' q.2.1 q.2.2.2 ∧ (∀ b, blk q.2.1 b → wH.heap.size ≤ b ∧ b < w'.heap.size) ∧ q.2.2.2 = setN name n (M.take q.1) ∧ q.1 ≤ M.length) (fun q => M.length - q.1) (0, _, _, []) rfl
        ⟨Ext.new _ _, OwnR.nil _ _ _ _, fun b hb => by have hb : wH.heap.size = b := hb; rw [World.size_alloc]; omega, rfl, Nat.zero_le _⟩ ?_
      rintro ⟨i, out, g20, Lst⟩ wJ junk3 ⟨xJ, hoJ, hbJ, hLJ, hiJ⟩ K2 hK2
      simp only at hoJ hbJ hLJ hiJ
      show vc _ _ _ _ (over [18, 20, 98] [out, g20, .int .i64 i] _) _
      refine br_dec (fun h4 => ?_) (fun h4 => ?_)
      · have hil : i < M.length := by omega
        have hLl : Lst.length = i := by rw [hLJ, setN, List.length_map, List.length_take]; omega
        refine Exists.elim (hcell i hil) fun b h => Exists.elim h fun o h => ?_
        have hla := h.1
        have hcv := h.2
        clear h
        subst hla
        have k3 := keep3 wJ (M[i]'hil)
        refine ⟨⟨by omega, by omega⟩, vlc (M[i]'hil), rfl, hcv.ext xJ, k3.1, ?_⟩
        refine ⟨_, k3.2.1.1, ?_⟩
        refine br_dec (fun hnm => ?_) (fun hnm => ?_)
        · have r3 : Rmy (setCells (wJ.alloc (.cells #[.string ByteArray.empty, .int .i64 0, .int .i64 0] 47)) wJ.heap.size 0 (vlc (M[i]'hil))) wJ.heap.size 3 := Rmy.setCells _ (Rmy.new wJ [.string ByteArray.empty, .int .i64 0, .int .i64 0] 47)
          refine ⟨r3 2 (by decide), ?_⟩
          have c11 : CellsAt ((setCells (wJ.alloc (.cells #[.string ByteArray.empty, .int .i64 0, .int .i64 0] 47)) wJ.heap.size 0 (vlc (M[i]'hil))).setCell ⟨wJ.heap.size, 0 + 2, none⟩ (.int .i64 n)) wJ.heap.size 0 (vlc ⟨(M[i]'hil).name, (M[i]'hil).w, n⟩) :=
            ⟨(World.cell?_setCell_other _ _ _ _ (by simp)).trans k3.2.1.1, (World.cell?_setCell_other _ _ _ _ (by simp)).trans k3.2.1.2.1, World.cell?_setCell_same _ _ _ k3.2.1.2.2.1, trivial⟩
          have e11 : Ext wJ ((setCells (wJ.alloc (.cells #[.string ByteArray.empty, .int .i64 0, .int .i64 0] 47)) wJ.heap.size 0 (vlc (M[i]'hil))).setCell ⟨wJ.heap.size, 0 + 2, none⟩ (.int .i64 n)) := k3.2.2.set (Nat.le_refl _) _
          refine ⟨vlc ⟨(M[i]'hil).name, (M[i]'hil).w, n⟩, rfl, c11, ?_⟩
          refine raw_push (E := eV) (ok := noB) (x := ⟨(M[i]'hil).name, (M[i]'hil).w, n⟩) (w := (setCells (wJ.alloc (.cells #[.string ByteArray.empty, .int .i64 0, .int .i64 0] 47)) wJ.heap.size 0 (vlc (M[i]'hil))).setCell ⟨wJ.heap.size, 0 + 2, none⟩ (.int .i64 n)) (cs := vlc ⟨(M[i]'hil).name, (M[i]'hil).w, n⟩) ties rfl rfl rfl rfl rfl rfl rfl rfl rfl rfl rfl (hoJ.ext e11) rfl noB_blk (by rw [hLl]; show (i + 1) * 32 ≤ _; omega) (by omega) ?_
          intro v wK hv hch hsz hvb
          refine ⟨_, IntWalk.i64_in _ (by omega), ?_⟩
          refine hK2 (i + 1, v, _, Lst ++ [⟨(M[i]'hil).name, (M[i]'hil).w, n⟩]) _ _ (vs3 rfl rfl (vint (by show (i : Int) + 1 = ((i + 1 : Nat) : Int); omega))) ⟨(xJ.trans e11).chg hch (fun b hb => (hbJ b hb).1), hv, fun b hb => (hvb b hb).elim (fun e => ⟨(hbJ b e).1, Nat.lt_of_lt_of_le (hbJ b e).2 (Nat.le_trans e11.size hch.size)⟩) (fun e => ⟨Nat.le_trans xJ.size (Nat.le_trans e11.size (Nat.le_of_lt e.1)), e.2⟩), ?_, by show i + 1 ≤ M.length; omega⟩ (by show M.length - (i + 1) < M.length - i; omega) ?_
          · show Lst ++ [_] = setN name n (M.take (i + 1))
            rw [take_snoc hil, setN, List.map_append, ← setN, ← hLJ, List.map_cons, List.map_nil, if_pos hnm]
          · ((repeat (first | (with_reducible exact Only.refl) | (with_reducible refine Only.skip ?_) | ((with_reducible refine Only.upd ?_ ?_); rfl) | ((with_reducible refine Only.over ?_ ?_ _); rfl) | ((with_reducible refine Only.hav ?_ ?_ ?_); rfl; rfl))))
        · refine ⟨vlc _, rfl, k3.2.1, ?_⟩
          refine raw_push (E := eV) (ok := noB) (x := (M[i]'hil)) (cs := vlc (M[i]'hil)) ties rfl rfl rfl rfl rfl rfl rfl rfl rfl rfl rfl (hoJ.ext k3.2.2) rfl noB_blk (by rw [hLl]; show (i + 1) * 32 ≤ _; omega) (by omega) ?_
          intro v wK hv hch hsz hvb
          refine ⟨_, IntWalk.i64_in _ (by omega), ?_⟩
          refine hK2 (i + 1, v, _, Lst ++ [(M[i]'hil)]) _ _ (vs3 rfl rfl (vint (by show (i : Int) + 1 = ((i + 1 : Nat) : Int); omega))) ⟨(xJ.trans k3.2.2).chg hch (fun b hb => (hbJ b hb).1), hv, fun b hb => (hvb b hb).elim (fun e => ⟨(hbJ b e).1, Nat.lt_of_lt_of_le (hbJ b e).2 (Nat.le_trans k3.2.2.size hch.size)⟩) (fun e => ⟨Nat.le_trans xJ.size (Nat.le_trans k3.2.2.size (Nat.le_of_lt e.1)), e.2⟩), ?_, by show i + 1 ≤ M.length; omega⟩ (by show M.length - (i + 1) < M.length - i; omega) ?_
          · show Lst ++ [_] = setN name n (M.take (i + 1))
            rw [take_snoc hil, setN, List.map_append, ← setN, ← hLJ, List.map_cons, List.map_nil, if_neg hnm]
          · ((repeat (first | (with_reducible exact Only.refl) | (with_reducible refine Only.skip ?_) | ((with_reducible refine Only.upd ?_ ?_); rfl) | ((with_reducible refine Only.over ?_ ?_ _); rfl) | ((with_reducible refine Only.hav ?_ ?_ ?_); rfl; rfl))))
      · have hie : i = M.length := by omega
        subst hie
        rw [hfull] at hLJ
        subst hLJ
        have xHJ := xGH.trans xJ
        refine ⟨tc t.1 st, rfl, (ctC.ext xDF).ext xHJ, ?_⟩
        refine Or.inl ((iT wJ xHJ out (hoJ.sl (fun _ _ => trivial) (fun _ _ => trivial))).mono ?_)
        rintro _ wL ⟨rfl, xL⟩
        repeat refine br_dec_false (fun h => h rfl) ?_
        refine ⟨_, IntWalk.i64_in _ (by omega), ?_⟩
        refine hK (k + 1, _, _, _, _, _, _, _, _, _) _ _ (vs10 (vint (by show (k : Int) + 1 = ((k + 1 : Nat) : Int); omega)) rfl rfl rfl rfl rfl rfl rfl rfl rfl) ⟨(xDF.trans xHJ).trans xL, by show k + 1 ≤ 8; omega⟩ (by show 8 - (k + 1) < 8 - k; omega) ?_
        ((repeat (first | (with_reducible exact Only.refl) | (with_reducible refine Only.skip ?_) | ((with_reducible refine Only.upd ?_ ?_); rfl) | ((with_reducible refine Only.over ?_ ?_ _); rfl) | ((with_reducible refine Only.hav ?_ ?_ ?_); rfl; rfl))))
    · exact ⟨rfl, XC.trans xD⟩
theorem own : ownKnob Try.prog.godebug = none := by kernel_rfl
theorem laidOut : laidOutB Try.prog = true := by kernel_rfl
set_option maxRecDepth 100000 in
theorem lifted (os : Os) (started : os.Started) (H : Type) (enc : TypeId × Value → H) :
    ReturnsInHanded {} Try.checked os 5 .any (Rows.fnPutSpec.pre6 enc Try.prog Try.f5 Rows.fnPutRow.domain false) (Rows.fnPutSpec.post enc Try.prog Try.f5 false true false false) := by
  refine returnsInHanded_of_change (C := Try.checked) own started (by kernel_rfl) Try.func5
    (ChangeSpec.witness6 (enc := enc) (C := Try.checked) false ⟨#[], #[.slice none 0 0], []⟩ 8 (by kernel_rfl) (by kernel_rfl) (by kernel_rfl) (by kernel_rfl)) ?_
  intro W base args ds gs before hval0 hW hcnd _
  have hval : ∀ (j : Nat) t v, Try.f5.params[j]? = some t → args[j]? = some v → Value.okWide Try.prog W .any base t v := hval0
  have hW' := hW
  obtain ⟨p, q, hA0, hV, rfl, hfz, hnd⟩ := hW
  have hA : DataW.TrodAll enc Try.prog W 0 (fun _ => true) true Try.f5.params.toList args.toList ds p := hA0
  rw [Try.params5] at hA hval
  obtain ⟨v0, vs0, d0, ds0, p0, q0, hargs, rfl, rfl, h0, r0⟩ := trodAll_cons hA
  obtain ⟨rfl, rfl, rfl⟩ := trodAll_nil r0
  obtain rfl : args = #[v0] := by cases args; simp_all
  obtain ⟨rfl, rfl⟩ := trodVars_none hV
  have k0 := h0
  have lt0 : ∀ x ∈ p0, x.block < W.heap.size := by obtain ⟨m, hm⟩ := k0; exact DataW.trod_lt m _ _ _ hm
  obtain ⟨L0, HS0⟩ := open_Bytes (hval 0 22 v0 rfl rfl) h0
  clear hA0 hval0
  refine (walk W L0 v0 HS0).calls.mono fun e W' ⟨v, he, hv, bel⟩ => ?_
  subst hv
  subst he
  exact ⟨_, rfl, _, _, _, [], _, [], hW', trodAll_mk1 (shut_bool Try.underlying4 _), (trodAll_cons_mk (Below.trod laidOut (by kernel_rfl) (of_decide_eq_true (by kernel_rfl)) k0 bel lt0) trodAll_mk0), rfl, bel.frame _, fun h => by cases h⟩
theorem band {a b : Bool} (h1 : a = true) (h2 : b = true) : (a && b) = true := by rw [h1, h2]; rfl
theorem lifted_ok : (Rows.fnPutRow.lifted == Try.pinned.checked.prog.liftsFinal) = true := by rw [head_final]; rfl
theorem make_ok : (Try.pinned.checked.prog.make == some Rows.fnPutRow.make) = true := by rw [head_make]; rfl
set_option maxHeartbeats 4000000 in
theorem closed : joinedFacts Try.pinned.checked.prog 5 Try.f5 Rows.fnPutSpec Rows.fnPutRow = true := by
  unfold joinedFacts
  repeat' (with_reducible refine band ?_ ?_)
  all_goals (first | with_reducible exact head_enter | with_reducible exact lifted_ok | with_reducible exact make_ok | (as_aux_lemma => kernel_rfl))
theorem holds : Rows.fnPutRow.holds Try.pinned (OpenSpec.ofChange Rows.fnPutSpec) :=
  OpenClaim.holds_of_wide 5 Try.f5 rfl rfl rfl rfl rfl rfl rfl ⟨rfl, rfl, rfl, rfl, rfl⟩ rfl rfl rfl rfl rfl (by as_aux_lemma => kernel_rfl) Try.func5 closed
    (of_decide_eq_true (by as_aux_lemma => kernel_rfl)) (by unfold Func.isWrapper; first | (rw [if_pos (by decide +kernel)]; kernel_rfl) | (rw [if_neg (by decide +kernel)]; exact ⟨rfl, rfl⟩))
    (fun os started H enc _ => lifted os started H enc)
/-- The statement. -/
theorem proved : Rows.FnPutSaid := holds
#print axioms proved
end Go.Proofs.Ytekddgkgeaolnaa.lawFnPut
