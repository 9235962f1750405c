/- Steps towards a simpler form, in the program: the first lines of a step with two kids; joins. Steps towards a simpler form, in the program: a constant as the first kid. Steps towards a simpler form, in the program: operations with two kids. Steps towards a simpler form, in the program: choices. -/
import Derived.Test.YtekddgkgeaolnaaQx
import Derived.Test.YtekddgkgeaolnaaQc
import Derived.Test.YtekddgkgeaolnaaVi
namespace Go.Proofs.Ytekddgkgeaolnaa
open Go Go.Vc Go.RowKit
set_option linter.unusedVariables false

/-- What the operations of the first lines give, in whatever order. -/
def fk2 (G : Nat) (sv : Value) (p o : Nat) (la lb : List Value) : Nat → List Value → (Nat → Prop) → World → Prop
  | 0, vs, _, _ => vs = [.pointer (some ⟨G, 4, none⟩)]
  | 1, vs, _, _ => vs = [sv]
  | 2, vs, _, _ => vs = [.pointer (some ⟨p, o, none⟩)]
  | 3, vs, _, _ => vs = [.agg la.toArray]
  | 4, vs, _, _ => vs = [.pointer (some ⟨G, 4, none⟩)]
  | 5, vs, _, _ => vs = [sv]
  | 6, vs, _, _ => vs = [.pointer (some ⟨p, o + 5, none⟩)]
  | 7, vs, _, _ => vs = [.agg lb.toArray]
  | 8, vs, B, w => ∃ b, vs = [.pointer (some ⟨b, 0, none⟩)] ∧ Rmy w b 5 ∧ B b
  | 9, vs, B, w => ∃ b, vs = [.pointer (some ⟨b, 0, none⟩)] ∧ Rmy w b 5 ∧ B b
  | 10, vs, B, w => ∃ b, vs = [.pointer (some ⟨b, 0, none⟩)] ∧ CellsAt w b 0 la ∧ B b
  | 11, vs, B, w => ∃ b b', vs = [.pointer (some ⟨b, 0, none⟩), .pointer (some ⟨b', 0, none⟩)] ∧ CellsAt w b 0 la ∧ CellsAt w b' 0 lb ∧ B b ∧ B b'
  | _, _, _, _ => False
theorem fk2_stab {w : World} (G : Nat) (sv : Value) (p o : Nat) (la lb : List Value) : ∀ i vs B S w1 w2, fk2 G sv p o la lb i vs B w1 → Chg S w1 w2 → (∀ b, B b → ¬ S b) → (∀ b, S b → w.heap.size ≤ b) → fk2 G sv p o la lb i vs B w2 := by
  intro i vs B S w1 w2 h hc hB _
  match i, h with
  | 0, h => exact h
  | 1, h => exact h
  | 2, h => exact h
  | 3, h => exact h
  | 4, h => exact h
  | 5, h => exact h
  | 6, h => exact h
  | 7, h => exact h
  | 8, ⟨b, h1, h2, h3⟩ => exact ⟨b, h1, hc.rmy (hB b h3) h2, h3⟩
  | 9, ⟨b, h1, h2, h3⟩ => exact ⟨b, h1, hc.rmy (hB b h3) h2, h3⟩
  | 10, ⟨b, h1, h2, h3⟩ => exact ⟨b, h1, hc.cells (hB b h3) h2, h3⟩
  | 11, ⟨b, b', h1, h2, h3, h4, h5⟩ => exact ⟨b, b', h1, hc.cells (hB b h4) h2, hc.cells (hB b' h5) h3, h4, h5⟩
theorem fk_store {w : World} {b : Nat} {l : List Value} {K : World → Prop} (h : Rmy w b 5) (hl : l.length = 5) (h1 : l.all oneB = true) (k : ∀ w', Chg (fun i => i = b) w w' → CellsAt w' b 0 l → K w') :
    FreeAll w b 0 l ∧ K (setCells w b 0 l) := ⟨h.all l 0 (by rw [hl]; exact Nat.le_refl _) h1, k _ (Chg.setCells (S := fun i => i = b) rfl _ _ _) (setCells_at _ _ 0 5 h (by rw [hl]; exact Nat.le_refl _))⟩
/-- Behind the first lines. -/
structure Pre2 (W : World) (x : Lab) (s : Value) (k : TF) (a b : Tm) (sa sb : Value) (ok : Nat → Prop) (B A A' : Nat) (w : World) : Prop where
  ext : Ext W w
  hb : CellsAt w W.heap.size 0 (tc x s)
  ca : CellsAt w A 0 (tc a.1 sa)
  cb : CellsAt w A' 0 (tc b.1 sb)
  r : Rmy w B 5
  hB : W.heap.size ≤ B
  lt : B < w.heap.size
  s : TSl (okB B W ok) w s k
  sa : TSl (okB B W ok) w sa a.2
  sb : TSl (okB B W ok) w sb b.2
theorem Pre2.step {W : World} {x : Lab} {s : Value} {k : TF} {a b : Tm} {sa sb : Value} {ok : Nat → Prop} {B A A' : Nat} {w w' : World} (h : Pre2 W x s k a b sa sb ok B A A' w) (e : Ext w w') : Pre2 W x s k a b sa sb ok B A A' w' :=
  ⟨h.ext.trans e, h.hb.ext e, h.ca.ext e, h.cb.ext e, h.r.ext e, h.hB, Nat.lt_of_lt_of_le h.lt e.size, h.s.ext e, h.sa.ext e, h.sb.ext e⟩
theorem pre2 {ok : Nat → Prop} {W : World} {x : Lab} {s : Value} {k : TF} {a b : Tm} {sa sb : Value} (hs : TSl ok W s k) (hsa : TSl ok W sa a.2) (hsb : TSl ok W sb b.2) {w : World} {A A' : Nat} (e : Ext (bzW (bxW W x s)) w) (ca : CellsAt w A 0 (tc a.1 sa)) (cb : CellsAt w A' 0 (tc b.1 sb)) :
    Pre2 W x s k a b sa sb ok (bxW W x s).heap.size A A' w := by
  have x2 : Ext W (bzW (bxW W x s)) := (bx_ext W x s).trans (bz_ext _)
  have h1 := bx_size W x s
  have h2 := bz_size (bxW W x s)
  exact ⟨x2.trans e, ((bx_at W x s).ext (bz_ext _)).ext e, ca, cb, (bz_rmy _).ext e, by omega, Nat.lt_of_lt_of_le (by omega) e.size, arg_in hs (x2.trans e) (by omega), arg_in hsa (x2.trans e) (by omega), arg_in hsb (x2.trans e) (by omega)⟩
theorem sameTerm_ret (a b : Tm) (s t : Value) (W : World) (hs : TSl anyB W s a.2) (ht : TSl anyB W t b.2) : Ret Try.prog 33 #[tv a.1 s, tv b.1 t] W (fun v w' => v = .bool (decide (cmpT a b = 0)) ∧ Ext W w') := by
  have x1 : Ext (bxW W a.1 s) (bxW (bxW W a.1 s) b.1 t) := bx_ext _ _ _
  have x2 := (bx_ext W a.1 s).trans x1
  refine ret_of_vc ties mixed Try.func33 rfl (by kernel_rfl) rfl rfl ?_
  refine ⟨tc a.1 s, rfl, (bx_at W a.1 s).ext x1, tc b.1 t, rfl, bx_at _ _ _, ?_⟩
  refine Or.inl ((impl_Compare a b s t _ (hs.ext x2) (ht.ext x2)).mono ?_)
  rintro _ w3 ⟨rfl, x3⟩
  exact ⟨rfl, x2.trans x3⟩
section
variable {n : Nat} {x : Lab} {a b d : Tm} {s : Value} {ok : Nat → Prop} {W : World}
set_option maxHeartbeats 8000000 in
theorem reduceJoin_of (hR : RedS 60 n) (h : OkT (x, mkTF [a, b])) (ho : x.op = 18) (hm : ms (x, mkTF [a, b]) < n + 1) (hs : TSl ok W s (mkTF [a, b])) :
    Ret Try.prog 85 #[tv x s] W (TRes ok (outT (stJoin (x, mkTF [a, b]) a b)) W) := by
  have hg := join_good h ho
  have ha : OkT a := h.2.1
  have hb : OkT b := h.2.2.1
  have haw := ha.1.width
  have hbw := hb.1.width
  obtain ⟨p, o, c, sa, sb, hs0, hca, hcb, hsa, hsb⟩ := kids2 hs
  obtain ⟨s0, rfl⟩ : ∃ s0, s0 = s := ⟨_, rfl⟩
  have x2 : Ext W (bzW (bxW W x s0)) := (bx_ext W x s0).trans (bz_ext _)
  have hb2 := (bx_at W x s0).ext (bz_ext (bxW W x s0))
  have la_one : (tc a.1 sa).all oneB = true := tc_one hsa
  have lb_one : (tc b.1 sb).all oneB = true := tc_one hsb
  have hca2 : CellsAt (bzW (bxW W x s0)) p o (tc a.1 sa) := hca.ext x2
  have hcb2 : CellsAt (bzW (bxW W x s0)) p (o + 5) (tc b.1 sb) := hcb.ext x2
  obtain ⟨out, hout⟩ : ∃ out, outT (stJoin (x, mkTF [a, b]) a b) = out := ⟨_, rfl⟩
  rw [hout]
  refine ret_of_vc ties mixed Try.func85 rfl (by kernel_rfl) rfl rfl ?_
  refine .inr (.inr (fork_rule ties mixed [([], [5]), ([0], [6]), ([1], [7]), ([2], [8]), ([], [9]), ([4], [10]), ([5], [11]), ([6], [12]), ([], [3]), ([], [4]), ([3, 8], [3]), ([7, 9, 10], [3, 4])] 11 5 13 (fk2 W.heap.size s0 p o (tc a.1 sa) (tc b.1 sb)) (by kernel_rfl) (fk2_stab _ s0 p o (tc a.1 sa) (tc b.1 sb)) ?_ ?_))
  ·
    as_aux_lemma =>
      intro i oo ho ρ' w7 x7 hs Bs hu hd
      match i, ho with
      | 0, ho =>
        have := Option.some.inj ho
        subst this
        rw [at_slot ((hs 1 (by kernel_rfl)).trans rfl : ρ' 1 = .pointer (some ⟨W.heap.size, 0, none⟩))]
        exact ⟨fun _ => False, Chg.refl _ _, rfl, fun b h => h.elim⟩
      | 1, ho =>
        have := Option.some.inj ho
        subst this
        have e1 : ρ' 5 = .pointer (some ⟨W.heap.size, 4, none⟩) := (List.cons.inj (hu 0 (by decide)).1).1
        rw [at_slot e1]
        exact ⟨_, (hb2.ext x7).2.2.2.2.1, fun _ => False, Chg.refl _ _, rfl, fun b h => h.elim⟩
      | 2, ho =>
        have := Option.some.inj ho
        subst this
        have e1 : ρ' 6 = s0 := (List.cons.inj (hu 1 (by decide)).1).1
        rw [at_slot e1, hs0]
        exact ⟨⟨by decide, by decide⟩, fun _ => False, Chg.refl _ _, rfl, fun b h => h.elim⟩
      | 3, ho =>
        have := Option.some.inj ho
        subst this
        have e1 : ρ' 7 = .pointer (some ⟨p, o, none⟩) := (List.cons.inj (hu 2 (by decide)).1).1
        rw [at_slot e1]
        exact ⟨(tc a.1 sa), rfl, hca2.ext x7, fun _ => False, Chg.refl _ _, rfl, fun b h => h.elim⟩
      | 4, ho =>
        have := Option.some.inj ho
        subst this
        rw [at_slot ((hs 1 (by kernel_rfl)).trans rfl : ρ' 1 = .pointer (some ⟨W.heap.size, 0, none⟩))]
        exact ⟨fun _ => False, Chg.refl _ _, rfl, fun b h => h.elim⟩
      | 5, ho =>
        have := Option.some.inj ho
        subst this
        have e1 : ρ' 9 = .pointer (some ⟨W.heap.size, 4, none⟩) := (List.cons.inj (hu 4 (by decide)).1).1
        rw [at_slot e1]
        exact ⟨_, (hb2.ext x7).2.2.2.2.1, fun _ => False, Chg.refl _ _, rfl, fun b h => h.elim⟩
      | 6, ho =>
        have := Option.some.inj ho
        subst this
        have e1 : ρ' 10 = s0 := (List.cons.inj (hu 5 (by decide)).1).1
        rw [at_slot e1, hs0]
        exact ⟨⟨by decide, by decide⟩, fun _ => False, Chg.refl _ _, rfl, fun b h => h.elim⟩
      | 7, ho =>
        have := Option.some.inj ho
        subst this
        have e1 : ρ' 11 = .pointer (some ⟨p, o + 5, none⟩) := (List.cons.inj (hu 6 (by decide)).1).1
        rw [at_slot e1]
        exact ⟨(tc b.1 sb), rfl, hcb2.ext x7, fun _ => False, Chg.refl _ _, rfl, fun b h => h.elim⟩
      | 8, ho =>
        have := Option.some.inj ho
        subst this
        exact ⟨fun q => q = w7.heap.size, Chg.alloc _ _, ⟨_, rfl, bz_rmy w7, rfl⟩, fun q h => .inr ⟨by omega, by rw [h, World.size_alloc]; omega⟩⟩
      | 9, ho =>
        have := Option.some.inj ho
        subst this
        exact ⟨fun q => q = w7.heap.size, Chg.alloc _ _, ⟨_, rfl, bz_rmy w7, rfl⟩, fun q h => .inr ⟨by omega, by rw [h, World.size_alloc]; omega⟩⟩
      | 10, ho =>
        have := Option.some.inj ho
        subst this
        obtain ⟨q, g1, g2, g3⟩ := (hu 8 (by decide)).1
        have e3 : ρ' 3 = .pointer (some ⟨q, 0, none⟩) := (List.cons.inj g1).1
        have e8 : ρ' 8 = .agg (tc a.1 sa).toArray := (List.cons.inj (hu 3 (by decide)).1).1
        rw [at_slot e3, at_slot (ρ := upd ρ' (some 3) (.pointer (some ⟨q, 0, none⟩))) (t := 8) (v := .agg (tc a.1 sa).toArray) e8]
        refine fk_store g2 rfl la_one fun w8 ch8 c8 => ?_
        exact ⟨fun q' => q' = q, ch8.mono fun q' _ hb' => ⟨8, by decide, by rw [hb']; exact g3⟩, ⟨q, rfl, c8, rfl⟩, fun q' hb' => .inl ⟨8, by decide, by rw [hb']; exact g3⟩⟩
      | 11, ho =>
        have := Option.some.inj ho
        subst this
        obtain ⟨q, g1, g2, g3⟩ := (hu 9 (by decide)).1
        obtain ⟨q', k1, k2, k3⟩ := (hu 10 (by decide)).1
        have e3 : ρ' 3 = .pointer (some ⟨q', 0, none⟩) := (List.cons.inj k1).1
        have e4 : ρ' 4 = .pointer (some ⟨q, 0, none⟩) := (List.cons.inj g1).1
        have e8 : ρ' 12 = .agg (tc b.1 sb).toArray := (List.cons.inj (hu 7 (by decide)).1).1
        rw [at_slot e3, at_slot (ρ := upd ρ' (some 3) (.pointer (some ⟨q', 0, none⟩))) (t := 4) (v := .pointer (some ⟨q, 0, none⟩)) e4, at_slot (ρ := upd (upd ρ' (some 3) (.pointer (some ⟨q', 0, none⟩))) (some 4) (.pointer (some ⟨q, 0, none⟩))) (t := 12) (v := .agg (tc b.1 sb).toArray) e8]
        have hne : q' ≠ q := fun e => hd 9 10 (by decide) (by decide) (by decide) q g3 (by rw [← e]; exact k3)
        refine fk_store g2 rfl lb_one fun w8 ch8 c8 => ?_
        exact ⟨fun i => i = q' ∨ i = q, ch8.mono fun i _ hi => ⟨9, by decide, by rw [hi]; exact g3⟩, ⟨q', q, rfl, ch8.cells (S := fun i => i = q) hne k2, c8, .inl rfl, .inr rfl⟩, fun i hi => .inl (hi.elim (fun e => ⟨10, by decide, by rw [e]; exact k3⟩) fun e => ⟨9, by decide, by rw [e]; exact g3⟩)⟩
      | n + 12, ho => cases ho
  ·
    as_aux_lemma =>
      intro vs junk w4 BB x4 hfa hBB
      obtain ⟨b3, b4, rfl, c3, c4, hB3, hB4⟩ := hfa
      have P := pre2 hs hsa hsb x4 c3 c4
      clear c3 c4 hB3 hB4 hBB la_one lb_one hca2 hcb2 hca hcb
      have no : ¬ (a.1.op = 19 ∧ b.1.op = 19 ∧ a.1.n = b.1.n + b.1.w ∧ cmpT (kid a.2 0) (kid b.2 0) = 0) → out = (x, mkTF [a, b]) := fun h => by rw [← hout]; unfold stJoin; rw [if_neg h]; rfl
      refine .inl ⟨by kernel_rfl, ?_⟩
      refine ⟨_, P.ca.1, ?_⟩
      by_cases h1 : a.1.op = 19
      case neg =>
        repeat refine br_dec_false h1 ?_
        intro w5 x5
        replace P := P.step x5
        rw [no (fun h => h1 h.1)]
        refine ⟨tc x _, rfl, P.hb, ?_⟩
        exact fin5 P.r P.hB P.ext P.s
      repeat refine br_dec_true h1 ?_
      refine ⟨_, P.cb.1, ?_⟩
      repeat refine br_dec_true h1 ?_
      by_cases h2 : b.1.op = 19
      case neg =>
        repeat refine br_dec_false h2 ?_
        intro w5 x5
        replace P := P.step x5
        rw [no (fun h => h2 h.2.1)]
        refine ⟨tc x _, rfl, P.hb, ?_⟩
        exact fin5 P.r P.hB P.ext P.s
      obtain ⟨g, hag, hgo⟩ := ok_1 (x := a.1) (k := a.2) ha (by omega)
      obtain ⟨g', hbg, hgo'⟩ := ok_1 (x := b.1) (k := b.2) hb (by omega)
      have hyw : 0 ≤ a.1.n ∧ a.1.n ≤ kw (hdF a.2) 0 - a.1.w := fit_cut ha.1 h1
      have hzw : 0 ≤ b.1.n ∧ b.1.n ≤ kw (hdF b.2) 0 - b.1.w := fit_cut hb.1 h2
      rw [hag] at hyw
      rw [hbg] at hzw
      have hyw : 0 ≤ a.1.n ∧ a.1.n ≤ g.1.w - a.1.w := hyw
      have hzw : 0 ≤ b.1.n ∧ b.1.n ≤ g'.1.w - b.1.w := hzw
      have hgw := hgo.1.width
      have hgw' := hgo'.1.width
      repeat refine br_dec_true h2 ?_
      refine ⟨_, P.ca.2.2.1, ?_⟩
      repeat refine br_dec_true h2 ?_
      refine ⟨_, P.cb.2.2.1, ?_⟩
      repeat refine br_dec_true h2 ?_
      refine ⟨_, P.cb.2.1, ?_⟩
      repeat refine br_dec_true h2 ?_
      refine ⟨_, IntWalk.i64_in _ (by omega), ?_⟩
      repeat refine br_dec_true h2 ?_
      by_cases h3 : a.1.n = b.1.n + b.1.w
      case neg =>
        repeat refine br_dec_false h3 ?_
        intro w5 x5
        replace P := P.step x5
        rw [no (fun h => h3 h.2.2.1)]
        refine ⟨tc x _, rfl, P.hb, ?_⟩
        exact fin5 P.r P.hB P.ext P.s
      have hsaI := P.sa
      rw [hag] at hsaI
      have hsbI := P.sb
      rw [hbg] at hsbI
      obtain ⟨p2, o2, c2, sg, e2, hcg, hsg⟩ := kids1 hsaI
      obtain ⟨p3, o3, c3', sg', e3, hcg', hsg'⟩ := kids1 hsbI
      have la := P.ca.2.2.2.2.1
      have lb := P.cb.2.2.2.2.1
      rw [e2] at la
      rw [e3] at lb
      repeat refine br_dec_true h3 ?_
      refine ⟨_, la, ?_⟩
      repeat refine br_dec_true h3 ?_
      refine ⟨⟨by decide, by decide⟩, ?_⟩
      repeat refine br_dec_true h3 ?_
      refine ⟨tc g.1 sg, rfl, hcg, ?_⟩
      repeat refine br_dec_true h3 ?_
      refine ⟨_, lb, ?_⟩
      repeat refine br_dec_true h3 ?_
      refine ⟨⟨by decide, by decide⟩, ?_⟩
      repeat refine br_dec_true h3 ?_
      refine ⟨tc g'.1 sg', rfl, hcg', ?_⟩
      repeat refine br_dec_true h3 ?_
      refine ⟨.bool (decide (cmpT g g' = 0)), fun w' hw' => sameTerm_ret g g' sg sg' w' ((hsg.ext hw').mono fun _ _ => trivial) ((hsg'.ext hw').mono fun _ _ => trivial), ?_⟩
      repeat refine br_dec_true h3 ?_
      intro w5 x5
      replace P := P.step x5
      have lb5 := x5.cell lb
      refine br_dec (fun h4 => ?_) (fun h4 => ?_)
      · have e : stJoin (x, mkTF [a, b]) a b = .inr (mkn 19 x.w b.1.n, mkTF [g']) := by
          unfold stJoin
          rw [hag, hbg, kid0, kid0, if_pos ⟨h1, h2, h3, h4⟩]
        rw [e] at hg
        rw [e] at hout
        have hg' : Keeps (x, mkTF [a, b]) (mkn 19 x.w b.1.n, mkTF [g']) ∧ ms (mkn 19 x.w b.1.n, mkTF [g']) < ms (x, mkTF [a, b]) ∧ _ := hg
        have hsg5 := hsg'.ext x5
        rw [← hout]
        refine .inr (.inr (hyb_rule ties mixed [(0, .quiet), (1, .quiet), (2, .quiet), (3, .quiet), (4, .quiet), (5, .quiet), (6, .quiet), (7, .quiet), (8, .loud), (9, .loud), (10, .wild)] (by kernel_rfl) ?_))
        refine ⟨_, P.hb.2.1, _, P.cb.2.2.1, _, lb5, ⟨by decide, by decide⟩, tc g'.1 sg', rfl, hcg'.ext x5, ?_⟩
        intro w6 x6
        obtain ⟨x7, hk7⟩ := mk1 (a := g') (hsg5.ext x6) (P.step x6).lt (P.step x6).ext.size
        refine ⟨x7, ?_⟩
        intro w8 x8
        have P8 := ((P.step x6).step x7).step x8
        refine Or.inl ((remake_of hR 19 x.w b.1.n [g'] _ (okB (bxW W x _).heap.size W ok) w8 (by omega) hg'.1.ok (hk7.ext x8)).mono ?_)
        rintro _ w9 hres
        obtain ⟨x9, s9, rfl, hs9⟩ := res_in hres P8.lt P8.ext.size
        refine ⟨x9, ?_⟩
        intro w10 x10
        have P10 := (P8.step x9).step x10
        exact fin5' P10.r P10.hB P10.ext (hs9.ext x10)
      · rw [no (fun h => h4 (by have := h.2.2.2; rwa [hag, hbg, kid0, kid0] at this))]
        refine ⟨tc x _, rfl, P.hb, ?_⟩
        exact fin5 P.r P.hB P.ext P.s
end
end Go.Proofs.Ytekddgkgeaolnaa
namespace Go.Proofs.Ytekddgkgeaolnaa
open Go Go.Vc Go.RowKit
set_option linter.unusedVariables false

theorem onesOf_ret {w : Int} (h : 1 ≤ w ∧ w ≤ 16) (W : World) : Ret Try.prog 119 #[.int .i64 w] W (fun v w' => v = .int .i64 (ones w) ∧ w' = W) := by
  have hp := pow16 (w := w) (by omega) h.2
  refine ret_of_vc ties mixed Try.func119 rfl (by kernel_rfl) rfl rfl ?_
  refine ⟨_, IntWalk.u64_in _ (by omega), by omega, _, shl1 (by omega) h.2, _, IntWalk.i64_in _ (by omega), ?_⟩
  exact ⟨rfl, rfl⟩
def FirR (ok : Nat → Prop) (bb : Bool) (t : Tm) (W : World) (v : Value) (w' : World) : Prop := ∃ v1, v = .tuple #[v1, .bool bb] ∧ TRes ok t W v1 w'
theorem fin5t {ok : Nat → Prop} {W w : World} {B : Nat} {y : Lab} {s : Value} {k : TF} (bb : Bool) (hr : Rmy w B 5) (hB : W.heap.size ≤ B) (hx : Ext W w) (hs : TSl (okB B W ok) w s k) :
    FreeAll w B 0 (tc y s) ∧ ∃ vs, vs.length = 5 ∧ CellsAt (setCells w B 0 (tc y s)) B 0 vs ∧ FirR ok bb (y, k) W (.tuple #[.agg vs.toArray, .bool bb]) (setCells w B 0 (tc y s)) := by
  obtain ⟨h1, vs, h2, h3, h4⟩ := fin5 (ok := ok) (y := y) hr hB hx hs
  exact ⟨h1, vs, h2, h3, _, rfl, h4⟩
theorem nil_in (B : Nat) (W w : World) (ok : Nat → Prop) : TSl (okB B W ok) w (.slice none 0 0) .nil := ⟨none, 0, rfl, Nat.zero_le _, .inl rfl⟩
theorem constT_ok {w n : Int} (h : wOk w n = true) : constT w n = constL w n := by unfold constT; rw [if_pos h]
theorem ones_pos {w : Int} (h : 1 ≤ w ∧ w ≤ 16) : ones w ≠ 0 := by
  have := pow_pred h.1
  have := pow16n (w - 1).toNat (by omega)
  unfold ones
  omega
theorem con_ret {w n : Int} (h : wOk w n = true) (W : World) : Ret Try.prog 17 #[.int .i64 w, .int .i64 n] W (fun v w' => v = tv (constL w n) (.slice none 0 0) ∧ Ext W w') := by
  have := impl_ConstTerm w n W
  rwa [constT_ok h] at this
/-- The first rules: what they say. -/
def fiO (o : Option St) : Tm := (o.map outT).getD zeroT
section
variable {n : Nat} {x : Lab} {a b : Tm} {sa sb : Value} {ok : Nat → Prop} {W : World}
set_option maxRecDepth 100000 in
set_option maxHeartbeats 8000000 in
theorem reduceFirst_of (hR : RedS 60 n) (h : OkT (x, mkTF [a, b])) (ho : 3 ≤ x.op ∧ x.op ≤ 16) (ha0 : a.1.op = 0) (hm : ms (x, mkTF [a, b]) < n + 1) (hsa : TSl ok W sa a.2) (hsb : TSl ok W sb b.2) :
    Ret Try.prog 104 #[.int .i64 x.op, .int .i64 x.w, tv a.1 sa, tv b.1 sb] W (FirR ok (stFirst x.op x.w a b).isSome (fiO (stFirst x.op x.w a b)) W) := by
  have hgood := first_good h ho ha0
  have ha : OkT a := h.2.1
  have hb : OkT b := h.2.2.1
  have haw := ha.1.width
  have hxw : 1 ≤ x.w ∧ x.w ≤ 16 := h.1.width
  have hop1 := ones_pos haw
  have x1 := bx_ext W a.1 sa
  have x2 := bx_ext (bxW W a.1 sa) b.1 sb
  have x3 := bz_ext (bxW (bxW W a.1 sa) b.1 sb)
  have x03 := (x1.trans x2).trans x3
  have ca := ((bx_at W a.1 sa).ext x2).ext x3
  have cb := (bx_at (bxW W a.1 sa) b.1 sb).ext x3
  have r3 := bz_rmy (bxW (bxW W a.1 sa) b.1 sb)
  have hB : W.heap.size ≤ (bxW (bxW W a.1 sa) b.1 sb).heap.size := (x1.trans x2).size
  have hlt : (bxW (bxW W a.1 sa) b.1 sb).heap.size < (bzW (bxW (bxW W a.1 sa) b.1 sb)).heap.size := by rw [bz_size]; omega
  have hsa3 := arg_in hsa x03 hB
  have hsb3 := arg_in hsb x03 hB
  have hz : wOk x.w 0 = true := by
    obtain ⟨m, hm'⟩ := inat (show 0 ≤ x.w by omega)
    rw [hm']; exact zero_word (by omega) (by omega)
  have hwo9 : x.op = 9 → wOk x.w (ones a.1.w) = true := fun h9 => by
    have hW := (bin_w h ho).arith (by omega)
    rw [← hW]; exact ones_wok (con_word ha ha0)
  obtain ⟨op, hop⟩ : ∃ op, x.op = op := ⟨_, rfl⟩
  rw [hop] at hgood ho ⊢
  have hO : ∀ W', Ret Try.prog 119 #[.int .i64 a.1.w] W' (fun v w' => v = .int .i64 (ones a.1.w) ∧ w' = W') := fun W' => onesOf_ret haw W'
  have hst : stFirst op x.w a b = if (op = 3 ∧ a.1.n = 0) ∨ (op = 5 ∧ a.1.n = 1) ∨ (op = 8 ∧ a.1.n = ones a.1.w) ∨ (op = 9 ∧ a.1.n = 0) ∨ (op = 10 ∧ a.1.n = 0) ∨ (op = 14 ∧ a.1.w = 1 ∧ a.1.n = 1) then some (.inl b)
    else if (op = 5 ∧ a.1.n = 0) ∨ (op = 8 ∧ a.1.n = 0) then some (.inl (conT x.w 0))
    else if op = 9 ∧ a.1.n = ones a.1.w then some (.inl (conT x.w (ones a.1.w)))
    else if (op = 10 ∧ a.1.n = ones a.1.w) ∨ (op = 14 ∧ a.1.w = 1 ∧ a.1.n = 0) then some (.inr (mkn 1 x.w 0, mkTF [b]))
    else none := rfl
  obtain ⟨on, hon⟩ : ∃ on, ones a.1.w = on := ⟨_, rfl⟩
  rw [hon] at hst hwo9 hop1
  simp only [hon] at hO
  clear hon
  obtain ⟨out, hout⟩ : ∃ out, stFirst op x.w a b = out := ⟨_, rfl⟩
  rw [hout] at hgood ⊢
  by_cases h3 : op = 3
  · by_cases c : a.1.n = 0
    · have e : out = some (.inl b) := by rw [← hout, hst]; rw [if_pos (.inl ⟨h3, c⟩)]
      subst e
      refine ret_of_vc ties mixed Try.func104 rfl (by kernel_rfl) rfl rfl ?_
      refine ⟨_, ca.2.1, ?_⟩
      refine Or.inl ((hO _).mono ?_)
      rintro _ _ ⟨rfl, rfl⟩
      refine br_dec_true h3 ?_
      refine ⟨_, ca.2.2.1, ?_⟩
      refine br_dec_true c ?_
      refine br_dec_true c ?_
      refine ⟨tc b.1 sb, rfl, cb, ?_⟩
      exact fin5t _ r3 hB x03 hsb3
    · have e : out = none := by rw [← hout, hst]; rw [if_neg (by omega), if_neg (by omega), if_neg (by omega), if_neg (by omega)]
      subst e
      refine ret_of_vc ties mixed Try.func104 rfl (by kernel_rfl) rfl rfl ?_
      refine ⟨_, ca.2.1, ?_⟩
      refine Or.inl ((hO _).mono ?_)
      rintro _ _ ⟨rfl, rfl⟩
      refine br_dec_true h3 ?_
      refine ⟨_, ca.2.2.1, ?_⟩
      refine br_dec_false c ?_
      refine br_dec_false (by omega : ¬ op = 5) ?_
      refine br_dec_false (by omega : ¬ op = 8) ?_
      refine br_dec_false (by omega : ¬ op = 9) ?_
      refine br_dec_false (by omega : ¬ op = 10) ?_
      refine br_dec_false (by omega : ¬ op = 14) ?_
      refine br_dec_false (by omega : ¬ op = 5) ?_
      refine br_dec_false (by omega : ¬ op = 8) ?_
      refine br_dec_false (by omega : ¬ op = 9) ?_
      refine br_dec_false (by omega : ¬ op = 10) ?_
      refine br_dec_false (by omega : ¬ op = 14) ?_
      exact fin5t (y := zeroL) (s := .slice none 0 0) (k := .nil) false r3 hB x03 (nil_in _ _ _ _)
  by_cases h5 : op = 5
  · by_cases c : a.1.n = 1
    · have e : out = some (.inl b) := by rw [← hout, hst]; rw [if_pos (.inr (.inl ⟨h5, c⟩))]
      subst e
      refine ret_of_vc ties mixed Try.func104 rfl (by kernel_rfl) rfl rfl ?_
      refine ⟨_, ca.2.1, ?_⟩
      refine Or.inl ((hO _).mono ?_)
      rintro _ _ ⟨rfl, rfl⟩
      refine br_dec_false (by omega : ¬ op = 3) ?_
      refine br_dec_true h5 ?_
      refine ⟨_, ca.2.2.1, ?_⟩
      refine br_dec_true c ?_
      refine br_dec_true c ?_
      refine ⟨tc b.1 sb, rfl, cb, ?_⟩
      exact fin5t _ r3 hB x03 hsb3
    by_cases c2 : a.1.n = 0
    · have e : out = some (.inl (conT x.w 0)) := by rw [← hout, hst]; rw [if_neg (by omega), if_pos (.inl ⟨h5, c2⟩)]
      subst e
      refine ret_of_vc ties mixed Try.func104 rfl (by kernel_rfl) rfl rfl ?_
      refine ⟨_, ca.2.1, ?_⟩
      refine Or.inl ((hO _).mono ?_)
      rintro _ _ ⟨rfl, rfl⟩
      refine br_dec_false (by omega : ¬ op = 3) ?_
      refine br_dec_true h5 ?_
      refine ⟨_, ca.2.2.1, ?_⟩
      refine br_dec_false c ?_
      refine br_dec_false (by omega : ¬ op = 8) ?_
      refine br_dec_false (by omega : ¬ op = 9) ?_
      refine br_dec_false (by omega : ¬ op = 10) ?_
      refine br_dec_false (by omega : ¬ op = 14) ?_
      refine br_dec_true h5 ?_
      refine ⟨_, ca.2.2.1, ?_⟩
      refine br_dec_true c2 ?_
      refine br_dec_true c2 ?_
      refine Or.inl ((con_ret hz _).mono ?_)
      rintro _ w4 ⟨rfl, x4⟩
      exact fin5t (y := constL x.w 0) (s := .slice none 0 0) (k := .nil) true (r3.ext x4) hB (x03.trans x4) (nil_in _ _ _ _)
    · have e : out = none := by rw [← hout, hst]; rw [if_neg (by omega), if_neg (by omega), if_neg (by omega), if_neg (by omega)]
      subst e
      refine ret_of_vc ties mixed Try.func104 rfl (by kernel_rfl) rfl rfl ?_
      refine ⟨_, ca.2.1, ?_⟩
      refine Or.inl ((hO _).mono ?_)
      rintro _ _ ⟨rfl, rfl⟩
      refine br_dec_false (by omega : ¬ op = 3) ?_
      refine br_dec_true h5 ?_
      refine ⟨_, ca.2.2.1, ?_⟩
      refine br_dec_false c ?_
      refine br_dec_false (by omega : ¬ op = 8) ?_
      refine br_dec_false (by omega : ¬ op = 9) ?_
      refine br_dec_false (by omega : ¬ op = 10) ?_
      refine br_dec_false (by omega : ¬ op = 14) ?_
      refine br_dec_true h5 ?_
      refine ⟨_, ca.2.2.1, ?_⟩
      refine br_dec_false c2 ?_
      refine br_dec_false (by omega : ¬ op = 8) ?_
      refine br_dec_false (by omega : ¬ op = 9) ?_
      refine br_dec_false (by omega : ¬ op = 10) ?_
      refine br_dec_false (by omega : ¬ op = 14) ?_
      exact fin5t (y := zeroL) (s := .slice none 0 0) (k := .nil) false r3 hB x03 (nil_in _ _ _ _)
  by_cases h8 : op = 8
  · by_cases c : a.1.n = on
    · have e : out = some (.inl b) := by rw [← hout, hst]; rw [if_pos (.inr (.inr (.inl ⟨h8, c⟩)))]
      subst e
      refine ret_of_vc ties mixed Try.func104 rfl (by kernel_rfl) rfl rfl ?_
      refine ⟨_, ca.2.1, ?_⟩
      refine Or.inl ((hO _).mono ?_)
      rintro _ _ ⟨rfl, rfl⟩
      refine br_dec_false (by omega : ¬ op = 3) ?_
      refine br_dec_false (by omega : ¬ op = 5) ?_
      refine br_dec_true h8 ?_
      refine ⟨_, ca.2.2.1, ?_⟩
      refine br_dec_true c ?_
      refine br_dec_true c ?_
      refine ⟨tc b.1 sb, rfl, cb, ?_⟩
      exact fin5t _ r3 hB x03 hsb3
    by_cases c2 : a.1.n = 0
    · have e : out = some (.inl (conT x.w 0)) := by rw [← hout, hst]; rw [if_neg (by omega), if_pos (.inr ⟨h8, c2⟩)]
      subst e
      refine ret_of_vc ties mixed Try.func104 rfl (by kernel_rfl) rfl rfl ?_
      refine ⟨_, ca.2.1, ?_⟩
      refine Or.inl ((hO _).mono ?_)
      rintro _ _ ⟨rfl, rfl⟩
      refine br_dec_false (by omega : ¬ op = 3) ?_
      refine br_dec_false (by omega : ¬ op = 5) ?_
      refine br_dec_true h8 ?_
      refine ⟨_, ca.2.2.1, ?_⟩
      refine br_dec_false c ?_
      refine br_dec_false (by omega : ¬ op = 9) ?_
      refine br_dec_false (by omega : ¬ op = 10) ?_
      refine br_dec_false (by omega : ¬ op = 14) ?_
      refine br_dec_false (by omega : ¬ op = 5) ?_
      refine br_dec_true h8 ?_
      refine ⟨_, ca.2.2.1, ?_⟩
      refine br_dec_true c2 ?_
      refine Or.inl ((con_ret hz _).mono ?_)
      rintro _ w4 ⟨rfl, x4⟩
      exact fin5t (y := constL x.w 0) (s := .slice none 0 0) (k := .nil) true (r3.ext x4) hB (x03.trans x4) (nil_in _ _ _ _)
    · have e : out = none := by rw [← hout, hst]; rw [if_neg (by omega), if_neg (by omega), if_neg (by omega), if_neg (by omega)]
      subst e
      refine ret_of_vc ties mixed Try.func104 rfl (by kernel_rfl) rfl rfl ?_
      refine ⟨_, ca.2.1, ?_⟩
      refine Or.inl ((hO _).mono ?_)
      rintro _ _ ⟨rfl, rfl⟩
      refine br_dec_false (by omega : ¬ op = 3) ?_
      refine br_dec_false (by omega : ¬ op = 5) ?_
      refine br_dec_true h8 ?_
      refine ⟨_, ca.2.2.1, ?_⟩
      refine br_dec_false c ?_
      refine br_dec_false (by omega : ¬ op = 9) ?_
      refine br_dec_false (by omega : ¬ op = 10) ?_
      refine br_dec_false (by omega : ¬ op = 14) ?_
      refine br_dec_false (by omega : ¬ op = 5) ?_
      refine br_dec_true h8 ?_
      refine ⟨_, ca.2.2.1, ?_⟩
      refine br_dec_false c2 ?_
      refine br_dec_false (by omega : ¬ op = 9) ?_
      refine br_dec_false (by omega : ¬ op = 10) ?_
      refine br_dec_false (by omega : ¬ op = 14) ?_
      exact fin5t (y := zeroL) (s := .slice none 0 0) (k := .nil) false r3 hB x03 (nil_in _ _ _ _)
  by_cases h9 : op = 9
  · by_cases c : a.1.n = 0
    · have e : out = some (.inl b) := by rw [← hout, hst]; rw [if_pos (.inr (.inr (.inr (.inl ⟨h9, c⟩))))]
      subst e
      refine ret_of_vc ties mixed Try.func104 rfl (by kernel_rfl) rfl rfl ?_
      refine ⟨_, ca.2.1, ?_⟩
      refine Or.inl ((hO _).mono ?_)
      rintro _ _ ⟨rfl, rfl⟩
      refine br_dec_false (by omega : ¬ op = 3) ?_
      refine br_dec_false (by omega : ¬ op = 5) ?_
      refine br_dec_false (by omega : ¬ op = 8) ?_
      refine br_dec_true h9 ?_
      refine ⟨_, ca.2.2.1, ?_⟩
      refine br_dec_true c ?_
      refine br_dec_true c ?_
      refine ⟨tc b.1 sb, rfl, cb, ?_⟩
      exact fin5t _ r3 hB x03 hsb3
    by_cases c2 : a.1.n = on
    · have hwo : wOk x.w on = true := hwo9 (by omega)
      have e : out = some (.inl (conT x.w on)) := by rw [← hout, hst]; rw [if_neg (by omega), if_neg (by omega), if_pos ⟨h9, c2⟩]
      subst e
      refine ret_of_vc ties mixed Try.func104 rfl (by kernel_rfl) rfl rfl ?_
      refine ⟨_, ca.2.1, ?_⟩
      refine Or.inl ((hO _).mono ?_)
      rintro _ _ ⟨rfl, rfl⟩
      refine br_dec_false (by omega : ¬ op = 3) ?_
      refine br_dec_false (by omega : ¬ op = 5) ?_
      refine br_dec_false (by omega : ¬ op = 8) ?_
      refine br_dec_true h9 ?_
      refine ⟨_, ca.2.2.1, ?_⟩
      refine br_dec_false c ?_
      refine br_dec_false (by omega : ¬ op = 10) ?_
      refine br_dec_false (by omega : ¬ op = 14) ?_
      refine br_dec_false (by omega : ¬ op = 5) ?_
      refine br_dec_false (by omega : ¬ op = 8) ?_
      refine br_dec_true h9 ?_
      refine ⟨_, ca.2.2.1, ?_⟩
      refine br_dec_true c2 ?_
      refine Or.inl ((con_ret hwo _).mono ?_)
      rintro _ w4 ⟨rfl, x4⟩
      exact fin5t (y := constL x.w on) (s := .slice none 0 0) (k := .nil) true (r3.ext x4) hB (x03.trans x4) (nil_in _ _ _ _)
    · have e : out = none := by rw [← hout, hst]; rw [if_neg (by omega), if_neg (by omega), if_neg (by omega), if_neg (by omega)]
      subst e
      refine ret_of_vc ties mixed Try.func104 rfl (by kernel_rfl) rfl rfl ?_
      refine ⟨_, ca.2.1, ?_⟩
      refine Or.inl ((hO _).mono ?_)
      rintro _ _ ⟨rfl, rfl⟩
      refine br_dec_false (by omega : ¬ op = 3) ?_
      refine br_dec_false (by omega : ¬ op = 5) ?_
      refine br_dec_false (by omega : ¬ op = 8) ?_
      refine br_dec_true h9 ?_
      refine ⟨_, ca.2.2.1, ?_⟩
      refine br_dec_false c ?_
      refine br_dec_false (by omega : ¬ op = 10) ?_
      refine br_dec_false (by omega : ¬ op = 14) ?_
      refine br_dec_false (by omega : ¬ op = 5) ?_
      refine br_dec_false (by omega : ¬ op = 8) ?_
      refine br_dec_true h9 ?_
      refine ⟨_, ca.2.2.1, ?_⟩
      refine br_dec_false c2 ?_
      refine br_dec_false (by omega : ¬ op = 10) ?_
      refine br_dec_false (by omega : ¬ op = 14) ?_
      exact fin5t (y := zeroL) (s := .slice none 0 0) (k := .nil) false r3 hB x03 (nil_in _ _ _ _)
  by_cases h10 : op = 10
  · by_cases c : a.1.n = 0
    · have e : out = some (.inl b) := by rw [← hout, hst]; rw [if_pos (.inr (.inr (.inr (.inr (.inl ⟨h10, c⟩)))))]
      subst e
      refine ret_of_vc ties mixed Try.func104 rfl (by kernel_rfl) rfl rfl ?_
      refine ⟨_, ca.2.1, ?_⟩
      refine Or.inl ((hO _).mono ?_)
      rintro _ _ ⟨rfl, rfl⟩
      refine br_dec_false (by omega : ¬ op = 3) ?_
      refine br_dec_false (by omega : ¬ op = 5) ?_
      refine br_dec_false (by omega : ¬ op = 8) ?_
      refine br_dec_false (by omega : ¬ op = 9) ?_
      refine br_dec_true h10 ?_
      refine ⟨_, ca.2.2.1, ?_⟩
      refine br_dec_true c ?_
      refine br_dec_true c ?_
      refine ⟨tc b.1 sb, rfl, cb, ?_⟩
      exact fin5t _ r3 hB x03 hsb3
    by_cases c2 : a.1.n = on
    · have e : out = some (.inr (mkn 1 x.w 0, mkTF [b])) := by rw [← hout, hst]; rw [if_neg (by omega), if_neg (by omega), if_neg (by omega), if_pos (.inl ⟨h10, c2⟩)]
      subst e
      have hg := hgood _ rfl
      have hg' : Keeps (x, mkTF [a, b]) (mkn 1 x.w 0, mkTF [b]) ∧ ms (mkn 1 x.w 0, mkTF [b]) < ms (x, mkTF [a, b]) ∧ _ := hg
      obtain ⟨x4, hk4⟩ := mk1 (a := b) hsb3 hlt x03.size
      have hC : Ret Try.prog 102 #[.int .i64 1, .int .i64 x.w, .int .i64 0, .slice (some ⟨(bzW (bxW (bxW W a.1 sa) b.1 sb)).heap.size, 0, none⟩) 1 1] ((bzW (bxW (bxW W a.1 sa) b.1 sb)).alloc (.cells (tc b.1 sb).toArray 25)) (fun v w' => ∃ s5, v = tv (red (mkn 1 x.w 0, mkTF [b])).1 s5 ∧ Ext ((bzW (bxW (bxW W a.1 sa) b.1 sb)).alloc (.cells (tc b.1 sb).toArray 25)) w' ∧ TSl (okB (bxW (bxW W a.1 sa) b.1 sb).heap.size W ok) w' s5 (red (mkn 1 x.w 0, mkTF [b])).2) := by
        refine (remake_of hR 1 x.w 0 [b] _ (okB (bxW (bxW W a.1 sa) b.1 sb).heap.size W ok) _ (by omega) hg'.1.ok hk4).mono fun v w5 hres => ?_
        obtain ⟨x5, s5, e5, hs5⟩ := res_in hres (Nat.lt_of_lt_of_le hlt x4.size) (x03.trans x4).size
        exact ⟨s5, e5, x5, hs5⟩
      refine ret_of_vc ties mixed Try.func104 rfl (by kernel_rfl) rfl rfl ?_
      refine ⟨_, ca.2.1, ?_⟩
      refine Or.inl ((hO _).mono ?_)
      rintro _ _ ⟨rfl, rfl⟩
      refine br_dec_false (by omega : ¬ op = 3) ?_
      refine br_dec_false (by omega : ¬ op = 5) ?_
      refine br_dec_false (by omega : ¬ op = 8) ?_
      refine br_dec_false (by omega : ¬ op = 9) ?_
      refine br_dec_true h10 ?_
      refine ⟨_, ca.2.2.1, ?_⟩
      refine br_dec_false c ?_
      refine br_dec_false (by omega : ¬ op = 14) ?_
      refine br_dec_false (by omega : ¬ op = 5) ?_
      refine br_dec_false (by omega : ¬ op = 8) ?_
      refine br_dec_false (by omega : ¬ op = 9) ?_
      refine br_dec_true h10 ?_
      refine ⟨_, ca.2.2.1, ?_⟩
      refine br_dec_true c2 ?_
      refine br_dec_true c2 ?_
      refine ⟨tc b.1 sb, rfl, cb, ?_⟩
      refine Or.inl ((hC).mono ?_)
      rintro _ w5 ⟨s5, rfl, x5, hs5⟩
      exact fin5t _ ((r3.ext x4).ext x5) hB ((x03.trans x4).trans x5) hs5
    · have e : out = none := by rw [← hout, hst]; rw [if_neg (by omega), if_neg (by omega), if_neg (by omega), if_neg (by omega)]
      subst e
      refine ret_of_vc ties mixed Try.func104 rfl (by kernel_rfl) rfl rfl ?_
      refine ⟨_, ca.2.1, ?_⟩
      refine Or.inl ((hO _).mono ?_)
      rintro _ _ ⟨rfl, rfl⟩
      refine br_dec_false (by omega : ¬ op = 3) ?_
      refine br_dec_false (by omega : ¬ op = 5) ?_
      refine br_dec_false (by omega : ¬ op = 8) ?_
      refine br_dec_false (by omega : ¬ op = 9) ?_
      refine br_dec_true h10 ?_
      refine ⟨_, ca.2.2.1, ?_⟩
      refine br_dec_false c ?_
      refine br_dec_false (by omega : ¬ op = 14) ?_
      refine br_dec_false (by omega : ¬ op = 5) ?_
      refine br_dec_false (by omega : ¬ op = 8) ?_
      refine br_dec_false (by omega : ¬ op = 9) ?_
      refine br_dec_true h10 ?_
      refine ⟨_, ca.2.2.1, ?_⟩
      refine br_dec_false c2 ?_
      refine br_dec_false (by omega : ¬ op = 14) ?_
      exact fin5t (y := zeroL) (s := .slice none 0 0) (k := .nil) false r3 hB x03 (nil_in _ _ _ _)
  by_cases hk : op = 14
  · by_cases cw : a.1.w = 1
    · by_cases c : a.1.n = 1
      · have e : out = some (.inl b) := by rw [← hout, hst]; rw [if_pos (.inr (.inr (.inr (.inr (.inr ⟨hk, cw, c⟩)))))]
        subst e
        refine ret_of_vc ties mixed Try.func104 rfl (by kernel_rfl) rfl rfl ?_
        refine ⟨_, ca.2.1, ?_⟩
        refine Or.inl ((hO _).mono ?_)
        rintro _ _ ⟨rfl, rfl⟩
        refine br_dec_false (by omega : ¬ op = 3) ?_
        refine br_dec_false (by omega : ¬ op = 5) ?_
        refine br_dec_false (by omega : ¬ op = 8) ?_
        refine br_dec_false (by omega : ¬ op = 9) ?_
        refine br_dec_false (by omega : ¬ op = 10) ?_
        refine br_dec_true hk ?_
        refine ⟨_, ca.2.1, ?_⟩
        refine br_dec_true cw ?_
        refine ⟨_, ca.2.2.1, ?_⟩
        refine br_dec_true c ?_
        refine ⟨tc b.1 sb, rfl, cb, ?_⟩
        exact fin5t _ r3 hB x03 hsb3
      by_cases c2 : a.1.n = 0
      · have e : out = some (.inr (mkn 1 x.w 0, mkTF [b])) := by rw [← hout, hst]; rw [if_neg (by omega), if_neg (by omega), if_neg (by omega), if_pos (.inr ⟨hk, cw, c2⟩)]
        subst e
        have hg := hgood _ rfl
        have hg' : Keeps (x, mkTF [a, b]) (mkn 1 x.w 0, mkTF [b]) ∧ ms (mkn 1 x.w 0, mkTF [b]) < ms (x, mkTF [a, b]) ∧ _ := hg
        obtain ⟨x4, hk4⟩ := mk1 (a := b) hsb3 hlt x03.size
        have hC : Ret Try.prog 102 #[.int .i64 1, .int .i64 x.w, .int .i64 0, .slice (some ⟨(bzW (bxW (bxW W a.1 sa) b.1 sb)).heap.size, 0, none⟩) 1 1] ((bzW (bxW (bxW W a.1 sa) b.1 sb)).alloc (.cells (tc b.1 sb).toArray 25)) (fun v w' => ∃ s5, v = tv (red (mkn 1 x.w 0, mkTF [b])).1 s5 ∧ Ext ((bzW (bxW (bxW W a.1 sa) b.1 sb)).alloc (.cells (tc b.1 sb).toArray 25)) w' ∧ TSl (okB (bxW (bxW W a.1 sa) b.1 sb).heap.size W ok) w' s5 (red (mkn 1 x.w 0, mkTF [b])).2) := by
          refine (remake_of hR 1 x.w 0 [b] _ (okB (bxW (bxW W a.1 sa) b.1 sb).heap.size W ok) _ (by omega) hg'.1.ok hk4).mono fun v w5 hres => ?_
          obtain ⟨x5, s5, e5, hs5⟩ := res_in hres (Nat.lt_of_lt_of_le hlt x4.size) (x03.trans x4).size
          exact ⟨s5, e5, x5, hs5⟩
        refine ret_of_vc ties mixed Try.func104 rfl (by kernel_rfl) rfl rfl ?_
        refine ⟨_, ca.2.1, ?_⟩
        refine Or.inl ((hO _).mono ?_)
        rintro _ _ ⟨rfl, rfl⟩
        refine br_dec_false (by omega : ¬ op = 3) ?_
        refine br_dec_false (by omega : ¬ op = 5) ?_
        refine br_dec_false (by omega : ¬ op = 8) ?_
        refine br_dec_false (by omega : ¬ op = 9) ?_
        refine br_dec_false (by omega : ¬ op = 10) ?_
        refine br_dec_true hk ?_
        refine ⟨_, ca.2.1, ?_⟩
        refine br_dec_true cw ?_
        refine ⟨_, ca.2.2.1, ?_⟩
        refine br_dec_false c ?_
        refine br_dec_false (by omega : ¬ op = 5) ?_
        refine br_dec_false (by omega : ¬ op = 8) ?_
        refine br_dec_false (by omega : ¬ op = 9) ?_
        refine br_dec_false (by omega : ¬ op = 10) ?_
        refine br_dec_true hk ?_
        refine ⟨_, ca.2.1, ?_⟩
        refine br_dec_true cw ?_
        refine ⟨_, ca.2.2.1, ?_⟩
        refine br_dec_true c2 ?_
        refine ⟨tc b.1 sb, rfl, cb, ?_⟩
        refine Or.inl ((hC).mono ?_)
        rintro _ w5 ⟨s5, rfl, x5, hs5⟩
        exact fin5t _ ((r3.ext x4).ext x5) hB ((x03.trans x4).trans x5) hs5
      · have e : out = none := by rw [← hout, hst]; rw [if_neg (by omega), if_neg (by omega), if_neg (by omega), if_neg (by omega)]
        subst e
        refine ret_of_vc ties mixed Try.func104 rfl (by kernel_rfl) rfl rfl ?_
        refine ⟨_, ca.2.1, ?_⟩
        refine Or.inl ((hO _).mono ?_)
        rintro _ _ ⟨rfl, rfl⟩
        refine br_dec_false (by omega : ¬ op = 3) ?_
        refine br_dec_false (by omega : ¬ op = 5) ?_
        refine br_dec_false (by omega : ¬ op = 8) ?_
        refine br_dec_false (by omega : ¬ op = 9) ?_
        refine br_dec_false (by omega : ¬ op = 10) ?_
        refine br_dec_true hk ?_
        refine ⟨_, ca.2.1, ?_⟩
        refine br_dec_true cw ?_
        refine ⟨_, ca.2.2.1, ?_⟩
        refine br_dec_false c ?_
        refine br_dec_false (by omega : ¬ op = 5) ?_
        refine br_dec_false (by omega : ¬ op = 8) ?_
        refine br_dec_false (by omega : ¬ op = 9) ?_
        refine br_dec_false (by omega : ¬ op = 10) ?_
        refine br_dec_true hk ?_
        refine ⟨_, ca.2.1, ?_⟩
        refine br_dec_true cw ?_
        refine ⟨_, ca.2.2.1, ?_⟩
        refine br_dec_false c2 ?_
        exact fin5t (y := zeroL) (s := .slice none 0 0) (k := .nil) false r3 hB x03 (nil_in _ _ _ _)
    · have e : out = none := by rw [← hout, hst]; rw [if_neg (by omega), if_neg (by omega), if_neg (by omega), if_neg (by omega)]
      subst e
      refine ret_of_vc ties mixed Try.func104 rfl (by kernel_rfl) rfl rfl ?_
      refine ⟨_, ca.2.1, ?_⟩
      refine Or.inl ((hO _).mono ?_)
      rintro _ _ ⟨rfl, rfl⟩
      refine br_dec_false (by omega : ¬ op = 3) ?_
      refine br_dec_false (by omega : ¬ op = 5) ?_
      refine br_dec_false (by omega : ¬ op = 8) ?_
      refine br_dec_false (by omega : ¬ op = 9) ?_
      refine br_dec_false (by omega : ¬ op = 10) ?_
      refine br_dec_true hk ?_
      refine ⟨_, ca.2.1, ?_⟩
      refine br_dec_false cw ?_
      refine br_dec_false (by omega : ¬ op = 5) ?_
      refine br_dec_false (by omega : ¬ op = 8) ?_
      refine br_dec_false (by omega : ¬ op = 9) ?_
      refine br_dec_false (by omega : ¬ op = 10) ?_
      refine br_dec_true hk ?_
      refine ⟨_, ca.2.1, ?_⟩
      refine br_dec_false cw ?_
      exact fin5t (y := zeroL) (s := .slice none 0 0) (k := .nil) false r3 hB x03 (nil_in _ _ _ _)
  have e : out = none := by rw [← hout, hst]; rw [if_neg (by omega), if_neg (by omega), if_neg (by omega), if_neg (by omega)]
  subst e
  refine ret_of_vc ties mixed Try.func104 rfl (by kernel_rfl) rfl rfl ?_
  refine ⟨_, ca.2.1, ?_⟩
  refine Or.inl ((hO _).mono ?_)
  rintro _ _ ⟨rfl, rfl⟩
  refine br_dec_false (by omega : ¬ op = 3) ?_
  refine br_dec_false (by omega : ¬ op = 5) ?_
  refine br_dec_false (by omega : ¬ op = 8) ?_
  refine br_dec_false (by omega : ¬ op = 9) ?_
  refine br_dec_false (by omega : ¬ op = 10) ?_
  refine br_dec_false (by omega : ¬ op = 14) ?_
  refine br_dec_false (by omega : ¬ op = 5) ?_
  refine br_dec_false (by omega : ¬ op = 8) ?_
  refine br_dec_false (by omega : ¬ op = 9) ?_
  refine br_dec_false (by omega : ¬ op = 10) ?_
  refine br_dec_false (by omega : ¬ op = 14) ?_
  exact fin5t (y := zeroL) (s := .slice none 0 0) (k := .nil) false r3 hB x03 (nil_in _ _ _ _)
end
end Go.Proofs.Ytekddgkgeaolnaa
namespace Go.Proofs.Ytekddgkgeaolnaa
open Go Go.Vc Go.RowKit
set_option linter.unusedVariables false
section
variable {n : Nat} {x : Lab} {a b d : Tm} {s : Value} {ok : Nat → Prop} {W : World}
set_option maxRecDepth 100000 in
set_option maxHeartbeats 8000000 in
theorem reduceBinary_of (hR : RedS 60 n) (h : OkT (x, mkTF [a, b])) (ho : 3 ≤ x.op ∧ x.op ≤ 16) (hm : ms (x, mkTF [a, b]) < n + 1) (hs : TSl ok W s (mkTF [a, b])) :
    Ret Try.prog 86 #[tv x s] W (TRes ok (outT (stBin (x, mkTF [a, b]) a b)) W) := by
  have hg := bin_good h ho
  have ha : OkT a := h.2.1
  have hb : OkT b := h.2.2.1
  have haw := ha.1.width
  have hbw := hb.1.width
  have hxw : 1 ≤ x.w ∧ x.w ≤ 16 := h.1.width
  have hz : wOk x.w 0 = true := by
    obtain ⟨m, hm'⟩ := inat (show 0 ≤ x.w by omega)
    rw [hm']; exact zero_word (by omega) (by omega)
  obtain ⟨p, o, c, sa, sb, hs0, hca, hcb, hsa, hsb⟩ := kids2 hs
  obtain ⟨s0, rfl⟩ : ∃ s0, s0 = s := ⟨_, rfl⟩
  have x2 : Ext W (bzW (bxW W x s0)) := (bx_ext W x s0).trans (bz_ext _)
  have hb2 := (bx_at W x s0).ext (bz_ext (bxW W x s0))
  have la_one : (tc a.1 sa).all oneB = true := tc_one hsa
  have lb_one : (tc b.1 sb).all oneB = true := tc_one hsb
  have hca2 : CellsAt (bzW (bxW W x s0)) p o (tc a.1 sa) := hca.ext x2
  have hcb2 : CellsAt (bzW (bxW W x s0)) p (o + 5) (tc b.1 sb) := hcb.ext x2
  obtain ⟨out, hout⟩ : ∃ out, outT (stBin (x, mkTF [a, b]) a b) = out := ⟨_, rfl⟩
  rw [hout]
  -- what the rules say
  have r1 : swp x.op = true → cmpT a b = 1 → stBin (x, mkTF [a, b]) a b = .inr (mkn x.op x.w 0, mkTF [b, a]) := fun h1 h2 => by unfold stBin; rw [if_pos ⟨h1, h2⟩]
  have r2 : ¬ (swp x.op = true ∧ cmpT a b = 1) → a.1.op = 0 → ∀ st, stFirst x.op x.w a b = some st → stBin (x, mkTF [a, b]) a b = st := fun h1 h2 st h3 => by
    unfold stBin; rw [if_neg h1]; simp only [if_pos h2, h3]
  have r3 : ¬ (swp x.op = true ∧ cmpT a b = 1) → (if a.1.op = 0 then stFirst x.op x.w a b else none) = none → stBin (x, mkTF [a, b]) a b = stRest (x, mkTF [a, b]) a b := fun h1 h2 => by
    unfold stBin; rw [if_neg h1]
    simp only [h2]
  have hRF : ∀ W', TSl (okB (bxW W x s0).heap.size W ok) W' sa a.2 → TSl (okB (bxW W x s0).heap.size W ok) W' sb b.2 → a.1.op = 0 → Ret Try.prog 104 #[.int .i64 x.op, .int .i64 x.w, tv a.1 sa, tv b.1 sb] W' (FirR (okB (bxW W x s0).heap.size W ok) (stFirst x.op x.w a b).isSome (fiO (stFirst x.op x.w a b)) W') := fun W' h1 h2 h3 => reduceFirst_of hR h ho h3 hm h1 h2
  refine ret_of_vc ties mixed Try.func86 rfl (by kernel_rfl) rfl rfl ?_
  refine seq_k fun K hK => hK _ _ ?_
  refine seq_k fun K hK => ?_
  refine .inr (.inr (fork_rule ties mixed [([], [8]), ([0], [9]), ([1], [10]), ([2], [11]), ([], [12]), ([4], [13]), ([5], [14]), ([6], [15]), ([], [3]), ([], [4]), ([3, 8], [3]), ([7, 9, 10], [3, 4])] 11 8 16 (fk2 W.heap.size s0 p o (tc a.1 sa) (tc b.1 sb)) (by kernel_rfl) (fk2_stab _ s0 p o (tc a.1 sa) (tc b.1 sb)) ?_ ?_))
  ·
    as_aux_lemma =>
      intro i oo ho ρ' w7 x7 hs Bs hu hd
      match i, ho with
      | 0, ho =>
        have := Option.some.inj ho
        subst this
        rw [at_slot ((hs 1 (by kernel_rfl)).trans rfl : ρ' 1 = .pointer (some ⟨W.heap.size, 0, none⟩))]
        exact ⟨fun _ => False, Chg.refl _ _, rfl, fun b h => h.elim⟩
      | 1, ho =>
        have := Option.some.inj ho
        subst this
        have e1 : ρ' 8 = .pointer (some ⟨W.heap.size, 4, none⟩) := (List.cons.inj (hu 0 (by decide)).1).1
        rw [at_slot e1]
        exact ⟨_, (hb2.ext x7).2.2.2.2.1, fun _ => False, Chg.refl _ _, rfl, fun b h => h.elim⟩
      | 2, ho =>
        have := Option.some.inj ho
        subst this
        have e1 : ρ' 9 = s0 := (List.cons.inj (hu 1 (by decide)).1).1
        rw [at_slot e1, hs0]
        exact ⟨⟨by decide, by decide⟩, fun _ => False, Chg.refl _ _, rfl, fun b h => h.elim⟩
      | 3, ho =>
        have := Option.some.inj ho
        subst this
        have e1 : ρ' 10 = .pointer (some ⟨p, o, none⟩) := (List.cons.inj (hu 2 (by decide)).1).1
        rw [at_slot e1]
        exact ⟨(tc a.1 sa), rfl, hca2.ext x7, fun _ => False, Chg.refl _ _, rfl, fun b h => h.elim⟩
      | 4, ho =>
        have := Option.some.inj ho
        subst this
        rw [at_slot ((hs 1 (by kernel_rfl)).trans rfl : ρ' 1 = .pointer (some ⟨W.heap.size, 0, none⟩))]
        exact ⟨fun _ => False, Chg.refl _ _, rfl, fun b h => h.elim⟩
      | 5, ho =>
        have := Option.some.inj ho
        subst this
        have e1 : ρ' 12 = .pointer (some ⟨W.heap.size, 4, none⟩) := (List.cons.inj (hu 4 (by decide)).1).1
        rw [at_slot e1]
        exact ⟨_, (hb2.ext x7).2.2.2.2.1, fun _ => False, Chg.refl _ _, rfl, fun b h => h.elim⟩
      | 6, ho =>
        have := Option.some.inj ho
        subst this
        have e1 : ρ' 13 = s0 := (List.cons.inj (hu 5 (by decide)).1).1
        rw [at_slot e1, hs0]
        exact ⟨⟨by decide, by decide⟩, fun _ => False, Chg.refl _ _, rfl, fun b h => h.elim⟩
      | 7, ho =>
        have := Option.some.inj ho
        subst this
        have e1 : ρ' 14 = .pointer (some ⟨p, o + 5, none⟩) := (List.cons.inj (hu 6 (by decide)).1).1
        rw [at_slot e1]
        exact ⟨(tc b.1 sb), rfl, hcb2.ext x7, fun _ => False, Chg.refl _ _, rfl, fun b h => h.elim⟩
      | 8, ho =>
        have := Option.some.inj ho
        subst this
        exact ⟨fun q => q = w7.heap.size, Chg.alloc _ _, ⟨_, rfl, bz_rmy w7, rfl⟩, fun q h => .inr ⟨by omega, by rw [h, World.size_alloc]; omega⟩⟩
      | 9, ho =>
        have := Option.some.inj ho
        subst this
        exact ⟨fun q => q = w7.heap.size, Chg.alloc _ _, ⟨_, rfl, bz_rmy w7, rfl⟩, fun q h => .inr ⟨by omega, by rw [h, World.size_alloc]; omega⟩⟩
      | 10, ho =>
        have := Option.some.inj ho
        subst this
        obtain ⟨q, g1, g2, g3⟩ := (hu 8 (by decide)).1
        have e3 : ρ' 3 = .pointer (some ⟨q, 0, none⟩) := (List.cons.inj g1).1
        have e8 : ρ' 11 = .agg (tc a.1 sa).toArray := (List.cons.inj (hu 3 (by decide)).1).1
        rw [at_slot e3, at_slot (ρ := upd ρ' (some 3) (.pointer (some ⟨q, 0, none⟩))) (t := 11) (v := .agg (tc a.1 sa).toArray) e8]
        refine fk_store g2 rfl la_one fun w8 ch8 c8 => ?_
        exact ⟨fun q' => q' = q, ch8.mono fun q' _ hb' => ⟨8, by decide, by rw [hb']; exact g3⟩, ⟨q, rfl, c8, rfl⟩, fun q' hb' => .inl ⟨8, by decide, by rw [hb']; exact g3⟩⟩
      | 11, ho =>
        have := Option.some.inj ho
        subst this
        obtain ⟨q, g1, g2, g3⟩ := (hu 9 (by decide)).1
        obtain ⟨q', k1, k2, k3⟩ := (hu 10 (by decide)).1
        have e3 : ρ' 3 = .pointer (some ⟨q', 0, none⟩) := (List.cons.inj k1).1
        have e4 : ρ' 4 = .pointer (some ⟨q, 0, none⟩) := (List.cons.inj g1).1
        have e8 : ρ' 15 = .agg (tc b.1 sb).toArray := (List.cons.inj (hu 7 (by decide)).1).1
        rw [at_slot e3, at_slot (ρ := upd ρ' (some 3) (.pointer (some ⟨q', 0, none⟩))) (t := 4) (v := .pointer (some ⟨q, 0, none⟩)) e4, at_slot (ρ := upd (upd ρ' (some 3) (.pointer (some ⟨q', 0, none⟩))) (some 4) (.pointer (some ⟨q, 0, none⟩))) (t := 15) (v := .agg (tc b.1 sb).toArray) e8]
        have hne : q' ≠ q := fun e => hd 9 10 (by decide) (by decide) (by decide) q g3 (by rw [← e]; exact k3)
        refine fk_store g2 rfl lb_one fun w8 ch8 c8 => ?_
        exact ⟨fun i => i = q' ∨ i = q, ch8.mono fun i _ hi => ⟨9, by decide, by rw [hi]; exact g3⟩, ⟨q', q, rfl, ch8.cells (S := fun i => i = q) hne k2, c8, .inl rfl, .inr rfl⟩, fun i hi => .inl (hi.elim (fun e => ⟨10, by decide, by rw [e]; exact k3⟩) fun e => ⟨9, by decide, by rw [e]; exact g3⟩)⟩
      | n + 12, ho => cases ho
  ·
    as_aux_lemma =>
      intro vs junk w4 BB x4 hfa hBB
      obtain ⟨b3, b4, rfl, c3, c4, hB3, hB4⟩ := hfa
      have P0 := pre2 hs hsa hsb x4 c3 c4
      clear c3 c4 hB3 hB4 hBB la_one lb_one hca2 hcb2 hca hcb hb2 x4
      refine hK _ _ ?_
      refine seq_cut (x := .seq (.region 2 _ _) _) (σ := Unit) [] 16 33 (fun _ => []) (fun _ w' => Pre2 W x s0 (mkTF [a, b]) a b sa sb ok (bxW W x s0).heap.size b3 b4 w' ∧ ¬ (swp x.op = true ∧ cmpT a b = 1)) (fun K hK => ?_) (fun _ w5 junk hJ => ?_)
      · refine ⟨_, P0.hb.1, ?_⟩
        refine Or.inl ((swapsKids_ret _ _).mono ?_)
        rintro _ _ ⟨rfl, rfl⟩
        refine br_split (fun hsw => ?_) (fun hsw => ?_)
        · refine ⟨tc a.1 sa, rfl, P0.ca, tc b.1 sb, rfl, P0.cb, ?_⟩
          refine Or.inl ((impl_Compare a b sa sb _ (P0.sa.mono fun _ _ => trivial) (P0.sb.mono fun _ _ => trivial)).mono ?_)
          rintro _ w5 ⟨rfl, x5⟩
          have P := P0.step x5
          refine br_dec (fun hc => ?_) (fun hc => ?_)
          · have e := r1 hsw hc
            rw [e] at hg hout
            have hg' : Keeps (x, mkTF [a, b]) (mkn x.op x.w 0, mkTF [b, a]) ∧ ms (mkn x.op x.w 0, mkTF [b, a]) < ms (x, mkTF [a, b]) ∧ _ := hg
            subst hout
            refine ⟨_, P.hb.1, _, P.hb.2.1, tc b.1 sb, rfl, P.cb, tc a.1 sa, rfl, P.ca, ?_⟩
            obtain ⟨x6, hk6⟩ := mk2 P.sb P.sa P.lt P.ext.size
            refine Or.inl ((remake_of hR x.op x.w 0 [b, a] _ (okB (bxW W x s0).heap.size W ok) _ (by omega) hg'.1.ok hk6).mono ?_)
            rintro _ w7 hres
            obtain ⟨x7, s7, rfl, hs7⟩ := res_in hres (P.step x6).lt (P.step x6).ext.size
            have P7 := (P.step x6).step x7
            exact fin5 P7.r P7.hB P7.ext hs7
          · refine hK () _ _ rfl ⟨P, fun h => hc h.2⟩ ?_
            ((repeat (first | (with_reducible exact Only.refl) | (with_reducible refine Only.skip ?_) | ((with_reducible refine Only.upd ?_ ?_); rfl) | ((with_reducible refine Only.over ?_ ?_ _); rfl) | ((with_reducible refine Only.hav ?_ ?_ ?_); rfl; rfl))))
        · refine hK () _ _ rfl ⟨P0, fun h => by rw [h.1] at hsw; cases hsw⟩ ?_
          ((repeat (first | (with_reducible exact Only.refl) | (with_reducible refine Only.skip ?_) | ((with_reducible refine Only.upd ?_ ?_); rfl) | ((with_reducible refine Only.over ?_ ?_ _); rfl) | ((with_reducible refine Only.hav ?_ ?_ ?_); rfl; rfl))))
      obtain ⟨P1, n1⟩ := hJ
      refine seq_cut (x := .seq (.region 4 _ _) _) (σ := Value × Value) [5, 6] 33 47 (fun q => [q.1, q.2]) (fun _ w' => Pre2 W x s0 (mkTF [a, b]) a b sa sb ok (bxW W x s0).heap.size b3 b4 w' ∧ (if a.1.op = 0 then stFirst x.op x.w a b else none) = none) (fun K hK => ?_) (fun _ w6 junk hJ => ?_)
      · refine ⟨tc a.1 sa, rfl, P1.ca, ?_⟩
        refine Or.inl ((isConst_ret a.1 sa _).mono ?_)
        rintro _ w6 ⟨rfl, x6⟩
        have P := P1.step x6
        refine br_dec (fun h0 => ?_) (fun h0 => ?_)
        · refine ⟨_, P.hb.1, _, P.hb.2.1, tc a.1 sa, rfl, P.ca, tc b.1 sb, rfl, P.cb, ?_⟩
          refine Or.inl ((hRF _ P.sa P.sb h0).mono ?_)
          rintro _ w7 ⟨v1, rfl, hres⟩
          obtain ⟨x7, s7, rfl, hs7⟩ := res_in hres P.lt P.ext.size
          obtain ⟨f8, c8, x8⟩ := keep5 (W := w7) (x := (fiO (stFirst x.op x.w a b)).1) (tc_one hs7)
          refine ⟨f8, ?_⟩
          have P8 := (P.step x7).step x8
          refine br_split (fun hb' => ?_) (fun hb' => ?_)
          · obtain ⟨st, hst⟩ := Option.isSome_iff_exists.1 hb'
            have e := r2 n1 h0 st hst
            have e' : fiO (stFirst x.op x.w a b) = out := by rw [hst, ← hout, e]; rfl
            subst e'
            refine ⟨_, rfl, c8, ?_⟩
            exact fin5 P8.r P8.hB P8.ext (hs7.ext x8)
          · refine hK (_, _) _ _ rfl ⟨P8, ?_⟩ ?_
            · rw [if_pos h0]; exact Option.not_isSome_iff_eq_none.1 (by rw [hb']; decide)
            · ((repeat (first | (with_reducible exact Only.refl) | (with_reducible refine Only.skip ?_) | ((with_reducible refine Only.upd ?_ ?_); rfl) | ((with_reducible refine Only.over ?_ ?_ _); rfl) | ((with_reducible refine Only.hav ?_ ?_ ?_); rfl; rfl))))
        · refine hK (_, _) _ _ rfl ⟨P, by rw [if_neg h0]⟩ ?_
          ((repeat (first | (with_reducible exact Only.refl) | (with_reducible refine Only.skip ?_) | ((with_reducible refine Only.upd ?_ ?_); rfl) | ((with_reducible refine Only.over ?_ ?_ _); rfl) | ((with_reducible refine Only.hav ?_ ?_ ?_); rfl; rfl))))
      obtain ⟨P2, n2⟩ := hJ
      have hrest := r3 n1 n2
      rw [hrest] at hg hout
      clear r1 r2 r3 hrest hRF P0 P1 n1 n2
      -- the rules of stRest
      have q0 : ∀ {u : St}, stRest (x, mkTF [a, b]) a b = u → outT u = out := fun e => by rw [← hout, e]
      refine seq_cut (x := .seq (.region 8 _ _) _) (σ := Unit) [] 47 60 (fun _ => []) (fun _ w' => Pre2 W x s0 (mkTF [a, b]) a b sa sb ok (bxW W x s0).heap.size b3 b4 w' ∧ ¬ (isC b 0 = true ∧ (x.op = 4 ∨ x.op = 11 ∨ x.op = 12 ∨ x.op = 13)) ∧ ¬ (isC b 0 = true ∧ x.op = 15)) (fun K hK => ?_) (fun _ w7 junk hJ => ?_)
      · refine ⟨tc b.1 sb, rfl, P2.cb, ?_⟩
        refine Or.inl ((constIs_ret b.1 b.2 sb 0 _).mono ?_)
        rintro _ w7 ⟨rfl, x7⟩
        have P := P2.step x7
        refine br_split (fun hc => ?_) (fun hc => ?_)
        · have eA : (x.op = 4 ∨ x.op = 11 ∨ x.op = 12 ∨ x.op = 13) → a = out := fun h1 => q0 (u := .inl a) (by unfold stRest; rw [if_pos ⟨hc, h1⟩])
          have eB : x.op = 15 → conT 1 0 = out := fun h1 => q0 (u := .inl (conT 1 0)) (by unfold stRest; rw [if_neg (fun h => by have := h.2; simp only at this; omega), if_pos ⟨hc, h1⟩])
          have fin : (x.op = 4 ∨ x.op = 11 ∨ x.op = 12 ∨ x.op = 13) → TRes ok a W = TRes ok out W := fun h1 => by rw [eA h1]
          refine ⟨_, P.hb.1, ?_⟩
          refine br_dec (fun h => ?c4) (fun h4 => ?_)
          case c4 =>
            refine br_dec_true h ?_
            have e := eA (by omega)
            subst e
            refine ⟨tc a.1 sa, rfl, P.ca, ?_⟩
            exact fin5 P.r P.hB P.ext P.sa
          refine br_dec (fun h => ?c11) (fun h11 => ?_)
          case c11 =>
            refine br_dec_true h ?_
            have e := eA (by omega)
            subst e
            refine ⟨tc a.1 sa, rfl, P.ca, ?_⟩
            exact fin5 P.r P.hB P.ext P.sa
          refine br_dec (fun h => ?c12) (fun h12 => ?_)
          case c12 =>
            refine br_dec_true h ?_
            have e := eA (by omega)
            subst e
            refine ⟨tc a.1 sa, rfl, P.ca, ?_⟩
            exact fin5 P.r P.hB P.ext P.sa
          refine br_dec (fun h => ?c13) (fun h13 => ?_)
          case c13 =>
            have e := eA (by omega)
            subst e
            refine ⟨tc a.1 sa, rfl, P.ca, ?_⟩
            exact fin5 P.r P.hB P.ext P.sa
          refine br_dec (fun h => ?c15) (fun h15 => ?_)
          case c15 =>
            have e := eB h
            subst e
            refine Or.inl ((con_ret (show wOk 1 0 = true by decide) _).mono ?_)
            rintro _ w8 ⟨rfl, x8⟩
            have P8 := P.step x8
            exact fin5 (y := constL 1 0) (s := .slice none 0 0) (k := .nil) P8.r P8.hB P8.ext (nil_in _ _ _ _)
          refine hK () _ _ rfl ⟨P, fun h => by omega, fun h => by omega⟩ ?_
          ((repeat (first | (with_reducible exact Only.refl) | (with_reducible refine Only.skip ?_) | ((with_reducible refine Only.upd ?_ ?_); rfl) | ((with_reducible refine Only.over ?_ ?_ _); rfl) | ((with_reducible refine Only.hav ?_ ?_ ?_); rfl; rfl))))
        · refine hK () _ _ rfl ⟨P, fun h => (by rw [show isC b 0 = false from hc] at h; cases h.1), fun h => (by rw [show isC b 0 = false from hc] at h; cases h.1)⟩ ?_
          ((repeat (first | (with_reducible exact Only.refl) | (with_reducible refine Only.skip ?_) | ((with_reducible refine Only.upd ?_ ?_); rfl) | ((with_reducible refine Only.over ?_ ?_ _); rfl) | ((with_reducible refine Only.hav ?_ ?_ ?_); rfl; rfl))))
      obtain ⟨P3, m1, m2⟩ := hJ
      refine seq_cut (x := .seq (.region 17 _ _) _) (σ := Unit) [] 60 80 (fun _ => []) (fun _ w' => Pre2 W x s0 (mkTF [a, b]) a b sa sb ok (bxW W x s0).heap.size b3 b4 w' ∧ ¬ (cmpT a b = 0 ∧ (x.op = 8 ∨ x.op = 9)) ∧ ¬ (cmpT a b = 0 ∧ (x.op = 4 ∨ x.op = 10 ∨ x.op = 15 ∨ x.op = 16)) ∧ ¬ (cmpT a b = 0 ∧ x.op = 14)) (fun K hK => ?_) (fun _ w8 junk hJ => ?_)
      · refine ⟨tc a.1 sa, rfl, P3.ca, tc b.1 sb, rfl, P3.cb, ?_⟩
        refine Or.inl ((sameTerm_ret a b sa sb _ (P3.sa.mono fun _ _ => trivial) (P3.sb.mono fun _ _ => trivial)).mono ?_)
        rintro _ w8 ⟨rfl, x8⟩
        have P := P3.step x8
        refine br_dec (fun hc => ?_) (fun hc => ?_)
        · have eA : (x.op = 8 ∨ x.op = 9) → a = out := fun h1 => q0 (u := .inl a) (by unfold stRest; rw [if_neg m1, if_neg m2, if_pos ⟨hc, h1⟩])
          have eB : (x.op = 4 ∨ x.op = 10 ∨ x.op = 15 ∨ x.op = 16) → conT x.w 0 = out := fun h1 => q0 (u := .inl (conT x.w 0)) (by unfold stRest; rw [if_neg m1, if_neg m2, if_neg (fun h => by have := h.2; simp only at this; omega), if_pos ⟨hc, h1⟩])
          have eC : x.op = 14 → conT 1 1 = out := fun h1 => q0 (u := .inl (conT 1 1)) (by unfold stRest; rw [if_neg m1, if_neg m2, if_neg (fun h => by have := h.2; simp only at this; omega), if_neg (fun h => by have := h.2; simp only at this; omega), if_pos ⟨hc, h1⟩])
          refine ⟨_, P.hb.1, ?_⟩
          refine br_dec (fun h => ?d8) (fun h8 => ?_)
          case d8 =>
            refine br_dec_true h ?_
            have e := eA (by omega)
            subst e
            refine ⟨tc a.1 sa, rfl, P.ca, ?_⟩
            exact fin5 P.r P.hB P.ext P.sa
          refine br_dec (fun h => ?d9) (fun h9 => ?_)
          case d9 =>
            have e := eA (by omega)
            subst e
            refine ⟨tc a.1 sa, rfl, P.ca, ?_⟩
            exact fin5 P.r P.hB P.ext P.sa
          refine br_dec (fun h => ?d4) (fun h4 => ?_)
          case d4 =>
            refine br_dec_true h ?_
            have e := eB (by omega)
            subst e
            refine ⟨_, P.hb.2.1, ?_⟩
            refine Or.inl ((con_ret hz _).mono ?_)
            rintro _ w9 ⟨rfl, x9⟩
            have P9 := P.step x9
            exact fin5 (y := constL x.w 0) (s := .slice none 0 0) (k := .nil) P9.r P9.hB P9.ext (nil_in _ _ _ _)
          refine br_dec (fun h => ?d10) (fun h10 => ?_)
          case d10 =>
            refine br_dec_true h ?_
            have e := eB (by omega)
            subst e
            refine ⟨_, P.hb.2.1, ?_⟩
            refine Or.inl ((con_ret hz _).mono ?_)
            rintro _ w9 ⟨rfl, x9⟩
            have P9 := P.step x9
            exact fin5 (y := constL x.w 0) (s := .slice none 0 0) (k := .nil) P9.r P9.hB P9.ext (nil_in _ _ _ _)
          refine br_dec (fun h => ?d15) (fun h15 => ?_)
          case d15 =>
            refine br_dec_true h ?_
            have e := eB (by omega)
            subst e
            refine ⟨_, P.hb.2.1, ?_⟩
            refine Or.inl ((con_ret hz _).mono ?_)
            rintro _ w9 ⟨rfl, x9⟩
            have P9 := P.step x9
            exact fin5 (y := constL x.w 0) (s := .slice none 0 0) (k := .nil) P9.r P9.hB P9.ext (nil_in _ _ _ _)
          refine br_dec (fun h => ?d16) (fun h16 => ?_)
          case d16 =>
            have e := eB (by omega)
            subst e
            refine ⟨_, P.hb.2.1, ?_⟩
            refine Or.inl ((con_ret hz _).mono ?_)
            rintro _ w9 ⟨rfl, x9⟩
            have P9 := P.step x9
            exact fin5 (y := constL x.w 0) (s := .slice none 0 0) (k := .nil) P9.r P9.hB P9.ext (nil_in _ _ _ _)
          refine br_dec (fun h => ?d14) (fun h14 => ?_)
          case d14 =>
            have e := eC h
            subst e
            refine Or.inl ((con_ret (show wOk 1 1 = true by decide) _).mono ?_)
            rintro _ w9 ⟨rfl, x9⟩
            have P9 := P.step x9
            exact fin5 (y := constL 1 1) (s := .slice none 0 0) (k := .nil) P9.r P9.hB P9.ext (nil_in _ _ _ _)
          refine hK () _ _ rfl ⟨P, fun h => by omega, fun h => by omega, fun h => by omega⟩ ?_
          ((repeat (first | (with_reducible exact Only.refl) | (with_reducible refine Only.skip ?_) | ((with_reducible refine Only.upd ?_ ?_); rfl) | ((with_reducible refine Only.over ?_ ?_ _); rfl) | ((with_reducible refine Only.hav ?_ ?_ ?_); rfl; rfl))))
        · refine hK () _ _ rfl ⟨P, fun h => hc h.1, fun h => hc h.1, fun h => hc h.1⟩ ?_
          ((repeat (first | (with_reducible exact Only.refl) | (with_reducible refine Only.skip ?_) | ((with_reducible refine Only.upd ?_ ?_); rfl) | ((with_reducible refine Only.over ?_ ?_ _); rfl) | ((with_reducible refine Only.hav ?_ ?_ ?_); rfl; rfl))))
      obtain ⟨P4, m3, m4, m5⟩ := hJ
      have keep : ¬ (swp x.op = true ∧ x.op ≠ 14 ∧ a.1.op = 0 ∧ b.1.op = x.op ∧ (kid b.2 0).1.op = 0) → (x, mkTF [a, b]) = out := fun h => q0 (u := .inl (x, mkTF [a, b])) (by unfold stRest; rw [if_neg m1, if_neg m2, if_neg m3, if_neg m4, if_neg m5, if_neg h])
      have deep : swp x.op = true ∧ x.op ≠ 14 ∧ a.1.op = 0 ∧ b.1.op = x.op ∧ (kid b.2 0).1.op = 0 → stRest (x, mkTF [a, b]) a b = .inr (mkn x.op x.w 0, mkTF [conT x.w (bW x.op x.w a.1.n (kid b.2 0).1.n), kid b.2 1]) := fun h => by unfold stRest; rw [if_neg m1, if_neg m2, if_neg m3, if_neg m4, if_neg m5, if_pos h]
      have same : ∀ w', Pre2 W x s0 (mkTF [a, b]) a b sa sb ok (bxW W x s0).heap.size b3 b4 w' → (x, mkTF [a, b]) = out → FreeAll w' (bxW W x s0).heap.size 0 (tc x s0) ∧ ∃ vs, vs.length = 5 ∧ CellsAt (setCells w' (bxW W x s0).heap.size 0 (tc x s0)) (bxW W x s0).heap.size 0 vs ∧ TRes ok out W (.agg vs.toArray) (setCells w' (bxW W x s0).heap.size 0 (tc x s0)) := fun w' P e => by
        subst e
        exact fin5 P.r P.hB P.ext P.s
      clear m1 m2 m3 m4 m5 P2 P3
      refine seq_cut (x := .seq (.region 29 _ _) _) (σ := Value) [7] 80 132 (fun q => [q]) (fun _ w' => Pre2 W x s0 (mkTF [a, b]) a b sa sb ok (bxW W x s0).heap.size b3 b4 w' ∧ (x, mkTF [a, b]) = out) (fun K hK => ?_) (fun _ w9 junk hJ => ?_)
      rotate_left
      · obtain ⟨P, e⟩ := hJ
        refine ⟨tc x s0, rfl, P.hb, ?_⟩
        exact same _ P e
      refine ⟨_, P4.hb.1, ?_⟩
      refine Or.inl ((swapsKids_ret _ _).mono ?_)
      rintro _ _ ⟨rfl, rfl⟩
      refine br_split (fun hsw => ?_) (fun hsw => ?_)
      rotate_left
      · refine hK _ _ _ rfl ⟨P4, keep (fun h => by rw [h.1] at hsw; cases hsw)⟩ ?_
        ((repeat (first | (with_reducible exact Only.refl) | (with_reducible refine Only.skip ?_) | ((with_reducible refine Only.upd ?_ ?_); rfl) | ((with_reducible refine Only.over ?_ ?_ _); rfl) | ((with_reducible refine Only.hav ?_ ?_ ?_); rfl; rfl))))
      refine ⟨_, P4.hb.1, ?_⟩
      refine br_dec (fun h14 => ?_) (fun h14 => ?_)
      rotate_left
      · refine hK _ _ _ rfl ⟨P4, keep (fun h => h14 h.2.1)⟩ ?_
        ((repeat (first | (with_reducible exact Only.refl) | (with_reducible refine Only.skip ?_) | ((with_reducible refine Only.upd ?_ ?_); rfl) | ((with_reducible refine Only.over ?_ ?_ _); rfl) | ((with_reducible refine Only.hav ?_ ?_ ?_); rfl; rfl))))
      refine ⟨tc a.1 sa, rfl, P4.ca, ?_⟩
      refine Or.inl ((isConst_ret a.1 sa _).mono ?_)
      rintro _ w9 ⟨rfl, x9⟩
      have P := P4.step x9
      refine br_dec (fun h0 => ?_) (fun h0 => ?_)
      rotate_left
      · refine hK _ _ _ rfl ⟨P, keep (fun h => h0 h.2.2.1)⟩ ?_
        ((repeat (first | (with_reducible exact Only.refl) | (with_reducible refine Only.skip ?_) | ((with_reducible refine Only.upd ?_ ?_); rfl) | ((with_reducible refine Only.over ?_ ?_ _); rfl) | ((with_reducible refine Only.hav ?_ ?_ ?_); rfl; rfl))))
      refine ⟨_, P.cb.1, _, P.hb.1, ?_⟩
      refine br_dec (fun hop => ?_) (fun hop => ?_)
      rotate_left
      · refine hK _ _ _ rfl ⟨P, keep (fun h => hop h.2.2.2.1)⟩ ?_
        ((repeat (first | (with_reducible exact Only.refl) | (with_reducible refine Only.skip ?_) | ((with_reducible refine Only.upd ?_ ?_); rfl) | ((with_reducible refine Only.over ?_ ?_ _); rfl) | ((with_reducible refine Only.hav ?_ ?_ ?_); rfl; rfl))))
      have hsw' := of_decide_eq_true hsw
      obtain ⟨g, r, hbg, hgo, hro⟩ := ok_2 (x := b.1) (k := b.2) hb (by omega)
      rw [hbg] at keep deep
      simp only [kid0, kid1] at keep deep
      have hsbI := P.sb
      rw [hbg] at hsbI
      obtain ⟨p2, o2, c2, sg, sr, e2, hcg, hcr, hsg, hsr⟩ := kids2 hsbI
      have lb := P.cb.2.2.2.2.1
      rw [e2] at lb
      refine ⟨_, lb, ⟨by decide, by decide⟩, tc g.1 sg, rfl, hcg, ?_⟩
      refine Or.inl ((isConst_ret g.1 sg _).mono ?_)
      rintro _ w10 ⟨rfl, x10⟩
      refine br_dec (fun hg0 => ?_) (fun hg0 => ?_)
      rotate_left
      · refine hK _ _ _ rfl ⟨P.step x10, keep (fun h => hg0 h.2.2.2.2)⟩ ?_
        ((repeat (first | (with_reducible exact Only.refl) | (with_reducible refine Only.skip ?_) | ((with_reducible refine Only.upd ?_ ?_); rfl) | ((with_reducible refine Only.over ?_ ?_ _); rfl) | ((with_reducible refine Only.hav ?_ ?_ ?_); rfl; rfl))))
      have e := deep ⟨hsw, h14, h0, hop, hg0⟩
      rw [e] at hg hout
      have hg' : Keeps (x, mkTF [a, b]) (mkn x.op x.w 0, mkTF [conT x.w (bW x.op x.w a.1.n g.1.n), r]) ∧ ms (mkn x.op x.w 0, mkTF [conT x.w (bW x.op x.w a.1.n g.1.n), r]) < ms (x, mkTF [a, b]) ∧ _ := hg
      have hcw : wOk x.w (bW x.op x.w a.1.n g.1.n) = true := hg'.1.ok.2.1.1.const rfl
      subst hout
      have P10 := P.step x10
      have lb10 := x10.cell lb
      clear keep deep same q0 hg P P4 lb
      refine .inl ⟨by kernel_rfl, _, P10.hb.1, _, P10.hb.2.1, _, P10.ca.2.2.1, _, lb10, ⟨by decide, by decide⟩, _, (hcg.ext x10).2.2.1, .int .i64 (bW x.op x.w a.1.n g.1.n), fun w' _ => (impl_ApplyBinary _ _ _ _ _).mono fun v w'' h => ⟨h.1, by rw [h.2]; exact Ext.refl _⟩, ?_⟩
      intro w11 x11
      have P11 := P10.step x11
      refine .inr (.inr (hyb_rule ties mixed [(0, .quiet), (1, .quiet), (2, .quiet), (3, .quiet), (4, .quiet), (5, .quiet), (6, .quiet), (8, .quiet), (9, .quiet), (10, .quiet), (11, .quiet), (7, .loud), (12, .loud), (13, .loud), (14, .wild)] (by kernel_rfl) ?_))
      refine ⟨_, P11.hb.1, _, P11.hb.2.1, _, P11.hb.2.1, _, x11.cell lb10, ⟨by decide, by decide⟩, tc r.1 sr, rfl, (hcr.ext x10).ext x11, ?_⟩
      intro w12 x12
      refine Or.inl ((con_ret hcw _).mono ?_)
      rintro _ w13 ⟨rfl, x13⟩
      refine ⟨x13, ?_⟩
      intro w14 x14
      have P14 := ((P11.step x12).step x13).step x14
      have hsr14 := ((((hsr.ext x10).ext x11).ext x12).ext x13).ext x14
      obtain ⟨x15, hk15⟩ := mk2 (a := conT x.w (bW x.op x.w a.1.n g.1.n)) (b := r) (nil_in (bxW W x s0).heap.size W w14 ok) hsr14 P14.lt P14.ext.size
      refine ⟨x15, ?_⟩
      intro w16 x16
      have P16 := (P14.step x15).step x16
      refine Or.inl ((remake_of hR x.op x.w 0 [conT x.w (bW x.op x.w a.1.n g.1.n), r] _ (okB (bxW W x s0).heap.size W ok) w16 (by omega) hg'.1.ok (hk15.ext x16)).mono ?_)
      rintro _ w17 hres
      obtain ⟨x17, s17, rfl, hs17⟩ := res_in hres P16.lt P16.ext.size
      refine ⟨x17, ?_⟩
      intro w18 x18
      have P18 := (P16.step x17).step x18
      exact fin5' P18.r P18.hB P18.ext (hs17.ext x18)
end
end Go.Proofs.Ytekddgkgeaolnaa
namespace Go.Proofs.Ytekddgkgeaolnaa
open Go Go.Vc Go.RowKit
set_option linter.unusedVariables false
/-- What the operations of the first lines give, in whatever order. -/
def fk3 (G : Nat) (sv : Value) (p o : Nat) (la lb ld : List Value) : Nat → List Value → (Nat → Prop) → World → Prop
  | 0, vs, _, _ => vs = [.pointer (some ⟨G, 4, none⟩)]
  | 1, vs, _, _ => vs = [sv]
  | 2, vs, _, _ => vs = [.pointer (some ⟨p, o, none⟩)]
  | 3, vs, _, _ => vs = [.agg la.toArray]
  | 4, vs, _, _ => vs = [.pointer (some ⟨G, 4, none⟩)]
  | 5, vs, _, _ => vs = [sv]
  | 6, vs, _, _ => vs = [.pointer (some ⟨p, o + 5, none⟩)]
  | 7, vs, _, _ => vs = [.agg lb.toArray]
  | 8, vs, _, _ => vs = [.pointer (some ⟨G, 4, none⟩)]
  | 9, vs, _, _ => vs = [sv]
  | 10, vs, _, _ => vs = [.pointer (some ⟨p, o + 10, none⟩)]
  | 11, vs, _, _ => vs = [.agg ld.toArray]
  | 12, vs, B, w => ∃ b, vs = [.pointer (some ⟨b, 0, none⟩)] ∧ Rmy w b 5 ∧ B b
  | 13, vs, B, w => ∃ b, vs = [.pointer (some ⟨b, 0, none⟩)] ∧ Rmy w b 5 ∧ B b
  | 14, vs, B, w => ∃ b, vs = [.pointer (some ⟨b, 0, none⟩)] ∧ Rmy w b 5 ∧ B b
  | 15, vs, B, w => ∃ b, vs = [.pointer (some ⟨b, 0, none⟩)] ∧ CellsAt w b 0 la ∧ B b
  | 16, vs, B, w => ∃ b b', vs = [.pointer (some ⟨b, 0, none⟩), .pointer (some ⟨b', 0, none⟩)] ∧ CellsAt w b 0 la ∧ CellsAt w b' 0 lb ∧ B b ∧ B b'
  | 17, vs, B, w => ∃ b b' b'', vs = [.pointer (some ⟨b, 0, none⟩), .pointer (some ⟨b', 0, none⟩), .pointer (some ⟨b'', 0, none⟩)] ∧ CellsAt w b 0 la ∧ CellsAt w b' 0 lb ∧ CellsAt w b'' 0 ld ∧ B b ∧ B b' ∧ B b''
  | _, _, _, _ => False
theorem fk3_stab {w : World} (G : Nat) (sv : Value) (p o : Nat) (la lb ld : List Value) : ∀ i vs B S w1 w2, fk3 G sv p o la lb ld i vs B w1 → Chg S w1 w2 → (∀ b, B b → ¬ S b) → (∀ b, S b → w.heap.size ≤ b) → fk3 G sv p o la lb ld i vs B w2 := by
  intro i vs B S w1 w2 h hc hB _
  match i, h with
  | 0, h => exact h
  | 1, h => exact h
  | 2, h => exact h
  | 3, h => exact h
  | 4, h => exact h
  | 5, h => exact h
  | 6, h => exact h
  | 7, h => exact h
  | 8, h => exact h
  | 9, h => exact h
  | 10, h => exact h
  | 11, h => exact h
  | 12, ⟨b, h1, h2, h3⟩ => exact ⟨b, h1, hc.rmy (hB b h3) h2, h3⟩
  | 13, ⟨b, h1, h2, h3⟩ => exact ⟨b, h1, hc.rmy (hB b h3) h2, h3⟩
  | 14, ⟨b, h1, h2, h3⟩ => exact ⟨b, h1, hc.rmy (hB b h3) h2, h3⟩
  | 15, ⟨b, h1, h2, h3⟩ => exact ⟨b, h1, hc.cells (hB b h3) h2, h3⟩
  | 16, ⟨b, b', h1, h2, h3, h4, h5⟩ => exact ⟨b, b', h1, hc.cells (hB b h4) h2, hc.cells (hB b' h5) h3, h4, h5⟩
  | 17, ⟨b, b', b'', h1, h2, h3, h4, h5, h6, h7⟩ => exact ⟨b, b', b'', h1, hc.cells (hB b h5) h2, hc.cells (hB b' h6) h3, hc.cells (hB b'' h7) h4, h5, h6, h7⟩
structure Pre3 (W : World) (x : Lab) (s : Value) (k : TF) (a b d : Tm) (sa sb sd : Value) (ok : Nat → Prop) (B A A' A'' : Nat) (w : World) : Prop where
  p2 : Pre2 W x s k a b sa sb ok B A A' w
  cd : CellsAt w A'' 0 (tc d.1 sd)
  sd : TSl (okB B W ok) w sd d.2
theorem Pre3.step {W : World} {x : Lab} {s : Value} {k : TF} {a b d : Tm} {sa sb sd : Value} {ok : Nat → Prop} {B A A' A'' : Nat} {w w' : World} (h : Pre3 W x s k a b d sa sb sd ok B A A' A'' w) (e : Ext w w') : Pre3 W x s k a b d sa sb sd ok B A A' A'' w' :=
  ⟨h.p2.step e, h.cd.ext e, h.sd.ext e⟩
section
variable {n : Nat} {x : Lab} {a b d : Tm} {s : Value} {ok : Nat → Prop} {W : World}
set_option maxRecDepth 100000 in
set_option maxHeartbeats 8000000 in
theorem reduceIf_of (hR : RedS 60 n) (h : OkT (x, mkTF [a, b, d])) (ho : x.op = 17) (hm : ms (x, mkTF [a, b, d]) < n + 1) (hs : TSl ok W s (mkTF [a, b, d])) :
    Ret Try.prog 82 #[tv x s] W (TRes ok (outT (stIf (x, mkTF [a, b, d]) a b d)) W) := by
  have hg := if_good h ho
  have ha : OkT a := h.2.1
  obtain ⟨p, o, c, sa, sb, sd, hs0, hca, hcb, hcd, hsa, hsb, hsd⟩ := kids3 hs
  obtain ⟨s0, rfl⟩ : ∃ s0, s0 = s := ⟨_, rfl⟩
  have x2 : Ext W (bzW (bxW W x s0)) := (bx_ext W x s0).trans (bz_ext _)
  have hb2 := (bx_at W x s0).ext (bz_ext (bxW W x s0))
  have la_one : (tc a.1 sa).all oneB = true := tc_one hsa
  have lb_one : (tc b.1 sb).all oneB = true := tc_one hsb
  have ld_one : (tc d.1 sd).all oneB = true := tc_one hsd
  have hca2 : CellsAt (bzW (bxW W x s0)) p o (tc a.1 sa) := hca.ext x2
  have hcb2 : CellsAt (bzW (bxW W x s0)) p (o + 5) (tc b.1 sb) := hcb.ext x2
  have hcd2 : CellsAt (bzW (bxW W x s0)) p (o + 10) (tc d.1 sd) := hcd.ext x2
  obtain ⟨out, hout⟩ : ∃ out, outT (stIf (x, mkTF [a, b, d]) a b d) = out := ⟨_, rfl⟩
  rw [hout]
  have q0 : ∀ {u : St}, stIf (x, mkTF [a, b, d]) a b d = u → outT u = out := fun e => by rw [← hout, e]
  refine ret_of_vc ties mixed Try.func82 rfl (by kernel_rfl) rfl rfl ?_
  refine seq_k fun K hK => hK _ _ ?_
  refine seq_k fun K hK => ?_
  refine .inr (.inr (fork_rule ties mixed [([], [6]), ([0], [7]), ([1], [8]), ([2], [9]), ([], [10]), ([4], [11]), ([5], [12]), ([6], [13]), ([], [14]), ([8], [15]), ([9], [16]), ([10], [17]), ([], [3]), ([], [4]), ([], [5]), ([3, 12], [3]), ([7, 13, 15], [3, 4]), ([11, 14, 16], [3, 4, 5])] 17 6 18 (fk3 W.heap.size s0 p o (tc a.1 sa) (tc b.1 sb) (tc d.1 sd)) (by kernel_rfl) (fk3_stab _ s0 p o (tc a.1 sa) (tc b.1 sb) (tc d.1 sd)) ?_ ?_))
  ·
    as_aux_lemma =>
      intro i oo ho ρ' w7 x7 hs Bs hu hd
      match i, ho with
      | 0, ho =>
        have := Option.some.inj ho
        subst this
        rw [at_slot ((hs 1 (by kernel_rfl)).trans rfl : ρ' 1 = .pointer (some ⟨W.heap.size, 0, none⟩))]
        exact ⟨fun _ => False, Chg.refl _ _, rfl, fun b h => h.elim⟩
      | 1, ho =>
        have := Option.some.inj ho
        subst this
        have e1 : ρ' 6 = .pointer (some ⟨W.heap.size, 4, none⟩) := (List.cons.inj (hu 0 (by decide)).1).1
        rw [at_slot e1]
        exact ⟨_, (hb2.ext x7).2.2.2.2.1, fun _ => False, Chg.refl _ _, rfl, fun b h => h.elim⟩
      | 2, ho =>
        have := Option.some.inj ho
        subst this
        have e1 : ρ' 7 = s0 := (List.cons.inj (hu 1 (by decide)).1).1
        rw [at_slot e1, hs0]
        exact ⟨⟨by decide, by decide⟩, fun _ => False, Chg.refl _ _, rfl, fun b h => h.elim⟩
      | 3, ho =>
        have := Option.some.inj ho
        subst this
        have e1 : ρ' 8 = .pointer (some ⟨p, o, none⟩) := (List.cons.inj (hu 2 (by decide)).1).1
        rw [at_slot e1]
        exact ⟨(tc a.1 sa), rfl, hca2.ext x7, fun _ => False, Chg.refl _ _, rfl, fun b h => h.elim⟩
      | 4, ho =>
        have := Option.some.inj ho
        subst this
        rw [at_slot ((hs 1 (by kernel_rfl)).trans rfl : ρ' 1 = .pointer (some ⟨W.heap.size, 0, none⟩))]
        exact ⟨fun _ => False, Chg.refl _ _, rfl, fun b h => h.elim⟩
      | 5, ho =>
        have := Option.some.inj ho
        subst this
        have e1 : ρ' 10 = .pointer (some ⟨W.heap.size, 4, none⟩) := (List.cons.inj (hu 4 (by decide)).1).1
        rw [at_slot e1]
        exact ⟨_, (hb2.ext x7).2.2.2.2.1, fun _ => False, Chg.refl _ _, rfl, fun b h => h.elim⟩
      | 6, ho =>
        have := Option.some.inj ho
        subst this
        have e1 : ρ' 11 = s0 := (List.cons.inj (hu 5 (by decide)).1).1
        rw [at_slot e1, hs0]
        exact ⟨⟨by decide, by decide⟩, fun _ => False, Chg.refl _ _, rfl, fun b h => h.elim⟩
      | 7, ho =>
        have := Option.some.inj ho
        subst this
        have e1 : ρ' 12 = .pointer (some ⟨p, o + 5, none⟩) := (List.cons.inj (hu 6 (by decide)).1).1
        rw [at_slot e1]
        exact ⟨(tc b.1 sb), rfl, hcb2.ext x7, fun _ => False, Chg.refl _ _, rfl, fun b h => h.elim⟩
      | 8, ho =>
        have := Option.some.inj ho
        subst this
        rw [at_slot ((hs 1 (by kernel_rfl)).trans rfl : ρ' 1 = .pointer (some ⟨W.heap.size, 0, none⟩))]
        exact ⟨fun _ => False, Chg.refl _ _, rfl, fun b h => h.elim⟩
      | 9, ho =>
        have := Option.some.inj ho
        subst this
        have e1 : ρ' 14 = .pointer (some ⟨W.heap.size, 4, none⟩) := (List.cons.inj (hu 8 (by decide)).1).1
        rw [at_slot e1]
        exact ⟨_, (hb2.ext x7).2.2.2.2.1, fun _ => False, Chg.refl _ _, rfl, fun b h => h.elim⟩
      | 10, ho =>
        have := Option.some.inj ho
        subst this
        have e1 : ρ' 15 = s0 := (List.cons.inj (hu 9 (by decide)).1).1
        rw [at_slot e1, hs0]
        exact ⟨⟨by decide, by decide⟩, fun _ => False, Chg.refl _ _, rfl, fun b h => h.elim⟩
      | 11, ho =>
        have := Option.some.inj ho
        subst this
        have e1 : ρ' 16 = .pointer (some ⟨p, o + 10, none⟩) := (List.cons.inj (hu 10 (by decide)).1).1
        rw [at_slot e1]
        exact ⟨(tc d.1 sd), rfl, hcd2.ext x7, fun _ => False, Chg.refl _ _, rfl, fun b h => h.elim⟩
      | 12, ho =>
        have := Option.some.inj ho
        subst this
        exact ⟨fun b => b = w7.heap.size, Chg.alloc _ _, ⟨_, rfl, bz_rmy w7, rfl⟩, fun b h => .inr ⟨by omega, by rw [h, World.size_alloc]; omega⟩⟩
      | 13, ho =>
        have := Option.some.inj ho
        subst this
        exact ⟨fun b => b = w7.heap.size, Chg.alloc _ _, ⟨_, rfl, bz_rmy w7, rfl⟩, fun b h => .inr ⟨by omega, by rw [h, World.size_alloc]; omega⟩⟩
      | 14, ho =>
        have := Option.some.inj ho
        subst this
        exact ⟨fun b => b = w7.heap.size, Chg.alloc _ _, ⟨_, rfl, bz_rmy w7, rfl⟩, fun b h => .inr ⟨by omega, by rw [h, World.size_alloc]; omega⟩⟩
      | 15, ho =>
        have := Option.some.inj ho
        subst this
        obtain ⟨q, g1, g2, g3⟩ := (hu 12 (by decide)).1
        have e3 : ρ' 3 = .pointer (some ⟨q, 0, none⟩) := (List.cons.inj g1).1
        have e8 : ρ' 9 = .agg (tc a.1 sa).toArray := (List.cons.inj (hu 3 (by decide)).1).1
        rw [at_slot e3, at_slot (ρ := upd ρ' (some 3) (.pointer (some ⟨q, 0, none⟩))) (t := 9) (v := .agg (tc a.1 sa).toArray) e8]
        refine fk_store g2 rfl la_one fun w8 ch8 c8 => ?_
        exact ⟨fun q' => q' = q, ch8.mono fun q' _ hb' => ⟨12, by decide, by rw [hb']; exact g3⟩, ⟨q, rfl, c8, rfl⟩, fun q' hb' => .inl ⟨12, by decide, by rw [hb']; exact g3⟩⟩
      | 16, ho =>
        have := Option.some.inj ho
        subst this
        obtain ⟨q, g1, g2, g3⟩ := (hu 13 (by decide)).1
        obtain ⟨q', k1, k2, k3⟩ := (hu 15 (by decide)).1
        have e3 : ρ' 3 = .pointer (some ⟨q', 0, none⟩) := (List.cons.inj k1).1
        have e4 : ρ' 4 = .pointer (some ⟨q, 0, none⟩) := (List.cons.inj g1).1
        have e8 : ρ' 13 = .agg (tc b.1 sb).toArray := (List.cons.inj (hu 7 (by decide)).1).1
        rw [at_slot e3, at_slot (ρ := upd ρ' (some 3) (.pointer (some ⟨q', 0, none⟩))) (t := 4) (v := .pointer (some ⟨q, 0, none⟩)) e4, at_slot (ρ := upd (upd ρ' (some 3) (.pointer (some ⟨q', 0, none⟩))) (some 4) (.pointer (some ⟨q, 0, none⟩))) (t := 13) (v := .agg (tc b.1 sb).toArray) e8]
        have hne : q' ≠ q := fun e => hd 13 15 (by decide) (by decide) (by decide) q g3 (by rw [← e]; exact k3)
        refine fk_store g2 rfl lb_one fun w8 ch8 c8 => ?_
        exact ⟨fun i => i = q' ∨ i = q, ch8.mono fun i _ hi => ⟨13, by decide, by rw [hi]; exact g3⟩, ⟨q', q, rfl, ch8.cells (S := fun i => i = q) hne k2, c8, .inl rfl, .inr rfl⟩, fun i hi => .inl (hi.elim (fun e => ⟨15, by decide, by rw [e]; exact k3⟩) fun e => ⟨13, by decide, by rw [e]; exact g3⟩)⟩
      | 17, ho =>
        have := Option.some.inj ho
        subst this
        obtain ⟨q, g1, g2, g3⟩ := (hu 14 (by decide)).1
        obtain ⟨q', q2, k1, k2, k3, k4, k5⟩ := (hu 16 (by decide)).1
        have e3 : ρ' 3 = .pointer (some ⟨q', 0, none⟩) := (List.cons.inj k1).1
        have e4 : ρ' 4 = .pointer (some ⟨q2, 0, none⟩) := (List.cons.inj (List.cons.inj k1).2).1
        have e5 : ρ' 5 = .pointer (some ⟨q, 0, none⟩) := (List.cons.inj g1).1
        have e8 : ρ' 17 = .agg (tc d.1 sd).toArray := (List.cons.inj (hu 11 (by decide)).1).1
        rw [at_slot e3, at_slot (ρ := upd ρ' (some 3) (.pointer (some ⟨q', 0, none⟩))) (t := 4) (v := .pointer (some ⟨q2, 0, none⟩)) e4, at_slot (ρ := upd (upd ρ' (some 3) (.pointer (some ⟨q', 0, none⟩))) (some 4) (.pointer (some ⟨q2, 0, none⟩))) (t := 5) (v := .pointer (some ⟨q, 0, none⟩)) e5, at_slot (ρ := upd (upd (upd ρ' (some 3) (.pointer (some ⟨q', 0, none⟩))) (some 4) (.pointer (some ⟨q2, 0, none⟩))) (some 5) (.pointer (some ⟨q, 0, none⟩))) (t := 17) (v := .agg (tc d.1 sd).toArray) e8]
        have hne : q' ≠ q := fun e => hd 14 16 (by decide) (by decide) (by decide) q g3 (by rw [← e]; exact k4)
        have hne2 : q2 ≠ q := fun e => hd 14 16 (by decide) (by decide) (by decide) q g3 (by rw [← e]; exact k5)
        refine fk_store g2 rfl ld_one fun w8 ch8 c8 => ?_
        exact ⟨fun i => i = q' ∨ i = q2 ∨ i = q, ch8.mono fun i _ hi => ⟨14, by decide, by rw [hi]; exact g3⟩, ⟨q', q2, q, rfl, ch8.cells (S := fun i => i = q) hne k2, ch8.cells (S := fun i => i = q) hne2 k3, c8, .inl rfl, .inr (.inl rfl), .inr (.inr rfl)⟩, fun i hi => .inl (hi.elim (fun e => ⟨16, by decide, by rw [e]; exact k4⟩) fun hi => hi.elim (fun e => ⟨16, by decide, by rw [e]; exact k5⟩) fun e => ⟨14, by decide, by rw [e]; exact g3⟩)⟩
      | n + 18, ho => cases ho
  ·
    as_aux_lemma =>
      intro vs junk w4 BB x4 hfa hBB
      obtain ⟨b3, b4, b5, rfl, c3, c4, c5, hB3, hB4, hB5⟩ := hfa
      have P : Pre3 W x s0 (mkTF [a, b, d]) a b d sa sb sd ok (bxW W x s0).heap.size b3 b4 b5 w4 := ⟨pre2 hs hsa hsb x4 c3 c4, c5, arg_in hsd (x2.trans x4) (bx_ext W x s0).size⟩
      clear c3 c4 c5 hB3 hB4 hB5 hBB la_one lb_one ld_one hca2 hcb2 hcd2 hca hcb hcd hb2 x4
      refine hK _ _ ?_
      refine ⟨tc a.1 sa, rfl, P.p2.ca, ?_⟩
      refine Or.inl ((constIs_ret a.1 a.2 sa 1 _).mono ?_)
      rintro _ w5 ⟨rfl, x5⟩
      replace P := P.step x5
      refine br_split (fun h1 => ?_) (fun h1 => ?_)
      · have e : b = out := q0 (u := .inl b) (by unfold stIf; rw [if_pos h1])
        subst e
        refine ⟨tc b.1 sb, rfl, P.p2.cb, ?_⟩
        exact fin5 P.p2.r P.p2.hB P.p2.ext P.p2.sb
      have h1 : ¬ isC a 1 = true := fun e => by rw [show isC a 1 = false from h1] at e; cases e
      refine ⟨tc a.1 sa, rfl, P.p2.ca, ?_⟩
      refine Or.inl ((isConst_ret a.1 sa _).mono ?_)
      rintro _ w6 ⟨rfl, x6⟩
      replace P := P.step x6
      refine br_dec (fun h2 => ?_) (fun h2 => ?_)
      · have e : d = out := q0 (u := .inl d) (by unfold stIf; rw [if_neg h1, if_pos h2])
        subst e
        refine ⟨tc d.1 sd, rfl, P.cd, ?_⟩
        exact fin5 P.p2.r P.p2.hB P.p2.ext P.sd
      refine ⟨tc b.1 sb, rfl, P.p2.cb, tc d.1 sd, rfl, P.cd, ?_⟩
      refine Or.inl ((sameTerm_ret b d sb sd _ (P.p2.sb.mono fun _ _ => trivial) (P.sd.mono fun _ _ => trivial)).mono ?_)
      rintro _ w7 ⟨rfl, x7⟩
      replace P := P.step x7
      refine br_dec (fun h3 => ?_) (fun h3 => ?_)
      · have e : b = out := q0 (u := .inl b) (by unfold stIf; rw [if_neg h1, if_neg h2, if_pos h3])
        subst e
        refine ⟨tc b.1 sb, rfl, P.p2.cb, ?_⟩
        exact fin5 P.p2.r P.p2.hB P.p2.ext P.p2.sb
      refine ⟨_, P.p2.ca.1, ?_⟩
      refine br_dec (fun h4 => ?_) (fun h4 => ?_)
      · obtain ⟨g, hag, hgo⟩ := ok_1 (x := a.1) (k := a.2) ha (by omega)
        have e : stIf (x, mkTF [a, b, d]) a b d = .inr (mkn 17 x.w 0, mkTF [g, d, b]) := by unfold stIf; rw [if_neg h1, if_neg h2, if_neg h3, if_pos h4, hag, kid0]
        rw [e] at hg hout
        have hg' : Keeps (x, mkTF [a, b, d]) (mkn 17 x.w 0, mkTF [g, d, b]) ∧ ms (mkn 17 x.w 0, mkTF [g, d, b]) < ms (x, mkTF [a, b, d]) ∧ _ := hg
        subst hout
        have hsaI := P.p2.sa
        rw [hag] at hsaI
        obtain ⟨p2, o2, c2, sg, e2, hcg, hsg⟩ := kids1 hsaI
        have la := P.p2.ca.2.2.2.2.1
        rw [e2] at la
        refine .inr (.inr (hyb_rule ties mixed [(0, .quiet), (1, .quiet), (2, .quiet), (3, .quiet), (4, .quiet), (5, .quiet), (6, .quiet), (7, .quiet), (8, .loud), (9, .loud), (10, .wild)] (by kernel_rfl) ?_))
        refine ⟨_, P.p2.hb.2.1, _, la, ⟨by decide, by decide⟩, tc g.1 sg, rfl, hcg, tc d.1 sd, rfl, P.cd, tc b.1 sb, rfl, P.p2.cb, ?_⟩
        intro w8 x8
        have P8 := P.step x8
        obtain ⟨x9, hk9⟩ := mk3 (a := g) (b := d) (d := b) (hsg.ext x8) P8.sd P8.p2.sb P8.p2.lt P8.p2.ext.size
        refine ⟨x9, ?_⟩
        intro w10 x10
        have P10 := (P8.step x9).step x10
        refine Or.inl ((remake_of hR 17 x.w 0 [g, d, b] _ (okB (bxW W x s0).heap.size W ok) w10 (by omega) hg'.1.ok (hk9.ext x10)).mono ?_)
        rintro _ w11 hres
        obtain ⟨x11, s11, rfl, hs11⟩ := res_in hres P10.p2.lt P10.p2.ext.size
        refine ⟨x11, ?_⟩
        intro w12 x12
        have P12 := (P10.step x11).step x12
        exact fin5' P12.p2.r P12.p2.hB P12.p2.ext (hs11.ext x12)
      clear x2 x5 x6 x7
      have same : ∀ w', Pre3 W x s0 (mkTF [a, b, d]) a b d sa sb sd ok (bxW W x s0).heap.size b3 b4 b5 w' → (x, mkTF [a, b, d]) = out → FreeAll w' (bxW W x s0).heap.size 0 (tc x s0) ∧ ∃ vs, vs.length = 5 ∧ CellsAt (setCells w' (bxW W x s0).heap.size 0 (tc x s0)) (bxW W x s0).heap.size 0 vs ∧ TRes ok out W (.agg vs.toArray) (setCells w' (bxW W x s0).heap.size 0 (tc x s0)) := fun w' P e => by
        subst e
        exact fin5 P.p2.r P.p2.hB P.p2.ext P.p2.s
      have keep : ¬ (x.w = 1 ∧ isC b 1 = true ∧ isC d 0 = true) → ¬ (x.w = 1 ∧ isC b 0 = true ∧ isC d 1 = true) → (x, mkTF [a, b, d]) = out := fun h5 h6 => q0 (u := .inl (x, mkTF [a, b, d])) (by unfold stIf; rw [if_neg h1, if_neg h2, if_neg h3, if_neg h4, if_neg h5, if_neg h6])
      have nt : ∀ {v : Bool}, v = false → ¬ v = true := fun e h => by rw [e] at h; cases h
      refine ⟨_, P.p2.hb.2.1, ?_⟩
      refine br_dec (fun hw => ?_) (fun hw => ?_)
      rotate_left
      · refine ⟨_, P.p2.hb.2.1, ?_⟩
        refine br_dec_false hw ?_
        refine ⟨tc x s0, rfl, P.p2.hb, ?_⟩
        exact same _ P (keep (fun h => hw h.1) (fun h => hw h.1))
      refine ⟨tc b.1 sb, rfl, P.p2.cb, ?_⟩
      refine Or.inl ((constIs_ret b.1 b.2 sb 1 _).mono ?_)
      rintro _ w8 ⟨rfl, x8⟩
      replace P := P.step x8
      refine br_split (fun hb1 => ?_) (fun hb1 => ?_)
      · refine ⟨tc d.1 sd, rfl, P.cd, ?_⟩
        refine Or.inl ((constIs_ret d.1 d.2 sd 0 _).mono ?_)
        rintro _ w9 ⟨rfl, x9⟩
        replace P := P.step x9
        refine br_split (fun hd0 => ?_) (fun hd0 => ?_)
        · have e : a = out := q0 (u := .inl a) (by unfold stIf; rw [if_neg h1, if_neg h2, if_neg h3, if_neg h4, if_pos ⟨hw, hb1, hd0⟩])
          subst e
          refine ⟨tc a.1 sa, rfl, P.p2.ca, ?_⟩
          exact fin5 P.p2.r P.p2.hB P.p2.ext P.p2.sa
        · have hb0 : isC (b.1, b.2) 0 = false := by
            cases e : isC (b.1, b.2) 0 with
            | false => rfl
            | true =>
              have h5 := (isC_iff.1 e).2
              have h6 := (isC_iff.1 (show isC (b.1, b.2) 1 = true from hb1)).2
              omega
          refine ⟨_, P.p2.hb.2.1, ?_⟩
          refine br_dec_true hw ?_
          refine ⟨tc b.1 sb, rfl, P.p2.cb, ?_⟩
          refine Or.inl ((constIs_ret b.1 b.2 sb 0 _).mono ?_)
          rintro _ w10 ⟨rfl, x10⟩
          replace P := P.step x10
          refine br_false hb0 ?_
          refine ⟨tc x s0, rfl, P.p2.hb, ?_⟩
          exact same _ P (keep (fun h => nt (show isC d 0 = false from hd0) h.2.2) (fun h => nt (show isC b 0 = false from hb0) h.2.1))
      · have nb1 := nt (show isC b 1 = false from hb1)
        refine ⟨_, P.p2.hb.2.1, ?_⟩
        refine br_dec_true hw ?_
        refine ⟨tc b.1 sb, rfl, P.p2.cb, ?_⟩
        refine Or.inl ((constIs_ret b.1 b.2 sb 0 _).mono ?_)
        rintro _ w9 ⟨rfl, x9⟩
        replace P := P.step x9
        refine br_split (fun hb0 => ?_) (fun hb0 => ?_)
        rotate_left
        · refine ⟨tc x s0, rfl, P.p2.hb, ?_⟩
          exact same _ P (keep (fun h => nb1 h.2.1) (fun h => nt (show isC b 0 = false from hb0) h.2.1))
        refine ⟨tc d.1 sd, rfl, P.cd, ?_⟩
        refine Or.inl ((constIs_ret d.1 d.2 sd 1 _).mono ?_)
        rintro _ w10 ⟨rfl, x10⟩
        replace P := P.step x10
        refine br_split (fun hd1 => ?_) (fun hd1 => ?_)
        rotate_left
        · refine ⟨tc x s0, rfl, P.p2.hb, ?_⟩
          exact same _ P (keep (fun h => nb1 h.2.1) (fun h => nt (show isC d 1 = false from hd1) h.2.2))
        have e : stIf (x, mkTF [a, b, d]) a b d = .inr (mkn 1 1 0, mkTF [a]) := by unfold stIf; rw [if_neg h1, if_neg h2, if_neg h3, if_neg h4, if_neg (fun h => nb1 h.2.1), if_pos ⟨hw, hb0, hd1⟩]
        rw [e] at hg hout
        have hg' : Keeps (x, mkTF [a, b, d]) (mkn 1 1 0, mkTF [a]) ∧ ms (mkn 1 1 0, mkTF [a]) < ms (x, mkTF [a, b, d]) ∧ _ := hg
        subst hout
        refine ⟨tc a.1 sa, rfl, P.p2.ca, ?_⟩
        obtain ⟨x11, hk11⟩ := mk1 (a := a) P.p2.sa P.p2.lt P.p2.ext.size
        have P11 := P.step x11
        refine Or.inl ((remake_of hR 1 1 0 [a] _ (okB (bxW W x s0).heap.size W ok) _ (by omega) hg'.1.ok hk11).mono ?_)
        rintro _ w12 hres
        obtain ⟨x12, s12, rfl, hs12⟩ := res_in hres P11.p2.lt P11.p2.ext.size
        have P12 := P11.step x12
        exact fin5 P12.p2.r P12.p2.hB P12.p2.ext hs12
end
end Go.Proofs.Ytekddgkgeaolnaa
