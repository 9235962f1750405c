/- l02Vars of the reference: the row is one's own; VarsOf with it. -/
import Derived.Test.YtekddgkgeaolnaaEb
import Derived.Test.YtekddgkgeaolnaaEa
namespace Go.Proofs.Ytekddgkgeaolnaa
open Go Go.Vc Go.RowKit
set_option linter.unusedVariables false

/-- A row of values of one's own, in blocks from B0 on. -/
def Ow (B0 : Nat) (w : World) (s : Value) (l : List VLab) : Prop := OwnR eV noB w s l ∧ ∀ b, blk s b → B0 ≤ b ∧ b < w.heap.size
theorem Ow.ext {B0 : Nat} {W w : World} {s : Value} {l : List VLab} (h : Ow B0 W s l) (x : Ext W w) : Ow B0 w s l := ⟨h.1.ext x, fun b hb => ⟨(h.2 b hb).1, Nat.lt_of_lt_of_le (h.2 b hb).2 x.size⟩⟩
theorem Ow.sl {B0 : Nat} {w : World} {s : Value} {l : List VLab} (h : Ow B0 w s l) : SlR eV allB w s l := h.1.sl (fun _ _ => trivial) (fun _ _ => trivial)
theorem Ow.nil (B0 : Nat) (w : World) : Ow B0 w (.slice none 0 0) [] := ⟨⟨none, 0, rfl, Nat.le_refl _, Nat.zero_le _, .inl rfl⟩, fun b hb => by cases hb⟩
theorem Ow.new {B0 : Nat} {w : World} {s : Value} {l : List VLab} (h : OwnR eV noB w s l) (hl : 0 < l.length) (hb : ∀ b, blk s b → B0 ≤ b) : Ow B0 w s l := by
  refine ⟨h, fun b h' => ⟨hb b h', ?_⟩⟩
  obtain ⟨a, c, rfl, h1, h2, h3⟩ := h
  obtain ⟨B, rfl, hr, _⟩ := h3.resolve_left (by omega)
  have e : B = b := h'
  subst e
  obtain ⟨⟨u, hu⟩, _⟩ := hr 0 (by show 0 < c * 3; omega)
  exact World.block_lt_of_cell? _ _ hu
/-! l02Vars -/
def VrO (B0 : Nat) (acc ws : Vs) (W : World) (v : Value) (w' : World) : Prop := ∃ v1 b, v = .tuple #[v1, .bool b] ∧ Ext W w' ∧ (b = true ↔ consA acc ws) ∧ (b = true → Ow B0 w' v1 (vls (vput acc ws)))
def VrT (f : TF) : Prop := ∀ (B0 : Nat) (x : Lab) (s sl : Value) (acc : Vs) (W : World), B0 ≤ W.heap.size → TSl anyB W s f → OkT (x, f) → Ow B0 W sl (vls acc) → Asc acc → acc.length + (f.size + 1) ≤ 1000000 →
  Ret Try.prog 29 #[tv x s, sl] W (VrO B0 acc (varsT (x, f)) W)
set_option maxHeartbeats 4000000 in
/-- A variable. -/
theorem l02Vars_varN (B0 : Nat) (x : Lab) (s sl : Value) (acc : Vs) (W : World) (hB0 : B0 ≤ W.heap.size) (hs : TSl anyB W s .nil) (h22 : x.op = 22) (hlo : Ow B0 W sl (vls acc)) (ha : Asc acc) (hlen : acc.length < 1000000) :
    Ret Try.prog 29 #[tv x s, sl] W (VrO B0 acc [(x.name, x.w)] W) := by
  have x1 : Ext W (W.alloc (.cells (tc x s).toArray 25)) := Ext.new _ _
  have hb := boxedAll W (tc x s) 25
  have hl := hlo.sl
  obtain ⟨a, c, rfl, hlc, hcm, hat⟩ := id hl
  rw [vls_len] at hlc hat hl hlo ⊢
  have hlm : (maxLen : Int) ≤ 9223372036854775807 := by decide
  have hl0 : SlR eV allB W (.slice a (vls acc).length c) (vls acc) := by rw [vls_len]; exact hl
  have row : ∀ i (hi : i < acc.length), ∃ b o, a = some ⟨b, o, none⟩ ∧ CellsAt (W.alloc (.cells (tc x s).toArray 25)) b (o + i * 3) [.string (acc[i]'hi).1, .int .i64 (acc[i]'hi).2, .int .i64 0] := fun i hi => by
    obtain ⟨b, o, c', e, _, h⟩ := eV_at hl0 (i := i) (by rw [vls_len]; exact hi)
    cases e
    refine ⟨b, o, rfl, ?_⟩
    have : vlc ((vls acc)[i]'(by rw [vls_len]; exact hi)) = [.string (acc[i]'hi).1, .int .i64 (acc[i]'hi).2, .int .i64 0] := by simp [vls, vlc, vl0]
    rw [this] at h
    exact h.ext x1
  have hW1 : ∀ w, Ext (W.alloc (.cells (tc x s).toArray 25)) w → Ext W w := fun w h => x1.trans h
  refine ret_of_vc ties mixed Try.func29 rfl (by kernel_rfl) rfl rfl ?_
  refine ⟨_, hb.1, ?_⟩
  refine br_dec_true h22 ?_
  refine loop_rule (σ := Nat) [6] 15 31 (fun q => [.int .i64 q])
    (fun q w' => Ext (W.alloc (.cells (tc x s).toArray 25)) w' ∧ q ≤ acc.length ∧ ∀ j (h : j < acc.length), j < q → less (acc[j]'h).1 x.name = true)
    (fun q => acc.length - q) 0 rfl ⟨Ext.refl _, Nat.zero_le _, fun _ _ h => absurd h (Nat.not_lt_zero _)⟩ ?_
  rintro i w2 junk ⟨x2, hi, hall⟩ K hK
  show vc _ _ _ _ (over [6] [.int .i64 i] _) _
  have hb2 := hb.ext x2
  refine .inl ⟨by kernel_rfl, ?_⟩
  by_cases hlt : (i : Int) < acc.length
  case' pos =>
    have hlt' : i < acc.length := by omega
    obtain ⟨b, o, rfl, hrow⟩ := row i hlt'
    have ei : o + (i : Int).toNat * 3 = o + i * 3 := by omega
    repeat refine br_dec_true hlt ?_
    refine ⟨⟨by omega, by omega⟩, ?_⟩
    repeat refine br_dec_true hlt ?_
    refine ⟨_, by rw [ei]; exact x2.cell hrow.1, ?_⟩
    repeat refine br_dec_true hlt ?_
    refine ⟨_, hb2.2.2.2.1, ?_⟩
    repeat refine br_dec_true hlt ?_
    intro w3 x3
    refine br_split (fun hb => ?stp) (fun hb => ?ou2)
  case stp =>
    refine ⟨_, IntWalk.i64_in _ (by omega), ?_⟩
    refine hK (i + 1) _ _ (vs1 (vint (by show (i : Int) + 1 = ((i + 1 : Nat) : Int); omega))) ⟨x2.trans x3, by omega, fun j hj hji => ?_⟩ (by omega) ?_
    · by_cases e : j = i
      · subst e; exact hb
      · exact hall j hj (by omega)
    · ((repeat (first | (with_reducible exact Only.refl) | (with_reducible refine Only.skip ?_) | ((with_reducible refine Only.upd ?_ ?_); rfl) | ((with_reducible refine Only.over ?_ ?_ _); rfl) | ((with_reducible refine Only.hav ?_ ?_ ?_); rfl; rfl))))
  case' ou2 =>
    have hb3 := hb2.ext x3
    have hno : less (acc[i]'hlt').1 x.name = false := hb
    refine .inl ⟨by kernel_rfl, ?_⟩
    repeat refine br_dec_true hlt ?_
    refine ⟨⟨by omega, by omega⟩, ?_⟩
    repeat refine br_dec_true hlt ?_
    refine ⟨_, by rw [ei]; exact (x2.trans x3).cell hrow.1, ?_⟩
    repeat refine br_dec_true hlt ?_
    refine ⟨_, hb3.2.2.2.1, ?_⟩
    repeat refine br_dec_true hlt ?_
    intro w4 x4
    refine br_dec (fun he => ?eqq) (fun he => ?new)
  case eqq =>
    have hh := insV_here (w := x.w) acc i hall hlt' he
    refine .inl ⟨by kernel_rfl, ⟨by omega, by omega⟩, _, by rw [ei]; exact ((x2.trans x3).trans x4).cell hrow.2.1, _, (hb3.ext x4).2.1, ?_⟩
    intro w5 x5
    refine ⟨_, _, rfl, hW1 _ (((x2.trans x3).trans x4).trans x5), ?_, fun hd => ?_⟩
    · simp only [consA, hh.2, Option.some.injEq, and_true, decide_eq_true_eq, forall_eq']
    · show Ow B0 w5 _ (vls (insV x.name x.w acc))
      rw [hh.1]
      exact hlo.ext (hW1 _ (((x2.trans x3).trans x4).trans x5))
  case' neg =>
    repeat refine br_dec_false hlt ?_
    intro w3 x3
    have hb3 := hb2.ext x3
    refine .inl ⟨by kernel_rfl, ?_⟩
    repeat refine br_dec_false hlt ?_
    intro w4 x4
    have hnew : ∀ h : i < acc.length, less (acc[i]'h).1 x.name = false ∧ (acc[i]'h).1 ≠ x.name := fun h => absurd (Int.ofNat_lt.2 h) hlt
  case' new =>
    have hnew : ∀ h : i < acc.length, less (acc[i]'h).1 x.name = false ∧ (acc[i]'h).1 ≠ x.name := fun h => ⟨hno, he⟩
  all_goals
    have hin := insV_new (w := x.w) acc i ha hi hall hnew
    have x24 := (x2.trans x3).trans x4
    have x04 := hW1 _ x24
    have hb4 := hb3.ext x4
    have hl4 := hl.ext x04
    have hvl := vls_len acc
    have hlt0 : (vls acc).length < 1000000 := by omega
    have htk : ((vls acc).take i).length ≤ (vls acc).length := by rw [List.length_take]; omega
    have hdr : ((vls acc).drop i).length ≤ (vls acc).length := by rw [List.length_drop]; omega
    have hil : i ≤ (vls acc).length := by omega
    clear hat hall row hnew
    refine ⟨⟨by decide, by omega, by omega⟩, ?_⟩
    refine raw_append (E := eV) (ok := noB) (l := []) (k := (vls acc).take i) ties rfl rfl rfl rfl rfl rfl rfl rfl rfl rfl (OwnR.nil _ _ _ _) noB_blk (arg_no (sl_lo (m := 3) (hl4.ext (Ext.new _ _)) hil)) (by show (0 + _) * 32 ≤ _; omega) (by show 0 + _ ≤ _; omega) ?_
    intro v5 w5 hv5 ch5 bl5
    have hv5b : ∀ b, blk v5 b → w4.heap.size ≤ b := fun b hb => by
      rcases bl5 b hb with e | e
      · exact Nat.le_of_eq e
      · exact Nat.le_trans (by simp) e.1
    have x45 : Ext w4 w5 := (Ext.new w4 (.cells #[] 47)).chg ch5 (fun b hb => Nat.le_of_eq hb)
    clear bl5 ch5
    have hb5 := hb4.ext x45
    refine ⟨_, hb5.2.2.2.1, _, hb5.2.1, ?_⟩
    refine raw_push (E := eV) (ok := noB) (x := vl0 (x.name, x.w)) (cs := vlc (vl0 (x.name, x.w))) ties rfl rfl rfl rfl rfl rfl rfl rfl rfl rfl rfl hv5 rfl noB_blk (by rw [List.nil_append]; show (_ + 1) * 32 ≤ _; omega) (by rw [List.nil_append]; omega) ?_
    intro v6 w6 hv6 ch6 sz6 bl6
    have hv6b : ∀ b, blk v6 b → w4.heap.size ≤ b := fun b hb => by
      rcases bl6 b hb with e | e
      · exact hv5b b e
      · have := x45.size; omega
    have x46 : Ext w4 w6 := x45.chg ch6 hv5b
    clear bl6 ch6 sz6
    have hl6 := hl4.ext x46
    refine ⟨⟨by omega, by omega, by omega⟩, ?_⟩
    refine raw_append (E := eV) (ok := noB) (l := [] ++ (vls acc).take i ++ [vl0 (x.name, x.w)]) (k := (vls acc).drop i) ties rfl rfl rfl rfl rfl rfl rfl rfl rfl rfl hv6 noB_blk (arg_no (sl_hi (m := 3) rfl hl6 hil)) (by rw [List.length_append, List.nil_append, List.length_singleton]; show (_ + 1 + _) * 32 ≤ _; omega) (by rw [List.length_append, List.nil_append, List.length_singleton]; omega) ?_
    intro v7 w7 hv7 ch7 bl7
    have x47 : Ext w4 w7 := x46.chg ch7 hv6b
    refine ⟨_, _, rfl, x04.trans x47, ?_, fun _ => ?_⟩
    · refine ⟨fun _ => ⟨fun n hn => ?_, trivial⟩, fun _ => rfl⟩
      rw [hin.2] at hn; cases hn
    · show Ow B0 w7 v7 (vls (insV x.name x.w acc))
      rw [hin.1, vls_app, vls_app, vls_take, vls_drop]
      exact Ow.new hv7 (by rw [List.length_append, List.length_append]; show 0 < _ + 1 + _; omega) (fun b hb => by
        have h0 := x04.size
        have h1 := x46.size
        rcases bl7 b hb with e | e
        · have := hv6b b e; omega
        · omega)

set_option maxHeartbeats 4000000 in
theorem l02Vars_allN : ∀ (n : Nat) (f : TF), f.size < n → VrT f := by
  intro n
  induction n with
  | zero => intro f hf; omega
  | succ n ih =>
    intro f hf B0 x s sl acc W hB0 hs hok hl ha hlen
    by_cases h22 : x.op = 22
    · have := ok_nil hok (.inr h22)
      subst this
      have := l02Vars_varN B0 x s sl acc W hB0 hs h22 hl ha (by simp [Fo.size] at hlen; omega)
      rwa [varsT_eq, if_pos h22]
    have hvT : varsT (x, f) = varsF f := by rw [varsT_eq, if_neg h22]; rfl
    rw [hvT]
    obtain ⟨a, c, rfl, hlc, hat⟩ := id hs
    have hlm : (maxLen : Int) ≤ 9223372036854775807 := by decide
    have x1 : Ext W (W.alloc (.cells (tc x (.slice a f.len c)).toArray 25)) := Ext.new _ _
    have hb := boxedAll W (tc x (.slice a f.len c)) 25
    have hOkF : OkF f := hok.2
    refine ret_of_vc ties mixed Try.func29 rfl (by kernel_rfl) rfl rfl ?_
    refine ⟨_, hb.1, ?_⟩
    refine br_dec_false h22 ?_
    refine ⟨_, hb.2.2.2.2.1, ?_⟩
    refine loop_rule (σ := Nat × TF × TF × Value × Value × Value × Value) [75, 1, 9, 10, 11] 76 89 (fun q => [.int .i64 q.1, q.2.2.2.1, q.2.2.2.2.1, q.2.2.2.2.2.1, q.2.2.2.2.2.2])
      (fun q w' => Ext W w' ∧ q.1 + q.2.2.1.len = f.len ∧ q.2.1.app q.2.2.1 = f ∧ q.2.2.1.size ≤ f.size ∧ OkF q.2.2.1 ∧ consA acc (varsF q.2.1) ∧ Ow B0 w' q.2.2.2.1 (vls (vput acc (varsF q.2.1))) ∧ (q.2.2.1.len = 0 ∨ ∃ b o, a = some ⟨b, o, none⟩ ∧ TAt anyB W q.2.2.1 b (o + q.1 * 5)))
      (fun q => q.2.2.1.len) (0, .nil, f, sl, undef, undef, undef) rfl ⟨x1, by simp, rfl, Nat.le_refl _, hOkF, trivial, hl.ext x1, ?_⟩ ?_
    · rcases hat with hat | ⟨b, o, ha, _, hat⟩
      · exact .inl hat
      · exact .inr ⟨b, o, ha, by simpa using hat⟩
    rintro ⟨i, d, g, sl', j9, j10, j11⟩ w junk ⟨hx, hi, happ, hg, hokg, hcd, hsl, hga⟩ K hK
    simp only at hi happ hg hokg hcd hsl hga
    show vc _ _ _ _ (over [75, 1, 9, 10, 11] [.int .i64 i, sl', j9, j10, j11] _) _
    refine br_dec (fun h => ?_) (fun h => ?_)
    · match g with
      | .nil => simp only [Fo.len] at hi; omega
      | .cons x' kk r =>
        obtain ⟨b, o, rfl, hga'⟩ := hga.resolve_left (by simp [Fo.len])
        obtain ⟨⟨s', hc, hs'⟩, hr⟩ := hga'.sl
        have hsz : d.size + (kk.size + r.size + 1) = f.size := by rw [← happ, Fo.size_app]; rfl
        have hvl := vput_len (varsF d) acc
        have hvd := varsF_len d
        simp only [Fo.len] at hi
        have ei : o + (i : Int).toNat * 5 = o + i * 5 := by omega
        obtain ⟨f4, c4, x4⟩ := keep5 (W := w) (x := x') (s := s') (tc_one hs')
        refine ⟨⟨by omega, by omega⟩, tc x' s', rfl, by rw [ei]; exact hc.ext hx, f4, tc x' s', rfl, c4, ?_⟩
        have x04 := hx.trans x4
        refine Or.inl ((ih kk (by omega) B0 x' s' sl' _ _ (Nat.le_trans hB0 x04.size) (hs'.ext x04) hokg.1 (hsl.ext x4) (vput_asc _ _ ha) (by omega)).mono ?_)
        rintro _ w5 ⟨v1, bb, rfl, x5, hiff, hv⟩
        have hsplit : consA acc (varsF f) ↔ consA acc (varsF (d.app (.cons x' kk .nil))) ∧ consA (vput acc (varsF (d.app (.cons x' kk .nil)))) (varsF r) := by
          rw [← consA_app, ← varsF_app, Fo.app_assoc]
          show _ ↔ consA acc (varsF (d.app (.cons x' kk r)))
          rw [happ]
        have hone : consA acc (varsF (d.app (.cons x' kk .nil))) ↔ consA (vput acc (varsF d)) (varsT (x', kk)) := by
          rw [varsF_app, consA_app]
          exact ⟨fun h => h.2, fun h => ⟨hcd, h⟩⟩
        refine br_not (fun h' => ?_) (fun h' => ?_)
        · refine ⟨_, _, rfl, x04.trans x5, ?_, fun e => by cases e⟩
          refine ⟨fun e => (by cases e), fun e => ?_⟩
          have := hiff.2 (hone.1 (hsplit.1 e).1)
          rw [h'] at this; cases this
        · refine ⟨_, IntWalk.i64_in _ (by omega), ?_⟩
          refine hK (i + 1, d.app (.cons x' kk .nil), r, v1, _, _, _) _ _ (by rw [show ((i : Int) + 1) = ((i + 1 : Nat) : Int) from by omega]; rfl) ⟨x04.trans x5, by show i + 1 + r.len = f.len; omega, by show (d.app (.cons x' kk .nil)).app r = f; rw [Fo.app_assoc]; exact happ, by show r.size ≤ f.size; omega, hokg.2, hone.2 (hiff.1 h'), ?_, .inr ⟨b, o, rfl, ?_⟩⟩ (by show r.len < r.len + 1; omega) ?_
          · show Ow B0 w5 v1 (vls (vput acc (varsF (d.app (.cons x' kk .nil)))))
            rw [varsF_app, vput_app]
            exact hv h'
          · show TAt _ W r b (o + (i + 1) * 5)
            rw [show o + (i + 1) * 5 = o + i * 5 + 5 from by omega]
            exact hr
          · ((repeat (first | (with_reducible exact Only.refl) | (with_reducible refine Only.skip ?_) | ((with_reducible refine Only.upd ?_ ?_); rfl) | ((with_reducible refine Only.over ?_ ?_ _); rfl) | ((with_reducible refine Only.hav ?_ ?_ ?_); rfl; rfl))))
    · have := Fo.len_zero (f := g) (by omega)
      subst this
      rw [Fo.app_nil] at happ
      subst happ
      exact ⟨_, _, rfl, hx, ⟨fun _ => hcd, fun _ => rfl⟩, fun _ => hsl⟩

theorem spec_VarsOf_new (x : Lab) (k : TF) (s : Value) (W : World) (hs : TSl anyB W s k) (hx : okL x) (hp : k.All okL) :
    Ret Try.prog 13 #[tv x s] W (fun v w' => Ext W w' ∧ Ow W.heap.size w' v (vls (varsP x k))) := by
  have x1 := bx_ext W x s
  have hb := bx_at W x s
  have hok := fun w (xw : Ext W w) => spec_TermOk x k s w (hs.ext xw) hx hp
  obtain ⟨a, c, rfl, hl, hat⟩ := id hs
  by_cases ht : TOk x k
  · simp only [decide_eq_true ht] at hok
    rw [varsP_yes ht]
    have hcons : Cons (varsT (x, k)) := ((TOk_iff x k).1 ht).2.2
    have hv := fun w (xw : Ext W w) => l02Vars_allN _ k (Nat.lt_succ_self _) W.heap.size x _ (.slice none 0 0) [] w xw.size (hs.ext xw) (tok_okT ht) (Ow.nil _ w) trivial (by have := ht.1; simp only [List.length_nil]; omega)
    refine ret_of_vc ties mixed Try.func13 rfl (by kernel_rfl) rfl rfl ?_
    refine ⟨tc x _, rfl, hb, ?_⟩
    refine Or.inl ((hok _ x1).mono ?_)
    rintro _ w2 ⟨rfl, x2⟩
    refine ⟨tc x _, rfl, hb.ext x2, ?_⟩
    refine Or.inl ((hv w2 (x1.trans x2)).mono ?_)
    rintro _ w3 ⟨v1, b, rfl, x3, hb1, hb2⟩
    exact ⟨x1.trans (x2.trans x3), hb2 (hb1.2 ((consA_nil _).2 hcons))⟩
  · simp only [decide_eq_false ht] at hok
    rw [varsP_no ht]
    refine ret_of_vc ties mixed Try.func13 rfl (by kernel_rfl) rfl rfl ?_
    refine ⟨tc x _, rfl, hb, ?_⟩
    refine Or.inl ((hok _ x1).mono ?_)
    rintro _ w2 ⟨rfl, x2⟩
    exact ⟨x1.trans x2, Ow.nil _ _⟩
end Go.Proofs.Ytekddgkgeaolnaa
