/- TermOk of the reference: the check of nodes. -/
import Derived.Test.YtkoaicjcanplaaaQp
namespace Go.Proofs.Ytkoaicjcanplaaa
open Go Go.Vc Go.RowKit
set_option linter.unusedVariables false

noncomputable instance (f : TF) : Decidable (OkF f) := Classical.propDecidable _
theorem node_iff {x : Lab} {k : TF} (hw : 1 ≤ x.w ∧ x.w ≤ 16) (hn : x.op ≠ 22 → x.name = ByteArray.empty) (hm : x.op ≠ 0 → x.op ≠ 19 → x.n = 0) (hk : OkF k) :
    (NodeOk x (hdF k) ∧ OkF k) ↔ ((k.len : Int) = kc x.op ∧ fit x (hdF k) = true ∧ (x.op = 0 → wOk x.w x.n = true) ∧ (x.op = 22 → isNm x.name = true)) := by
  constructor
  · rintro ⟨h, _⟩
    exact ⟨by rw [← h.count, hdF_len], h.fits, h.const, h.name⟩
  · rintro ⟨h1, h2, h3, h4⟩
    refine ⟨⟨hw, by rw [hdF_len]; exact h1, fun y hy => ?_, h2, h3, hm, hn, h4⟩, hk⟩
    rw [hdF_tms] at hy
    obtain ⟨t, ht, rfl⟩ := List.mem_map.1 hy
    exact (OkF_mem hk t ht).1.width
theorem kw_out {k : TF} {i : Nat} (h : k.len ≤ i) : kw (hdF k) i = 0 := by
  rw [kw, List.getD_eq_getElem?_getD, List.getElem?_eq_none (by rw [hdF_len]; exact h)]; rfl
def fil (k : TF) (i j : Nat) : Int := if j < i then kw (hdF k) j else 0
theorem fil_end {k : TF} {i : Nat} (h : k.len ≤ i ∨ 3 ≤ i) : ∀ j, j < 3 → fil k i j = kw (hdF k) j := fun j hj => by
  unfold fil
  split
  · rfl
  · exact (kw_out (by omega)).symm
section
variable {x : Lab} {k : TF}
theorem cls0 (h : (NodeOk x (hdF k) ∧ OkF k) ↔ ((k.len : Int) = kc x.op ∧ fit x (hdF k) = true ∧ (x.op = 0 → wOk x.w x.n = true) ∧ (x.op = 22 → isNm x.name = true))) (ho : x.op = 0) : (NodeOk x (hdF k) ∧ OkF k) ↔ ((k.len : Int) = 0 ∧ wOk x.w x.n = true) := by
  rw [h, kc0 (.inl ho), show fit x (hdF k) = true from by unfold fit; rw [if_pos (.inl ho)]]
  exact ⟨fun ⟨a, _, b, _⟩ => ⟨a, b ho⟩, fun ⟨a, b⟩ => ⟨a, rfl, fun _ => b, fun e => by omega⟩⟩
theorem cls22 (h : (NodeOk x (hdF k) ∧ OkF k) ↔ ((k.len : Int) = kc x.op ∧ fit x (hdF k) = true ∧ (x.op = 0 → wOk x.w x.n = true) ∧ (x.op = 22 → isNm x.name = true))) (ho : x.op = 22) : (NodeOk x (hdF k) ∧ OkF k) ↔ ((k.len : Int) = 0 ∧ isNm x.name = true) := by
  rw [h, kc0 (.inr ho), show fit x (hdF k) = true from by unfold fit; rw [if_pos (.inr ho)]]
  exact ⟨fun ⟨a, _, _, b⟩ => ⟨a, b ho⟩, fun ⟨a, b⟩ => ⟨a, rfl, fun e => by omega, fun _ => b⟩⟩
theorem clsF {c : Int} {P : Prop} (h : (NodeOk x (hdF k) ∧ OkF k) ↔ ((k.len : Int) = kc x.op ∧ fit x (hdF k) = true ∧ (x.op = 0 → wOk x.w x.n = true) ∧ (x.op = 22 → isNm x.name = true))) (h0 : x.op ≠ 0) (h22 : x.op ≠ 22) (hc : kc x.op = c) (hf : fit x (hdF k) = true ↔ P) : (NodeOk x (hdF k) ∧ OkF k) ↔ ((k.len : Int) = c ∧ P) := by
  rw [h, hc, hf]
  exact ⟨fun ⟨a, b, _, _⟩ => ⟨a, b⟩, fun ⟨a, b⟩ => ⟨a, b, fun e => absurd e h0, fun e => absurd e h22⟩⟩
theorem fitU {l : List Lab} (ho : x.op = 1 ∨ x.op = 2) : fit x l = true ↔ kw l 0 = x.w := by
  unfold fit; rw [if_neg (by omega), if_pos ho]; exact decide_eq_true_iff
theorem fitA {l : List Lab} (ho : 3 ≤ x.op ∧ x.op ≤ 13) : fit x l = true ↔ kw l 0 = x.w ∧ kw l 1 = x.w := by
  unfold fit; rw [if_neg (by omega), if_neg (by omega), if_pos ho]; exact decide_eq_true_iff
theorem fitC {l : List Lab} (ho : 14 ≤ x.op ∧ x.op ≤ 16) : fit x l = true ↔ kw l 0 = kw l 1 ∧ x.w = 1 := by
  unfold fit; rw [if_neg (by omega), if_neg (by omega), if_neg (by omega), if_pos ho]; exact decide_eq_true_iff
theorem fitI {l : List Lab} (ho : x.op = 17) : fit x l = true ↔ kw l 0 = 1 ∧ kw l 1 = x.w ∧ kw l 2 = x.w := by
  unfold fit; rw [if_neg (by omega), if_neg (by omega), if_neg (by omega), if_neg (by omega), if_pos ho]; exact decide_eq_true_iff
theorem fitJ {l : List Lab} (ho : x.op = 18) : fit x l = true ↔ kw l 0 + kw l 1 = x.w := by
  unfold fit; rw [if_neg (by omega), if_neg (by omega), if_neg (by omega), if_neg (by omega), if_neg (by omega), if_pos ho]; exact decide_eq_true_iff
theorem fitT {l : List Lab} (ho : x.op = 19) : fit x l = true ↔ 0 ≤ x.n ∧ x.n ≤ kw l 0 - x.w := by
  unfold fit; rw [if_neg (by omega), if_neg (by omega), if_neg (by omega), if_neg (by omega), if_neg (by omega), if_neg (by omega), if_pos ho]; exact decide_eq_true_iff
theorem fitW {l : List Lab} (ho : x.op = 20 ∨ x.op = 21) : fit x l = true ↔ kw l 0 ≤ x.w := by
  unfold fit; rw [if_neg (by omega), if_neg (by omega), if_neg (by omega), if_neg (by omega), if_neg (by omega), if_neg (by omega), if_neg (by omega)]; exact decide_eq_true_iff
theorem clsX (h : (NodeOk x (hdF k) ∧ OkF k) ↔ ((k.len : Int) = kc x.op ∧ fit x (hdF k) = true ∧ (x.op = 0 → wOk x.w x.n = true) ∧ (x.op = 22 → isNm x.name = true))) (ho : x.op < 0 ∨ 22 < x.op) : ¬ (NodeOk x (hdF k) ∧ OkF k) := fun hh => by
  have := hh.1.op
  omega
end
/-- A test after which nothing is asked. -/
theorem dbool {p q : Prop} {inst : Decidable p} {inst' : Decidable q} (h : p ↔ q) : Value.bool (@decide q inst') = Value.bool (@decide p inst) := vbool (decide_eq_decide.2 h.symm)
def NdR (f : TF) : Prop := ∀ (x : Lab) (s : Value) (W : World), TSl anyB W s f → okL x → f.All okL →
    Ret Try.prog 66 #[tv x s] W (fun v w' => v = .bool (decide (NodeOk x (hdF f) ∧ OkF f)) ∧ Ext W w')
set_option maxHeartbeats 8000000 in
theorem l02Node_all : ∀ (n : Nat) (k : TF), k.size < n → NdR k := by
  intro n
  induction n with
  | zero => intro k hk; omega
  | succ n ih =>
    intro k hkn x s W hs hx hp
    obtain ⟨a, c, rfl, hl, hat⟩ := id hs
    have hlm : (maxLen : Int) ≤ 9223372036854775807 := by decide
    have x1 : Ext W (W.alloc (.cells (tc x (.slice a k.len c)).toArray 25)) := Ext.new _ _
    have hb := boxedAll W (tc x (.slice a k.len c)) 25
    refine ret_of_vc ties mixed Try.func66 rfl (by kernel_rfl) rfl rfl ?_
    refine seq_k fun K hK => hK _ _ ?_
    refine seq_k fun K hK => ?_
    refine ⟨_, hb.2.2.2.2.1, ?_⟩
    refine hK _ _ ?_
    refine seq_cut (x := .seq (.region 2 _ _) _) (σ := Unit) [] 11 40 (fun _ => []) (fun _ w' => Ext W w' ∧ CellsAt w' W.heap.size 0 (tc x (.slice a k.len c)) ∧ (1 ≤ x.w ∧ x.w ≤ 16) ∧ (x.op ≠ 22 → x.name = ByteArray.empty) ∧ (x.op ≠ 0 → x.op ≠ 19 → x.n = 0)) (fun K hK => ?_) (fun _ w2 junk hJ => ?_)
    · refine ⟨_, hb.2.1, ?_⟩
      refine Or.inl ((l01In_ret _ _ _ _).mono ?_)
      rintro _ _ ⟨rfl, rfl⟩
      refine br_not (fun h => ?_) (fun hw => ?_)
      · exact ⟨vbool (decide_eq_false (fun h' => inR_not.1 h h'.1.width)).symm, x1⟩
      have hw := inR_iff.1 hw
      refine ⟨_, hb.2.2.2.1, ?_⟩
      refine br_dec (fun hn => ?_) (fun hn => ?_)
      · refine ⟨_, hb.1, ?_⟩
        refine br_dec (fun h22 => ?_) (fun h22 => ?_)
        · exact ⟨vbool (decide_eq_false (fun h' => hn (h'.1.noname h22))).symm, x1⟩
        · have h22 := Classical.not_not.1 h22
          refine ⟨_, hb.2.2.1, ?_⟩
          refine br_dec (fun hm => ?_) (fun hm => ?_)
          · refine ⟨_, hb.1, ?_⟩
            refine br_dec_true (by omega) ?_
            refine ⟨_, hb.1, ?_⟩
            refine br_dec_true (by omega) ?_
            exact ⟨vbool (decide_eq_false (fun h' => hm (h'.1.num (by omega) (by omega)))).symm, x1⟩
          · refine hK () _ _ rfl ⟨x1, hb, hw, fun h => absurd h22 h, fun _ _ => Classical.not_not.1 hm⟩ ?_
            ((repeat (first | (with_reducible exact Only.refl) | (with_reducible refine Only.skip ?_) | ((with_reducible refine Only.upd ?_ ?_); rfl) | ((with_reducible refine Only.over ?_ ?_ _); rfl) | ((with_reducible refine Only.hav ?_ ?_ ?_); rfl; rfl))))
      · have hn := Classical.not_not.1 hn
        refine ⟨_, hb.2.2.1, ?_⟩
        refine br_dec (fun hm => ?_) (fun hm => ?_)
        · refine ⟨_, hb.1, ?_⟩
          refine br_dec (fun h0 => ?_) (fun h0 => ?_)
          · refine ⟨_, hb.1, ?_⟩
            refine br_dec (fun h19 => ?_) (fun h19 => ?_)
            · exact ⟨vbool (decide_eq_false (fun h' => hm (h'.1.num h0 h19))).symm, x1⟩
            · refine hK () _ _ rfl ⟨x1, hb, hw, fun _ => hn, fun _ h => absurd h h19⟩ ?_
              ((repeat (first | (with_reducible exact Only.refl) | (with_reducible refine Only.skip ?_) | ((with_reducible refine Only.upd ?_ ?_); rfl) | ((with_reducible refine Only.over ?_ ?_ _); rfl) | ((with_reducible refine Only.hav ?_ ?_ ?_); rfl; rfl))))
          · refine hK () _ _ rfl ⟨x1, hb, hw, fun _ => hn, fun h => absurd h h0⟩ ?_
            ((repeat (first | (with_reducible exact Only.refl) | (with_reducible refine Only.skip ?_) | ((with_reducible refine Only.upd ?_ ?_); rfl) | ((with_reducible refine Only.over ?_ ?_ _); rfl) | ((with_reducible refine Only.hav ?_ ?_ ?_); rfl; rfl))))
        · refine hK () _ _ rfl ⟨x1, hb, hw, fun _ => hn, fun _ _ => Classical.not_not.1 hm⟩ ?_
          ((repeat (first | (with_reducible exact Only.refl) | (with_reducible refine Only.skip ?_) | ((with_reducible refine Only.upd ?_ ?_); rfl) | ((with_reducible refine Only.over ?_ ?_ _); rfl) | ((with_reducible refine Only.hav ?_ ?_ ?_); rfl; rfl))))
    obtain ⟨x2, hb2, hw, hnm, hnum⟩ := hJ
    refine ⟨_, hb2.2.2.2.2.1, ?_⟩
    refine loop_rule (σ := Nat × TF × TF × Value) [43, 5] 44 51 (fun q => [.int .i64 q.1, q.2.2.2])
      (fun q w' => Ext w2 w' ∧ q.1 + q.2.2.1.len = k.len ∧ q.2.1.app q.2.2.1 = k ∧ OkF q.2.1 ∧ q.2.2.1.All okL ∧ q.2.2.1.size ≤ k.size ∧ (q.2.2.1.len = 0 ∨ ∃ b o, a = some ⟨b, o, none⟩ ∧ TAt anyB W q.2.2.1 b (o + q.1 * 5)))
      (fun q => q.2.2.1.len) (0, .nil, k, undef) rfl ⟨Ext.refl _, by simp, rfl, trivial, hp, Nat.le_refl _, ?_⟩ ?_
    · rcases hat with hat | ⟨b, o, ha, _, hat⟩
      · exact .inl hat
      · exact .inr ⟨b, o, ha, by simpa using hat⟩
    rintro ⟨i, d, g, j5⟩ w3 junk' ⟨x3, hi, happ, hok, hpg, hg, hga⟩ K hK
    simp only at hi happ hok hpg hg hga
    show vc _ _ _ _ (over [43, 5] [.int .i64 i, j5] _) _
    refine br_dec (fun h => ?_) (fun h => ?_)
    · match g with
      | .nil => simp only [Fo.len] at hi; omega
      | .cons x' kk r =>
        obtain ⟨b, o, rfl, hga'⟩ := hga.resolve_left (by simp [Fo.len])
        obtain ⟨⟨s', hc, hs'⟩, hr⟩ := hga'.sl
        obtain ⟨hpx, hpk, hpr⟩ := hpg
        simp only [Fo.len, Fo.size] at hi hg
        have ei : o + (i : Int).toNat * 5 = o + i * 5 := by omega
        have x03 := x2.trans x3
        obtain ⟨f4, c4, x4⟩ := keep5 (W := w3) (x := x') (s := s') (tc_one hs')
        refine ⟨⟨by omega, by omega⟩, tc x' s', rfl, by rw [ei]; exact hc.ext x03, f4, tc x' s', rfl, c4, ?_⟩
        have x04 := x03.trans x4
        refine Or.inl ((ih kk (by omega) x' s' _ (hs'.ext x04) hpx hpk).mono ?_)
        rintro _ w5 ⟨rfl, x5⟩
        refine br_not (fun h' => ?_) (fun h' => ?_)
        · refine ⟨vbool (decide_eq_false (fun hg => ?_)).symm, x04.trans x5⟩
          have := hg.2
          rw [← happ, OkF_app] at this
          exact of_decide_eq_false h' this.2.1
        · have h' := of_decide_eq_true h'
          refine ⟨_, IntWalk.i64_in _ (by omega), ?_⟩
          refine hK (i + 1, d.app (.cons x' kk .nil), r, _) _ _ (vs2 (vint (by show (i : Int) + 1 = ((i + 1 : Nat) : Int); omega)) rfl) ⟨(x3.trans x4).trans x5, by show i + 1 + r.len = k.len; omega, by show (d.app (.cons x' kk .nil)).app r = k; rw [Fo.app_assoc]; exact happ, (OkF_app _ _).2 ⟨hok, h', trivial⟩, hpr, by show r.size ≤ k.size; omega, .inr ⟨b, o, rfl, ?_⟩⟩ (by show r.len < r.len + 1; omega) ?_
          · show TAt _ W r b (o + (i + 1) * 5)
            rw [show o + (i + 1) * 5 = o + i * 5 + 5 from by omega]
            exact hr
          · ((repeat (first | (with_reducible exact Only.refl) | (with_reducible refine Only.skip ?_) | ((with_reducible refine Only.upd ?_ ?_); rfl) | ((with_reducible refine Only.over ?_ ?_ _); rfl) | ((with_reducible refine Only.hav ?_ ?_ ?_); rfl; rfl))))
    have hgn := Fo.len_zero (f := g) (by omega)
    subst hgn
    rw [Fo.app_nil] at happ
    subst happ
    clear hga hat hi h
    have hb3 := hb2.ext x3
    have x03 := x2.trans x3
    have hB0 := boxedAll w3 [.int .i64 0, .int .i64 0, .int .i64 0] 3
    have hR0 := Rmy.new w3 [.int .i64 0, .int .i64 0, .int .i64 0] 3
    have x4 : Ext w3 (w3.alloc (.cells [.int .i64 0, .int .i64 0, .int .i64 0].toArray 3)) := Ext.new _ _
    refine loop_rule (σ := Nat) [7] 52 70 (fun q => [.int .i64 q])
      (fun q w' => Ext w3 w' ∧ q ≤ 3 ∧ q ≤ d.len ∧ Rmy w' w3.heap.size 3 ∧ CellsAt w' w3.heap.size 0 [.int .i64 (fil d q 0), .int .i64 (fil d q 1), .int .i64 (fil d q 2)])
      (fun q => 3 - q) 0 rfl ⟨x4, by decide, Nat.zero_le _, hR0, hB0⟩ ?_
    rintro i w4 junk'' ⟨x34, hi3, hik, hR4, hB4⟩ K hK
    show vc _ _ _ _ (over [7] [.int .i64 i] _) _
    have hcut : (d.len ≤ i ∨ 3 ≤ i) → CellsAt w4 w3.heap.size 0 [.int .i64 (kw (hdF d) 0), .int .i64 (kw (hdF d) 1), .int .i64 (kw (hdF d) 2)] := fun h => by
      have hf := fil_end h
      rw [hf 0 (by decide), hf 1 (by decide), hf 2 (by decide)] at hB4
      exact hB4
    have hb4 := hb3.ext x34
    have x04 := x03.trans x34
    have step : i < d.len → i < 3 → ∃ b o t, a = some ⟨b, o, none⟩ ∧ w4.cell? ⟨b, o + i * 5 + 1, none⟩ = some (.int .i64 t) ∧ CellsAt (w4.setCell ⟨w3.heap.size, 0 + (i : Int).toNat * 1, none⟩ (.int .i64 t)) w3.heap.size 0 [.int .i64 (fil d (i + 1) 0), .int .i64 (fil d (i + 1) 1), .int .i64 (fil d (i + 1) 2)] := fun h1 h2 => by
      obtain ⟨t, g1, g2⟩ := tms_get h1
      obtain ⟨b, o, c', s', e, _, _, _, hc, _⟩ := TSl.kid (ok := anyB) (hs.ext x04) g1
      cases e
      refine ⟨b, o, t.1.w, rfl, hc.2.1, ?_⟩
      have hset := hR4 i h2
      have h3 : i = 0 ∨ i = 1 ∨ i = 2 := by omega
      have same : ∀ j v, w4.cell? ⟨w3.heap.size, j, none⟩ = some v → j ≠ i → (w4.setCell ⟨w3.heap.size, 0 + (i : Int).toNat * 1, none⟩ (.int .i64 t.1.w)).cell? ⟨w3.heap.size, j, none⟩ = some v := fun j v hj hne => (World.cell?_setCell_other _ _ _ _ (fun e => hne (by have := congrArg Addr.off e; simp only [Int.toNat_natCast] at this; omega))).trans hj
      obtain ⟨u, hu⟩ := hset.1
      have new : (w4.setCell ⟨w3.heap.size, 0 + (i : Int).toNat * 1, none⟩ (.int .i64 t.1.w)).cell? ⟨w3.heap.size, i, none⟩ = some (.int .i64 t.1.w) := by
        have e : (⟨w3.heap.size, 0 + (i : Int).toNat * 1, none⟩ : Addr) = ⟨w3.heap.size, i, none⟩ := by rw [Int.toNat_natCast, Nat.mul_one, Nat.zero_add]
        rw [e]; exact World.cell?_setCell_same _ _ _ hu
      have hfi : fil d (i + 1) i = t.1.w := by rw [fil, if_pos (Nat.lt_succ_self _)]; exact g2
      have hfo : ∀ j, j ≠ i → fil d (i + 1) j = fil d i j := fun j hj => by
        unfold fil
        by_cases h : j < i
        · rw [if_pos h, if_pos (by omega)]
        · rw [if_neg h, if_neg (by omega)]
      rcases h3 with rfl | rfl | rfl
      · rw [hfi, hfo 1 (by decide), hfo 2 (by decide)]
        exact ⟨new, same _ _ hB4.2.1 (by decide), same _ _ hB4.2.2.1 (by decide), trivial⟩
      · rw [hfi, hfo 0 (by decide), hfo 2 (by decide)]
        exact ⟨same _ _ hB4.1 (by decide), new, same _ _ hB4.2.2.1 (by decide), trivial⟩
      · rw [hfi, hfo 0 (by decide), hfo 1 (by decide)]
        exact ⟨same _ _ hB4.1 (by decide), same _ _ hB4.2.1 (by decide), new, trivial⟩
    have hiff := node_iff hw hnm hnum hok
    have hkidw : ∀ j, j < d.len → 1 ≤ kw (hdF d) j ∧ kw (hdF d) j ≤ 16 := fun j hj => by
      obtain ⟨t, g1, g2⟩ := tms_get hj
      rw [g2]
      exact (OkF_mem hok t (List.mem_of_getElem? g1)).1.width
    refine br_dec (fun h => ?inn) (fun h => ?out)
    case' inn => refine br_dec (fun h' => ?stp) (fun h' => ?ou2)
    case stp =>
      have hst := step (by omega) (by omega)
      obtain ⟨b, o, t, rfl, hct, hB5⟩ := hst
      have ei : o + (i : Int).toNat * 5 = o + i * 5 := by omega
      refine ⟨_, hb4.2.2.2.2.1, ⟨by omega, by omega⟩, .int .i64 t, by rw [ei]; exact hct, ⟨by omega, by show (i : Int) < ((3 : Nat) : Int); omega⟩, hR4 (0 + (i : Int).toNat * 1) (by omega), ?_⟩
      refine ⟨_, IntWalk.i64_in _ (by omega), ?_⟩
      refine hK (i + 1) _ _ (vs1 (vint (by show (i : Int) + 1 = ((i + 1 : Nat) : Int); omega))) ⟨x34.set (p := ⟨w3.heap.size, _, none⟩) (Nat.le_refl _) _, by omega, by omega, hR4.setCell, hB5⟩ (by omega) ?_
      ((repeat (first | (with_reducible exact Only.refl) | (with_reducible refine Only.skip ?_) | ((with_reducible refine Only.upd ?_ ?_); rfl) | ((with_reducible refine Only.over ?_ ?_ _); rfl) | ((with_reducible refine Only.hav ?_ ?_ ?_); rfl; rfl))))
    case' ou2 => have hB5 := hcut (.inr (by omega))
    case' out => have hB5 := hcut (.inl (by omega))
    all_goals
      clear step hcut hB4
      refine ⟨_, hb4.1, ?_⟩
      refine br_dec (fun h0 => ?_) (fun h0 => ?_)
      · refine br_dec (fun hl => ?_) (fun hl => ?_)
        · refine ⟨_, hb4.2.1, _, hb4.2.2.1, ?_⟩
          refine Or.inl ((spec_WordOk _ _ _).mono ?_)
          rintro _ _ ⟨rfl, rfl⟩
          exact ⟨vbool (beq_of_iff (by rw [decide_eq_true_iff, cls0 hiff h0]; exact ⟨fun h => ⟨hl, h⟩, fun h => h.2⟩)), x04⟩
        · exact ⟨vbool (decide_eq_false (fun h => hl ((cls0 hiff h0).1 h).1)).symm, x04⟩
      refine ⟨_, hb4.1, ?_⟩
      refine br_dec (fun h22 => ?_) (fun h22 => ?_)
      · refine br_dec (fun hl => ?_) (fun hl => ?_)
        · refine ⟨_, hb4.2.2.2.1, ?_⟩
          refine Or.inl ((spec_IsName _ (by have := hx.2.2.2; omega) _).mono ?_)
          rintro _ _ ⟨rfl, rfl⟩
          exact ⟨vbool (beq_of_iff (by rw [decide_eq_true_iff, cls22 hiff h22]; exact ⟨fun h => ⟨hl, h⟩, fun h => h.2⟩)), x04⟩
        · exact ⟨vbool (decide_eq_false (fun h => hl ((cls22 hiff h22).1 h).1)).symm, x04⟩
      refine ⟨_, hb4.1, ?_⟩
      refine Or.inl ((l01In_ret _ _ _ _).mono ?_)
      rintro _ _ ⟨rfl, rfl⟩
      refine br_split (fun ho => ?_) (fun ho1 => ?_)
      · have ho := inR_iff.1 ho
        have hI := clsF hiff (by omega) (by omega) (kc1 (by omega)) (fitU (l := hdF d) (show x.op = 1 ∨ x.op = 2 by omega))
        refine .inl ⟨by kernel_rfl, ?_⟩
        by_cases hl : (d.len : Int) = 1
        · repeat refine br_dec_true hl ?_
          refine ⟨⟨by decide, by decide⟩, ?_⟩
          repeat refine br_dec_true hl ?_
          refine ⟨_, hB5.1, ?_⟩
          repeat refine br_dec_true hl ?_
          refine ⟨_, hb4.2.1, ?_⟩
          repeat refine br_dec_true hl ?_
          exact fun w' hw' => ⟨dbool (hI.trans ⟨fun h => h.2, fun h => ⟨hl, h⟩⟩), x04.trans hw'⟩
        · repeat refine br_dec_false hl ?_
          exact fun w' hw' => ⟨vbool (decide_eq_false (fun h => hl (hI.1 h).1)).symm, x04.trans hw'⟩
      have ho1 := inR_not.1 ho1
      refine ⟨_, hb4.1, ?_⟩
      refine Or.inl ((l01In_ret _ _ _ _).mono ?_)
      rintro _ _ ⟨rfl, rfl⟩
      refine br_split (fun ho => ?_) (fun ho2 => ?_)
      · have ho := inR_iff.1 ho
        have hI := clsF hiff (by omega) (by omega) (kc2 (by omega)) (fitA (l := hdF d) (show 3 ≤ x.op ∧ x.op ≤ 13 by omega))
        refine .inl ⟨by kernel_rfl, ?_⟩
        by_cases hl : (d.len : Int) = 2
        · repeat refine br_dec_true hl ?_
          refine ⟨⟨by decide, by decide⟩, ?_⟩
          repeat refine br_dec_true hl ?_
          refine ⟨_, hB5.1, ?_⟩
          repeat refine br_dec_true hl ?_
          refine ⟨_, hb4.2.1, ?_⟩
          repeat refine br_dec_true hl ?_
          by_cases hk : kw (hdF d) 0 = x.w
          · repeat refine br_dec_true hk ?_
            refine ⟨⟨by decide, by decide⟩, ?_⟩
            repeat refine br_dec_true hk ?_
            refine ⟨_, hB5.2.1, ?_⟩
            repeat refine br_dec_true hk ?_
            refine ⟨_, hb4.2.1, ?_⟩
            repeat refine br_dec_true hk ?_
            exact fun w' hw' => ⟨dbool (hI.trans ⟨fun h => h.2.2, fun h => ⟨hl, hk, h⟩⟩), x04.trans hw'⟩
          · repeat refine br_dec_false hk ?_
            exact fun w' hw' => ⟨vbool (decide_eq_false (fun h => hk (hI.1 h).2.1)).symm, x04.trans hw'⟩
        · repeat refine br_dec_false hl ?_
          exact fun w' hw' => ⟨vbool (decide_eq_false (fun h => hl (hI.1 h).1)).symm, x04.trans hw'⟩
      have ho2 := inR_not.1 ho2
      refine ⟨_, hb4.1, ?_⟩
      refine Or.inl ((l01In_ret _ _ _ _).mono ?_)
      rintro _ _ ⟨rfl, rfl⟩
      refine br_split (fun ho => ?_) (fun ho3 => ?_)
      · have ho := inR_iff.1 ho
        have hI := clsF hiff (by omega) (by omega) (kc2 (by omega)) (fitC (l := hdF d) (show 14 ≤ x.op ∧ x.op ≤ 16 by omega))
        refine .inl ⟨by kernel_rfl, ?_⟩
        by_cases hl : (d.len : Int) = 2
        · repeat refine br_dec_true hl ?_
          refine ⟨⟨by decide, by decide⟩, ?_⟩
          repeat refine br_dec_true hl ?_
          refine ⟨_, hB5.1, ?_⟩
          repeat refine br_dec_true hl ?_
          refine ⟨⟨by decide, by decide⟩, ?_⟩
          repeat refine br_dec_true hl ?_
          refine ⟨_, hB5.2.1, ?_⟩
          repeat refine br_dec_true hl ?_
          by_cases hk : kw (hdF d) 0 = kw (hdF d) 1
          · repeat refine br_dec_true hk ?_
            refine ⟨_, hb4.2.1, ?_⟩
            repeat refine br_dec_true hk ?_
            exact fun w' hw' => ⟨dbool (hI.trans ⟨fun h => h.2.2, fun h => ⟨hl, hk, h⟩⟩), x04.trans hw'⟩
          · repeat refine br_dec_false hk ?_
            exact fun w' hw' => ⟨vbool (decide_eq_false (fun h => hk (hI.1 h).2.1)).symm, x04.trans hw'⟩
        · repeat refine br_dec_false hl ?_
          exact fun w' hw' => ⟨vbool (decide_eq_false (fun h => hl (hI.1 h).1)).symm, x04.trans hw'⟩
      have ho3 := inR_not.1 ho3
      refine ⟨_, hb4.1, ?_⟩
      refine br_dec (fun ho => ?_) (fun ho4 => ?_)
      · have hI := clsF hiff (by omega) (by omega) (show kc x.op = 3 by rw [ho]; rfl) (fitI (l := hdF d) ho)
        refine .inl ⟨by kernel_rfl, ?_⟩
        by_cases hl : (d.len : Int) = 3
        · repeat refine br_dec_true hl ?_
          refine ⟨⟨by decide, by decide⟩, ?_⟩
          repeat refine br_dec_true hl ?_
          refine ⟨_, hB5.1, ?_⟩
          repeat refine br_dec_true hl ?_
          by_cases hk : kw (hdF d) 0 = 1
          · repeat refine br_dec_true hk ?_
            refine ⟨⟨by decide, by decide⟩, ?_⟩
            repeat refine br_dec_true hk ?_
            refine ⟨_, hB5.2.1, ?_⟩
            repeat refine br_dec_true hk ?_
            refine ⟨_, hb4.2.1, ?_⟩
            repeat refine br_dec_true hk ?_
            by_cases hk1 : kw (hdF d) 1 = x.w
            · repeat refine br_dec_true hk1 ?_
              refine ⟨⟨by decide, by decide⟩, ?_⟩
              repeat refine br_dec_true hk1 ?_
              refine ⟨_, hB5.2.2.1, ?_⟩
              repeat refine br_dec_true hk1 ?_
              refine ⟨_, hb4.2.1, ?_⟩
              repeat refine br_dec_true hk1 ?_
              exact fun w' hw' => ⟨dbool (hI.trans ⟨fun h => h.2.2.2, fun h => ⟨hl, hk, hk1, h⟩⟩), x04.trans hw'⟩
            · repeat refine br_dec_false hk1 ?_
              exact fun w' hw' => ⟨vbool (decide_eq_false (fun h => hk1 (hI.1 h).2.2.1)).symm, x04.trans hw'⟩
          · repeat refine br_dec_false hk ?_
            exact fun w' hw' => ⟨vbool (decide_eq_false (fun h => hk (hI.1 h).2.1)).symm, x04.trans hw'⟩
        · repeat refine br_dec_false hl ?_
          exact fun w' hw' => ⟨vbool (decide_eq_false (fun h => hl (hI.1 h).1)).symm, x04.trans hw'⟩
      refine ⟨_, hb4.1, ?_⟩
      refine br_dec (fun ho => ?_) (fun ho5 => ?_)
      · have hI := clsF hiff (by omega) (by omega) (kc2 (.inr ho)) (fitJ (l := hdF d) ho)
        refine .inl ⟨by kernel_rfl, ?_⟩
        by_cases hl : (d.len : Int) = 2
        · have hw0 := hkidw 0 (by omega)
          have hw1 := hkidw 1 (by omega)
          repeat refine br_dec_true hl ?_
          refine ⟨⟨by decide, by decide⟩, ?_⟩
          repeat refine br_dec_true hl ?_
          refine ⟨_, hB5.1, ?_⟩
          repeat refine br_dec_true hl ?_
          refine ⟨⟨by decide, by decide⟩, ?_⟩
          repeat refine br_dec_true hl ?_
          refine ⟨_, hB5.2.1, ?_⟩
          repeat refine br_dec_true hl ?_
          refine ⟨_, IntWalk.i64_in _ (by omega), ?_⟩
          repeat refine br_dec_true hl ?_
          refine ⟨_, hb4.2.1, ?_⟩
          repeat refine br_dec_true hl ?_
          exact fun w' hw' => ⟨dbool (hI.trans ⟨fun h => h.2, fun h => ⟨hl, h⟩⟩), x04.trans hw'⟩
        · repeat refine br_dec_false hl ?_
          exact fun w' hw' => ⟨vbool (decide_eq_false (fun h => hl (hI.1 h).1)).symm, x04.trans hw'⟩
      refine ⟨_, hb4.1, ?_⟩
      refine br_dec (fun ho => ?_) (fun ho6 => ?_)
      · have hI := clsF hiff (by omega) (by omega) (kc1 (by omega)) (fitT (l := hdF d) ho)
        refine .inl ⟨by kernel_rfl, ?_⟩
        by_cases hl : (d.len : Int) = 1
        · have hw0 := hkidw 0 (by omega)
          repeat refine br_dec_true hl ?_
          refine ⟨_, hb4.2.2.1, ?_⟩
          repeat refine br_dec_true hl ?_
          cases hnr : inR x.n 0 16 with
          | true =>
            have hnr' := inR_iff.1 hnr
            refine ⟨.bool true, fun w' _ => (l01In_ret _ _ _ _).mono fun v w'' h => ⟨by rw [h.1, hnr], by rw [h.2]; exact Ext.refl _⟩, ?_⟩
            repeat refine br_dec_true hl ?_
            refine ⟨_, hb4.2.2.1, ?_⟩
            repeat refine br_dec_true hl ?_
            refine ⟨_, hb4.2.1, ?_⟩
            repeat refine br_dec_true hl ?_
            refine ⟨_, IntWalk.i64_in _ (by omega), ?_⟩
            repeat refine br_dec_true hl ?_
            refine ⟨⟨by decide, by decide⟩, ?_⟩
            repeat refine br_dec_true hl ?_
            refine ⟨_, hB5.1, ?_⟩
            repeat refine br_dec_true hl ?_
            exact fun w' hw' => ⟨dbool (hI.trans ⟨fun h => (by have := h.2.2; omega), fun h => ⟨hl, hnr'.1, by omega⟩⟩), x04.trans hw'⟩
          | false =>
            refine ⟨.bool false, fun w' _ => (l01In_ret _ _ _ _).mono fun v w'' h => ⟨by rw [h.1, hnr], by rw [h.2]; exact Ext.refl _⟩, ?_⟩
            repeat refine br_dec_true hl ?_
            exact fun w' hw' => ⟨vbool (decide_eq_false (fun h => inR_not.1 hnr (by have := (hI.1 h).2; omega))).symm, x04.trans hw'⟩
        · repeat refine br_dec_false hl ?_
          exact fun w' hw' => ⟨vbool (decide_eq_false (fun h => hl (hI.1 h).1)).symm, x04.trans hw'⟩
      refine .inl ⟨by kernel_rfl, ?_⟩
      refine ⟨_, hb4.1, ?_⟩
      cases hor : inR x.op 20 21 with
      | true =>
        have hor' := inR_iff.1 hor
        have hI := clsF hiff (by omega) (by omega) (kc1 (by omega)) (fitW (l := hdF d) (show x.op = 20 ∨ x.op = 21 by omega))
        refine ⟨.bool true, fun w' _ => (l01In_ret _ _ _ _).mono fun v w'' h => ⟨by rw [h.1, hor], by rw [h.2]; exact Ext.refl _⟩, ?_⟩
        by_cases hl : (d.len : Int) = 1
        · repeat refine br_dec_true hl ?_
          refine ⟨⟨by decide, by decide⟩, ?_⟩
          repeat refine br_dec_true hl ?_
          refine ⟨_, hB5.1, ?_⟩
          repeat refine br_dec_true hl ?_
          refine ⟨_, hb4.2.1, ?_⟩
          repeat refine br_dec_true hl ?_
          exact fun w' hw' => ⟨dbool (hI.trans ⟨fun h => h.2, fun h => ⟨hl, h⟩⟩), x04.trans hw'⟩
        · repeat refine br_dec_false hl ?_
          exact fun w' hw' => ⟨vbool (decide_eq_false (fun h => hl (hI.1 h).1)).symm, x04.trans hw'⟩
      | false =>
        have hor' := inR_not.1 hor
        refine ⟨.bool false, fun w' _ => (l01In_ret _ _ _ _).mono fun v w'' h => ⟨by rw [h.1, hor], by rw [h.2]; exact Ext.refl _⟩, ?_⟩
        exact fun w' hw' => ⟨vbool (decide_eq_false (clsX hiff (by omega))).symm, x04.trans hw'⟩
end Go.Proofs.Ytkoaicjcanplaaa
