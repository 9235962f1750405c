/- Contracts of the parts of TermOk in the program: kidCount, widthsFit. -/
import Derived.Test.YtkoaicjcanplaaaQt
import Derived.Test.YtkoaicjcanplaaaQd
import Derived.Test.YtkoaicjcanplaaaMq
namespace Go.Proofs.Ytkoaicjcanplaaa
open Go Go.Vc Go.RowKit
set_option linter.unusedVariables false

theorem kidCount_ret (op : Int) (W : World) : Ret Try.prog 124 #[.int .i64 op] W (fun v w' => v = .int .i64 (kc op) ∧ w' = W) := by
  refine ret_of_vc ties mixed Try.func124 rfl (by kernel_rfl) rfl rfl ?_
  refine br_dec (fun h => ⟨vint (kc0 (.inl h)).symm, rfl⟩) (fun h0 => ?_)
  refine br_dec (fun h => ⟨vint (kc0 (.inr h)).symm, rfl⟩) (fun h22 => ?_)
  refine br_dec (fun h => ⟨vint (kc1 (.inl h)).symm, rfl⟩) (fun h1 => ?_)
  refine br_dec (fun h => ⟨vint (kc1 (by omega)).symm, rfl⟩) (fun h2 => ?_)
  refine br_dec (fun h => ⟨vint (kc1 (by omega)).symm, rfl⟩) (fun h19 => ?_)
  refine br_dec (fun h => ⟨vint (kc1 (by omega)).symm, rfl⟩) (fun h20 => ?_)
  refine br_dec (fun h => ⟨vint (kc1 (by omega)).symm, rfl⟩) (fun h21 => ?_)
  refine br_dec (fun h3 => ?_) (fun h3 => ?_)
  · refine br_dec (fun h => ⟨vint (kc2 (by omega)).symm, rfl⟩) (fun h16 => ?_)
    refine br_dec (fun h => ⟨vint (kc2 (by omega)).symm, rfl⟩) (fun h18 => ?_)
    refine br_dec (fun h => ⟨vint (by rw [h]; rfl), rfl⟩) (fun h17 => ?_)
    exact ⟨vint (by unfold kc; rw [if_neg (by omega), if_neg (by omega), if_neg (by omega), if_neg (by omega)]), rfl⟩
  · refine br_dec (fun h => ⟨vint (kc2 (by omega)).symm, rfl⟩) (fun h18 => ?_)
    refine br_dec (fun h => ⟨vint (by rw [h]; rfl), rfl⟩) (fun h17 => ?_)
    exact ⟨vint (by unfold kc; rw [if_neg (by omega), if_neg (by omega), if_neg (by omega), if_neg (by omega)]), rfl⟩

/-- A kid of a term, in memory. -/
theorem TSl.kid {ok : Nat → Prop} {W : World} {s : Value} {k : TF} (h : TSl ok W s k) {i : Nat} {t : Tm} (hi : (tms k)[i]? = some t) :
    ∃ b o c s', s = .slice (some ⟨b, o, none⟩) k.len c ∧ ok b ∧ i < k.len ∧ k.len ≤ maxLen ∧ CellsAt W b (o + i * 5) (tc t.1 s') ∧ TSl ok W s' t.2 := by
  obtain ⟨a, c, rfl, hl, hat⟩ := h
  have hil : i < k.len := by rw [← tms_len]; exact (List.getElem?_eq_some_iff.1 hi).1
  obtain ⟨b, o, rfl, hb, hat⟩ := hat.resolve_left (by omega)
  have key : ∀ (k : TF) (i o : Nat), (tms k)[i]? = some t → TAt ok W k b o → ∃ s', CellsAt W b (o + i * 5) (tc t.1 s') ∧ TSl ok W s' t.2 := by
    intro k
    induction k with
    | nil => intro i o h; simp [tms] at h
    | cons x l r _ ihr =>
      intro i o h hat
      cases i with
      | zero =>
        simp only [tms, List.getElem?_cons_zero, Option.some.injEq] at h
        subst h
        obtain ⟨⟨s', hc, hs'⟩, _⟩ := hat.sl
        exact ⟨s', by rw [Nat.zero_mul, Nat.add_zero]; exact hc, hs'⟩
      | succ i =>
        simp only [tms, List.getElem?_cons_succ] at h
        have := ihr i (o + 5) h hat.sl.2
        rwa [show o + (i + 1) * 5 = o + 5 + i * 5 from by omega]
  obtain ⟨s', h1, h2⟩ := key k i o hi hat
  exact ⟨b, o, c, s', rfl, hb, hil, hl, h1, h2⟩
theorem tms_get {k : TF} {i : Nat} (h : i < k.len) : ∃ t, (tms k)[i]? = some t ∧ kw (hdF k) i = t.1.w := by
  have : i < (tms k).length := by rw [tms_len]; exact h
  refine ⟨(tms k)[i], List.getElem?_eq_getElem this, ?_⟩
  rw [hdF_tms, kw, List.getD_eq_getElem?_getD, List.getElem?_map, List.getElem?_eq_getElem this]; rfl
set_option maxHeartbeats 4000000 in
theorem widthsFit_ret (x : Lab) (k : TF) (s : Value) (W : World) (hs : TSl anyB W s k) (hc : (k.len : Int) = kc x.op) (hw : 1 ≤ x.w ∧ x.w ≤ 16) (hk : ∀ y ∈ hdF k, 1 ≤ y.w ∧ y.w ≤ 16) (hn : inI x.n) :
    Ret Try.prog 125 #[tv x s] W (fun v w' => v = .bool (fit x (hdF k)) ∧ Ext W w') := by
  have hb := boxedAll W (tc x s) 25
  have x1 : Ext W (W.alloc (.cells (tc x s).toArray 25)) := Ext.new _ _
  have hop : 0 ≤ x.op ∧ x.op ≤ 22 := kc_pos (by omega)
  have kid : ∀ i, i < k.len → ∃ b o c t, s = .slice (some ⟨b, o, none⟩) k.len c ∧ (W.alloc (.cells (tc x s).toArray 25)).cell? ⟨b, o + i * 5 + 1, none⟩ = some (.int .i64 t) ∧ kw (hdF k) i = t ∧ 1 ≤ t ∧ t ≤ 16 := fun i hi => by
    obtain ⟨t, h1, h2⟩ := tms_get hi
    obtain ⟨b, o, c, s', e, _, _, _, hc, _⟩ := hs.kid h1
    have := hk t.1 (by rw [hdF_tms]; exact List.mem_map.2 ⟨t, List.mem_of_getElem? h1, rfl⟩)
    exact ⟨b, o, c, t.1.w, e, x1.cell hc.2.1, h2, this.1, this.2⟩
  by_cases h0 : k.len = 0
  · have h022 : x.op = 0 ∨ x.op = 22 := by
      unfold kc at hc
      split at hc
      · assumption
      split at hc
      · omega
      split at hc
      · omega
      split at hc <;> omega
    refine ret_of_vc ties mixed Try.func125 rfl (by kernel_rfl) rfl rfl ?_
    refine ⟨_, hb.2.2.2.2.1, _, hb.1, ?_⟩
    refine br_dec (fun h => ?_) (fun h0 => ?_)
    · exact ⟨vbool (by unfold fit; rw [if_pos (.inl h)]), x1⟩
    refine ⟨_, hb.1, ?_⟩
    refine br_dec_true (show x.op = 22 by omega) ?_
    exact ⟨vbool (by unfold fit; rw [if_pos h022]), x1⟩
  obtain ⟨b, o, c, t, rfl, hc0, hk0, ht⟩ := kid 0 (by omega)
  have hc1 : 1 < k.len → (W.alloc (.cells (tc x (.slice (some ⟨b, o, none⟩) k.len c)).toArray 25)).cell? ⟨b, o + 1 * 5 + 1, none⟩ = some (.int .i64 (kw (hdF k) 1)) := fun h => by
    obtain ⟨b', o', c', u, e, h1, h2, _⟩ := kid 1 h
    cases e
    rw [h2]; exact h1
  have hc2 : 2 < k.len → (W.alloc (.cells (tc x (.slice (some ⟨b, o, none⟩) k.len c)).toArray 25)).cell? ⟨b, o + 2 * 5 + 1, none⟩ = some (.int .i64 (kw (hdF k) 2)) := fun h => by
    obtain ⟨b', o', c', u, e, h1, h2, _⟩ := kid 2 h
    cases e
    rw [h2]; exact h1
  have hu1 : 1 < k.len → 1 ≤ kw (hdF k) 1 ∧ kw (hdF k) 1 ≤ 16 := fun h => by
    obtain ⟨b', o', c', u, e, h1, h2, h3⟩ := kid 1 h
    rw [h2]; exact h3
  clear kid hs hk
  obtain ⟨u, hu⟩ : ∃ u, kw (hdF k) 1 = u := ⟨_, rfl⟩
  obtain ⟨v, hv⟩ : ∃ v, kw (hdF k) 2 = v := ⟨_, rfl⟩
  rw [hu] at hc1 hu1
  rw [hv] at hc2
  have hfit : fit x (hdF k) = if x.op = 0 ∨ x.op = 22 then true else if x.op = 1 ∨ x.op = 2 then decide (t = x.w) else if 3 ≤ x.op ∧ x.op ≤ 13 then decide (t = x.w ∧ u = x.w)
      else if 14 ≤ x.op ∧ x.op ≤ 16 then decide (t = u ∧ x.w = 1) else if x.op = 17 then decide (t = 1 ∧ u = x.w ∧ v = x.w)
      else if x.op = 18 then decide (t + u = x.w) else if x.op = 19 then decide (0 ≤ x.n ∧ x.n ≤ t - x.w) else decide (t ≤ x.w) := by unfold fit; rw [hk0, hu, hv]
  clear hu hv hk0
  rw [hfit]
  obtain ⟨F, hF⟩ : ∃ F, (if x.op = 0 ∨ x.op = 22 then true else if x.op = 1 ∨ x.op = 2 then decide (t = x.w) else if 3 ≤ x.op ∧ x.op ≤ 13 then decide (t = x.w ∧ u = x.w)
      else if 14 ≤ x.op ∧ x.op ≤ 16 then decide (t = u ∧ x.w = 1) else if x.op = 17 then decide (t = 1 ∧ u = x.w ∧ v = x.w)
      else if x.op = 18 then decide (t + u = x.w) else if x.op = 19 then decide (0 ≤ x.n ∧ x.n ≤ t - x.w) else decide (t ≤ x.w)) = F := ⟨_, rfl⟩
  rw [hF]
  clear hfit
  refine ret_of_vc ties mixed Try.func125 rfl (by kernel_rfl) rfl rfl ?_
  refine ⟨_, hb.2.2.2.2.1, _, hb.1, ?_⟩
  refine br_dec (fun h => ?_) (fun h0 => ?_)
  · exact ⟨vbool (by rw [← hF, if_pos (.inl h)]), x1⟩
  refine ⟨_, hb.1, ?_⟩
  refine br_dec (fun h => ?_) (fun h22 => ?_)
  · exact ⟨vbool (by rw [← hF, if_pos (.inr h)]), x1⟩
  refine ⟨_, hb.1, ?_⟩
  refine br_dec (fun h1 => ?_) (fun h1 => ?_)
  · exact .inl ⟨by kernel_rfl, ⟨by decide, by omega⟩, _, hc0, _, hb.2.1, fun w' hw' => ⟨vbool (by rw [← hF, if_neg (by omega), if_pos (.inl h1)]), x1.trans hw'⟩⟩
  refine ⟨_, hb.1, ?_⟩
  refine br_dec (fun h2 => ?_) (fun h2 => ?_)
  · exact .inl ⟨by kernel_rfl, ⟨by decide, by omega⟩, _, hc0, _, hb.2.1, fun w' hw' => ⟨vbool (by rw [← hF, if_neg (by omega), if_pos (.inr h2)]), x1.trans hw'⟩⟩
  refine ⟨_, hb.1, ?_⟩
  refine br_dec_true (show (3 : Int) ≤ x.op by omega) ?_
  refine ⟨_, hb.1, ?_⟩
  refine br_dec (fun h3 => ?_) (fun h3 => ?_)
  · have hu : kc x.op = 2 := kc2 (by omega)
    have hf : F = decide (t = x.w ∧ u = x.w) := by rw [← hF, if_neg (by omega), if_neg (by omega), if_pos ⟨by omega, h3⟩]
    refine .inl ⟨by kernel_rfl, ⟨by decide, by omega⟩, _, hc0, _, hb.2.1, ?_⟩
    by_cases ht : t = x.w
    · repeat refine br_dec_true ht ?_
      refine ⟨⟨by decide, by omega⟩, ?_⟩
      repeat refine br_dec_true ht ?_
      refine ⟨_, hc1 (by omega), ?_⟩
      repeat refine br_dec_true ht ?_
      refine ⟨_, hb.2.1, ?_⟩
      repeat refine br_dec_true ht ?_
      exact fun w' hw' => ⟨vbool (by rw [hf]; exact decide_eq_decide.2 ⟨fun h => ⟨ht, h⟩, fun h => h.2⟩), x1.trans hw'⟩
    · repeat refine br_dec_false ht ?_
      exact fun w' hw' => ⟨vbool (by rw [hf, decide_eq_false (fun h : t = x.w ∧ u = x.w => ht h.1)]), x1.trans hw'⟩
  refine ⟨_, hb.1, ?_⟩
  refine br_dec_true (show (14 : Int) ≤ x.op by omega) ?_
  refine ⟨_, hb.1, ?_⟩
  refine br_dec (fun h4 => ?_) (fun h4 => ?_)
  · have hu : kc x.op = 2 := kc2 (by omega)
    have hf : F = decide (t = u ∧ x.w = 1) := by rw [← hF, if_neg (by omega), if_neg (by omega), if_neg (by omega), if_pos ⟨by omega, h4⟩]
    refine .inl ⟨by kernel_rfl, ⟨by decide, by omega⟩, _, hc0, ⟨by decide, by omega⟩, _, hc1 (by omega), ?_⟩
    by_cases ht : t = u
    · repeat refine br_dec_true ht ?_
      refine ⟨_, hb.2.1, ?_⟩
      repeat refine br_dec_true ht ?_
      exact fun w' hw' => ⟨vbool (by rw [hf]; exact decide_eq_decide.2 ⟨fun h => ⟨ht, h⟩, fun h => h.2⟩), x1.trans hw'⟩
    · repeat refine br_dec_false ht ?_
      exact fun w' hw' => ⟨vbool (by rw [hf, decide_eq_false (fun h : t = u ∧ x.w = 1 => ht h.1)]), x1.trans hw'⟩
  refine ⟨_, hb.1, ?_⟩
  refine br_dec (fun h5 => ?_) (fun h5 => ?_)
  · have hu : kc x.op = 3 := by rw [h5]; rfl
    have hf : F = decide (t = 1 ∧ u = x.w ∧ v = x.w) := by rw [← hF, if_neg (by omega), if_neg (by omega), if_neg (by omega), if_neg (by omega), if_pos h5]
    refine .inl ⟨by kernel_rfl, ⟨by decide, by omega⟩, _, hc0, ?_⟩
    by_cases ht : t = 1
    · repeat refine br_dec_true ht ?_
      refine ⟨⟨by decide, by omega⟩, ?_⟩
      repeat refine br_dec_true ht ?_
      refine ⟨_, hc1 (by omega), ?_⟩
      repeat refine br_dec_true ht ?_
      refine ⟨_, hb.2.1, ?_⟩
      repeat refine br_dec_true ht ?_
      by_cases hu : u = x.w
      · repeat refine br_dec_true hu ?_
        refine ⟨⟨by decide, by omega⟩, ?_⟩
        repeat refine br_dec_true hu ?_
        refine ⟨_, hc2 (by omega), ?_⟩
        repeat refine br_dec_true hu ?_
        refine ⟨_, hb.2.1, ?_⟩
        repeat refine br_dec_true hu ?_
        exact fun w' hw' => ⟨vbool (by rw [hf]; exact decide_eq_decide.2 ⟨fun h => ⟨ht, hu, h⟩, fun h => h.2.2⟩), x1.trans hw'⟩
      · repeat refine br_dec_false hu ?_
        exact fun w' hw' => ⟨vbool (by rw [hf, decide_eq_false (fun h : t = 1 ∧ u = x.w ∧ v = x.w => hu h.2.1)]), x1.trans hw'⟩
    · repeat refine br_dec_false ht ?_
      exact fun w' hw' => ⟨vbool (by rw [hf, decide_eq_false (fun h : t = 1 ∧ u = x.w ∧ v = x.w => ht h.1)]), x1.trans hw'⟩
  refine ⟨_, hb.1, ?_⟩
  refine br_dec (fun h6 => ?_) (fun h6 => ?_)
  · have hu : kc x.op = 2 := kc2 (.inr h6)
    have hf : F = decide (t + u = x.w) := by rw [← hF, if_neg (by omega), if_neg (by omega), if_neg (by omega), if_neg (by omega), if_neg (by omega), if_pos h6]
    have hu2 := hu1 (by omega)
    exact .inl ⟨by kernel_rfl, ⟨by decide, by omega⟩, _, hc0, ⟨by decide, by omega⟩, _, hc1 (by omega), _, IntWalk.i64_in _ (by omega), _, hb.2.1, fun w' hw' => ⟨vbool hf.symm, x1.trans hw'⟩⟩
  refine ⟨_, hb.1, ?_⟩
  refine br_dec (fun h7 => ?_) (fun h7 => ?_)
  · have hu : kc x.op = 1 := kc1 (by omega)
    have hf : F = decide (0 ≤ x.n ∧ x.n ≤ t - x.w) := by rw [← hF, if_neg (by omega), if_neg (by omega), if_neg (by omega), if_neg (by omega), if_neg (by omega), if_neg (by omega), if_pos h7]
    refine .inl ⟨by kernel_rfl, _, hb.2.2.1, ?_⟩
    by_cases hx : 0 ≤ x.n
    · repeat refine br_dec_true hx ?_
      refine ⟨_, hb.2.2.1, ?_⟩
      repeat refine br_dec_true hx ?_
      refine ⟨⟨by decide, by omega⟩, ?_⟩
      repeat refine br_dec_true hx ?_
      refine ⟨_, hc0, ?_⟩
      repeat refine br_dec_true hx ?_
      refine ⟨_, hb.2.1, ?_⟩
      repeat refine br_dec_true hx ?_
      refine ⟨_, IntWalk.i64_in _ (by omega), ?_⟩
      repeat refine br_dec_true hx ?_
      exact fun w' hw' => ⟨vbool (by rw [hf]; exact decide_eq_decide.2 ⟨fun h => ⟨hx, h⟩, fun h => h.2⟩), x1.trans hw'⟩
    · repeat refine br_dec_false hx ?_
      exact fun w' hw' => ⟨vbool (by rw [hf, decide_eq_false (fun h : 0 ≤ x.n ∧ x.n ≤ t - x.w => hx h.1)]), x1.trans hw'⟩
  · have hu : kc x.op = 1 := kc1 (by omega)
    have hf : F = decide (t ≤ x.w) := by rw [← hF, if_neg (by omega), if_neg (by omega), if_neg (by omega), if_neg (by omega), if_neg (by omega), if_neg (by omega), if_neg (by omega)]
    exact .inl ⟨by kernel_rfl, ⟨by decide, by omega⟩, _, hc0, _, hb.2.1, fun w' hw' => ⟨vbool hf.symm, x1.trans hw'⟩⟩
end Go.Proofs.Ytkoaicjcanplaaa
