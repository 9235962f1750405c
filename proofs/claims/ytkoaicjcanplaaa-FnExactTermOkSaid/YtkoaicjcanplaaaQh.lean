/- Terms plainly: the simpler form, what it keeps, that nothing more can be made simpler. No program in sight. -/
import Derived.Test.YtkoaicjcanplaaaQf
namespace Go.Proofs.Ytkoaicjcanplaaa
open Go Go.Vc Go.RowKit
set_option linter.unusedVariables false
section
variable {x : Lab} {a b : Tm}
/-- The widths of a node with two kids that is no join. -/
structure BinW (x : Lab) (a b : Tm) : Prop where
  op : 3 ≤ x.op ∧ x.op ≤ 16
  aw : a.1.w = b.1.w
  arith : x.op ≤ 13 → a.1.w = x.w
  cmp : 14 ≤ x.op → x.w = 1
theorem bin_w (h : OkT (x, mkTF [a, b])) (ho : 3 ≤ x.op ∧ x.op ≤ 16) : BinW x a b := by
  by_cases hc : x.op ≤ 13
  · have hw : a.1.w = x.w ∧ b.1.w = x.w := fit_bin h.1 ⟨ho.1, hc⟩
    exact ⟨ho, by omega, fun _ => hw.1, fun h => by omega⟩
  · have hw : a.1.w = b.1.w ∧ x.w = 1 := fit_cmp (x := x) h.1 ⟨by omega, ho.2⟩
    exact ⟨ho, hw.1, fun h => absurd h hc, fun _ => hw.2⟩
theorem ones_wok {w a : Int} (h : wOk w a = true) : wOk w (ones w) = true := by obtain ⟨k, rfl⟩ := wnat h; rw [ones_nat']; exact ones_word (wOkN.1 h).1 (wOkN.1 h).2.1
theorem zero_wok {w a : Int} (h : wOk w a = true) : wOk w 0 = true := by obtain ⟨k, rfl⟩ := wnat h; exact zero_word (wOkN.1 h).1 (wOkN.1 h).2.1
/-- A node over the same two kids, or over others, of an operation that is no comparison. -/
theorem con_word {t : Tm} (h : OkT t) (ho : t.1.op = 0) : wOk t.1.w t.1.n = true := h.1.const ho
theorem first_good (h : OkT (x, mkTF [a, b])) (ho : 3 ≤ x.op ∧ x.op ≤ 16) (ha0 : a.1.op = 0) : ∀ s, stFirst x.op x.w a b = some s → StepR (x, mkTF [a, b]) s := by
  have ha : OkT a := h.2.1
  have hb : OkT b := h.2.2.1
  have hW := bin_w h ho
  have ma : a ∈ [a, b] := by simp
  have mb : b ∈ [a, b] := by simp
  have hac := con_word ha ha0
  obtain ⟨k, hk⟩ := wnat hac
  have hea : ∀ e, evT e a = a.1.n := fun e => ev_op0 ha0
  have hbk : ∀ e, EnvOk e (varsT (x, mkTF [a, b])) → wOk (k : Int) (evT e b) = true := fun e he => by
    have := word_kid he mb hb
    rwa [← hW.aw, hk] at this
  have hbin : ∀ e, evT e (x, mkTF [a, b]) = bW x.op (k : Int) a.1.n (evT e b) := fun e => by rw [ev_bin ho, hea, hk]
  intro s hs
  unfold stFirst at hs
  split at hs
  · rename_i h1
    obtain rfl := (Option.some.inj hs).symm
    have hbw : b.1.w = x.w := by
      by_cases hc : x.op ≤ 13
      · rw [← hW.aw]; exact hW.arith hc
      · have := hW.cmp (by omega)
        have : x.op = 14 ∧ a.1.w = 1 := by omega
        rw [← hW.aw]; omega
    refine ⟨keep_kid mb hb hbw (Nat.le_of_lt (lt_kid mb)) fun e he => ?_, fun hn => .inr (Nf_kid hn mb)⟩
    have hbo := hbk e he
    rw [hbin]
    rw [hk, ones_nat'] at h1
    rcases h1 with ⟨p, q⟩ | ⟨p, q⟩ | ⟨p, q⟩ | ⟨p, q⟩ | ⟨p, q⟩ | ⟨p, q, r⟩
    · rw [p, q]; exact (id_add hbo).symm
    · rw [p, q]; exact (id_mul hbo).symm
    · rw [p, q]; exact (id_and hbo).symm
    · rw [p, q]; exact (id_or hbo).symm
    · rw [p, q]; exact (id_xor hbo).symm
    · rw [p, q, r]
      rw [q] at hbo
      exact (bitE1 hbo).symm
  rename_i h1
  split at hs
  · rename_i h2
    obtain rfl := (Option.some.inj hs).symm
    have hxw : x.w = k := by rw [← hW.arith (by omega), hk]
    refine ⟨keep_con (by rw [hxw, ← hk]; exact zero_wok hac) rfl fun e he => ?_, fun _ => .inr (Nf_con _ _)⟩
    rw [hbin]
    rcases h2 with ⟨p, q⟩ | ⟨p, q⟩
    · rw [p, q]; exact (no_mul (hbk e he)).symm
    · rw [p, q]; exact (no_and (hbk e he)).symm
  rename_i h2
  split at hs
  · rename_i h3
    obtain rfl := (Option.some.inj hs).symm
    have hxw : x.w = k := by rw [← hW.arith (by omega), hk]
    refine ⟨keep_con (by rw [hxw, ← hk]; exact ones_wok hac) rfl fun e he => ?_, fun _ => .inr (Nf_con _ _)⟩
    rw [hbin, h3.1, h3.2, hk, ones_nat']; exact (no_or (hbk e he)).symm
  rename_i h3
  split at hs
  · rename_i h4
    obtain rfl := (Option.some.inj hs).symm
    have hbw : b.1.w = x.w := by
      by_cases hc : x.op ≤ 13
      · rw [← hW.aw]; exact hW.arith hc
      · have := hW.cmp (by omega)
        rw [← hW.aw]; omega
    have hlt : Tm.sz (mkn 1 x.w 0, mkTF [b]) < Tm.sz (x, mkTF [a, b]) := by rw [sz1, sz2]; have := sz_pos a; omega
    refine ⟨keep_new (ok_un hb (.inl rfl) hbw) (show (1 : Int) ≠ 22 by decide) rfl (Nat.le_of_lt hlt) (fun u hu p hp => ?_) (fun e he => ?_), ms_of hlt, fun hn => NfF_mk fun u hu => ?_⟩
    · rw [List.mem_singleton.1 hu] at hp; exact vars_kid mb p hp
    · have hbo := hbk e he
      rw [hbin, ev_un (.inl rfl)]
      show uW 1 b.1.w _ = _
      rw [← hW.aw, hk]
      rw [hk, ones_nat'] at h4
      rcases h4 with ⟨p, q⟩ | ⟨p, q, r⟩
      · rw [p, q]; exact (xor_ones hbo).symm
      · rw [p, q, r]
        rw [q] at hbo
        exact (bitE0 hbo).symm
    · rw [List.mem_singleton.1 hu]; exact Nf_kid hn mb
  · cases hs
theorem rest_good (h : OkT (x, mkTF [a, b])) (ho : 3 ≤ x.op ∧ x.op ≤ 16) : StepR (x, mkTF [a, b]) (stRest (x, mkTF [a, b]) a b) := by
  have ha : OkT a := h.2.1
  have hb : OkT b := h.2.2.1
  have hW := bin_w h ho
  have hx : 1 ≤ x.w ∧ x.w ≤ 16 := h.1.width
  have ma : a ∈ [a, b] := by simp
  have mb : b ∈ [a, b] := by simp
  obtain ⟨k, hk⟩ := inat (show 0 ≤ a.1.w by have := ha.1.width; omega)
  have hak : ∀ e, EnvOk e (varsT (x, mkTF [a, b])) → wOk (k : Int) (evT e a) = true := fun e he => by
    have := word_kid he ma ha
    rwa [hk] at this
  have hbk : ∀ e, EnvOk e (varsT (x, mkTF [a, b])) → wOk (k : Int) (evT e b) = true := fun e he => by
    have := word_kid he mb hb
    rwa [← hW.aw, hk] at this
  have hbin : ∀ e, evT e (x, mkTF [a, b]) = bW x.op (k : Int) (evT e a) (evT e b) := fun e => by rw [ev_bin ho, hk]
  unfold stRest
  split
  · rename_i h1
    have h12 : x.op = 4 ∨ x.op = 11 ∨ x.op = 12 ∨ x.op = 13 := h1.2
    refine ⟨keep_kid ma ha (hW.arith (by omega)) (Nat.le_of_lt (lt_kid ma)) fun e he => ?_, fun hn => .inr (Nf_kid hn ma)⟩
    rw [hbin, ev_isC h1.1]; exact (by_zero (hak e he) x.op h12).symm
  split
  · rename_i h1
    have h12 : x.op = 15 := h1.2
    refine ⟨keep_con (by decide) (hW.cmp (by omega)).symm fun e he => ?_, fun _ => .inr (Nf_con _ _)⟩
    rw [hbin, ev_isC h1.1, h12]; exact (less_zero (hak e he)).symm
  split
  · rename_i h1
    have h12 : x.op = 8 ∨ x.op = 9 := h1.2
    have := cmpT_zero.1 h1.1
    subst this
    refine ⟨keep_kid ma ha (hW.arith (by omega)) (Nat.le_of_lt (lt_kid ma)) fun e he => ?_, fun hn => .inr (Nf_kid hn ma)⟩
    rw [hbin]
    rcases h12 with p | p <;> rw [p]
    · exact (same_and (hak e he)).symm
    · exact (same_or (hak e he)).symm
  split
  · rename_i h1
    have h12 : x.op = 4 ∨ x.op = 10 ∨ x.op = 15 ∨ x.op = 16 := h1.2
    have := cmpT_zero.1 h1.1
    subst this
    refine ⟨keep_con (t := (x, mkTF [a, a])) (w := x.w) ?_ rfl fun e he => ?_, fun _ => .inr (Nf_con _ _)⟩
    · obtain ⟨m, hm⟩ := inat (show 0 ≤ x.w by omega)
      rw [hm]; exact zero_word (by omega) (by omega)
    · rw [hbin]; exact (same_no (hak e he) x.op h12).symm
  split
  · rename_i h1
    have h12 : x.op = 14 := h1.2
    have := cmpT_zero.1 h1.1
    subst this
    refine ⟨keep_con (by decide) (hW.cmp (by omega)).symm fun e he => ?_, fun _ => .inr (Nf_con _ _)⟩
    rw [hbin, h12]; exact (same_eq (hak e he)).symm
  split
  · rename_i h1
    obtain ⟨h1, h2, h3, h4, h5⟩ := h1
    have h1 : swp x.op = true := h1
    have h2 : x.op ≠ 14 := h2
    have h4 : b.1.op = x.op := h4
    have hop : x.op = 3 ∨ x.op = 5 ∨ x.op = 8 ∨ x.op = 9 ∨ x.op = 10 := by
      have := of_decide_eq_true h1; omega
    obtain ⟨y, l⟩ := b
    simp only at h4
    obtain ⟨g, r, rfl, hg, hr⟩ := ok_2 hb (by omega)
    simp only at h5 ⊢
    rw [kid0] at h5
    rw [kid0, kid1]
    have hxw := hW.arith (by omega)
    have hyw : y.w = x.w := hW.aw.symm.trans hxw
    have hgw : g.1.w = y.w ∧ r.1.w = y.w := fit_bin hb.1 (show 3 ≤ y.op ∧ y.op ≤ 13 by omega)
    have mg : g ∈ [g, r] := by simp
    have mr : r ∈ [g, r] := by simp
    have hac := con_word ha h3
    have hgc := con_word hg h5
    have hkx : x.w = k := by omega
    rw [hk] at hac
    rw [hgw.1, hyw, hkx] at hgc
    have hcon : OkT (conT x.w (bW x.op x.w a.1.n g.1.n)) := ok_con (by rw [hkx]; exact bW_word hac hgc x.op (by omega))
    have hlt : Tm.sz (mkn x.op x.w 0, mkTF [conT x.w (bW x.op x.w a.1.n g.1.n), r]) < Tm.sz (x, mkTF [a, (y, mkTF [g, r])]) := by
      rw [sz2, sz2, sz2]
      have := sz_pos a
      have := sz_pos g
      show 0 + 1 + r.sz + 1 < _
      omega
    refine ⟨keep_new (ok_bin hcon hr (by omega) rfl (hgw.2.trans hyw)) (show x.op ≠ 22 by omega) rfl (Nat.le_of_lt hlt) (fun u hu p hp => ?_) (fun e he => ?_), ms_of hlt, fun hn => NfF_mk fun u hu => ?_⟩
    · simp only [List.mem_cons, List.not_mem_nil, or_false] at hu
      rcases hu with rfl | rfl
      · simp [varsT, varsF, conT, constL] at hp
      · exact vars_kid mb p (vars_kid mr p hp)
    · have hrk : wOk (k : Int) (evT e r) = true := by
        have := word_kid (env_kid he mb) mr hr
        rwa [hgw.2, hyw, hkx] at this
      rw [hbin, ev_bin (show 3 ≤ (mkn x.op x.w 0).op ∧ (mkn x.op x.w 0).op ≤ 16 from ho), ev_bin (show 3 ≤ y.op ∧ y.op ≤ 16 by omega), ev_op0 h3, ev_op0 h5, h4, hgw.1, hyw]
      show bW x.op x.w (evT e (conT x.w (bW x.op x.w a.1.n g.1.n))) (evT e r) = _
      rw [show evT e (conT x.w (bW x.op x.w a.1.n g.1.n)) = bW x.op x.w a.1.n g.1.n from ev_con .nil rfl, hkx]
      exact bW_assoc hac hgc hrk x.op hop
    · simp only [List.mem_cons, List.not_mem_nil, or_false] at hu
      rcases hu with rfl | rfl
      · exact Nf_con _ _
      · exact Nf_kid (Nf_kid hn mb).2 mr
  · exact ⟨Keeps.refl h, fun _ => .inl rfl⟩
theorem bin_good (h : OkT (x, mkTF [a, b])) (ho : 3 ≤ x.op ∧ x.op ≤ 16) : StepR (x, mkTF [a, b]) (stBin (x, mkTF [a, b]) a b) := by
  have ha : OkT a := h.2.1
  have hb : OkT b := h.2.2.1
  have hW := bin_w h ho
  have ma : a ∈ [a, b] := by simp
  have mb : b ∈ [a, b] := by simp
  unfold stBin
  split
  · rename_i h1
    obtain ⟨h1, h2⟩ := h1
    have h1 : swp x.op = true := h1
    have hsw := of_decide_eq_true h1
    have hsz : Tm.sz (mkn x.op x.w 0, mkTF [b, a]) = Tm.sz (x, mkTF [a, b]) := by rw [sz2, sz2]; omega
    have hok : OkT (mkn x.op x.w 0, mkTF [b, a]) := by
      by_cases hc : x.op ≤ 13
      · exact ok_bin hb ha ⟨ho.1, hc⟩ (by rw [← hW.aw]; exact hW.arith hc) (hW.arith hc)
      · rw [hW.cmp (by omega)]; exact ok_cmp hb ha ⟨by omega, ho.2⟩ hW.aw.symm
    refine ⟨keep_new hok (show x.op ≠ 22 by omega) rfl (Nat.le_of_eq hsz) (fun u hu p hp => ?_) (fun e he => ?_), ?_, fun hn => NfF_mk fun u hu => ?_⟩
    · simp only [List.mem_cons, List.not_mem_nil, or_false] at hu
      rcases hu with rfl | rfl
      · exact vars_kid mb p hp
      · exact vars_kid ma p hp
    · rw [ev_bin (show 3 ≤ (mkn x.op x.w 0).op ∧ (mkn x.op x.w 0).op ≤ 16 from ho), ev_bin ho, ← hW.aw]
      have h2 := word_kid he mb hb
      rw [← hW.aw] at h2
      exact biC h2 (word_kid he ma ha) hsw
    · unfold ms
      rw [hsz]
      simp only [kid0, kid1]
      rw [if_neg (fun h' => by have := cmpT_swap a b; omega), if_pos ⟨h1, h2⟩]
      omega
    · simp only [List.mem_cons, List.not_mem_nil, or_false] at hu
      rcases hu with rfl | rfl
      · exact Nf_kid hn mb
      · exact Nf_kid hn ma
  · cases hf : (if a.1.op = 0 then stFirst x.op x.w a b else none) with
    | some s =>
      simp only
      by_cases h0 : a.1.op = 0
      · rw [if_pos h0] at hf
        exact first_good h ho h0 s hf
      · rw [if_neg h0] at hf; cases hf
    | none =>
      simp only
      exact rest_good h ho
end
theorem allC_iff {l : List Tm} : allC (mkTF l) = true ↔ ∀ a ∈ l, a.1.op = 0 := by
  unfold allC
  rw [hdF_tms, tms_mk, List.all_map, List.all_eq_true]
  simp
/-- One step, whatever the node. -/
theorem step_good (t : Tm) (h : OkT t) : StepR t (step t) := by
  obtain ⟨x, k⟩ := t
  have hN : NodeOk x (hdF k) := h.1
  unfold step
  split
  · exact ⟨Keeps.refl h, fun _ => .inl rfl⟩
  rename_i hnil
  simp only at hnil
  split
  · rename_i hc
    simp only at hc ⊢
    obtain ⟨l, rfl⟩ : ∃ l, k = mkTF l := ⟨tms k, (mk_tms k).symm⟩
    have hop := allC_iff.1 hc
    have hne : ¬ (x.op = 0 ∨ x.op = 22) := fun ho => hnil (ok_nil h ho)
    have hev : ∀ e, ap x (hdF (mkTF l)) ((hdF (mkTF l)).map (·.n)) e0 = evT e (x, mkTF l) := fun e => by
      rw [ev_mk, hdF_tms, tms_mk]
      have e1 : (l.map (·.1)).map (·.n) = l.map (evT e) := by
        rw [List.map_map]
        exact List.map_congr_left fun a ha => (ev_op0 (hop a ha)).symm
      rw [e1]
      unfold ap
      rw [if_neg (fun h => hne (.inl h)), if_neg (fun h => hne (.inr h)), if_neg (fun h => hne (.inl h)), if_neg (fun h => hne (.inr h))]
    have hvars : varsT (x, mkTF l) = [] := by
      rw [varsT_mk (fun h => hne (.inr h))]
      refine List.flatMap_eq_nil_iff.2 fun a ha => ?_
      have hok := OkF_mem h.2 a (by rw [show (x, mkTF l).2 = mkTF l from rfl, tms_mk]; exact ha)
      rw [varsT_eq, if_neg (by rw [hop a ha]; decide), ok_nil (x := a.1) (k := a.2) hok (.inl (hop a ha))]; rfl
    refine ⟨keep_con ?_ rfl fun e _ => hev e, fun _ => .inr (Nf_con _ _)⟩
    rw [hev e0]
    exact word_of h (by rw [hvars]; intro p hp; cases hp)
  rename_i hc
  split
  · rename_i ho
    have ho : x.op = 1 ∨ x.op = 2 := ho
    obtain ⟨a, rfl, ha⟩ := ok_1 h (by omega)
    simp only [kid0]
    exact un_good h ho
  split
  · rename_i ho
    have ho : x.op = 17 := ho
    obtain ⟨a, b, c, rfl, ha, hb, hc⟩ := ok_3 h ho
    simp only [kid0, kid1, kid2]
    exact if_good h ho
  split
  · rename_i ho
    have ho : x.op = 19 := ho
    obtain ⟨a, rfl, ha⟩ := ok_1 h (by omega)
    simp only [kid0]
    exact cut_good h ho
  split
  · rename_i ho
    have ho : x.op = 20 ∨ x.op = 21 := ho
    obtain ⟨a, rfl, ha⟩ := ok_1 h (by omega)
    simp only [kid0]
    exact wid_good h ho
  split
  · rename_i ho
    have ho : x.op = 18 := ho
    obtain ⟨a, b, rfl, ha, hb⟩ := ok_2 h (by omega)
    simp only [kid0, kid1]
    exact join_good h ho
  · rename_i h1 h2 h3 h4 h5
    have hno : ¬ (x.op = 0 ∨ x.op = 22) := fun ho => hnil (ok_nil h ho)
    have ho : 3 ≤ x.op ∧ x.op ≤ 16 := by
      have := hN.op
      simp only at h1 h2 h3 h4 h5
      omega
    obtain ⟨a, b, rfl, ha, hb⟩ := ok_2 h (by omega)
    simp only [kid0, kid1]
    exact bin_good h ho

/-! the simpler form -/
def redF : Nat → Tm → Tm
  | 0, t => t
  | n + 1, t => match step t with
    | .inl u => u
    | .inr u => redF n u
def red (t : Tm) : Tm := redF (ms t + 1) t
theorem redF_eq : ∀ (n m : Nat) (t : Tm), OkT t → ms t < n → ms t < m → redF n t = redF m t := by
  intro n
  induction n with
  | zero => intro m t _ h; omega
  | succ n ih =>
    intro m t hok hn hm
    cases m with
    | zero => omega
    | succ m =>
      have hg := step_good t hok
      simp only [redF]
      cases hs : step t with
      | inl u => rfl
      | inr u =>
        rw [hs] at hg
        have hg : Keeps t u ∧ ms u < ms t ∧ _ := hg
        exact ih m u hg.1.ok (by omega) (by omega)
theorem red_inl {t u : Tm} (h : step t = .inl u) : red t = u := by unfold red; rw [redF, h]
theorem red_inr {t u : Tm} (hok : OkT t) (h : step t = .inr u) : red t = red u := by
  have hg := step_good t hok
  rw [h] at hg
  have hg : Keeps t u ∧ ms u < ms t ∧ _ := hg
  unfold red
  rw [redF, h]
  exact redF_eq _ _ u hg.1.ok (by omega) (by omega)
theorem red_good : ∀ (n : Nat) (t : Tm), ms t < n → OkT t → Keeps t (red t) ∧ (NfF t.2 → NfT (red t)) := by
  intro n
  induction n with
  | zero => intro t h; omega
  | succ n ih =>
    intro t hn hok
    have hg := step_good t hok
    cases hs : step t with
    | inl u =>
      rw [red_inl hs]
      rw [hs] at hg
      have hg : Keeps t u ∧ (NfF t.2 → u = t ∨ NfT u) := hg
      refine ⟨hg.1, fun hnf => (hg.2 hnf).elim (fun e => ?_) id⟩
      subst e
      exact ⟨hs, hnf⟩
    | inr u =>
      rw [red_inr hok hs]
      rw [hs] at hg
      have hg : Keeps t u ∧ ms u < ms t ∧ (NfF t.2 → NfF u.2) := hg
      have := ih u (by omega) hg.1.ok
      exact ⟨hg.1.trans this.1, fun hnf => this.2 (hg.2.2 hnf)⟩
theorem red_keeps {t : Tm} (h : OkT t) : Keeps t (red t) := (red_good _ t (Nat.lt_succ_self _) h).1
theorem red_nf {t : Tm} (h : OkT t) (hn : NfF t.2) : NfT (red t) := (red_good _ t (Nat.lt_succ_self _) h).2 hn
theorem red_same {t : Tm} (h : NfT t) : red t = t := red_inl h.1

/-- All nodes made simpler, from below. -/
def simF : TF → TF
  | .nil => .nil
  | .cons x k r => .cons (red (x, simF k)).1 (red (x, simF k)).2 (simF r)
def sim (t : Tm) : Tm := red (t.1, simF t.2)
/-- Kids by kids: the same widths. -/
def KeepsF (k l : TF) : Prop := (hdF l).map (·.w) = (hdF k).map (·.w) ∧ OkF l ∧ l.size ≤ k.size ∧ (∀ p ∈ varsF l, p ∈ varsF k) ∧ ∀ e, EnvOk e (varsF k) → evF e l = evF e k
theorem kw_map {l m : List Lab} (h : l.map (·.w) = m.map (·.w)) (i : Nat) : kw l i = kw m i := by
  unfold kw
  have h1 : ∀ l : List Lab, (l.getD i zeroL).w = (l.map (·.w)).getD i 0 := fun l => by
    simp only [List.getD_eq_getElem?_getD, List.getElem?_map]
    cases l[i]? <;> rfl
  rw [h1, h1, h]
theorem fit_map {x : Lab} {l m : List Lab} (h : l.map (·.w) = m.map (·.w)) : fit x l = fit x m := by
  unfold fit
  rw [kw_map h 0, kw_map h 1, kw_map h 2]
theorem NodeOk.map {x : Lab} {l m : List Lab} (h : l.map (·.w) = m.map (·.w)) (hk : NodeOk x m) : NodeOk x l where
  width := hk.width
  count := by
    have := congrArg List.length h
    rw [List.length_map, List.length_map] at this
    rw [this]; exact hk.count
  kids := fun y hy => by
    have : y.w ∈ m.map (·.w) := by rw [← h]; exact List.mem_map.2 ⟨y, hy, rfl⟩
    obtain ⟨z, hz, e⟩ := List.mem_map.1 this
    rw [← e]; exact hk.kids z hz
  fits := (fit_map h).trans hk.fits
  const := hk.const
  num := hk.num
  noname := hk.noname
  name := hk.name
theorem ap_map {x : Lab} {l m : List Lab} (h : l.map (·.w) = m.map (·.w)) (v : List Int) (e : ByteArray → Int) : ap x l v e = ap x m v e := by
  unfold ap
  rw [kw_map h 0, kw_map h 1]
theorem keeps_node {x : Lab} {k l : TF} (h : OkT (x, k)) (hk : KeepsF k l) : Keeps (x, k) (x, l) where
  ok := ⟨h.1.map hk.1, hk.2.1⟩
  w := rfl
  sz := Nat.succ_le_succ hk.2.2.1
  vars := fun p hp => by
    rw [varsT_eq, List.mem_append] at hp ⊢
    exact hp.imp id (hk.2.2.2.1 p)
  ev := fun e he => by
    show ap x (hdF l) (evF e l) e = ap x (hdF k) (evF e k) e
    rw [ap_map hk.1, hk.2.2.2.2 e (he.sub fun p hp => by rw [varsT_eq]; exact List.mem_append_right _ hp)]
theorem simF_good : ∀ k : TF, OkF k → KeepsF k (simF k) ∧ NfF (simF k) := by
  intro k
  induction k with
  | nil => intro _; exact ⟨⟨rfl, trivial, Nat.le_refl _, fun _ h => h, fun _ _ => rfl⟩, trivial⟩
  | cons x k r ihk ihr =>
    rintro ⟨hx, hr⟩
    obtain ⟨k1, k2⟩ := ihk hx.2
    obtain ⟨r1, r2⟩ := ihr hr
    have hn := keeps_node (x := x) hx k1
    have hred := red_keeps hn.ok
    have hall := hn.trans hred
    refine ⟨⟨?_, ⟨hred.ok, r1.2.1⟩, ?_, ?_, ?_⟩, red_nf hn.ok k2, r2⟩
    · simp only [simF, hdF, List.map_cons, r1.1]
      rw [hred.w]
    · have h1 := hall.sz
      have h2 := r1.2.2.1
      simp only [Tm.sz] at h1
      simp only [simF, Fo.size]
      omega
    · intro p hp
      simp only [simF, varsF, List.mem_append] at hp ⊢
      rcases hp with hp | hp
      · left
        have := hall.vars p (by rw [varsT_eq, List.mem_append]; exact hp)
        rwa [varsT_eq, List.mem_append] at this
      · right; exact r1.2.2.2.1 p hp
    · intro e he
      have e1 : EnvOk e (varsT (x, k)) := he.sub fun p hp => by
        rw [varsT_eq] at hp
        simp only [varsF, List.append_assoc]
        rw [← List.append_assoc]
        exact List.mem_append_left _ hp
      have e2 : EnvOk e (varsF r) := he.sub fun p hp => by
        simp only [varsF]
        exact List.mem_append_right _ hp
      have h1 := hall.ev e e1
      have h2 := r1.2.2.2.2 e e2
      show evT e (red (x, simF k)) :: evF e (simF r) = evT e (x, k) :: evF e r
      rw [h1, h2]
theorem sim_keeps {t : Tm} (h : OkT t) : Keeps t (sim t) := by
  have hn := keeps_node (x := t.1) (k := t.2) h (simF_good t.2 h.2).1
  exact hn.trans (red_keeps hn.ok)
theorem sim_nf {t : Tm} (h : OkT t) : NfT (sim t) := red_nf (keeps_node (x := t.1) (k := t.2) h (simF_good t.2 h.2).1).ok (simF_good t.2 h.2).2
theorem simF_same : ∀ k : TF, NfF k → simF k = k := by
  intro k
  induction k with
  | nil => intro _; rfl
  | cons x k r ihk ihr =>
    rintro ⟨⟨h1, h2⟩, h3⟩
    rw [simF, ihk h2, ihr h3, red_inl h1]
theorem sim_same {t : Tm} (h : NfT t) : sim t = t := by
  show red (t.1, simF t.2) = t
  rw [simF_same _ h.2]; exact red_same h
end Go.Proofs.Ytkoaicjcanplaaa
