/- Terms plainly: a step towards a simpler form keeps what a term stands for; no operation with one, two or three kids is left out. No program in sight. -/
import Derived.Test.YtkoaicjcanplaaaQe
import Derived.Test.YtkoaicjcanplaaaQw
namespace Go.Proofs.Ytkoaicjcanplaaa
open Go Go.Vc Go.RowKit
set_option linter.unusedVariables false
/-! words, with widths as numbers -/
theorem wnat {w a : Int} (h : wOk w a = true) : ∃ k : Nat, w = k := ⟨w.toNat, by have := wOk_iff.1 h; omega⟩
theorem inat {n : Int} (h : 0 ≤ n) : ∃ k : Nat, n = k := ⟨n.toNat, by omega⟩
theorem ones_nat' (k : Nat) : ones (k : Int) = 2 ^ k - 1 := by rw [ones, Int.toNat_natCast]
section
variable {w v n l op a b c : Int}
theorem unW (h : wOk w a = true) (ho : op = 1 ∨ op = 2) : wOk w (uW op w a) = true := by obtain ⟨k, rfl⟩ := wnat h; exact un_word h op ho
theorem unun (h : wOk w a = true) (ho : op = 1 ∨ op = 2) : uW op w (uW op w a) = a := by obtain ⟨k, rfl⟩ := wnat h; exact un_un h op ho
theorem biW (ha : wOk w a = true) (hb : wOk w b = true) (ho : 3 ≤ op ∧ op ≤ 13) : wOk w (bW op w a b) = true := by obtain ⟨k, rfl⟩ := wnat ha; exact bW_word ha hb op ho
theorem cmW (ha : wOk w a = true) (hb : wOk w b = true) (ho : 14 ≤ op ∧ op ≤ 16) : wOk 1 (bW op w a b) = true := by obtain ⟨k, rfl⟩ := wnat ha; exact bW_cmp ha hb op ho
theorem biC (ha : wOk w a = true) (hb : wOk w b = true) (ho : op = 3 ∨ op = 5 ∨ op = 8 ∨ op = 9 ∨ op = 10 ∨ op = 14) : bW op w a b = bW op w b a := by obtain ⟨k, rfl⟩ := wnat ha; exact bW_comm ha hb op ho
theorem biA (ha : wOk w a = true) (hb : wOk w b = true) (hc : wOk w c = true) (ho : op = 3 ∨ op = 5 ∨ op = 8 ∨ op = 9 ∨ op = 10) : bW op w (bW op w a b) c = bW op w a (bW op w b c) := by obtain ⟨k, rfl⟩ := wnat ha; exact bW_assoc ha hb hc op ho
theorem cuW (h : wOk w a = true) (hl : 0 ≤ l) (hn : 1 ≤ n) (hw : l + n ≤ w) : wOk n (cW w a l n) = true := by
  obtain ⟨k, rfl⟩ := wnat h
  obtain ⟨i, rfl⟩ := inat hl
  obtain ⟨j, rfl⟩ := inat (show 0 ≤ n by omega)
  exact cut_word h (by omega) (by omega)
theorem cuA (h : wOk w a = true) : cW w a 0 w = a := by obtain ⟨k, rfl⟩ := wnat h; exact cut_all h
theorem cuC {m : Int} (h : wOk w a = true) (hl : 0 ≤ l) (hj : 0 ≤ c) (hn : 1 ≤ n) (hm : l + m ≤ w) (hc : c + n ≤ m) : cW m (cW w a l m) c n = cW w a (c + l) n := by
  obtain ⟨k, rfl⟩ := wnat h
  obtain ⟨i, rfl⟩ := inat hl
  obtain ⟨j, rfl⟩ := inat hj
  obtain ⟨n, rfl⟩ := inat (show 0 ≤ n by omega)
  obtain ⟨m, rfl⟩ := inat (show 0 ≤ m by omega)
  rw [Int.add_comm]
  exact cut_cut h (by omega) (by omega) (by omega)
theorem joW (ha : wOk w a = true) (hb : wOk v b = true) (hw : w + v ≤ 16) : wOk (w + v) (jW w a v b) = true := by
  obtain ⟨k, rfl⟩ := wnat ha
  obtain ⟨m, rfl⟩ := wnat hb
  exact join_word ha hb (by omega)
theorem cuL (ha : wOk w a = true) (hb : wOk v b = true) (hw : w + v ≤ 16) (hl : 0 ≤ l) (hn : 1 ≤ n) (hj : l + n ≤ v) : cW (w + v) (jW w a v b) l n = cW v b l n := by
  obtain ⟨k, rfl⟩ := wnat ha
  obtain ⟨m, rfl⟩ := wnat hb
  obtain ⟨l, rfl⟩ := inat hl
  obtain ⟨n, rfl⟩ := inat (show 0 ≤ n by omega)
  exact cut_low ha hb (by omega) (by omega) (by omega)
theorem cuH (ha : wOk w a = true) (hb : wOk v b = true) (hw : w + v ≤ 16) (hl : v ≤ l) (hn : 1 ≤ n) (hj : l + n ≤ w + v) : cW (w + v) (jW w a v b) l n = cW w a (l - v) n := by
  obtain ⟨k, rfl⟩ := wnat ha
  obtain ⟨m, rfl⟩ := wnat hb
  obtain ⟨j, hj'⟩ := inat (show 0 ≤ l - m by omega)
  obtain ⟨n, rfl⟩ := inat (show 0 ≤ n by omega)
  rw [hj', show l = ((m + j : Nat) : Int) by omega]
  exact cut_high ha hb (by omega) (by omega) (by omega)
theorem joC {m p : Int} (h : wOk w a = true) (hl : 0 ≤ l) (hp : 1 ≤ p) (hm : 1 ≤ m) (hw : l + m + p ≤ w) : jW p (cW w a (l + m) p) m (cW w a l m) = cW w a l (p + m) := by
  obtain ⟨k, rfl⟩ := wnat h
  obtain ⟨l, rfl⟩ := inat hl
  obtain ⟨p, rfl⟩ := inat (show 0 ≤ p by omega)
  obtain ⟨m, rfl⟩ := inat (show 0 ≤ m by omega)
  exact join_cuts h (by omega) (by omega) (by omega)
theorem wiX (h : wOk w a = true) (hv : w ≤ v) (hv' : v ≤ 16) (s : Bool) : wOk v (wiW w a v s) = true := by
  obtain ⟨k, rfl⟩ := wnat h
  obtain ⟨m, rfl⟩ := inat (show 0 ≤ v by omega)
  exact wid_word h (by omega) (by omega) s
theorem cuX (h : wOk w a = true) (hv : w ≤ v) (hv' : v ≤ 16) (hl : 0 ≤ l) (hn : 1 ≤ n) (hj : l + n ≤ w) (s : Bool) : cW v (wiW w a v s) l n = cW w a l n := by
  obtain ⟨k, rfl⟩ := wnat h
  obtain ⟨m, rfl⟩ := inat (show 0 ≤ v by omega)
  obtain ⟨l, rfl⟩ := inat hl
  obtain ⟨n, rfl⟩ := inat (show 0 ≤ n by omega)
  exact cut_wid h (by omega) (by omega) (by omega) (by omega)
theorem wiA (h : wOk w a = true) (s : Bool) : wiW w a w s = a := by obtain ⟨k, rfl⟩ := wnat h; exact wid_all h s
theorem wiwi {u : Int} (h : wOk w a = true) (hv : w ≤ v) (hu : v ≤ u) (hu' : u ≤ 16) (s : Bool) : wiW v (wiW w a v s) u s = wiW w a u s := by
  obtain ⟨k, rfl⟩ := wnat h
  obtain ⟨m, rfl⟩ := inat (show 0 ≤ v by omega)
  obtain ⟨p, rfl⟩ := inat (show 0 ≤ u by omega)
  exact wid_wid h (by omega) (by omega) (by omega) s
end

theorem bit1 {a : Int} (h : wOk 1 a = true) : a = 0 ∨ a = 1 := bit h
theorem bitN {a : Int} (h : wOk 1 a = true) : uW 1 1 a = 1 - a := bit_not h
theorem bitE1 {a : Int} (h : wOk 1 a = true) : bW 14 1 1 a = a := bit_eq1 h
theorem bitE0 {a : Int} (h : wOk 1 a = true) : bW 14 1 0 a = uW 1 1 a := bit_eq0 h

/-! what a term stands for, operation by operation -/
def varsT (t : Tm) : Vs := varsF (.cons t.1 t.2 .nil)
def EnvOk (e : ByteArray → Int) (l : Vs) : Prop := ∀ p ∈ l, wOk p.2 (e p.1) = true
theorem varsT_eq (t : Tm) : varsT t = (if t.1.op = 22 then [(t.1.name, t.1.w)] else []) ++ varsF t.2 := by simp [varsT, varsF]
theorem varsF_mk : ∀ l : List Tm, varsF (mkTF l) = l.flatMap varsT := by
  intro l
  induction l with
  | nil => rfl
  | cons t l ih => simp only [mkTF, varsF, ih, List.flatMap_cons, varsT_eq]
theorem varsT_mk {x : Lab} {l : List Tm} (h : x.op ≠ 22) : varsT (x, mkTF l) = l.flatMap varsT := by
  rw [varsT_eq, varsF_mk, if_neg h]; rfl
theorem size_mk : ∀ l : List Tm, (mkTF l).size = (l.map Tm.sz).sum := by
  intro l
  induction l with
  | nil => rfl
  | cons t l ih => simp only [mkTF, Fo.size, ih, List.map_cons, List.sum_cons, Tm.sz]; omega
theorem sz1 (x : Lab) (a : Tm) : Tm.sz (x, mkTF [a]) = a.sz + 1 := by simp [Tm.sz, size_mk]
theorem sz2 (x : Lab) (a b : Tm) : Tm.sz (x, mkTF [a, b]) = a.sz + b.sz + 1 := by simp [Tm.sz, size_mk]
theorem sz3 (x : Lab) (a b c : Tm) : Tm.sz (x, mkTF [a, b, c]) = a.sz + b.sz + c.sz + 1 := by simp [Tm.sz, size_mk]; omega
theorem sz_pos (t : Tm) : 1 ≤ t.sz := Nat.succ_le_succ (Nat.zero_le _)
theorem ev_mk (e : ByteArray → Int) (x : Lab) (l : List Tm) : evT e (x, mkTF l) = ap x (l.map (·.1)) (l.map (evT e)) e := by
  show ap x (hdF (mkTF l)) (evF e (mkTF l)) e = _
  rw [hdF_tms, evF_tms, tms_mk]
section
variable {e : ByteArray → Int} {x : Lab} {a b c : Tm}
theorem ev_con (k : TF) (h : x.op = 0) : evT e (x, k) = x.n := by show ap x _ _ e = _; rw [ap, if_pos h]
theorem ev_var (k : TF) (h : x.op = 22) : evT e (x, k) = e x.name := by show ap x _ _ e = _; rw [ap, if_neg (by omega), if_pos h]
theorem ev_if (h : x.op = 17) : evT e (x, mkTF [a, b, c]) = if evT e a = 1 then evT e b else evT e c := by
  rw [ev_mk, ap, if_neg (by omega), if_neg (by omega), if_pos h]; rfl
theorem ev_un (h : x.op = 1 ∨ x.op = 2) : evT e (x, mkTF [a]) = uW x.op a.1.w (evT e a) := by
  rw [ev_mk, ap, if_neg (by omega), if_neg (by omega), if_neg (by omega), if_pos h]; rfl
theorem ev_cut (h : x.op = 19) : evT e (x, mkTF [a]) = cW a.1.w (evT e a) x.n x.w := by
  rw [ev_mk, ap, if_neg (by omega), if_neg (by omega), if_neg (by omega), if_neg (by omega), if_pos h]; rfl
theorem ev_wid (h : x.op = 20 ∨ x.op = 21) : evT e (x, mkTF [a]) = wiW a.1.w (evT e a) x.w (decide (x.op = 21)) := by
  rw [ev_mk, ap, if_neg (by omega), if_neg (by omega), if_neg (by omega), if_neg (by omega), if_neg (by omega), if_pos h]; rfl
theorem ev_join (h : x.op = 18) : evT e (x, mkTF [a, b]) = jW a.1.w (evT e a) b.1.w (evT e b) := by
  rw [ev_mk, ap, if_neg (by omega), if_neg (by omega), if_neg (by omega), if_neg (by omega), if_neg (by omega), if_neg (by omega), if_pos h]; rfl
theorem ev_bin (h : 3 ≤ x.op ∧ x.op ≤ 16) : evT e (x, mkTF [a, b]) = bW x.op a.1.w (evT e a) (evT e b) := by
  rw [ev_mk, ap, if_neg (by omega), if_neg (by omega), if_neg (by omega), if_neg (by omega), if_neg (by omega), if_neg (by omega), if_neg (by omega)]; rfl
end
theorem EnvOk.sub {e : ByteArray → Int} {l m : Vs} (h : EnvOk e l) (hs : ∀ p ∈ m, p ∈ l) : EnvOk e m := fun p hp => h p (hs p hp)
theorem vars_kid {x : Lab} {l : List Tm} {a : Tm} (h : a ∈ l) : ∀ p ∈ varsT a, p ∈ varsT (x, mkTF l) := fun p hp => by
  rw [varsT_eq, varsF_mk]
  exact List.mem_append_right _ (List.mem_flatMap.2 ⟨a, h, hp⟩)
/-- The operations that a valid node may have. -/
theorem ops {x : Lab} {l : List Lab} (h : NodeOk x l) : x.op = 0 ∨ x.op = 22 ∨ (x.op = 1 ∨ x.op = 2) ∨ x.op = 19 ∨ (x.op = 20 ∨ x.op = 21) ∨ (3 ≤ x.op ∧ x.op ≤ 13) ∨ (14 ≤ x.op ∧ x.op ≤ 16) ∨ x.op = 18 ∨ x.op = 17 := by
  have := h.op; omega
/-- The word of a valid term. -/
theorem wordT (e : ByteArray → Int) : ∀ (n : Nat) (t : Tm), t.sz ≤ n → OkT t → EnvOk e (varsT t) → wOk t.1.w (evT e t) = true := by
  intro n
  induction n with
  | zero => intro t h; have := sz_pos t; omega
  | succ n ih =>
    rintro ⟨x, k⟩ hs h he
    have hN : NodeOk x (hdF k) := h.1
    have hx := hN.width
    show wOk x.w _ = true
    rcases ops hN with ho | ho | ho | ho | ho | ho | ho | ho | ho
    · rw [ev_con k ho]; exact hN.const ho
    · rw [ev_var k ho]
      exact he (x.name, x.w) (by rw [varsT_eq, if_pos ho]; simp)
    · obtain ⟨a, rfl, ha⟩ := ok_1 h (by omega)
      rw [sz1] at hs
      have hw : a.1.w = x.w := fit_un h.1 ho
      rw [ev_un ho]
      have := ih a (by omega) ha (he.sub (vars_kid (by simp)))
      rw [hw] at this ⊢
      exact unW this ho
    · obtain ⟨a, rfl, ha⟩ := ok_1 h (by omega)
      rw [sz1] at hs
      have hw : 0 ≤ x.n ∧ x.n ≤ a.1.w - x.w := fit_cut h.1 ho
      rw [ev_cut ho]
      refine cuW (ih a (by omega) ha (he.sub (vars_kid (by simp)))) hw.1 hx.1 ?_
      omega
    · obtain ⟨a, rfl, ha⟩ := ok_1 h (by omega)
      rw [sz1] at hs
      have hw : a.1.w ≤ x.w := fit_wid h.1 ho
      rw [ev_wid ho]
      exact wiX (ih a (by omega) ha (he.sub (vars_kid (by simp)))) hw hx.2 _
    · obtain ⟨a, b, rfl, ha, hb⟩ := ok_2 h (by omega)
      rw [sz2] at hs
      have hw : a.1.w = x.w ∧ b.1.w = x.w := fit_bin h.1 ho
      rw [ev_bin (by omega)]
      have h1 := ih a (by omega) ha (he.sub (vars_kid (by simp)))
      have h2 := ih b (by omega) hb (he.sub (vars_kid (by simp)))
      rw [hw.1] at h1 ⊢
      rw [hw.2] at h2
      exact biW h1 h2 ho
    · obtain ⟨a, b, rfl, ha, hb⟩ := ok_2 h (by omega)
      rw [sz2] at hs
      have hw : a.1.w = b.1.w ∧ x.w = 1 := fit_cmp h.1 ho
      rw [ev_bin (by omega)]
      have h1 := ih a (by omega) ha (he.sub (vars_kid (by simp)))
      have h2 := ih b (by omega) hb (he.sub (vars_kid (by simp)))
      rw [← hw.1] at h2
      show wOk x.w _ = true
      rw [hw.2]
      exact cmW h1 h2 ho
    · obtain ⟨a, b, rfl, ha, hb⟩ := ok_2 h (by omega)
      rw [sz2] at hs
      have hw : a.1.w + b.1.w = x.w := fit_join h.1 ho
      rw [ev_join ho]
      show wOk x.w _ = true
      rw [← hw]
      exact joW (ih a (by omega) ha (he.sub (vars_kid (by simp)))) (ih b (by omega) hb (he.sub (vars_kid (by simp)))) (by omega)
    · obtain ⟨a, b, c, rfl, ha, hb, hc⟩ := ok_3 h ho
      rw [sz3] at hs
      have hw : a.1.w = 1 ∧ b.1.w = x.w ∧ c.1.w = x.w := fit_if h.1 ho
      rw [ev_if ho]
      show wOk x.w _ = true
      split
      · rw [← hw.2.1]; exact ih b (by omega) hb (he.sub (vars_kid (by simp)))
      · rw [← hw.2.2]; exact ih c (by omega) hc (he.sub (vars_kid (by simp)))
theorem word_of {e : ByteArray → Int} {t : Tm} (h : OkT t) (he : EnvOk e (varsT t)) : wOk t.1.w (evT e t) = true := wordT e _ t (Nat.le_refl _) h he
/-- What a simpler form keeps. -/
structure Keeps (t u : Tm) : Prop where
  ok : OkT u
  w : u.1.w = t.1.w
  sz : u.sz ≤ t.sz
  vars : ∀ p ∈ varsT u, p ∈ varsT t
  ev : ∀ e, EnvOk e (varsT t) → evT e u = evT e t
theorem Keeps.refl {t : Tm} (h : OkT t) : Keeps t t := ⟨h, rfl, Nat.le_refl _, fun _ h => h, fun _ _ => rfl⟩
theorem Keeps.trans {t u v : Tm} (h : Keeps t u) (k : Keeps u v) : Keeps t v :=
  ⟨k.ok, k.w.trans h.w, Nat.le_trans k.sz h.sz, fun p hp => h.vars p (k.vars p hp), fun e he => (k.ev e (he.sub h.vars)).trans (h.ev e he)⟩
/-- Nothing in a forest can be made simpler. -/
def NfF : TF → Prop
  | .nil => True
  | .cons x k r => (step (x, k) = .inl (x, k) ∧ NfF k) ∧ NfF r
def NfT (t : Tm) : Prop := step t = .inl t ∧ NfF t.2
theorem NfF_mem : ∀ {k : TF}, NfF k → ∀ t ∈ tms k, NfT t := by
  intro k
  induction k with
  | nil => intro _ t h; cases h
  | cons x k r _ ih =>
    rintro ⟨h1, h2⟩ t h
    rcases List.mem_cons.1 h with rfl | h
    · exact h1
    · exact ih h2 t h
theorem NfF_mk : ∀ {l : List Tm}, (∀ t ∈ l, NfT t) → NfF (mkTF l) := by
  intro l
  induction l with
  | nil => intro _; trivial
  | cons t l ih => intro h; exact ⟨h t (by simp), ih fun u hu => h u (by simp [hu])⟩
theorem Nf_kid {l : List Tm} (h : NfF (mkTF l)) {a : Tm} (ha : a ∈ l) : NfT a := NfF_mem h a (by rw [tms_mk]; exact ha)
theorem Nf_con (w n : Int) : NfT (conT w n) := ⟨by unfold step; exact if_pos rfl, trivial⟩
def StepR (t : Tm) : St → Prop
  | .inl u => Keeps t u ∧ (NfF t.2 → u = t ∨ NfT u)
  | .inr u => Keeps t u ∧ ms u < ms t ∧ (NfF t.2 → NfF u.2)
theorem ms_le (t : Tm) : 2 * t.sz ≤ ms t ∧ ms t ≤ 2 * t.sz + 1 := by unfold ms; split <;> omega
theorem ms_of {t u : Tm} (h : u.sz < t.sz) : ms u < ms t := by have := ms_le t; have := ms_le u; omega
theorem kid0 (a : Tm) (l : List Tm) : kid (mkTF (a :: l)) 0 = a := by unfold kid; rw [tms_mk]; rfl
theorem kid1 (a b : Tm) (l : List Tm) : kid (mkTF (a :: b :: l)) 1 = b := by unfold kid; rw [tms_mk]; rfl
theorem kid2 (a b c : Tm) (l : List Tm) : kid (mkTF (a :: b :: c :: l)) 2 = c := by unfold kid; rw [tms_mk]; rfl
/-- One of the kids. -/
theorem keep_kid {x : Lab} {l : List Tm} {a : Tm} (h : a ∈ l) (ok : OkT a) (hw : a.1.w = x.w) (hs : a.sz ≤ Tm.sz (x, mkTF l)) (he : ∀ e, EnvOk e (varsT (x, mkTF l)) → evT e a = evT e (x, mkTF l)) : Keeps (x, mkTF l) a :=
  ⟨ok, hw, hs, vars_kid h, he⟩
theorem keep_con {t : Tm} {w n : Int} (h : wOk w n = true) (hw : w = t.1.w) (he : ∀ e, EnvOk e (varsT t) → n = evT e t) : Keeps t (conT w n) :=
  ⟨ok_con h, hw, sz_pos _, fun p hp => by simp [varsT, varsF, conT, constL] at hp, fun e h' => (ev_con .nil rfl).trans (he e h')⟩
theorem env_kid {e : ByteArray → Int} {x : Lab} {l : List Tm} {a : Tm} (h : EnvOk e (varsT (x, mkTF l))) (ha : a ∈ l) : EnvOk e (varsT a) := h.sub (vars_kid ha)
theorem word_kid {e : ByteArray → Int} {x : Lab} {l : List Tm} {a : Tm} (h : EnvOk e (varsT (x, mkTF l))) (ha : a ∈ l) (ok : OkT a) : wOk a.1.w (evT e a) = true := word_of ok (env_kid h ha)
theorem isC_iff {t : Tm} {n : Int} : isC t n = true ↔ t.1.op = 0 ∧ t.1.n = n := by unfold isC; exact decide_eq_true_iff
theorem isC_not {t : Tm} {n : Int} (h : ¬ isC t n = true) : ¬ (t.1.op = 0 ∧ t.1.n = n) := fun h' => h (isC_iff.2 h')
theorem ev_isC {e : ByteArray → Int} {t : Tm} {n : Int} (h : isC t n = true) : evT e t = n := by rw [show t = (t.1, t.2) from rfl, ev_con t.2 (isC_iff.1 h).1]; exact (isC_iff.1 h).2
theorem ev_op0 {e : ByteArray → Int} {t : Tm} (h : t.1.op = 0) : evT e t = t.1.n := by rw [show t = (t.1, t.2) from rfl, ev_con t.2 h]
theorem mem_sub {l m : List Tm} (h : ∀ a ∈ l, ∃ b ∈ m, ∀ p ∈ varsT a, p ∈ varsT b) : ∀ p ∈ l.flatMap varsT, p ∈ m.flatMap varsT := fun p hp => by
  obtain ⟨a, ha, hp⟩ := List.mem_flatMap.1 hp
  obtain ⟨b, hb, hab⟩ := h a ha
  exact List.mem_flatMap.2 ⟨b, hb, hab p hp⟩
theorem varsF_kids {x : Lab} {l : List Tm} : ∀ p ∈ l.flatMap varsT, p ∈ varsT (x, mkTF l) := fun p hp => by
  rw [varsT_eq, varsF_mk]; exact List.mem_append_right _ hp
theorem lt_kid {x : Lab} {a : Tm} {l : List Tm} (h : a ∈ l) : a.sz < Tm.sz (x, mkTF l) := by
  show a.sz < (mkTF l).size + 1
  rw [size_mk]
  have : a.sz ≤ (l.map Tm.sz).sum := by
    induction l with
    | nil => cases h
    | cons b l ih =>
      rw [List.map_cons, List.sum_cons]
      rcases List.mem_cons.1 h with rfl | h
      · omega
      · have := ih h; omega
  omega
/-- A new node over kids or grandkids. -/
theorem keep_new {t : Tm} {y : Lab} {l : List Tm} (ok : OkT (y, mkTF l)) (h22 : y.op ≠ 22) (hw : y.w = t.1.w) (hs : Tm.sz (y, mkTF l) ≤ t.sz) (hv : ∀ a ∈ l, ∀ p ∈ varsT a, p ∈ varsT t) (he : ∀ e, EnvOk e (varsT t) → evT e (y, mkTF l) = evT e t) : Keeps t (y, mkTF l) :=
  ⟨ok, hw, hs, fun p hp => by
    rw [varsT_mk h22] at hp
    obtain ⟨a, ha, hp⟩ := List.mem_flatMap.1 hp
    exact hv a ha p hp, he⟩
section
variable {x : Lab} {a b c : Tm}
theorem un_good (h : OkT (x, mkTF [a])) (ho : x.op = 1 ∨ x.op = 2) : StepR (x, mkTF [a]) (.inl (if a.1.op = x.op then kid a.2 0 else (x, mkTF [a]))) := by
  have ha : OkT a := h.2.1
  have hw : a.1.w = x.w := fit_un h.1 ho
  split
  · rename_i hop
    obtain ⟨y, k⟩ := a
    obtain ⟨g, rfl, hg⟩ := ok_1 ha (by simp only at hop; omega)
    simp only at hop hw ⊢
    rw [kid0]
    have hgw : g.1.w = y.w := fit_un ha.1 (show y.op = 1 ∨ y.op = 2 by omega)
    refine ⟨⟨hg, hgw.trans hw, ?_, fun p hp => vars_kid (List.mem_singleton.2 rfl) p (vars_kid (List.mem_singleton.2 rfl) p hp), fun e he => ?_⟩, fun hn => .inr (Nf_kid (Nf_kid hn (List.mem_singleton.2 rfl)).2 (List.mem_singleton.2 rfl))⟩
    · rw [sz1, sz1]; omega
    · rw [ev_un ho, ev_un (show y.op = 1 ∨ y.op = 2 by omega), hop]
      show evT e g = uW x.op y.w _
      have := word_kid (env_kid he (List.mem_singleton.2 rfl)) (List.mem_singleton.2 rfl) hg
      rw [hgw] at this ⊢
      exact (unun this ho).symm
  · exact ⟨Keeps.refl h, fun _ => .inl rfl⟩
theorem if_good (h : OkT (x, mkTF [a, b, c])) (ho : x.op = 17) : StepR (x, mkTF [a, b, c]) (stIf (x, mkTF [a, b, c]) a b c) := by
  have ha : OkT a := h.2.1
  have hb : OkT b := h.2.2.1
  have hc : OkT c := h.2.2.2.1
  have hw : a.1.w = 1 ∧ b.1.w = x.w ∧ c.1.w = x.w := fit_if h.1 ho
  have ma : a ∈ [a, b, c] := by simp
  have mb : b ∈ [a, b, c] := by simp
  have mc : c ∈ [a, b, c] := by simp
  have bitA : ∀ e, EnvOk e (varsT (x, mkTF [a, b, c])) → evT e a = 0 ∨ evT e a = 1 := fun e he => by
    have := word_kid he ma ha
    rw [hw.1] at this
    exact bit1 this
  unfold stIf
  split
  · rename_i h1
    exact ⟨keep_kid mb hb hw.2.1 (Nat.le_of_lt (lt_kid mb)) fun e he => by rw [ev_if ho, ev_isC h1, if_pos rfl], fun hn => .inr (Nf_kid hn mb)⟩
  rename_i h1
  split
  · rename_i h2
    exact ⟨keep_kid mc hc hw.2.2 (Nat.le_of_lt (lt_kid mc)) fun e he => by rw [ev_if ho, ev_op0 h2, if_neg fun e => isC_not h1 ⟨h2, e⟩], fun hn => .inr (Nf_kid hn mc)⟩
  split
  · rename_i h3
    have := cmpT_zero.1 h3
    subst this
    exact ⟨keep_kid mb hb hw.2.1 (Nat.le_of_lt (lt_kid mb)) fun e he => by rw [ev_if ho]; split <;> rfl, fun hn => .inr (Nf_kid hn mb)⟩
  split
  · rename_i h4
    obtain ⟨y, k⟩ := a
    obtain ⟨g, rfl, hg⟩ := ok_1 ha (.inl h4)
    simp only at h4 hw ⊢
    rw [kid0]
    have hgw : g.1.w = y.w := fit_un ha.1 (.inl h4)
    have hlt : Tm.sz (mkn 17 x.w 0, mkTF [g, c, b]) < Tm.sz (x, mkTF [(y, mkTF [g]), b, c]) := by rw [sz3, sz3, sz1]; omega
    refine ⟨keep_new (ok_if hg hc hb (hgw.trans hw.1) hw.2.2 hw.2.1) (show (17 : Int) ≠ 22 by decide) rfl (Nat.le_of_lt hlt) (fun u hu p hp => ?_) (fun e he => ?_), ms_of hlt, fun hn => NfF_mk fun u hu => ?_⟩
    · simp only [List.mem_cons, List.not_mem_nil, or_false] at hu
      rcases hu with rfl | rfl | rfl
      · exact vars_kid ma p (vars_kid (List.mem_singleton.2 rfl) p hp)
      · exact vars_kid mc p hp
      · exact vars_kid mb p hp
    · rw [ev_if ho, ev_if rfl]
      have hgk := word_kid (env_kid he ma) (List.mem_singleton.2 rfl) hg
      rw [ev_un (.inl h4), h4]
      rw [hgw, hw.1] at hgk ⊢
      rw [bitN hgk]
      rcases bit1 hgk with h0 | h0 <;> rw [h0] <;> simp
    · simp only [List.mem_cons, List.not_mem_nil, or_false] at hu
      rcases hu with rfl | rfl | rfl
      · exact Nf_kid (Nf_kid hn ma).2 (List.mem_singleton.2 rfl)
      · exact Nf_kid hn mc
      · exact Nf_kid hn mb
  split
  · rename_i h5
    have hwx : x.w = 1 := h5.1
    refine ⟨keep_kid ma ha (by rw [hw.1, hwx]) (Nat.le_of_lt (lt_kid ma)) fun e he => ?_, fun hn => .inr (Nf_kid hn ma)⟩
    rw [ev_if ho, ev_isC h5.2.1, ev_isC h5.2.2]
    rcases bitA e he with h0 | h0 <;> rw [h0] <;> simp
  split
  · rename_i h6
    have hwx : x.w = 1 := h6.1
    have hlt : Tm.sz (mkn 1 1 0, mkTF [a]) < Tm.sz (x, mkTF [a, b, c]) := by rw [sz3, sz1]; have := sz_pos b; omega
    refine ⟨keep_new (ok_un ha (.inl rfl) hw.1) (show (1 : Int) ≠ 22 by decide) hwx.symm (Nat.le_of_lt hlt) (fun u hu p hp => ?_) (fun e he => ?_), ms_of hlt, fun hn => NfF_mk fun u hu => ?_⟩
    · rw [List.mem_singleton.1 hu] at hp; exact vars_kid ma p hp
    · rw [ev_if ho, ev_isC h6.2.1, ev_isC h6.2.2, ev_un (.inl rfl)]
      have hk := word_kid he ma ha
      rw [hw.1] at hk ⊢
      show uW 1 1 _ = _
      rw [bitN hk]
      rcases bit1 hk with h0 | h0 <;> rw [h0] <;> simp
    · rw [List.mem_singleton.1 hu]; exact Nf_kid hn ma
  · exact ⟨Keeps.refl h, fun _ => .inl rfl⟩
theorem cut_good (h : OkT (x, mkTF [a])) (ho : x.op = 19) : StepR (x, mkTF [a]) (stCut (x, mkTF [a]) a) := by
  have ha : OkT a := h.2.1
  have hx : 1 ≤ x.w ∧ x.w ≤ 16 := h.1.width
  have haw := ha.1.width
  have hw : 0 ≤ x.n ∧ x.n ≤ a.1.w - x.w := fit_cut h.1 ho
  have ma : a ∈ [a] := by simp
  unfold stCut
  split
  · rename_i h1
    have h11 : x.n = 0 := h1.1
    have h12 : x.w = a.1.w := h1.2
    refine ⟨keep_kid ma ha h12.symm (Nat.le_of_lt (lt_kid ma)) fun e he => ?_, fun hn => .inr (Nf_kid hn ma)⟩
    rw [ev_cut ho, h11, h12, cuA (word_kid he ma ha)]
  split
  · rename_i h2
    obtain ⟨y, k⟩ := a
    obtain ⟨g, rfl, hg⟩ := ok_1 ha (by simp only at h2; omega)
    simp only at h2 hw haw ⊢
    rw [kid0]
    have hgw : 0 ≤ y.n ∧ y.n ≤ g.1.w - y.w := fit_cut ha.1 h2
    have hlt : Tm.sz (mkn 19 x.w (x.n + y.n), mkTF [g]) < Tm.sz (x, mkTF [(y, mkTF [g])]) := by rw [sz1, sz1, sz1]; omega
    refine ⟨keep_new (ok_cut hg hx.1 (by omega)) (show (19 : Int) ≠ 22 by decide) rfl (Nat.le_of_lt hlt) (fun u hu p hp => ?_) (fun e he => ?_), ms_of hlt, fun hn => NfF_mk fun u hu => ?_⟩
    · rw [List.mem_singleton.1 hu] at hp; exact vars_kid ma p (vars_kid (List.mem_singleton.2 rfl) p hp)
    · rw [ev_cut ho, ev_cut h2, ev_cut rfl]
      show cW g.1.w _ (x.n + y.n) x.w = cW y.w (cW g.1.w _ y.n y.w) x.n x.w
      exact (cuC (word_kid (env_kid he ma) (List.mem_singleton.2 rfl) hg) hgw.1 hw.1 hx.1 (by omega) (by omega)).symm
    · rw [List.mem_singleton.1 hu]; exact Nf_kid (Nf_kid hn ma).2 (List.mem_singleton.2 rfl)
  split
  · rename_i h3
    obtain ⟨y, k⟩ := a
    obtain ⟨g, r, rfl, hg, hr⟩ := ok_2 ha (by simp only at h3; omega)
    simp only at h3 hw haw ⊢
    rw [kid0, kid1]
    have hgw : g.1.w + r.1.w = y.w := fit_join ha.1 h3
    have mg : g ∈ [g, r] := by simp
    have mr : r ∈ [g, r] := by simp
    have hgw' := hg.1.width
    have hrw' := hr.1.width
    split
    · rename_i h4
      have hlt : Tm.sz (mkn 19 x.w x.n, mkTF [r]) < Tm.sz (x, mkTF [(y, mkTF [g, r])]) := by rw [sz1, sz1, sz2]; omega
      refine ⟨keep_new (ok_cut hr hx.1 (by omega)) (show (19 : Int) ≠ 22 by decide) rfl (Nat.le_of_lt hlt) (fun u hu p hp => ?_) (fun e he => ?_), ms_of hlt, fun hn => NfF_mk fun u hu => ?_⟩
      · rw [List.mem_singleton.1 hu] at hp; exact vars_kid ma p (vars_kid mr p hp)
      · rw [ev_cut ho, ev_join h3, ev_cut rfl]
        show _ = cW y.w _ _ _
        rw [← hgw]
        exact (cuL (word_kid (env_kid he ma) mg hg) (word_kid (env_kid he ma) mr hr) (by omega) hw.1 hx.1 h4).symm
      · rw [List.mem_singleton.1 hu]; exact Nf_kid (Nf_kid hn ma).2 mr
    split
    · rename_i h4 h5
      have hlt : Tm.sz (mkn 19 x.w (x.n - r.1.w), mkTF [g]) < Tm.sz (x, mkTF [(y, mkTF [g, r])]) := by rw [sz1, sz1, sz2]; omega
      refine ⟨keep_new (ok_cut hg hx.1 (by omega)) (show (19 : Int) ≠ 22 by decide) rfl (Nat.le_of_lt hlt) (fun u hu p hp => ?_) (fun e he => ?_), ms_of hlt, fun hn => NfF_mk fun u hu => ?_⟩
      · rw [List.mem_singleton.1 hu] at hp; exact vars_kid ma p (vars_kid mg p hp)
      · rw [ev_cut ho, ev_join h3, ev_cut rfl]
        show _ = cW y.w _ _ _
        rw [← hgw]
        exact (cuH (word_kid (env_kid he ma) mg hg) (word_kid (env_kid he ma) mr hr) (by omega) h5 hx.1 (by omega)).symm
      · rw [List.mem_singleton.1 hu]; exact Nf_kid (Nf_kid hn ma).2 mg
    · exact ⟨Keeps.refl h, fun _ => .inl rfl⟩
  split
  · rename_i h4
    obtain ⟨y, k⟩ := a
    obtain ⟨g, rfl, hg⟩ := ok_1 ha (by simp only at h4; omega)
    simp only at h4 hw haw ⊢
    rw [kid0]
    have hgw : g.1.w ≤ y.w := fit_wid ha.1 h4
    split
    · rename_i h5
      have hlt : Tm.sz (mkn 19 x.w x.n, mkTF [g]) < Tm.sz (x, mkTF [(y, mkTF [g])]) := by rw [sz1, sz1, sz1]; omega
      refine ⟨keep_new (ok_cut hg hx.1 (by omega)) (show (19 : Int) ≠ 22 by decide) rfl (Nat.le_of_lt hlt) (fun u hu p hp => ?_) (fun e he => ?_), ms_of hlt, fun hn => NfF_mk fun u hu => ?_⟩
      · rw [List.mem_singleton.1 hu] at hp; exact vars_kid ma p (vars_kid (List.mem_singleton.2 rfl) p hp)
      · rw [ev_cut ho, ev_wid h4, ev_cut rfl]
        exact (cuX (word_kid (env_kid he ma) (List.mem_singleton.2 rfl) hg) hgw haw.2 hw.1 hx.1 h5 _).symm
      · rw [List.mem_singleton.1 hu]; exact Nf_kid (Nf_kid hn ma).2 (List.mem_singleton.2 rfl)
    · exact ⟨Keeps.refl h, fun _ => .inl rfl⟩
  · exact ⟨Keeps.refl h, fun _ => .inl rfl⟩
theorem wid_good (h : OkT (x, mkTF [a])) (ho : x.op = 20 ∨ x.op = 21) : StepR (x, mkTF [a]) (stWid (x, mkTF [a]) a) := by
  have ha : OkT a := h.2.1
  have hx : 1 ≤ x.w ∧ x.w ≤ 16 := h.1.width
  have hw : a.1.w ≤ x.w := fit_wid h.1 ho
  have ma : a ∈ [a] := by simp
  unfold stWid
  split
  · rename_i h1
    have h1 : x.w = a.1.w := h1
    refine ⟨keep_kid ma ha h1.symm (Nat.le_of_lt (lt_kid ma)) fun e he => ?_, fun hn => .inr (Nf_kid hn ma)⟩
    rw [ev_wid ho, h1, wiA (word_kid he ma ha)]
  split
  · rename_i h2
    obtain ⟨y, k⟩ := a
    obtain ⟨g, rfl, hg⟩ := ok_1 ha (by simp only at h2; omega)
    simp only at h2 hw ⊢
    rw [kid0]
    have hgw : g.1.w ≤ y.w := fit_wid ha.1 (show y.op = 20 ∨ y.op = 21 by omega)
    have hlt : Tm.sz (mkn x.op x.w 0, mkTF [g]) < Tm.sz (x, mkTF [(y, mkTF [g])]) := by rw [sz1, sz1, sz1]; omega
    refine ⟨keep_new (ok_wid hg ho hx.2 (by omega)) (show x.op ≠ 22 by omega) rfl (Nat.le_of_lt hlt) (fun u hu p hp => ?_) (fun e he => ?_), ms_of hlt, fun hn => NfF_mk fun u hu => ?_⟩
    · rw [List.mem_singleton.1 hu] at hp; exact vars_kid ma p (vars_kid (List.mem_singleton.2 rfl) p hp)
    · rw [ev_wid ho, ev_wid (show y.op = 20 ∨ y.op = 21 by omega), ev_wid (show (mkn x.op x.w 0).op = 20 ∨ (mkn x.op x.w 0).op = 21 from ho), h2]
      exact (wiwi (word_kid (env_kid he ma) (List.mem_singleton.2 rfl) hg) hgw hw hx.2 _).symm
    · rw [List.mem_singleton.1 hu]; exact Nf_kid (Nf_kid hn ma).2 (List.mem_singleton.2 rfl)
  · exact ⟨Keeps.refl h, fun _ => .inl rfl⟩
theorem join_good (h : OkT (x, mkTF [a, b])) (ho : x.op = 18) : StepR (x, mkTF [a, b]) (stJoin (x, mkTF [a, b]) a b) := by
  have ha : OkT a := h.2.1
  have hb : OkT b := h.2.2.1
  have hx : 1 ≤ x.w ∧ x.w ≤ 16 := h.1.width
  have hw : a.1.w + b.1.w = x.w := fit_join h.1 ho
  have ma : a ∈ [a, b] := by simp
  have mb : b ∈ [a, b] := by simp
  unfold stJoin
  split
  · rename_i h1
    obtain ⟨h1, h2, h3, h4⟩ := h1
    obtain ⟨y, k⟩ := a
    obtain ⟨g, rfl, hg⟩ := ok_1 ha (by simp only at h1; omega)
    obtain ⟨z, l⟩ := b
    obtain ⟨g', rfl, hg'⟩ := ok_1 hb (by simp only at h2; omega)
    simp only at h1 h2 h3 h4 hw ⊢
    rw [kid0, kid0] at h4
    rw [kid0]
    have := cmpT_zero.1 h4
    subst this
    have hgw : 0 ≤ y.n ∧ y.n ≤ g.1.w - y.w := fit_cut ha.1 h1
    have hgw' : 0 ≤ z.n ∧ z.n ≤ g.1.w - z.w := fit_cut hb.1 h2
    have hy : 1 ≤ y.w ∧ y.w ≤ 16 := ha.1.width
    have hz : 1 ≤ z.w ∧ z.w ≤ 16 := hb.1.width
    have hlt : Tm.sz (mkn 19 x.w z.n, mkTF [g]) < Tm.sz (x, mkTF [(y, mkTF [g]), (z, mkTF [g])]) := by rw [sz1, sz2, sz1, sz1]; omega
    refine ⟨keep_new (ok_cut hg hx.1 (by omega)) (show (19 : Int) ≠ 22 by decide) rfl (Nat.le_of_lt hlt) (fun u hu p hp => ?_) (fun e he => ?_), ms_of hlt, fun hn => NfF_mk fun u hu => ?_⟩
    · rw [List.mem_singleton.1 hu] at hp; exact vars_kid ma p (vars_kid (List.mem_singleton.2 rfl) p hp)
    · rw [ev_join ho, ev_cut h1, ev_cut h2, ev_cut rfl, h3]
      show cW g.1.w _ z.n x.w = jW y.w _ z.w _
      rw [← hw]
      exact (joC (word_kid (env_kid he ma) (List.mem_singleton.2 rfl) hg) hgw'.1 hy.1 hz.1 (by omega)).symm
    · rw [List.mem_singleton.1 hu]; exact Nf_kid (Nf_kid hn ma).2 (List.mem_singleton.2 rfl)
  · exact ⟨Keeps.refl h, fun _ => .inl rfl⟩
end
end Go.Proofs.Ytkoaicjcanplaaa
