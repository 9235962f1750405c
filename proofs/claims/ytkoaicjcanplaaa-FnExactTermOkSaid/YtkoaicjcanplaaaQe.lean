/- Terms plainly: one step towards a simpler form keeps a term valid and its width. No program in sight. -/
import Derived.Test.YtkoaicjcanplaaaQd
namespace Go.Proofs.Ytkoaicjcanplaaa
open Go Go.Vc Go.RowKit
set_option linter.unusedVariables false

def isC (t : Tm) (n : Int) : Bool := decide (t.1.op = 0 ∧ t.1.n = n)
def conT (w n : Int) : Tm := (constL w n, .nil)
def mkn (op w n : Int) : Lab := ⟨op, w, n, ByteArray.empty⟩
def swp (op : Int) : Bool := decide (op = 3 ∨ op = 5 ∨ op = 8 ∨ op = 9 ∨ op = 10 ∨ op = 14)
/-- A step ends (inl) or goes on with another term (inr). -/
abbrev St := Tm ⊕ Tm
def stIf (t a b c : Tm) : St :=
  if isC a 1 then .inl b else if a.1.op = 0 then .inl c else if cmpT b c = 0 then .inl b
  else if a.1.op = 1 then .inr (mkn 17 t.1.w 0, mkTF [kid a.2 0, c, b])
  else if t.1.w = 1 ∧ isC b 1 = true ∧ isC c 0 = true then .inl a
  else if t.1.w = 1 ∧ isC b 0 = true ∧ isC c 1 = true then .inr (mkn 1 1 0, mkTF [a])
  else .inl t
def stCut (t a : Tm) : St :=
  if t.1.n = 0 ∧ t.1.w = a.1.w then .inl a
  else if a.1.op = 19 then .inr (mkn 19 t.1.w (t.1.n + a.1.n), mkTF [kid a.2 0])
  else if a.1.op = 18 then
    (if t.1.n + t.1.w ≤ (kid a.2 1).1.w then .inr (mkn 19 t.1.w t.1.n, mkTF [kid a.2 1])
     else if (kid a.2 1).1.w ≤ t.1.n then .inr (mkn 19 t.1.w (t.1.n - (kid a.2 1).1.w), mkTF [kid a.2 0]) else .inl t)
  else if a.1.op = 20 ∨ a.1.op = 21 then (if t.1.n + t.1.w ≤ (kid a.2 0).1.w then .inr (mkn 19 t.1.w t.1.n, mkTF [kid a.2 0]) else .inl t)
  else .inl t
def stWid (t a : Tm) : St :=
  if t.1.w = a.1.w then .inl a else if a.1.op = t.1.op then .inr (mkn t.1.op t.1.w 0, mkTF [kid a.2 0]) else .inl t
def stJoin (t a b : Tm) : St :=
  if a.1.op = 19 ∧ b.1.op = 19 ∧ a.1.n = b.1.n + b.1.w ∧ cmpT (kid a.2 0) (kid b.2 0) = 0 then .inr (mkn 19 t.1.w b.1.n, mkTF [kid b.2 0]) else .inl t
def ones (w : Int) : Int := 2 ^ w.toNat - 1
def stFirst (op w : Int) (a b : Tm) : Option St :=
  if (op = 3 ∧ a.1.n = 0) ∨ (op = 5 ∧ a.1.n = 1) ∨ (op = 8 ∧ a.1.n = ones a.1.w) ∨ (op = 9 ∧ a.1.n = 0) ∨ (op = 10 ∧ a.1.n = 0) ∨ (op = 14 ∧ a.1.w = 1 ∧ a.1.n = 1) then some (.inl b)
  else if (op = 5 ∧ a.1.n = 0) ∨ (op = 8 ∧ a.1.n = 0) then some (.inl (conT w 0))
  else if op = 9 ∧ a.1.n = ones a.1.w then some (.inl (conT w (ones a.1.w)))
  else if (op = 10 ∧ a.1.n = ones a.1.w) ∨ (op = 14 ∧ a.1.w = 1 ∧ a.1.n = 0) then some (.inr (mkn 1 w 0, mkTF [b]))
  else none
/-- Behind the rules for a constant as the first kid. -/
def stRest (t a b : Tm) : St :=
  if isC b 0 = true ∧ (t.1.op = 4 ∨ t.1.op = 11 ∨ t.1.op = 12 ∨ t.1.op = 13) then .inl a
  else if isC b 0 = true ∧ t.1.op = 15 then .inl (conT 1 0)
  else if cmpT a b = 0 ∧ (t.1.op = 8 ∨ t.1.op = 9) then .inl a
  else if cmpT a b = 0 ∧ (t.1.op = 4 ∨ t.1.op = 10 ∨ t.1.op = 15 ∨ t.1.op = 16) then .inl (conT t.1.w 0)
  else if cmpT a b = 0 ∧ t.1.op = 14 then .inl (conT 1 1)
  else if swp t.1.op = true ∧ t.1.op ≠ 14 ∧ a.1.op = 0 ∧ b.1.op = t.1.op ∧ (kid b.2 0).1.op = 0 then .inr (mkn t.1.op t.1.w 0, mkTF [conT t.1.w (bW t.1.op t.1.w a.1.n (kid b.2 0).1.n), kid b.2 1])
  else .inl t
def stBin (t a b : Tm) : St :=
  if swp t.1.op = true ∧ cmpT a b = 1 then .inr (mkn t.1.op t.1.w 0, mkTF [b, a])
  else match (if a.1.op = 0 then stFirst t.1.op t.1.w a b else none) with
  | some s => s
  | none => stRest t a b
def allC (k : TF) : Bool := (hdF k).all fun x => decide (x.op = 0)
def e0 : ByteArray → Int := fun _ => 0
def step (t : Tm) : St :=
  if t.2 = .nil then .inl t
  else if allC t.2 = true then .inl (conT t.1.w (ap t.1 (hdF t.2) ((hdF t.2).map (·.n)) e0))
  else if t.1.op = 1 ∨ t.1.op = 2 then .inl (if (kid t.2 0).1.op = t.1.op then kid (kid t.2 0).2 0 else t)
  else if t.1.op = 17 then stIf t (kid t.2 0) (kid t.2 1) (kid t.2 2)
  else if t.1.op = 19 then stCut t (kid t.2 0)
  else if t.1.op = 20 ∨ t.1.op = 21 then stWid t (kid t.2 0)
  else if t.1.op = 18 then stJoin t (kid t.2 0) (kid t.2 1)
  else stBin t (kid t.2 0) (kid t.2 1)
def ms (t : Tm) : Nat := 2 * t.sz + if swp t.1.op = true ∧ cmpT (kid t.2 0) (kid t.2 1) = 1 then 1 else 0

/-! valid nodes -/
theorem kc_pos {op : Int} (h : (0 : Int) ≤ kc op) : 0 ≤ op ∧ op ≤ 22 := by
  unfold kc at h
  split at h
  · omega
  split at h
  · omega
  split at h
  · omega
  split at h <;> omega
theorem NodeOk.op {x : Lab} {l : List Lab} (h : NodeOk x l) : 0 ≤ x.op ∧ x.op ≤ 22 := kc_pos (by have := h.count; omega)
theorem len0 {k : TF} (h : k.len = 0) : k = .nil := Fo.len_zero h
theorem len1 {k : TF} (h : k.len = 1) : ∃ a, k = mkTF [a] := by
  match k, h with
  | .cons x l .nil, _ => exact ⟨(x, l), rfl⟩
theorem len2 {k : TF} (h : k.len = 2) : ∃ a b, k = mkTF [a, b] := by
  match k, h with
  | .cons x l (.cons y m .nil), _ => exact ⟨(x, l), (y, m), rfl⟩
theorem len3 {k : TF} (h : k.len = 3) : ∃ a b c, k = mkTF [a, b, c] := by
  match k, h with
  | .cons x l (.cons y m (.cons z n .nil)), _ => exact ⟨(x, l), (y, m), (z, n), rfl⟩
theorem kc0 {op : Int} (h : op = 0 ∨ op = 22) : kc op = 0 := by unfold kc; rw [if_pos h]
theorem kc1 {op : Int} (h : op = 1 ∨ op = 2 ∨ op = 19 ∨ op = 20 ∨ op = 21) : kc op = 1 := by unfold kc; rw [if_neg (by omega), if_pos h]
theorem kc2 {op : Int} (h : (3 ≤ op ∧ op ≤ 16) ∨ op = 18) : kc op = 2 := by unfold kc; rw [if_neg (by omega), if_neg (by omega), if_pos h]
theorem kc3 : kc 17 = 3 := by decide
section
variable {x : Lab} {k : TF}
theorem ok_nil (h : OkT (x, k)) (ho : x.op = 0 ∨ x.op = 22) : k = .nil := by
  have : ((hdF k).length : Int) = kc x.op := h.1.count
  rw [hdF_len, kc0 ho] at this
  exact len0 (by omega)
theorem ok_cons (h : OkT (x, k)) (ho : ¬ (x.op = 0 ∨ x.op = 22)) : k ≠ .nil := by
  rintro rfl
  have h1 := h.1.count
  have h2 := h.1.op
  simp only [hdF, List.length_nil] at h1
  unfold kc at h1
  rw [if_neg ho] at h1
  split at h1
  · omega
  split at h1
  · omega
  split at h1 <;> omega
/-- One kid. -/
theorem ok_1 (h : OkT (x, k)) (ho : x.op = 1 ∨ x.op = 2 ∨ x.op = 19 ∨ x.op = 20 ∨ x.op = 21) : ∃ a, k = mkTF [a] ∧ OkT a := by
  have : ((hdF k).length : Int) = kc x.op := h.1.count
  rw [hdF_len, kc1 ho] at this
  obtain ⟨a, rfl⟩ := len1 (show k.len = 1 by omega)
  exact ⟨a, rfl, h.2.1⟩
theorem ok_2 (h : OkT (x, k)) (ho : (3 ≤ x.op ∧ x.op ≤ 16) ∨ x.op = 18) : ∃ a b, k = mkTF [a, b] ∧ OkT a ∧ OkT b := by
  have : ((hdF k).length : Int) = kc x.op := h.1.count
  rw [hdF_len, kc2 ho] at this
  obtain ⟨a, b, rfl⟩ := len2 (show k.len = 2 by omega)
  exact ⟨a, b, rfl, h.2.1, h.2.2.1⟩
theorem ok_3 (h : OkT (x, k)) (ho : x.op = 17) : ∃ a b c, k = mkTF [a, b, c] ∧ OkT a ∧ OkT b ∧ OkT c := by
  have : ((hdF k).length : Int) = kc x.op := h.1.count
  rw [hdF_len, ho, kc3] at this
  obtain ⟨a, b, c, rfl⟩ := len3 (show k.len = 3 by omega)
  exact ⟨a, b, c, rfl, h.2.1, h.2.2.1, h.2.2.2.1⟩
end
theorem fit_un {x : Lab} {l : List Lab} (h : NodeOk x l) (ho : x.op = 1 ∨ x.op = 2) : kw l 0 = x.w := by
  have := h.fits; unfold fit at this; rw [if_neg (by omega), if_pos ho] at this; exact of_decide_eq_true this
theorem fit_bin {x : Lab} {l : List Lab} (h : NodeOk x l) (ho : 3 ≤ x.op ∧ x.op ≤ 13) : kw l 0 = x.w ∧ kw l 1 = x.w := by
  have := h.fits; unfold fit at this; rw [if_neg (by omega), if_neg (by omega), if_pos ho] at this; exact of_decide_eq_true this
theorem fit_cmp {x : Lab} {l : List Lab} (h : NodeOk x l) (ho : 14 ≤ x.op ∧ x.op ≤ 16) : kw l 0 = kw l 1 ∧ x.w = 1 := by
  have := h.fits; unfold fit at this; rw [if_neg (by omega), if_neg (by omega), if_neg (by omega), if_pos ho] at this; exact of_decide_eq_true this
theorem fit_if {x : Lab} {l : List Lab} (h : NodeOk x l) (ho : x.op = 17) : kw l 0 = 1 ∧ kw l 1 = x.w ∧ kw l 2 = x.w := by
  have := h.fits; unfold fit at this; rw [if_neg (by omega), if_neg (by omega), if_neg (by omega), if_neg (by omega), if_pos ho] at this; exact of_decide_eq_true this
theorem fit_join {x : Lab} {l : List Lab} (h : NodeOk x l) (ho : x.op = 18) : kw l 0 + kw l 1 = x.w := by
  have := h.fits; unfold fit at this; rw [if_neg (by omega), if_neg (by omega), if_neg (by omega), if_neg (by omega), if_neg (by omega), if_pos ho] at this; exact of_decide_eq_true this
theorem fit_cut {x : Lab} {l : List Lab} (h : NodeOk x l) (ho : x.op = 19) : 0 ≤ x.n ∧ x.n ≤ kw l 0 - x.w := by
  have := h.fits; unfold fit at this; rw [if_neg (by omega), if_neg (by omega), if_neg (by omega), if_neg (by omega), if_neg (by omega), if_neg (by omega), if_pos ho] at this; exact of_decide_eq_true this
theorem fit_wid {x : Lab} {l : List Lab} (h : NodeOk x l) (ho : x.op = 20 ∨ x.op = 21) : kw l 0 ≤ x.w := by
  have := h.fits; unfold fit at this; rw [if_neg (by omega), if_neg (by omega), if_neg (by omega), if_neg (by omega), if_neg (by omega), if_neg (by omega), if_neg (by omega)] at this; exact of_decide_eq_true this
/-- New nodes that are valid. -/
theorem okn {op w n : Int} {l : List Tm} (hl : ∀ t ∈ l, OkT t) (hw : 1 ≤ w ∧ w ≤ 16) (hc : (l.length : Int) = kc op) (hf : fit (mkn op w n) (l.map (·.1)) = true) (h0 : op ≠ 0) (h22 : op ≠ 22) (hn : op ≠ 19 → n = 0) : OkT (mkn op w n, mkTF l) := by
  have e : hdF (mkTF l) = l.map (·.1) := by rw [hdF_tms, tms_mk]
  refine ⟨?_, OkF_mk hl⟩
  show NodeOk (mkn op w n) (hdF (mkTF l))
  rw [e]
  exact ⟨hw, by rw [List.length_map]; exact hc, fun y hy => by
    obtain ⟨t, ht, rfl⟩ := List.mem_map.1 hy
    exact (hl t ht).1.width, hf, fun h => absurd h h0, fun _ h => hn h, fun _ => rfl, fun h => absurd h h22⟩
theorem ok_con {w n : Int} (h : wOk w n = true) : OkT (conT w n) :=
  ⟨⟨by have := wOk_iff.1 h; exact ⟨this.1, this.2.1⟩, rfl, by simp [conT, hdF], rfl, fun _ => h, fun h => absurd rfl h, fun _ => rfl, fun h => by cases h⟩, trivial⟩
theorem ok_un {op w : Int} {a : Tm} (ha : OkT a) (ho : op = 1 ∨ op = 2) (h : a.1.w = w) : OkT (mkn op w 0, mkTF [a]) :=
  okn (by simpa using ha) (by rw [← h]; exact ha.1.width) (by rw [kc1 (by omega)]; rfl) (by unfold fit; rw [if_neg (by simp only [mkn]; omega), if_pos (by simp only [mkn]; omega)]; simpa [kw, mkn] using h) (by omega) (by omega) (fun _ => rfl)
theorem ok_cut {w n : Int} {a : Tm} (ha : OkT a) (hw : 1 ≤ w) (h : 0 ≤ n ∧ n ≤ a.1.w - w) : OkT (mkn 19 w n, mkTF [a]) :=
  okn (by simpa using ha) ⟨hw, by have := ha.1.width; omega⟩ rfl (by simp only [fit, mkn, kw]; exact decide_eq_true h) (by decide) (by decide) (fun h => absurd rfl h)
theorem ok_wid {op w : Int} {a : Tm} (ha : OkT a) (ho : op = 20 ∨ op = 21) (hw : w ≤ 16) (h : a.1.w ≤ w) : OkT (mkn op w 0, mkTF [a]) :=
  okn (by simpa using ha) ⟨by have := ha.1.width; omega, hw⟩ (by rw [kc1 (by omega)]; rfl) (by rcases ho with rfl | rfl <;> (simp only [fit, mkn, kw]; exact decide_eq_true h)) (by omega) (by omega) (fun _ => rfl)
theorem ok_bin {op w : Int} {a b : Tm} (ha : OkT a) (hb : OkT b) (ho : 3 ≤ op ∧ op ≤ 13) (h : a.1.w = w) (h' : b.1.w = w) : OkT (mkn op w 0, mkTF [a, b]) :=
  okn (by simp [ha, hb]) (by rw [← h]; exact ha.1.width) (by rw [kc2 (by omega)]; rfl) (by unfold fit; rw [if_neg (by simp only [mkn]; omega), if_neg (by simp only [mkn]; omega), if_pos (by simp only [mkn]; omega)]; exact decide_eq_true ⟨h, h'⟩) (by omega) (by omega) (fun _ => rfl)
theorem ok_cmp {op : Int} {a b : Tm} (ha : OkT a) (hb : OkT b) (ho : 14 ≤ op ∧ op ≤ 16) (h : a.1.w = b.1.w) : OkT (mkn op 1 0, mkTF [a, b]) :=
  okn (by simp [ha, hb]) (by omega) (by rw [kc2 (by omega)]; rfl) (by unfold fit; rw [if_neg (by simp only [mkn]; omega), if_neg (by simp only [mkn]; omega), if_neg (by simp only [mkn]; omega), if_pos (by simp only [mkn]; omega)]; exact decide_eq_true ⟨h, rfl⟩) (by omega) (by omega) (fun _ => rfl)
theorem ok_if {w : Int} {a b c : Tm} (ha : OkT a) (hb : OkT b) (hc : OkT c) (h0 : a.1.w = 1) (h1 : b.1.w = w) (h2 : c.1.w = w) : OkT (mkn 17 w 0, mkTF [a, b, c]) :=
  okn (by simp [ha, hb, hc]) (by rw [← h1]; exact hb.1.width) rfl (by simp only [fit, mkn, kw]; exact decide_eq_true ⟨h0, h1, h2⟩) (by decide) (by decide) (fun _ => rfl)
/-- A constant of one's own. -/
theorem con_of {a : Tm} (h : OkT a) (ho : a.1.op = 0) : a = conT a.1.w a.1.n ∧ wOk a.1.w a.1.n = true := by
  obtain ⟨⟨op, w, n, nm⟩, k⟩ := a
  have hk := ok_nil h (.inl ho)
  have hn := h.1.noname (by rw [show ((⟨op, w, n, nm⟩ : Lab), k).1.op = op from rfl] at ho ⊢; omega)
  simp only at ho hk hn
  subst ho
  subst hk
  subst hn
  exact ⟨rfl, h.1.const rfl⟩
end Go.Proofs.Ytkoaicjcanplaaa
