/- The text of a term tells the term: the plain law. No program in sight. -/
import Derived.Test.YtekddgkgeaolnaaQd
import Derived.Test.YtekddgkgeaolnaaDn
namespace Go.Proofs.Ytekddgkgeaolnaa
open Go Go.Vc Go.RowKit
set_option linter.unusedVariables false

/-- Nothing follows, or a byte that ends a word. -/
def Stp (D : UInt8 → Bool) (r : List UInt8) : Prop := r = [] ∨ ∃ c t, r = c :: t ∧ D c = true
theorem stp_split {D : UInt8 → Bool} : ∀ {p q r r' : List UInt8}, (∀ c ∈ p, D c = false) → (∀ c ∈ q, D c = false) → Stp D r → Stp D r' → p ++ r = q ++ r' → p = q ∧ r = r'
  | [], [], _, _, _, _, _, _, h => ⟨rfl, h⟩
  | [], c :: q, r, r', _, hq, hr, _, h => by
    exfalso
    rcases hr with e | ⟨d, t, e, hd⟩
    · subst e; cases h
    · subst e
      rw [List.nil_append, List.cons_append] at h
      injection h with h1 _
      rw [h1, hq c (by simp)] at hd
      cases hd
  | c :: p, [], r, r', hp, _, _, hr, h => by
    exfalso
    rcases hr with e | ⟨d, t, e, hd⟩
    · subst e; cases h
    · subst e
      rw [List.nil_append, List.cons_append] at h
      injection h with h1 _
      rw [← h1, hp c (by simp)] at hd
      cases hd
  | c :: p, d :: q, r, r', hp, hq, hr, hr', h => by
    rw [List.cons_append, List.cons_append] at h
    injection h with h1 h2
    obtain ⟨h3, h4⟩ := stp_split (p := p) (q := q) (fun x hx => hp x (by simp [hx])) (fun x hx => hq x (by simp [hx])) hr hr' h2
    exact ⟨by rw [h1, h3], h4⟩
def dlm (c : UInt8) : Bool := decide (c = 32 ∨ c = 40 ∨ c = 41)
def col (c : UInt8) : Bool := decide (c = 58)
def tnm (op : Int) : ByteArray := if op = 17 then ⟨#[105, 102]⟩ else if op = 18 then ⟨#[106, 111, 105, 110]⟩ else if op = 19 then ⟨#[99, 117, 116]⟩ else if op = 20 then ⟨#[103, 114, 111, 119]⟩ else if op = 21 then ⟨#[115, 116, 114, 101, 116, 99, 104]⟩ else opNm op
def nmB (op : Int) : List UInt8 := (tnm op).data.toList
def numB (x : Lab) : List UInt8 := (if x.op = 19 then 32 :: Lib.itoa x.n else []) ++ (if 19 ≤ x.op ∧ x.op ≤ 21 then 32 :: Lib.itoa x.w else [])
def leafB (x : Lab) : List UInt8 := if x.op = 0 then Lib.itoa x.w ++ 58 :: Lib.itoa x.n else x.name.data.toList ++ 58 :: Lib.itoa x.w
def fmF : TF → List UInt8
  | .nil => []
  | .cons x k r => 32 :: (if x.op = 0 ∨ x.op = 22 then leafB x else 40 :: (nmB x.op ++ (numB x ++ (fmF k ++ [41])))) ++ fmF r
def fmT (t : Tm) : List UInt8 := if t.1.op = 0 ∨ t.1.op = 22 then leafB t.1 else 40 :: (nmB t.1.op ++ (numB t.1 ++ (fmF t.2 ++ [41])))
theorem fmF_cons (x : Lab) (k r : TF) : fmF (.cons x k r) = 32 :: (fmT (x, k) ++ fmF r) := by rw [fmF, fmT, List.cons_append]
theorem itoa_dig {n : Int} (h : 0 ≤ n) : ∀ c ∈ Lib.itoa n, isDig c := by
  obtain ⟨m, rfl⟩ : ∃ m : Nat, n = m := ⟨n.toNat, by omega⟩
  rw [Lib.itoa_nonneg]
  exact dd_dig m
theorem dig_dlm {c : UInt8} (h : isDig c) : dlm c = false ∧ col c = false := by
  unfold isDig at h
  refine ⟨decide_eq_false ?_, decide_eq_false ?_⟩
  · rintro (e | e | e) <;> (subst e; revert h; decide)
  · intro e; subst e; revert h; decide
theorem itoa_dlm {n : Int} (h : 0 ≤ n) : ∀ c ∈ Lib.itoa n, dlm c = false := fun c hc => (dig_dlm (itoa_dig h c hc)).1
theorem itoa_col {n : Int} (h : 0 ≤ n) : ∀ c ∈ Lib.itoa n, col c = false := fun c hc => (dig_dlm (itoa_dig h c hc)).2
theorem name_chr {s : ByteArray} (h : isNm s = true) : (∀ c ∈ s.data.toList, dlm c = false ∧ col c = false) ∧ ∃ c t, s.data.toList = c :: t ∧ ¬ isDig c := by
  have h := of_decide_eq_true h
  have hat : ∀ i (hi : i < s.size), okAt i (s[i]'hi) := h.2.2
  have hget : ∀ i (hi : i < s.size), s.data.toList[i]? = some (s[i]'hi) := fun i hi => by
    rw [Array.getElem?_toList]
    exact Array.getElem?_eq_getElem hi
  have hlen : s.data.toList.length = s.size := rfl
  refine ⟨fun c hc => ?_, ?_⟩
  · obtain ⟨i, hi⟩ := List.mem_iff_getElem?.1 hc
    have hlt : i < s.size := by
      have := (List.getElem?_eq_some_iff.1 hi).1
      omega
    rw [hget i hlt] at hi
    have hc' := Option.some.inj hi
    have := hat i hlt
    rw [hc'] at this
    unfold okAt at this
    refine ⟨decide_eq_false ?_, decide_eq_false ?_⟩
    · rintro (e | e | e) <;> (subst e; revert this; simp)
    · intro e; subst e; revert this; simp
  · have h0 : 0 < s.size := by omega
    have h1 := hget 0 h0
    cases hs : s.data.toList with
    | nil => rw [hs] at h1; cases h1
    | cons c t =>
      rw [hs] at h1
      have hc : c = s[0]'h0 := Option.some.inj h1
      refine ⟨c, t, rfl, fun hd => ?_⟩
      have := hat 0 h0
      rw [← hc] at this
      unfold okAt at this
      unfold isDig at hd
      revert this
      simp
      omega
theorem w_range {x : Lab} {l : List Lab} (h : NodeOk x l) : 0 ≤ x.w ∧ inI x.w := by have := h.width; exact ⟨by omega, by unfold inI; omega⟩
theorem itoa_inj {n m : Int} (hn : inI n) (hm : inI m) (h : Lib.itoa n = Lib.itoa m) : n = m :=
  itoaS_inj hn hm (by unfold itoaS; rw [h])
theorem itoa_ne {n : Int} (h : 0 ≤ n) : ∃ c t, Lib.itoa n = c :: t ∧ isDig c := by
  cases hs : Lib.itoa n with
  | nil =>
    obtain ⟨m, rfl⟩ : ∃ m : Nat, n = m := ⟨n.toNat, by omega⟩
    rw [Lib.itoa_nonneg] at hs
    exact absurd hs (dd_ne m)
  | cons c t => exact ⟨c, t, rfl, itoa_dig h c (by rw [hs]; simp)⟩
theorem n_range {x : Lab} {l : List Lab} (h : NodeOk x l) (ho : x.op = 0 ∨ x.op = 19) : 0 ≤ x.n := by
  rcases ho with ho | ho
  · have := wOk_iff.1 (h.const ho); omega
  · exact (fit_cut h ho).1
theorem leaf_dlm {x : Lab} {l : List Lab} (h : NodeOk x l) (ho : x.op = 0 ∨ x.op = 22) : ∀ c ∈ leafB x, dlm c = false := by
  intro c hc
  unfold leafB at hc
  have h58 : dlm 58 = false := by decide
  by_cases h0 : x.op = 0
  · rw [if_pos h0] at hc
    rcases List.mem_append.1 hc with hc | hc
    · exact itoa_dlm (w_range h).1 c hc
    · rcases List.mem_cons.1 hc with rfl | hc
      · exact h58
      · exact itoa_dlm (n_range h (.inl h0)) c hc
  · rw [if_neg h0] at hc
    rcases List.mem_append.1 hc with hc | hc
    · exact ((name_chr (h.name (by omega))).1 c hc).1
    · rcases List.mem_cons.1 hc with rfl | hc
      · exact h58
      · exact itoa_dlm (w_range h).1 c hc
theorem col_stp (r : List UInt8) : Stp col (58 :: r) := .inr ⟨58, r, rfl, by decide⟩
theorem leaf_inj {x y : Lab} {l m : List Lab} (hx : NodeOk x l) (hy : NodeOk y m) (ix : inI x.n) (iy : inI y.n) (ox : x.op = 0 ∨ x.op = 22) (oy : y.op = 0 ∨ y.op = 22) (h : leafB x = leafB y) : x = y := by
  unfold leafB at h
  have hwx := w_range hx
  have hwy := w_range hy
  obtain ⟨xo, xw, xn, xs⟩ := x
  obtain ⟨yo, yw, yn, ys⟩ := y
  simp only at *
  by_cases h0 : xo = 0
  · have nx := n_range hx (.inl h0)
    have ex := hx.noname (show xo ≠ 22 by omega)
    rw [if_pos h0] at h
    by_cases k0 : yo = 0
    · have ny := n_range hy (.inl k0)
      have ey := hy.noname (show yo ≠ 22 by omega)
      rw [if_pos k0] at h
      obtain ⟨h1, h2⟩ := stp_split (itoa_col hwx.1) (itoa_col hwy.1) (col_stp _) (col_stp _) h
      injection h2 with _ h2
      have e1 := itoa_inj hwx.2 hwy.2 h1
      have e2 := itoa_inj ix iy h2
      simp only at ex ey
      rw [h0, k0, e1, e2, ex, ey]
    · rw [if_neg k0] at h
      obtain ⟨hc, c, t, hct, hnd⟩ := name_chr (hy.name (show yo = 22 by omega))
      obtain ⟨h1, _⟩ := stp_split (itoa_col hwx.1) (fun c hc' => (hc c hc').2) (col_stp _) (col_stp _) h
      obtain ⟨d, t', hd, hdd⟩ := itoa_ne hwx.1
      simp only at h1 hct
      rw [hd, hct] at h1
      injection h1 with h1 _
      rw [h1] at hdd
      exact absurd hdd hnd
  · have nx := hx.num (show xo ≠ 0 by omega) (show xo ≠ 19 by omega)
    obtain ⟨hc, c, t, hct, hnd⟩ := name_chr (hx.name (show xo = 22 by omega))
    rw [if_neg h0] at h
    by_cases k0 : yo = 0
    · rw [if_pos k0] at h
      obtain ⟨h1, _⟩ := stp_split (fun c hc' => (hc c hc').2) (itoa_col hwy.1) (col_stp _) (col_stp _) h
      obtain ⟨d, t', hd, hdd⟩ := itoa_ne hwy.1
      simp only at h1 hct
      rw [hd, hct] at h1
      injection h1 with h1 _
      rw [← h1] at hdd
      exact absurd hdd hnd
    · have ny := hy.num (show yo ≠ 0 by omega) (show yo ≠ 19 by omega)
      obtain ⟨hc', _⟩ := name_chr (hy.name (show yo = 22 by omega))
      rw [if_neg k0] at h
      obtain ⟨h1, h2⟩ := stp_split (fun c hh => (hc c hh).2) (fun c hh => (hc' c hh).2) (col_stp _) (col_stp _) h
      injection h2 with _ h2
      have e1 := itoa_inj hwx.2 hwy.2 h2
      have e2 : xs = ys := bytes_ext.1 h1
      simp only at nx ny
      rw [show xo = 22 by omega, show yo = 22 by omega, e1, e2, nx, ny]
theorem nmB_all : ∀ op : Fin 22, 1 ≤ op.val → (nmB (op.val : Int)).all (fun c => !dlm c) = true ∧ ∀ q : Fin 22, 1 ≤ q.val → nmB (op.val : Int) = nmB (q.val : Int) → op = q := by decide +kernel
theorem nm_dlm {op : Int} (h : 1 ≤ op ∧ op ≤ 21) : ∀ c ∈ nmB op, dlm c = false := by
  obtain ⟨m, rfl⟩ : ∃ m : Nat, op = m := ⟨op.toNat, by omega⟩
  intro c hc
  have := List.all_eq_true.1 (nmB_all ⟨m, by omega⟩ (by show 1 ≤ m; omega)).1 c hc
  simpa using this
theorem nm_inj {op q : Int} (h : 1 ≤ op ∧ op ≤ 21) (h' : 1 ≤ q ∧ q ≤ 21) (e : nmB op = nmB q) : op = q := by
  obtain ⟨m, rfl⟩ : ∃ m : Nat, op = m := ⟨op.toNat, by omega⟩
  obtain ⟨n, rfl⟩ : ∃ n : Nat, q = n := ⟨q.toNat, by omega⟩
  have := congrArg Fin.val ((nmB_all ⟨m, by omega⟩ (by show 1 ≤ m; omega)).2 ⟨n, by omega⟩ (by show 1 ≤ n; omega) e)
  have : m = n := this
  omega
theorem fmF_stp (k : TF) (r : List UInt8) : Stp dlm (fmF k ++ 41 :: r) := by
  cases k with
  | nil => exact .inr ⟨41, r, rfl, by decide⟩
  | cons x k q => rw [fmF_cons]; exact .inr ⟨32, _, rfl, by decide⟩
theorem num_stp (x : Lab) {r : List UInt8} (h : Stp dlm r) : Stp dlm (numB x ++ r) := by
  unfold numB
  by_cases h1 : x.op = 19
  · rw [if_pos h1]; exact .inr ⟨32, _, rfl, by decide⟩
  · rw [if_neg h1]
    by_cases h2 : 19 ≤ x.op ∧ x.op ≤ 21
    · rw [if_pos h2]; exact .inr ⟨32, _, rfl, by decide⟩
    · rw [if_neg h2]; exact h
theorem w_of_kids {x y : Lab} {l : List Lab} (hx : NodeOk x l) (hy : NodeOk y l) (ho : x.op = y.op) (h : ¬ (19 ≤ x.op ∧ x.op ≤ 21)) (h0 : ¬ (x.op = 0 ∨ x.op = 22)) : x.w = y.w := by
  rcases ops hx with k | k | k | k | k | k | k | k | k
  · omega
  · omega
  · rw [← fit_un hx k, ← fit_un hy (by omega)]
  · omega
  · omega
  · rw [← (fit_bin hx k).1, ← (fit_bin hy (by omega)).1]
  · rw [(fit_cmp hx k).2, (fit_cmp hy (by omega)).2]
  · rw [← fit_join hx k, ← fit_join hy (by omega)]
  · rw [← (fit_if hx k).2.1, ← (fit_if hy (by omega)).2.1]
theorem num_inj {x y : Lab} {l m : List Lab} (hx : NodeOk x l) (hy : NodeOk y m) (ix : inI x.n) (iy : inI y.n) (ho : x.op = y.op) (r r' : List UInt8) (hr : Stp dlm r) (hr' : Stp dlm r') (h : numB x ++ r = numB y ++ r') : r = r' ∧ (x.op = 19 → x.n = y.n) ∧ (19 ≤ x.op ∧ x.op ≤ 21 → x.w = y.w) := by
  have hwx := w_range hx
  have hwy := w_range hy
  unfold numB at h
  rw [← ho] at h
  by_cases h1 : x.op = 19
  · have nx := n_range hx (.inr h1)
    have ny := n_range hy (.inr (ho ▸ h1))
    rw [if_pos h1, if_pos h1, if_pos (by omega), if_pos (by omega)] at h
    simp only [List.cons_append, List.append_assoc] at h
    injection h with _ h
    obtain ⟨e1, h⟩ := stp_split (itoa_dlm nx) (itoa_dlm ny) (.inr ⟨32, _, rfl, by decide⟩) (.inr ⟨32, _, rfl, by decide⟩) h
    injection h with _ h
    obtain ⟨e2, h⟩ := stp_split (itoa_dlm hwx.1) (itoa_dlm hwy.1) hr hr' h
    exact ⟨h, fun _ => itoa_inj ix iy e1, fun _ => itoa_inj hwx.2 hwy.2 e2⟩
  · rw [if_neg h1, if_neg h1] at h
    by_cases h2 : 19 ≤ x.op ∧ x.op ≤ 21
    · rw [if_pos h2, if_pos h2] at h
      simp only [List.nil_append, List.cons_append] at h
      injection h with _ h
      obtain ⟨e2, h⟩ := stp_split (itoa_dlm hwx.1) (itoa_dlm hwy.1) hr hr' h
      exact ⟨h, fun e => absurd e h1, fun _ => itoa_inj hwx.2 hwy.2 e2⟩
    · rw [if_neg h2, if_neg h2] at h
      exact ⟨h, fun e => absurd e h1, fun e => absurd e h2⟩
theorem fmF_inj : ∀ (f g : TF) (r r' : List UInt8), OkF f → OkF g → f.All (fun x => inI x.n) → g.All (fun x => inI x.n) → fmF f ++ 41 :: r = fmF g ++ 41 :: r' → f = g ∧ r = r'
  | .nil, .nil, _, _, _, _, _, _, h => ⟨rfl, (List.cons.inj h).2⟩
  | .nil, .cons y l q, r, r', _, _, _, _, h => by rw [fmF_cons] at h; exact absurd (List.cons.inj h).1 (by decide)
  | .cons x k p, .nil, r, r', _, _, _, _, h => by rw [fmF_cons] at h; exact absurd (List.cons.inj h).1 (by decide)
  | .cons x k p, .cons y l q, r, r', ⟨⟨hx, hk⟩, hp⟩, ⟨⟨hy, hl⟩, hq⟩, ⟨ix, ik, ip⟩, ⟨iy, il, iq⟩, h => by
    rw [fmF_cons, fmF_cons] at h
    simp only [List.cons_append, List.append_assoc] at h
    injection h with _ h
    unfold fmT at h
    have s1 := fmF_stp p r
    have s2 := fmF_stp q r'
    by_cases ox : x.op = 0 ∨ x.op = 22
    · rw [if_pos (show (x, k).1.op = 0 ∨ (x, k).1.op = 22 from ox)] at h
      by_cases oy : y.op = 0 ∨ y.op = 22
      · rw [if_pos (show (y, l).1.op = 0 ∨ (y, l).1.op = 22 from oy)] at h
        obtain ⟨e1, h⟩ := stp_split (leaf_dlm hx ox) (leaf_dlm hy oy) s1 s2 h
        obtain ⟨e2, e3⟩ := fmF_inj p q r r' hp hq ip iq h
        have e4 := leaf_inj hx hy ix iy ox oy e1
        have ek : k = .nil := ok_nil (x := x) ⟨hx, hk⟩ ox
        have el : l = .nil := ok_nil (x := y) ⟨hy, hl⟩ oy
        exact ⟨by rw [e4, ek, el, e2], e3⟩
      · exfalso
        rw [if_neg (show ¬ ((y, l).1.op = 0 ∨ (y, l).1.op = 22) from oy)] at h
        rw [List.cons_append] at h
        cases hs : leafB x with
        | nil =>
          simp only at h
          unfold leafB at hs
          split at hs <;> exact absurd (List.append_eq_nil_iff.1 hs).2 (by simp)
        | cons c t =>
          simp only at h
          rw [hs, List.cons_append] at h
          injection h with h1 _
          have := leaf_dlm hx ox c (by rw [hs]; simp)
          rw [h1] at this
          exact absurd this (by decide)
    · rw [if_neg (show ¬ ((x, k).1.op = 0 ∨ (x, k).1.op = 22) from ox)] at h
      by_cases oy : y.op = 0 ∨ y.op = 22
      · exfalso
        rw [if_pos (show (y, l).1.op = 0 ∨ (y, l).1.op = 22 from oy)] at h
        rw [List.cons_append] at h
        cases hs : leafB y with
        | nil =>
          simp only at h
          unfold leafB at hs
          split at hs <;> exact absurd (List.append_eq_nil_iff.1 hs).2 (by simp)
        | cons c t =>
          simp only at h
          rw [hs, List.cons_append] at h
          injection h with h1 _
          have := leaf_dlm hy oy c (by rw [hs]; simp)
          rw [← h1] at this
          exact absurd this (by decide)
      · rw [if_neg (show ¬ ((y, l).1.op = 0 ∨ (y, l).1.op = 22) from oy)] at h
        have opx := hx.op
        have opy := hy.op
        simp only [List.cons_append, List.append_assoc, List.nil_append] at h
        injection h with _ h
        have t1 := fmF_stp k (fmF p ++ 41 :: r)
        have t2 := fmF_stp l (fmF q ++ 41 :: r')
        obtain ⟨e1, h⟩ := stp_split (nm_dlm (by omega)) (nm_dlm (by omega)) (num_stp x t1) (num_stp y t2) h
        have eo : x.op = y.op := nm_inj (by omega) (by omega) e1
        obtain ⟨h, en, ew⟩ := num_inj hx hy ix iy eo _ _ t1 t2 h
        obtain ⟨e2, h⟩ := fmF_inj k l _ _ hk hl ik il h
        obtain ⟨e3, e4⟩ := fmF_inj p q r r' hp hq ip iq h
        subst e2
        subst e3
        have hwe : x.w = y.w := by
          by_cases hh : 19 ≤ x.op ∧ x.op ≤ 21
          · exact ew hh
          · exact w_of_kids hx hy eo hh ox
        have hne : x.n = y.n := by
          by_cases hh : x.op = 19
          · exact en hh
          · rw [hx.num (by omega) hh, hy.num (by omega) (by omega)]
        have hme : x.name = y.name := by rw [hx.noname (by omega), hy.noname (by omega)]
        obtain ⟨xo, xw, xn, xs⟩ := x
        obtain ⟨yo, yw, yn, ys⟩ := y
        simp only at eo hwe hne hme
        exact ⟨by rw [eo, hwe, hne, hme], e4⟩
theorem fmT_inj {t u : Tm} (ht : OkT t) (hu : OkT u) (it : inI t.1.n ∧ t.2.All (fun x => inI x.n)) (iu : inI u.1.n ∧ u.2.All (fun x => inI x.n)) (h : fmT t = fmT u) : t = u := by
  have := (fmF_inj (.cons t.1 t.2 .nil) (.cons u.1 u.2 .nil) [] [] ⟨ht, trivial⟩ ⟨hu, trivial⟩ ⟨it.1, it.2, trivial⟩ ⟨iu.1, iu.2, trivial⟩ (by rw [fmF_cons, fmF_cons]; show 32 :: (fmT t ++ _) ++ _ = 32 :: (fmT u ++ _) ++ _; rw [h])).1
  injection this with h1 h2 _
  exact Prod.ext h1 h2
end Go.Proofs.Ytekddgkgeaolnaa
