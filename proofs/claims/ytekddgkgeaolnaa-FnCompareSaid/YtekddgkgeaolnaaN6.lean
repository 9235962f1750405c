/- Values of variables, plainly: the variables of a term and the values that cover them; constants that are put for variables. No program in sight. -/
import Derived.Test.YtekddgkgeaolnaaN4
import Derived.Test.YtekddgkgeaolnaaQn
namespace Go.Proofs.Ytekddgkgeaolnaa
open Go Go.Vc Go.RowKit
set_option linter.unusedVariables false

theorem mem_vsT {t : Tm} (hc : Cons (varsT t)) (p : ByteArray × Int) : p ∈ vsT t ↔ p ∈ varsT t := by
  have h1 := lk_mem_iff (s := p.1) (w := p.2) (asc_nod (vsT_asc t))
  rw [vsT_lk] at h1
  constructor
  · intro h
    exact lk_mem (h1.2 h)
  · intro h
    exact h1.1 (lk_of_mem hc h)
theorem cov_vsT {t : Tm} (hc : Cons (varsT t)) (l : List VLab) : cov l (vsT t) = cov l (varsT t) := by
  refine beq_of_iff ?_
  rw [cov_iff, cov_iff]
  exact ⟨fun h p hp => h p ((mem_vsT hc p).2 hp), fun h p hp => h p ((mem_vsT hc p).1 hp)⟩
theorem vsT_len (t : Tm) : (vsT t).length ≤ t.sz := by
  have h1 := vput_len (varsT t) []
  have h2 := varsF_len (.cons t.1 t.2 .nil)
  have h3 : (varsF (.cons t.1 t.2 .nil)).length = (varsT t).length := rfl
  have h4 : (Fo.cons t.1 t.2 .nil).size = t.sz := by show t.2.size + 0 + 1 = _; rfl
  simp only [List.length_nil] at h1
  have h5 : (vsT t).length = (vput [] (varsT t)).length := rfl
  omega
/-- What `ValuesOk` says of each value. -/
theorem vOk_at {l : List VLab} (h : vOk l = true) : l.length ≤ 30 ∧ ∀ i, (hi : i < l.length) → isNm (l[i]'hi).name = true ∧ wOk (l[i]'hi).w (l[i]'hi).n = true ∧ (0 < i → less (l[i - 1]'(by omega)).name (l[i]'hi).name = true) := by
  unfold vOk at h
  rw [Bool.and_eq_true, List.all_eq_true] at h
  refine ⟨of_decide_eq_true h.1, fun i hi => ?_⟩
  have h2 := h.2 i (List.mem_range.2 hi)
  unfold vAt at h2
  rw [List.getElem?_eq_getElem hi] at h2
  simp only [Bool.and_eq_true, Bool.or_eq_true, decide_eq_true_eq] at h2
  refine ⟨h2.1.1, h2.1.2, fun h0 => ?_⟩
  rcases h2.2 with e | e
  · omega
  · rw [List.getElem?_eq_getElem (show i - 1 < l.length by omega)] at e
    exact e
theorem vOk_word {l : List VLab} (h : vOk l = true) : ∀ v ∈ l, wOk v.w v.n = true := fun v hv => by
  obtain ⟨i, hi, rfl⟩ := List.mem_iff_getElem.1 hv
  exact ((vOk_at h).2 i hi).2.1
theorem vOk_lt {l : List VLab} (h : vOk l = true) : ∀ j i, (hj : j < i) → (hi : i < l.length) → less (l[j]'(by omega)).name (l[i]'hi).name = true := by
  intro j i
  induction i with
  | zero => intro hj; omega
  | succ i ih =>
    intro hj hi
    have h1 := ((vOk_at h).2 (i + 1) hi).2.2 (by omega)
    by_cases he : j = i
    · subst he; exact h1
    · exact less_trans (ih (by omega) (by omega)) h1
theorem vOk_inj {l : List VLab} (h : vOk l = true) {i j : Nat} (hi : i < l.length) (hj : j < l.length) (e : (l[i]'hi).name = (l[j]'hj).name) : i = j := by
  rcases Nat.lt_trichotomy i j with k | k | k
  · exact absurd e (less_ne (vOk_lt h i j k hj))
  · exact k
  · exact absurd e.symm (less_ne (vOk_lt h j i k hi))
/-- With distinct names the last value of a name is the first. -/
theorem fnd_at {l : List VLab} (h : vOk l = true) {i : Nat} (hi : i < l.length) : fnd l (l[i]'hi).name = some (l[i]'hi) := by
  cases hf : fnd l (l[i]'hi).name with
  | none => exact absurd rfl (fnd_none hf _ (List.getElem_mem hi))
  | some v =>
    obtain ⟨h1, h2⟩ := fnd_name hf
    obtain ⟨j, hj, rfl⟩ := List.mem_iff_getElem.1 h2
    have := vOk_inj h hj hi h1
    subst this
    rfl
/-- A list of values read from the front on, as a map that is filled. -/
theorem fnd_snoc {l : List VLab} (h : vOk l = true) {i : Nat} (hi : i < l.length) (s : ByteArray) : fnd (l.take (i + 1)) s = if (l[i]'hi).name = s then some (l[i]'hi) else fnd (l.take i) s := by
  rw [take_snoc hi]
  unfold fnd
  rw [List.find?_append]
  by_cases hs : (l[i]'hi).name = s
  · rw [if_pos hs]
    have : List.find? (fun v : VLab => decide (v.name = s)) (l.take i) = none := by
      refine List.find?_eq_none.2 fun v hv e => ?_
      obtain ⟨j, hj, rfl⟩ := List.mem_iff_getElem.1 hv
      have hj' : j < i := by rw [List.length_take] at hj; omega
      have e := of_decide_eq_true e
      rw [List.getElem_take] at e
      exact absurd (vOk_inj h (show j < l.length by omega) hi (e.trans hs.symm)) (by omega)
    rw [this, Option.none_or, List.find?_cons, decide_eq_true hs]
  · rw [if_neg hs, List.find?_cons, decide_eq_false hs]
    cases List.find? (fun v : VLab => decide (v.name = s)) (l.take i) <;> rfl

/-! constants -/
def ConF (f : ByteArray → Option Tm) : Prop := ∀ s u, f s = some u → ∃ w n, u = conT w n ∧ wOk w n = true
theorem put_con (f : ByteArray → Option Tm) (hf : ConF f) : ∀ k : TF, OkF k → FitP f (varsF k) → OkF (putF f k) ∧ (putF f k).size = k.size ∧ (hdF (putF f k)).map (·.w) = (hdF k).map (·.w)
  | .nil, _, _ => ⟨trivial, rfl, rfl⟩
  | .cons x k r, ⟨⟨hN, hk⟩, hr⟩, h => by
    have hw := (put_ev f e0 (.cons x k r) h).2
    rw [varsF] at h
    obtain ⟨h12, h3⟩ := h.app
    obtain ⟨h1, h2⟩ := h12.app
    obtain ⟨r1, r2, r3⟩ := put_con f hf r hr h3
    obtain ⟨k1, k2, k3⟩ := put_con f hf k hk h2
    refine ⟨?_, ?_, hw⟩
    · rw [putF]
      cases hs : putS f x with
      | none => exact ⟨⟨hN.map k3, k1⟩, r1⟩
      | some u =>
        obtain ⟨w, n, rfl, hwn⟩ := hf _ _ (putS_some hs).2
        exact ⟨ok_con hwn, r1⟩
    · rw [putF]
      cases hs : putS f x with
      | none => show (putF f k).size + (putF f r).size + 1 = k.size + r.size + 1; rw [k2, r2]
      | some u =>
        obtain ⟨w, n, rfl, hwn⟩ := hf _ _ (putS_some hs).2
        have : k = .nil := ok_nil (x := x) ⟨hN, hk⟩ (.inr (putS_some hs).1)
        subst this
        show 0 + (putF f r).size + 1 = 0 + r.size + 1
        rw [r2]
theorem putT_con_ok {f : ByteArray → Option Tm} (hf : ConF f) {t : Tm} (h : OkT t) (hv : FitP f (varsT t)) : OkT (putT f t) ∧ (putT f t).sz = t.sz ∧ (putT f t).1.w = t.1.w := by
  have h1 := put_con f hf (.cons t.1 t.2 .nil) ⟨h, trivial⟩ hv
  rw [putF_cons] at h1
  obtain ⟨a, b, c⟩ := h1
  refine ⟨a.1, ?_, (List.cons.inj c).1⟩
  have b : (putT f (t.1, t.2)).2.size + 0 + 1 = t.2.size + 0 + 1 := b
  show (putT f t).2.size + 1 = t.2.size + 1
  exact b
theorem putT_con_vars {f : ByteArray → Option Tm} (hf : ConF f) {t : Tm} {q : ByteArray × Int} (h : q ∈ varsT (putT f t)) : q ∈ varsT t ∧ f q.1 = none := by
  rcases putT_vars f t q h with h | ⟨p, _, u, hu, hq⟩
  · exact h
  · obtain ⟨w, n, rfl, _⟩ := hf _ _ hu
    cases hq
theorem cons_sub {l m : Vs} (h : Cons l) (hs : ∀ p ∈ m, p ∈ l) : Cons m := fun p hp q hq e => h p (hs p hp) q (hs q hq) e
/-- What values give: constants for their names. -/
def valC (l : List VLab) : ByteArray → Option Tm := fun s => (fnd l s).map fun v => conT v.w v.n
theorem valC_con {l : List VLab} (h : ∀ v ∈ l, wOk v.w v.n = true) : ConF (valC l) := fun s u hu => by
  unfold valC at hu
  cases hf : fnd l s with
  | none => rw [hf] at hu; cases hu
  | some v =>
    rw [hf] at hu
    exact ⟨v.w, v.n, (Option.some.inj hu).symm, h v (fnd_name hf).2⟩
/-- With values for all its variables a term becomes a constant. -/
theorem sim_valC {t : Tm} {l : List VLab} (h : OkT t) (hl : ∀ v ∈ l, wOk v.w v.n = true) (hc : cov l (varsT t) = true) : OkT (putT (valC l) t) ∧ (putT (valC l) t).sz = t.sz ∧ varsT (putT (valC l) t) = [] ∧ sim (putT (valC l) t) = conT t.1.w (evT (envL l) t) := by
  have hcon := valC_con hl
  have hfit : FitP (valC l) (varsT t) := fun p hp u hu => by
    obtain ⟨v, h1, h2⟩ := cov_iff.1 hc p hp
    unfold valC at hu
    rw [h1] at hu
    rw [← Option.some.inj hu]
    exact h2
  obtain ⟨h1, h2, h3⟩ := putT_con_ok hcon h hfit
  have hv : varsT (putT (valC l) t) = [] := by
    cases hh : varsT (putT (valC l) t) with
    | nil => rfl
    | cons q m =>
      obtain ⟨k1, k2⟩ := putT_con_vars hcon (q := q) (t := t) (by rw [hh]; simp)
      obtain ⟨v, h4, _⟩ := cov_iff.1 hc q k1
      unfold valC at k2
      rw [h4] at k2
      cases k2
  refine ⟨h1, h2, hv, ?_⟩
  have he := sim_closed h1 hv (envL l)
  rw [h3, (put_evT (valC l) (envL l) t hfit).1] at he
  rw [he]
  congr 1
  have : envP (valC l) (envL l) = envL l := by
    funext s
    unfold envP valC envL
    cases fnd l s with
    | none => rfl
    | some v => rfl
  rw [this]
end Go.Proofs.Ytekddgkgeaolnaa
