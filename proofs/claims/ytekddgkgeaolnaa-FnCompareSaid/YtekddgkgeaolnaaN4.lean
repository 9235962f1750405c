/- Values of variables, and terms that are put for variables, plainly. No program in sight. Values of variables, plainly: the variables of a term and the values that cover them; constants that are put for variables. No program in sight. -/
import Derived.Test.YtekddgkgeaolnaaQd
import Derived.Test.YtekddgkgeaolnaaQn
import Derived.Test.YtekddgkgeaolnaaTv
namespace Go.Proofs.Ytekddgkgeaolnaa
open Go Go.Vc Go.RowKit
set_option linter.unusedVariables false

def fnd (l : List VLab) (s : ByteArray) : Option VLab := l.find? fun v => decide (v.name = s)
def envL (l : List VLab) : ByteArray → Int := fun s => ((fnd l s).map (·.n)).getD 0
def covP (l : List VLab) (p : ByteArray × Int) : Bool := decide ((fnd l p.1).map (·.w) = some p.2)
def cov (l : List VLab) (ws : Vs) : Bool := ws.all (covP l)
def evO (l : List VLab) (t : Tm) : Int × Bool := if cov l (varsT t) = true then (evT (envL l) t, true) else (0, false)
theorem fnd_name {l : List VLab} {s : ByteArray} {v : VLab} (h : fnd l s = some v) : v.name = s ∧ v ∈ l :=
  ⟨of_decide_eq_true (List.find?_some (p := fun v : VLab => decide (v.name = s)) h), List.mem_of_find?_eq_some h⟩
theorem fnd_none {l : List VLab} {s : ByteArray} (h : fnd l s = none) : ∀ v ∈ l, v.name ≠ s := fun v hv e => by
  have := List.find?_eq_none.1 h v hv
  exact this (decide_eq_true e)
theorem fnd_cons (x : VLab) (l : List VLab) (s : ByteArray) : fnd (x :: l) s = if x.name = s then some x else fnd l s := by
  unfold fnd
  rw [List.find?_cons]
  by_cases h : x.name = s
  · rw [if_pos h, decide_eq_true h]
  · rw [if_neg h, decide_eq_false h]
theorem cov_app (l : List VLab) (a b : Vs) : cov l (a ++ b) = (cov l a && cov l b) := List.all_append
theorem cov_iff {l : List VLab} {ws : Vs} : cov l ws = true ↔ ∀ p ∈ ws, ∃ v, fnd l p.1 = some v ∧ v.w = p.2 := by
  unfold cov
  rw [List.all_eq_true]
  constructor
  · intro h p hp
    have := of_decide_eq_true (h p hp)
    cases hf : fnd l p.1 with
    | none => rw [hf] at this; cases this
    | some v => rw [hf] at this; exact ⟨v, rfl, Option.some.inj this⟩
  · intro h p hp
    obtain ⟨v, h1, h2⟩ := h p hp
    exact decide_eq_true (by rw [h1]; exact congrArg some h2)
theorem evO_yes {l : List VLab} {t : Tm} (h : cov l (varsT t) = true) : evO l t = (evT (envL l) t, true) := if_pos h
theorem evO_no {l : List VLab} {t : Tm} (h : ¬ cov l (varsT t) = true) : evO l t = (0, false) := if_neg h
theorem envL_of {l : List VLab} {s : ByteArray} {v : VLab} (h : fnd l s = some v) : envL l s = v.n := by unfold envL; rw [h]; rfl
theorem env_ok {l : List VLab} {ws : Vs} (hw : ∀ v ∈ l, wOk v.w v.n = true) (h : cov l ws = true) : EnvOk (envL l) ws := fun p hp => by
  obtain ⟨v, h1, h2⟩ := cov_iff.1 h p hp
  rw [envL_of h1, ← h2]
  exact hw v (fnd_name h1).2

/-! terms for variables -/
def putS (f : ByteArray → Option Tm) (x : Lab) : Option Tm := if x.op = 22 then f x.name else none
def putF (f : ByteArray → Option Tm) : TF → TF
  | .nil => .nil
  | .cons x k r => .cons ((putS f x).getD (x, putF f k)).1 ((putS f x).getD (x, putF f k)).2 (putF f r)
def putT (f : ByteArray → Option Tm) (t : Tm) : Tm := (putS f t.1).getD (t.1, putF f t.2)
theorem putF_cons (f : ByteArray → Option Tm) (x : Lab) (k r : TF) : putF f (.cons x k r) = .cons (putT f (x, k)).1 (putT f (x, k)).2 (putF f r) := rfl
theorem putF_mk (f : ByteArray → Option Tm) : ∀ l : List Tm, putF f (mkTF l) = mkTF (l.map (putT f)) := by
  intro l
  induction l with
  | nil => rfl
  | cons t l ih => rw [mkTF, putF_cons, ih]; rfl
theorem putF_tms (f : ByteArray → Option Tm) (k : TF) : putF f k = mkTF ((tms k).map (putT f)) := by
  conv => lhs; rw [← mk_tms k]
  rw [putF_mk]
theorem putF_len (f : ByteArray → Option Tm) (k : TF) : (putF f k).len = k.len := by
  rw [putF_tms, ← tms_len, tms_mk, List.length_map, tms_len]
theorem putS_some {f : ByteArray → Option Tm} {x : Lab} {u : Tm} (h : putS f x = some u) : x.op = 22 ∧ f x.name = some u := by
  unfold putS at h
  by_cases hx : x.op = 22
  · rw [if_pos hx] at h; exact ⟨hx, h⟩
  · rw [if_neg hx] at h; cases h
theorem putS_none {f : ByteArray → Option Tm} {x : Lab} (h : putS f x = none) (hx : x.op = 22) : f x.name = none := by
  unfold putS at h
  rwa [if_pos hx] at h
theorem put_all {p : Lab → Prop} {f : ByteArray → Option Tm} (hf : ∀ s u, f s = some u → p u.1 ∧ u.2.All p) : ∀ k : TF, k.All p → (putF f k).All p
  | .nil, _ => trivial
  | .cons x k r, ⟨h1, h2, h3⟩ => by
    rw [putF]
    cases hs : putS f x with
    | none => exact ⟨h1, put_all hf k h2, put_all hf r h3⟩
    | some u => exact ⟨(hf _ _ (putS_some hs).2).1, (hf _ _ (putS_some hs).2).2, put_all hf r h3⟩
theorem putT_all {p : Lab → Prop} {f : ByteArray → Option Tm} (hf : ∀ s u, f s = some u → p u.1 ∧ u.2.All p) {t : Tm} (h1 : p t.1) (h2 : t.2.All p) : p (putT f t).1 ∧ (putT f t).2.All p := by
  unfold putT
  cases hs : putS f t.1 with
  | none => exact ⟨h1, put_all hf t.2 h2⟩
  | some u => exact hf _ _ (putS_some hs).2
def envP (f : ByteArray → Option Tm) (e : ByteArray → Int) : ByteArray → Int := fun s => ((f s).map (evT e)).getD (e s)
/-- Each term has the width of what it is put for. -/
def FitP (f : ByteArray → Option Tm) (ws : Vs) : Prop := ∀ p ∈ ws, ∀ u, f p.1 = some u → u.1.w = p.2
theorem FitP.app {f : ByteArray → Option Tm} {a b : Vs} (h : FitP f (a ++ b)) : FitP f a ∧ FitP f b :=
  ⟨fun p hp => h p (List.mem_append_left _ hp), fun p hp => h p (List.mem_append_right _ hp)⟩
theorem put_ev (f : ByteArray → Option Tm) (e : ByteArray → Int) : ∀ k : TF, FitP f (varsF k) → evF e (putF f k) = evF (envP f e) k ∧ (hdF (putF f k)).map (·.w) = (hdF k).map (·.w)
  | .nil, _ => ⟨rfl, rfl⟩
  | .cons x k r, h => by
    rw [varsF] at h
    obtain ⟨h12, h3⟩ := h.app
    obtain ⟨h1, h2⟩ := h12.app
    obtain ⟨r1, r2⟩ := put_ev f e r h3
    obtain ⟨k1, k2⟩ := put_ev f e k h2
    rw [putF]
    cases hs : putS f x with
    | some u =>
      obtain ⟨hx, hf⟩ := putS_some hs
      rw [if_pos hx] at h1
      simp only [Option.getD_some, evF, hdF, List.map_cons, r1, r2]
      refine ⟨congrArg (· :: _) ?_, congrArg (· :: _) (h1 _ (List.mem_singleton.2 rfl) u hf)⟩
      have he : ap x (hdF k) (evF (envP f e) k) (envP f e) = envP f e x.name := by rw [ap, if_neg (by omega), if_pos hx]
      rw [he]
      unfold envP; rw [hf]; rfl
    | none =>
      simp only [Option.getD_none, evF, hdF, List.map_cons, r1, r2, k1]
      refine ⟨congrArg (· :: _) ?_, trivial⟩
      rw [ap_map k2]
      by_cases hx : x.op = 22
      · rw [ap, if_neg (by omega), if_pos hx, ap, if_neg (by omega), if_pos hx]
        unfold envP; rw [putS_none hs hx]; rfl
      · unfold ap
        rw [if_neg hx, if_neg hx]
theorem put_evT (f : ByteArray → Option Tm) (e : ByteArray → Int) (t : Tm) (h : FitP f (varsT t)) : evT e (putT f t) = evT (envP f e) t ∧ (putT f t).1.w = t.1.w := by
  have h1 := put_ev f e (.cons t.1 t.2 .nil) h
  rw [putF_cons] at h1
  have h2 := List.cons.inj h1.1
  have h3 := List.cons.inj h1.2
  exact ⟨h2.1, h3.1⟩
/-- Two rounds of putting are one. -/
theorem put_put (f g : ByteArray → Option Tm) (hg : ∀ s u, f s = some u → putT g u = u) : ∀ k : TF, putF g (putF f k) = putF (fun s => (f s).or (g s)) k
  | .nil => rfl
  | .cons x k r => by
    have hr := put_put f g hg r
    have hk := put_put f g hg k
    rw [putF_cons, putF_cons, putF_cons, hr]
    have : putT g (putT f (x, k)) = putT (fun s => (f s).or (g s)) (x, k) := by
      cases hs : putS f x with
      | some u =>
        obtain ⟨hx, hf⟩ := putS_some hs
        have h1 : putT f (x, k) = u := by unfold putT; rw [hs]; rfl
        have h2 : putT (fun s => (f s).or (g s)) (x, k) = u := by
          unfold putT putS
          rw [if_pos hx]
          show ((f x.name).or (g x.name)).getD _ = u
          rw [hf]; rfl
        rw [h1, h2, hg _ _ hf]
      | none =>
        have h1 : putT f (x, k) = (x, putF f k) := by unfold putT; rw [hs]; rfl
        have h2 : putS (fun s => (f s).or (g s)) x = putS g x := by
          unfold putS
          by_cases hx : x.op = 22
          · rw [if_pos hx, if_pos hx]
            show (f x.name).or (g x.name) = g x.name
            rw [putS_none hs hx]; rfl
          · rw [if_neg hx, if_neg hx]
        rw [h1]
        unfold putT
        rw [h2, hk]
    rw [← this]
theorem putT_put (f g : ByteArray → Option Tm) (hg : ∀ s u, f s = some u → putT g u = u) (t : Tm) : putT g (putT f t) = putT (fun s => (f s).or (g s)) t := by
  have h := put_put f g hg (.cons t.1 t.2 .nil)
  rw [putF_cons, putF_cons, putF_cons] at h
  injection h with h1 h2 _
  exact Prod.ext h1 h2
theorem putT_con (g : ByteArray → Option Tm) (w n : Int) : putT g (conT w n) = conT w n := rfl
theorem put_none : ∀ k : TF, putF (fun _ => none) k = k
  | .nil => rfl
  | .cons x k r => by
    have : putS (fun _ => none) x = none := by unfold putS; split <;> rfl
    rw [putF, this, put_none r, put_none k]; rfl
theorem put_congr (f g : ByteArray → Option Tm) : ∀ k : TF, (∀ p ∈ varsF k, f p.1 = g p.1) → putF f k = putF g k
  | .nil, _ => rfl
  | .cons x k r, h => by
    have hs : putS f x = putS g x := by
      unfold putS
      by_cases hx : x.op = 22
      · rw [if_pos hx, if_pos hx]
        exact h (x.name, x.w) (by rw [varsF, if_pos hx]; simp)
      · rw [if_neg hx, if_neg hx]
    rw [putF, putF, hs, put_congr f g r fun p hp => h p (by rw [varsF]; exact List.mem_append_right _ hp), put_congr f g k fun p hp => h p (by rw [varsF]; exact List.mem_append_left _ (List.mem_append_right _ hp))]
theorem putT_congr (f g : ByteArray → Option Tm) (t : Tm) (h : ∀ p ∈ varsT t, f p.1 = g p.1) : putT f t = putT g t := by
  have h := put_congr f g (.cons t.1 t.2 .nil) h
  rw [putF_cons, putF_cons] at h
  injection h with h1 h2 _
  exact Prod.ext h1 h2
/-- The variables of what was put. -/
theorem put_vars (f : ByteArray → Option Tm) : ∀ k : TF, ∀ q ∈ varsF (putF f k), (q ∈ varsF k ∧ f q.1 = none) ∨ ∃ p ∈ varsF k, ∃ u, f p.1 = some u ∧ q ∈ varsT u
  | .nil, q, h => by cases h
  | .cons x k r, q, h => by
    have inR : q ∈ varsF (putF f r) → (q ∈ varsF (.cons x k r) ∧ f q.1 = none) ∨ ∃ p ∈ varsF (.cons x k r), ∃ u, f p.1 = some u ∧ q ∈ varsT u := fun h => by
      rcases put_vars f r q h with ⟨h1, h2⟩ | ⟨p, hp, hu⟩
      · exact .inl ⟨by rw [varsF]; exact List.mem_append_right _ h1, h2⟩
      · exact .inr ⟨p, by rw [varsF]; exact List.mem_append_right _ hp, hu⟩
    have inK : q ∈ varsF (putF f k) → (q ∈ varsF (.cons x k r) ∧ f q.1 = none) ∨ ∃ p ∈ varsF (.cons x k r), ∃ u, f p.1 = some u ∧ q ∈ varsT u := fun h => by
      rcases put_vars f k q h with ⟨h1, h2⟩ | ⟨p, hp, hu⟩
      · exact .inl ⟨by rw [varsF]; exact List.mem_append_left _ (List.mem_append_right _ h1), h2⟩
      · exact .inr ⟨p, by rw [varsF]; exact List.mem_append_left _ (List.mem_append_right _ hp), hu⟩
    rw [putF] at h
    cases hs : putS f x with
    | some u =>
      obtain ⟨hx, hf⟩ := putS_some hs
      rw [hs] at h
      simp only [Option.getD_some, varsF, List.mem_append] at h
      rcases h with h | h
      · exact .inr ⟨(x.name, x.w), by rw [varsF, if_pos hx]; simp, u, hf, by rw [varsT_eq, List.mem_append]; exact h⟩
      · exact inR h
    | none =>
      rw [hs] at h
      simp only [Option.getD_none, varsF, List.mem_append] at h
      rcases h with (h | h) | h
      · by_cases hx : x.op = 22
        · rw [if_pos hx, List.mem_singleton] at h
          subst h
          exact .inl ⟨by rw [varsF, if_pos hx]; simp, putS_none hs hx⟩
        · rw [if_neg hx] at h; cases h
      · exact inK h
      · exact inR h
theorem putT_vars (f : ByteArray → Option Tm) (t : Tm) (q : ByteArray × Int) (h : q ∈ varsT (putT f t)) : (q ∈ varsT t ∧ f q.1 = none) ∨ ∃ p ∈ varsT t, ∃ u, f p.1 = some u ∧ q ∈ varsT u :=
  put_vars f (.cons t.1 t.2 .nil) q (by rw [putF_cons]; exact h)
/-- A simple term without variables is a constant. -/
theorem closed_con : ∀ (n : Nat) (t : Tm), t.sz ≤ n → OkT t → NfT t → varsT t = [] → t.1.op = 0 := by
  intro n
  induction n with
  | zero => intro t h; have := sz_pos t; omega
  | succ n ih =>
    rintro ⟨x, k⟩ hsz hok hnf hv
    by_cases h0 : x.op = 0
    · exact h0
    exfalso
    have h22 : x.op ≠ 22 := fun e => by rw [varsT_eq, if_pos e] at hv; cases hv
    have hk : k ≠ .nil := ok_cons hok (by omega)
    have hkv : varsF k = [] := by rw [varsT_eq] at hv; exact (List.append_eq_nil_iff.1 hv).2
    have hall : allC k = true := by
      rw [← mk_tms k] at hkv ⊢
      rw [varsF_mk] at hkv
      refine allC_iff.2 fun a ha => ?_
      have hlt := lt_kid (x := x) ha
      rw [mk_tms] at hlt
      have hsz' : Tm.sz (x, k) ≤ n + 1 := hsz
      exact ih a (by omega) (OkF_mem hok.2 a ha) (NfF_mem hnf.2 a ha) (List.flatMap_eq_nil_iff.1 hkv a ha)
    have hst : step (x, k) = .inl (conT x.w (ap x (hdF k) ((hdF k).map (·.n)) e0)) := by
      unfold step
      rw [if_neg hk, if_pos hall]
    have := hnf.1
    rw [hst] at this
    have h3 : conT x.w (ap x (hdF k) ((hdF k).map (·.n)) e0) = (x, k) := Sum.inl.inj this
    exact h0 (congrArg (fun t : Tm => t.1.op) h3).symm
theorem sim_closed {t : Tm} (h : OkT t) (hv : varsT t = []) (e : ByteArray → Int) : sim t = conT t.1.w (evT e t) := by
  have hk := sim_keeps h
  have hv2 : varsT (sim t) = [] := by
    cases hh : varsT (sim t) with
    | nil => rfl
    | cons p l =>
      have := hk.vars p (by rw [hh]; simp)
      rw [hv] at this
      cases this
  have h0 := closed_con _ (sim t) (Nat.le_refl _) hk.ok (sim_nf h) hv2
  have hc := (con_of hk.ok h0).1
  have he := hk.ev e (fun p hp => by rw [hv] at hp; cases hp)
  rw [ev_op0 h0] at he
  rw [hc, hk.w, he]

/-! rows of a table: numbers written with digits of several widths, the last one fastest -/
def sumW : List Nat → Nat
  | [] => 0
  | w :: l => w + sumW l
def digs : List Nat → Nat → List Nat
  | [], _ => []
  | w :: l, r => r / 2 ^ sumW l % 2 ^ w :: digs l r
def nxt : List Nat → List Nat → List Nat × Bool
  | w :: ws, d :: ds => if (nxt ws ds).2 = true then (d :: (nxt ws ds).1, true) else if d + 1 < 2 ^ w then ((d + 1) :: (nxt ws ds).1, true) else (0 :: (nxt ws ds).1, false)
  | _, _ => ([], false)
theorem digs_len : ∀ (ws : List Nat) (r : Nat), (digs ws r).length = ws.length
  | [], _ => rfl
  | _ :: ws, r => by rw [digs, List.length_cons, List.length_cons, digs_len ws r]
theorem digs_mod : ∀ (ws : List Nat) (r : Nat), digs ws r = digs ws (r % 2 ^ sumW ws)
  | [], _ => rfl
  | w :: ws, r => by
    have h1 : r % 2 ^ sumW (w :: ws) / 2 ^ sumW ws % 2 ^ w = r / 2 ^ sumW ws % 2 ^ w := by
      rw [show sumW (w :: ws) = sumW ws + w from Nat.add_comm _ _, Nat.pow_add, Nat.mod_mul_right_div_self, Nat.mod_mod]
    have h2 : r % 2 ^ sumW (w :: ws) % 2 ^ sumW ws = r % 2 ^ sumW ws := by
      rw [show sumW (w :: ws) = sumW ws + w from Nat.add_comm _ _, Nat.pow_add, Nat.mod_mul_right_mod]
    rw [digs, digs, h1, digs_mod ws r, digs_mod ws (r % 2 ^ sumW (w :: ws)), h2]
theorem digs_zero : ∀ ws : List Nat, digs ws 0 = List.replicate ws.length 0
  | [] => rfl
  | w :: ws => by rw [digs, digs_zero ws, Nat.zero_div, Nat.zero_mod]; rfl
theorem nxt_digs : ∀ (ws : List Nat) (r : Nat), r < 2 ^ sumW ws → nxt ws (digs ws r) = (digs ws (r + 1), decide (r + 1 < 2 ^ sumW ws))
  | [], r, h => by
    have : r = 0 := by have : 2 ^ sumW [] = 1 := rfl; omega
    subst this
    rfl
  | w :: ws, r, h => by
    have hp : 0 < 2 ^ sumW ws := Nat.pow_pos (by decide)
    have hq : 0 < 2 ^ w := Nat.pow_pos (by decide)
    have hs : 2 ^ sumW (w :: ws) = 2 ^ sumW ws * 2 ^ w := by rw [show sumW (w :: ws) = sumW ws + w from Nat.add_comm _ _, Nat.pow_add]
    rw [hs] at h ⊢
    have hlt : r / 2 ^ sumW ws < 2 ^ w := (Nat.div_lt_iff_lt_mul hp).2 (by rw [Nat.mul_comm]; exact h)
    have ih := nxt_digs ws (r % 2 ^ sumW ws) (Nat.mod_lt _ hp)
    have hdm := Nat.div_add_mod r (2 ^ sumW ws)
    rw [← digs_mod] at ih
    rw [digs, nxt, ih, Nat.mod_eq_of_lt hlt]
    by_cases hc : r % 2 ^ sumW ws + 1 < 2 ^ sumW ws
    · have hd : (r + 1) / 2 ^ sumW ws = r / 2 ^ sumW ws := by
        conv => lhs; rw [← hdm]
        rw [Nat.add_assoc, Nat.mul_add_div hp, Nat.div_eq_of_lt hc, Nat.add_zero]
      have hm : (r + 1) % 2 ^ sumW ws = r % 2 ^ sumW ws + 1 := by
        conv => lhs; rw [← hdm]
        rw [Nat.add_assoc, Nat.mul_add_mod, Nat.mod_eq_of_lt hc]
      rw [if_pos (decide_eq_true hc), digs, hd, Nat.mod_eq_of_lt hlt, digs_mod ws (r + 1), hm]
      refine Prod.ext rfl (decide_eq_true ?_).symm
      have h2 : r / 2 ^ sumW ws + 1 ≤ 2 ^ w := hlt
      have h3 : 2 ^ sumW ws * (r / 2 ^ sumW ws + 1) ≤ 2 ^ sumW ws * 2 ^ w := Nat.mul_le_mul_left _ h2
      rw [Nat.mul_add, Nat.mul_one] at h3
      omega
    · have hm1 : r % 2 ^ sumW ws + 1 = 2 ^ sumW ws := by have := Nat.mod_lt r hp; omega
      have hr1 : r + 1 = 2 ^ sumW ws * (r / 2 ^ sumW ws + 1) := by rw [Nat.mul_add, Nat.mul_one]; omega
      have hd : (r + 1) / 2 ^ sumW ws = r / 2 ^ sumW ws + 1 := by rw [hr1, Nat.mul_div_cancel_left _ hp]
      have hz : digs ws (r % 2 ^ sumW ws + 1) = digs ws (r + 1) := by
        rw [hm1, digs_mod ws (r + 1), digs_mod ws (2 ^ sumW ws), Nat.mod_self, hr1, Nat.mul_mod_right]
      rw [if_neg (by show ¬ (decide _ = true); rw [decide_eq_false hc]; exact Bool.false_ne_true), hz]
      rw [digs, hd]
      by_cases hw : r / 2 ^ sumW ws + 1 < 2 ^ w
      · rw [if_pos hw, Nat.mod_eq_of_lt hw]
        refine Prod.ext rfl (decide_eq_true ?_).symm
        rw [hr1]
        exact Nat.mul_lt_mul_of_pos_left hw hp
      · have he : r / 2 ^ sumW ws + 1 = 2 ^ w := by omega
        rw [if_neg hw, he, Nat.mod_self]
        refine Prod.ext rfl (decide_eq_false ?_).symm
        rw [hr1, he]
        exact Nat.lt_irrefl _
end Go.Proofs.Ytekddgkgeaolnaa
namespace Go.Proofs.Ytekddgkgeaolnaa
open Go Go.Vc Go.RowKit
set_option linter.unusedVariables false

theorem mem_vsT {t : Tm} (hc : Cons (varsT t)) (p : ByteArray × Int) : p ∈ vsT t ↔ p ∈ varsT t := by
  have h1 := lk_mem_iff (s := p.1) (w := p.2) (asc_nod (vsT_asc t))
  rw [vsT_lk] at h1
  constructor
  · intro h
    exact lk_mem (h1.2 h)
  · intro h
    exact h1.1 (lk_of_mem hc h)
theorem cov_vsT {t : Tm} (hc : Cons (varsT t)) (l : List VLab) : cov l (vsT t) = cov l (varsT t) := by
  refine beq_of_iff ?_
  rw [cov_iff, cov_iff]
  exact ⟨fun h p hp => h p ((mem_vsT hc p).2 hp), fun h p hp => h p ((mem_vsT hc p).1 hp)⟩
theorem vsT_len (t : Tm) : (vsT t).length ≤ t.sz := by
  have h1 := vput_len (varsT t) []
  have h2 := varsF_len (.cons t.1 t.2 .nil)
  have h3 : (varsF (.cons t.1 t.2 .nil)).length = (varsT t).length := rfl
  have h4 : (Fo.cons t.1 t.2 .nil).size = t.sz := by show t.2.size + 0 + 1 = _; rfl
  simp only [List.length_nil] at h1
  have h5 : (vsT t).length = (vput [] (varsT t)).length := rfl
  omega
/-- What `ValuesOk` says of each value. -/
theorem vOk_at {l : List VLab} (h : vOk l = true) : l.length ≤ 30 ∧ ∀ i, (hi : i < l.length) → isNm (l[i]'hi).name = true ∧ wOk (l[i]'hi).w (l[i]'hi).n = true ∧ (0 < i → less (l[i - 1]'(by omega)).name (l[i]'hi).name = true) := by
  unfold vOk at h
  rw [Bool.and_eq_true, List.all_eq_true] at h
  refine ⟨of_decide_eq_true h.1, fun i hi => ?_⟩
  have h2 := h.2 i (List.mem_range.2 hi)
  unfold vAt at h2
  rw [List.getElem?_eq_getElem hi] at h2
  simp only [Bool.and_eq_true, Bool.or_eq_true, decide_eq_true_eq] at h2
  refine ⟨h2.1.1, h2.1.2, fun h0 => ?_⟩
  rcases h2.2 with e | e
  · omega
  · rw [List.getElem?_eq_getElem (show i - 1 < l.length by omega)] at e
    exact e
theorem vOk_word {l : List VLab} (h : vOk l = true) : ∀ v ∈ l, wOk v.w v.n = true := fun v hv => by
  obtain ⟨i, hi, rfl⟩ := List.mem_iff_getElem.1 hv
  exact ((vOk_at h).2 i hi).2.1
theorem vOk_lt {l : List VLab} (h : vOk l = true) : ∀ j i, (hj : j < i) → (hi : i < l.length) → less (l[j]'(by omega)).name (l[i]'hi).name = true := by
  intro j i
  induction i with
  | zero => intro hj; omega
  | succ i ih =>
    intro hj hi
    have h1 := ((vOk_at h).2 (i + 1) hi).2.2 (by omega)
    by_cases he : j = i
    · subst he; exact h1
    · exact less_trans (ih (by omega) (by omega)) h1
theorem vOk_inj {l : List VLab} (h : vOk l = true) {i j : Nat} (hi : i < l.length) (hj : j < l.length) (e : (l[i]'hi).name = (l[j]'hj).name) : i = j := by
  rcases Nat.lt_trichotomy i j with k | k | k
  · exact absurd e (less_ne (vOk_lt h i j k hj))
  · exact k
  · exact absurd e.symm (less_ne (vOk_lt h j i k hi))
/-- With distinct names the last value of a name is the first. -/
theorem fnd_at {l : List VLab} (h : vOk l = true) {i : Nat} (hi : i < l.length) : fnd l (l[i]'hi).name = some (l[i]'hi) := by
  cases hf : fnd l (l[i]'hi).name with
  | none => exact absurd rfl (fnd_none hf _ (List.getElem_mem hi))
  | some v =>
    obtain ⟨h1, h2⟩ := fnd_name hf
    obtain ⟨j, hj, rfl⟩ := List.mem_iff_getElem.1 h2
    have := vOk_inj h hj hi h1
    subst this
    rfl
/-- A list of values read from the front on, as a map that is filled. -/
theorem fnd_snoc {l : List VLab} (h : vOk l = true) {i : Nat} (hi : i < l.length) (s : ByteArray) : fnd (l.take (i + 1)) s = if (l[i]'hi).name = s then some (l[i]'hi) else fnd (l.take i) s := by
  rw [take_snoc hi]
  unfold fnd
  rw [List.find?_append]
  by_cases hs : (l[i]'hi).name = s
  · rw [if_pos hs]
    have : List.find? (fun v : VLab => decide (v.name = s)) (l.take i) = none := by
      refine List.find?_eq_none.2 fun v hv e => ?_
      obtain ⟨j, hj, rfl⟩ := List.mem_iff_getElem.1 hv
      have hj' : j < i := by rw [List.length_take] at hj; omega
      have e := of_decide_eq_true e
      rw [List.getElem_take] at e
      exact absurd (vOk_inj h (show j < l.length by omega) hi (e.trans hs.symm)) (by omega)
    rw [this, Option.none_or, List.find?_cons, decide_eq_true hs]
  · rw [if_neg hs, List.find?_cons, decide_eq_false hs]
    cases List.find? (fun v : VLab => decide (v.name = s)) (l.take i) <;> rfl

/-! constants -/
def ConF (f : ByteArray → Option Tm) : Prop := ∀ s u, f s = some u → ∃ w n, u = conT w n ∧ wOk w n = true
theorem put_con (f : ByteArray → Option Tm) (hf : ConF f) : ∀ k : TF, OkF k → FitP f (varsF k) → OkF (putF f k) ∧ (putF f k).size = k.size ∧ (hdF (putF f k)).map (·.w) = (hdF k).map (·.w)
  | .nil, _, _ => ⟨trivial, rfl, rfl⟩
  | .cons x k r, ⟨⟨hN, hk⟩, hr⟩, h => by
    have hw := (put_ev f e0 (.cons x k r) h).2
    rw [varsF] at h
    obtain ⟨h12, h3⟩ := h.app
    obtain ⟨h1, h2⟩ := h12.app
    obtain ⟨r1, r2, r3⟩ := put_con f hf r hr h3
    obtain ⟨k1, k2, k3⟩ := put_con f hf k hk h2
    refine ⟨?_, ?_, hw⟩
    · rw [putF]
      cases hs : putS f x with
      | none => exact ⟨⟨hN.map k3, k1⟩, r1⟩
      | some u =>
        obtain ⟨w, n, rfl, hwn⟩ := hf _ _ (putS_some hs).2
        exact ⟨ok_con hwn, r1⟩
    · rw [putF]
      cases hs : putS f x with
      | none => show (putF f k).size + (putF f r).size + 1 = k.size + r.size + 1; rw [k2, r2]
      | some u =>
        obtain ⟨w, n, rfl, hwn⟩ := hf _ _ (putS_some hs).2
        have : k = .nil := ok_nil (x := x) ⟨hN, hk⟩ (.inr (putS_some hs).1)
        subst this
        show 0 + (putF f r).size + 1 = 0 + r.size + 1
        rw [r2]
theorem putT_con_ok {f : ByteArray → Option Tm} (hf : ConF f) {t : Tm} (h : OkT t) (hv : FitP f (varsT t)) : OkT (putT f t) ∧ (putT f t).sz = t.sz ∧ (putT f t).1.w = t.1.w := by
  have h1 := put_con f hf (.cons t.1 t.2 .nil) ⟨h, trivial⟩ hv
  rw [putF_cons] at h1
  obtain ⟨a, b, c⟩ := h1
  refine ⟨a.1, ?_, (List.cons.inj c).1⟩
  have b : (putT f (t.1, t.2)).2.size + 0 + 1 = t.2.size + 0 + 1 := b
  show (putT f t).2.size + 1 = t.2.size + 1
  exact b
theorem putT_con_vars {f : ByteArray → Option Tm} (hf : ConF f) {t : Tm} {q : ByteArray × Int} (h : q ∈ varsT (putT f t)) : q ∈ varsT t ∧ f q.1 = none := by
  rcases putT_vars f t q h with h | ⟨p, _, u, hu, hq⟩
  · exact h
  · obtain ⟨w, n, rfl, _⟩ := hf _ _ hu
    cases hq
theorem cons_sub {l m : Vs} (h : Cons l) (hs : ∀ p ∈ m, p ∈ l) : Cons m := fun p hp q hq e => h p (hs p hp) q (hs q hq) e
/-- What values give: constants for their names. -/
def valC (l : List VLab) : ByteArray → Option Tm := fun s => (fnd l s).map fun v => conT v.w v.n
theorem valC_con {l : List VLab} (h : ∀ v ∈ l, wOk v.w v.n = true) : ConF (valC l) := fun s u hu => by
  unfold valC at hu
  cases hf : fnd l s with
  | none => rw [hf] at hu; cases hu
  | some v =>
    rw [hf] at hu
    exact ⟨v.w, v.n, (Option.some.inj hu).symm, h v (fnd_name hf).2⟩
/-- With values for all its variables a term becomes a constant. -/
theorem sim_valC {t : Tm} {l : List VLab} (h : OkT t) (hl : ∀ v ∈ l, wOk v.w v.n = true) (hc : cov l (varsT t) = true) : OkT (putT (valC l) t) ∧ (putT (valC l) t).sz = t.sz ∧ varsT (putT (valC l) t) = [] ∧ sim (putT (valC l) t) = conT t.1.w (evT (envL l) t) := by
  have hcon := valC_con hl
  have hfit : FitP (valC l) (varsT t) := fun p hp u hu => by
    obtain ⟨v, h1, h2⟩ := cov_iff.1 hc p hp
    unfold valC at hu
    rw [h1] at hu
    rw [← Option.some.inj hu]
    exact h2
  obtain ⟨h1, h2, h3⟩ := putT_con_ok hcon h hfit
  have hv : varsT (putT (valC l) t) = [] := by
    cases hh : varsT (putT (valC l) t) with
    | nil => rfl
    | cons q m =>
      obtain ⟨k1, k2⟩ := putT_con_vars hcon (q := q) (t := t) (by rw [hh]; simp)
      obtain ⟨v, h4, _⟩ := cov_iff.1 hc q k1
      unfold valC at k2
      rw [h4] at k2
      cases k2
  refine ⟨h1, h2, hv, ?_⟩
  have he := sim_closed h1 hv (envL l)
  rw [h3, (put_evT (valC l) (envL l) t hfit).1] at he
  rw [he]
  congr 1
  have : envP (valC l) (envL l) = envL l := by
    funext s
    unfold envP valC envL
    cases fnd l s with
    | none => rfl
    | some v => rfl
  rw [this]
end Go.Proofs.Ytekddgkgeaolnaa
