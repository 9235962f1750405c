/- Tables of values, plainly: all rows of values for the variables of a term, counted through. -/
import Derived.Test.YtkoaicjcanplaaaEh
namespace Go.Proofs.Ytkoaicjcanplaaa
open Go Go.Vc Go.RowKit
set_option linter.unusedVariables false

theorem vars_ok : ∀ k : TF, OkF k → ∀ p ∈ varsF k, isNm p.1 = true ∧ 1 ≤ p.2 ∧ p.2 ≤ 16
  | .nil, _, p, h => by cases h
  | .cons x k r, ⟨⟨hN, hk⟩, hr⟩, p, h => by
    rw [varsF] at h
    rcases List.mem_append.1 h with h | h
    · rcases List.mem_append.1 h with h | h
      · by_cases h22 : x.op = 22
        · rw [if_pos h22] at h
          rw [List.mem_singleton.1 h]
          exact ⟨hN.name h22, hN.width⟩
        · rw [if_neg h22] at h; cases h
      · exact vars_ok k hk p h
    · exact vars_ok r hr p h
def VsG (vs : Vs) : Prop := Asc vs ∧ ∀ p ∈ vs, isNm p.1 = true ∧ 1 ≤ p.2 ∧ p.2 ≤ 16
theorem vs_good {x : Lab} {k : TF} (h : TOk x k) : VsG (vsT (x, k)) :=
  ⟨vsT_asc _, fun p hp => vars_ok (.cons x k .nil) h.2.1 p ((mem_vsT (t := (x, k)) h.2.2 p).1 hp)⟩
def wsV (vs : Vs) : List Nat := vs.map fun p => p.2.toNat
def sw (L : List VLab) : Nat := sumW (L.map fun v => v.w.toNat)
theorem sumW_app : ∀ a b : List Nat, sumW (a ++ b) = sumW a + sumW b
  | [], b => by show sumW b = 0 + sumW b; omega
  | x :: a, b => by show x + sumW (a ++ b) = x + sumW a + sumW b; rw [sumW_app a b]; omega
theorem sw_snoc {L : List VLab} {i : Nat} (h : i < L.length) : sw (L.take (i + 1)) = sw (L.take i) + (L[i]'h).w.toNat := by
  rw [take_snoc h]
  unfold sw
  rw [List.map_append, sumW_app]
  show _ + ((L[i]'h).w.toNat + 0) = _
  omega
theorem sw_vls (vs : Vs) : sw (vls vs) = sumW (wsV vs) := by unfold sw vls wsV; rw [List.map_map]; rfl
theorem sw_le {L : List VLab} (h : ∀ v ∈ L, v.w ≤ 16) : sw L ≤ 16 * L.length := by
  induction L with
  | nil => exact Nat.le_refl _
  | cons v L ih =>
    have h1 := ih fun u hu => h u (List.mem_cons_of_mem _ hu)
    have h2 := h v List.mem_cons_self
    show v.w.toNat + sw L ≤ 16 * (L.length + 1)
    omega
theorem sw_ge {L : List VLab} (h : ∀ v ∈ L, 1 ≤ v.w) : L.length ≤ sw L := by
  induction L with
  | nil => exact Nat.le_refl _
  | cons v L ih =>
    have h1 := ih fun u hu => h u (List.mem_cons_of_mem _ hu)
    have h2 := h v List.mem_cons_self
    show L.length + 1 ≤ v.w.toNat + sw L
    omega

/-- The row of values of round r. -/
def rowV : Vs → Nat → List VLab
  | [], _ => []
  | p :: vs, r => ⟨p.1, p.2, ((r / 2 ^ sumW (wsV vs) % 2 ^ p.2.toNat : Nat) : Int)⟩ :: rowV vs r
theorem rowV_len : ∀ (vs : Vs) (r : Nat), (rowV vs r).length = vs.length
  | [], _ => rfl
  | _ :: vs, r => by rw [rowV, List.length_cons, List.length_cons, rowV_len vs r]
theorem rowV_zero : ∀ vs : Vs, rowV vs 0 = vls vs
  | [] => rfl
  | p :: vs => by rw [rowV, rowV_zero vs, Nat.zero_div, Nat.zero_mod]; rfl
def digV (vs : Vs) (r i : Nat) : Nat := r / 2 ^ sumW (wsV (vs.drop (i + 1))) % 2 ^ ((vs[i]?.map fun p => p.2.toNat).getD 0)
theorem rowV_at : ∀ (vs : Vs) (r i : Nat) (h : i < vs.length), (rowV vs r)[i]? = some ⟨(vs[i]'h).1, (vs[i]'h).2, (digV vs r i : Int)⟩
  | p :: vs, r, 0, h => rfl
  | p :: vs, r, i + 1, h => by
    rw [rowV, List.getElem?_cons_succ, rowV_at vs r i (Nat.lt_of_succ_lt_succ h)]
    rfl
theorem rowV_get {vs : Vs} {r i : Nat} (h : i < vs.length) : (rowV vs r)[i]'(by rw [rowV_len]; exact h) = ⟨(vs[i]'h).1, (vs[i]'h).2, (digV vs r i : Int)⟩ := by
  have h1 := rowV_at vs r i h
  rw [List.getElem?_eq_getElem (by rw [rowV_len]; exact h)] at h1
  exact Option.some.inj h1
theorem asc_lt : ∀ {vs : Vs}, Asc vs → ∀ i j, (hij : i < j) → (hj : j < vs.length) → less (vs[i]'(by omega)).1 (vs[j]'hj).1 = true
  | p :: vs, h, 0, j + 1, _, hj => h.1 _ (List.getElem_mem (Nat.lt_of_succ_lt_succ hj))
  | p :: vs, h, i + 1, j + 1, hij, hj => asc_lt (vs := vs) h.2 i j (by omega) (Nat.lt_of_succ_lt_succ hj)
theorem row_cov : ∀ {vs : Vs} (r : Nat), Asc vs → ∀ p ∈ vs, ∃ v, fnd (rowV vs r) p.1 = some v ∧ v.w = p.2
  | q :: vs, r, h, p, hp => by
    rw [rowV, fnd_cons]
    rcases List.mem_cons.1 hp with rfl | hp
    · exact ⟨_, if_pos rfl, rfl⟩
    · rw [if_neg (show ¬ q.1 = p.1 from less_ne (h.1 p hp))]
      exact row_cov r h.2 p hp
theorem row_ev {x : Lab} {k : TF} (h : TOk x k) (r : Nat) : evO (rowV (vsT (x, k)) r) (x, k) = (evT (envL (rowV (vsT (x, k)) r)) (x, k), true) := by
  refine evO_yes ?_
  rw [← cov_vsT (t := (x, k)) h.2.2, cov_iff]
  exact row_cov r (vsT_asc _)
theorem row_snoc {vs : Vs} (ha : Asc vs) (r : Nat) {i : Nat} (hi : i < vs.length) (s : ByteArray) : fnd ((rowV vs r).take (i + 1)) s = if (vs[i]'hi).1 = s then some ⟨(vs[i]'hi).1, (vs[i]'hi).2, (digV vs r i : Int)⟩ else fnd ((rowV vs r).take i) s := by
  have hi' : i < (rowV vs r).length := by rw [rowV_len]; exact hi
  rw [take_snoc hi', rowV_get hi]
  unfold fnd
  rw [List.find?_append]
  by_cases hs : (vs[i]'hi).1 = s
  · rw [if_pos hs]
    have : List.find? (fun v : VLab => decide (v.name = s)) ((rowV vs r).take i) = none := by
      refine List.find?_eq_none.2 fun v hv e => ?_
      obtain ⟨j, hj, rfl⟩ := List.mem_iff_getElem.1 hv
      have hj' : j < i := by rw [List.length_take] at hj; omega
      have e := of_decide_eq_true e
      rw [List.getElem_take, rowV_get (by omega)] at e
      exact less_ne (asc_lt ha j i hj' hi) (e.trans hs.symm)
    rw [this, Option.none_or, List.find?_cons]
    have : decide ((vs[i]'hi).1 = s) = true := decide_eq_true hs
    simp only [this]
  · rw [if_neg hs, List.find?_cons]
    have : decide ((vs[i]'hi).1 = s) = false := decide_eq_false hs
    simp only [this]
    cases List.find? (fun v : VLab => decide (v.name = s)) ((rowV vs r).take i) <;> rfl

/-! one step on -/
def nxtV : List VLab → List VLab × Bool
  | [] => ([], false)
  | v :: l => if (nxtV l).2 = true then (v :: (nxtV l).1, true) else if v.n + 1 < 2 ^ v.w.toNat then (⟨v.name, v.w, v.n + 1⟩ :: (nxtV l).1, true) else (⟨v.name, v.w, 0⟩ :: (nxtV l).1, false)
theorem nxtV_len : ∀ L : List VLab, (nxtV L).1.length = L.length
  | [] => rfl
  | v :: l => by
    rw [nxtV]
    split
    · rw [List.length_cons, List.length_cons, nxtV_len l]
    · split
      · rw [List.length_cons, List.length_cons, nxtV_len l]
      · rw [List.length_cons, List.length_cons, nxtV_len l]
theorem nxtV_app : ∀ a b : List VLab, (nxtV b).2 = true → nxtV (a ++ b) = (a ++ (nxtV b).1, true)
  | [], b, h => Prod.ext rfl h
  | v :: a, b, h => by
    rw [List.cons_append, nxtV, nxtV_app a b h, if_pos rfl]; rfl
theorem nxtV_on {v : VLab} {l : List VLab} (h : (nxtV l).2 = false) (hv : v.n + 1 < 2 ^ v.w.toNat) : nxtV (v :: l) = (⟨v.name, v.w, v.n + 1⟩ :: (nxtV l).1, true) := by
  rw [nxtV, if_neg (by rw [h]; exact Bool.false_ne_true), if_pos hv]
theorem nxtV_off {v : VLab} {l : List VLab} (h : (nxtV l).2 = false) (hv : ¬ v.n + 1 < 2 ^ v.w.toNat) : nxtV (v :: l) = (⟨v.name, v.w, 0⟩ :: (nxtV l).1, false) := by
  rw [nxtV, if_neg (by rw [h]; exact Bool.false_ne_true), if_neg hv]
def mkR : Vs → List Nat → List VLab
  | p :: vs, d :: ds => ⟨p.1, p.2, (d : Int)⟩ :: mkR vs ds
  | _, _ => []
theorem rowV_mk : ∀ (vs : Vs) (r : Nat), rowV vs r = mkR vs (digs (wsV vs) r)
  | [], _ => rfl
  | p :: vs, r => by rw [rowV, rowV_mk vs r]; rfl
theorem nxtV_mk : ∀ (vs : Vs) (ds : List Nat), ds.length = vs.length → nxtV (mkR vs ds) = (mkR vs (nxt (wsV vs) ds).1, (nxt (wsV vs) ds).2)
  | [], [], _ => rfl
  | p :: vs, d :: ds, h => by
    have ih := nxtV_mk vs ds (Nat.succ.inj h)
    show nxtV (⟨p.1, p.2, (d : Int)⟩ :: mkR vs ds) = (mkR (p :: vs) (nxt (p.2.toNat :: wsV vs) (d :: ds)).1, (nxt (p.2.toNat :: wsV vs) (d :: ds)).2)
    rw [nxtV, nxt, ih]
    have e : ((d : Int) + 1 < 2 ^ p.2.toNat) ↔ d + 1 < 2 ^ p.2.toNat := by
      have h1 : ((2 ^ p.2.toNat : Nat) : Int) = 2 ^ p.2.toNat := by rw [Int.natCast_pow]; rfl
      rw [← h1]; omega
    by_cases h1 : (nxt (wsV vs) ds).2 = true
    · rw [if_pos h1, if_pos h1]; rfl
    · rw [if_neg h1, if_neg h1]
      by_cases h2 : d + 1 < 2 ^ p.2.toNat
      · rw [if_pos (e.2 h2), if_pos h2]; rfl
      · rw [if_neg (fun h => h2 (e.1 h)), if_neg h2]; rfl
theorem nxtV_row {vs : Vs} {r : Nat} (h : r < 2 ^ sumW (wsV vs)) : nxtV (rowV vs r) = (rowV vs (r + 1), decide (r + 1 < 2 ^ sumW (wsV vs))) := by
  rw [rowV_mk, nxtV_mk _ _ (by rw [digs_len]; unfold wsV; rw [List.length_map]), nxt_digs _ _ h, ← rowV_mk]
/-- The table. -/
def tbl (x : Lab) (k : TF) : List Int := (List.range (2 ^ sumW (wsV (vsT (x, k))))).map fun r => evT (envL (rowV (vsT (x, k)) r)) (x, k)
noncomputable def tblP (x : Lab) (k : TF) : List Int := @ite _ (TOk x k ∧ sumW (wsV (vsT (x, k))) ≤ 10) (Classical.propDecidable _) (tbl x k) []
theorem tblP_yes {x : Lab} {k : TF} (h : TOk x k) (hv : sumW (wsV (vsT (x, k))) ≤ 10) : tblP x k = tbl x k := by unfold tblP; exact if_pos ⟨h, hv⟩
theorem tblP_no {x : Lab} {k : TF} (h : ¬ (TOk x k ∧ sumW (wsV (vsT (x, k))) ≤ 10)) : tblP x k = [] := by unfold tblP; exact if_neg h
theorem pow10 : ∀ n : Nat, n ≤ 10 → 1 ≤ 2 ^ n ∧ 2 ^ n ≤ 1024 := by decide
theorem tblP_len (x : Lab) (k : TF) : (tblP x k).length ≤ 1024 := by
  by_cases h : TOk x k ∧ sumW (wsV (vsT (x, k))) ≤ 10
  · rw [tblP_yes h.1 h.2, tbl, List.length_map, List.length_range]
    exact (pow10 _ h.2).2
  · rw [tblP_no h]; exact Nat.zero_le _
end Go.Proofs.Ytkoaicjcanplaaa
