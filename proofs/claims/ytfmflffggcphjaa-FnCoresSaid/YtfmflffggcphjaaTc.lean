/- Cores, plainly. No program in sight. -/
import Derived.Test.YtfmflffggcphjaaTh
import Derived.Test.YtfmflffggcphjaaCp
namespace Go.Sat
open Go.Vc

/-! cores -/
theorem sea_ex (n : Nat) (F : Cnf) (hF : fOk n F = true) : ∃ r, SeaO n F [] 3000 r := by
  obtain ⟨o, ho⟩ := upr_total (F := F) (A := fun l => l ∈ ([] : List Int)) (n := n) (fun c hc x hx => fOk_lit hF c hc x hx) _ (List.replicate (n + 1) 0) (Nat.lt_succ_self _) (zero_vals n) (fun l h => by cases h) fun l h => absurd h (zero_tr n l)
  refine ⟨seaRes F n 3000 o, ?_⟩
  unfold SeaO
  rw [if_pos ⟨hF, rfl, by decide, by decide⟩, Int.toNat_natCast]
  exact ⟨o, ho, rfl⟩
/-- A search without literals of a small formula. -/
theorem seaF_small {n : Nat} {F : Cnf} (hn : n ≤ 6) (hF : fOk n F = true) :
    (seaF n F 3000 = 2 ∧ ∀ m : List Bool, m.length = n → evF F m = false) ∨ (seaF n F 3000 = 1 ∧ ∃ m : List Bool, m.length = n ∧ evF F m = true) := by
  obtain ⟨r, hr⟩ := sea_ex n F hF
  rw [seaF_eq hr]
  rcases sea_small hn hF (fun x hx => by cases hx) hr with ⟨h1, h2⟩ | ⟨h1, h2, h3, _⟩
  · refine .inl ⟨h1, fun m hm => ?_⟩
    cases he : evF F m with
    | false => rfl
    | true => exact absurd (fun l hl => by cases hl) (h2 m hm he)
  · exact .inr ⟨h1, _, h2, h3⟩
theorem mem_filt : ∀ {F : Cnf} {o : List Bool} {c : Cl}, c ∈ filt F o ↔ ∃ k : Nat, o[k]? = some false ∧ F[k]? = some c
  | [], o, c => by simp [filt]
  | d :: F, [], c => by simp [filt]
  | d :: F, b :: o, c => by
    have ih := mem_filt (F := F) (o := o) (c := c)
    constructor
    · intro h
      rw [filt] at h
      cases b with
      | true =>
        obtain ⟨k, h1, h2⟩ := ih.1 (by simpa using h)
        exact ⟨k + 1, by simpa using h1, by simpa using h2⟩
      | false =>
        have h : c = d ∨ c ∈ filt F o := by simpa using h
        rcases h with rfl | h
        · exact ⟨0, by simp, by simp⟩
        · obtain ⟨k, h1, h2⟩ := ih.1 h
          exact ⟨k + 1, by simpa using h1, by simpa using h2⟩
    · rintro ⟨k, h1, h2⟩
      cases k with
      | zero =>
        have e1 : b = false := by simpa using h1
        have e2 : d = c := by simpa using h2
        subst e1; subst e2
        rw [filt]; simp
      | succ k =>
        have := ih.2 ⟨k, by simpa using h1, by simpa using h2⟩
        rw [filt]
        cases b <;> simp [this]
theorem filt_two {F : Cnf} {o q : List Bool} (h : ∀ k : Nat, o[k]? = some false → q[k]? = some false) : ∀ c ∈ filt F o, c ∈ filt F q := fun c hc => by
  obtain ⟨k, h1, h2⟩ := mem_filt.1 hc
  exact mem_filt.2 ⟨k, h k h1, h2⟩
theorem mem_keepK {o : List Bool} {x : Int} : ∀ {K : Nat}, x ∈ keepK o K ↔ ∃ k : Nat, k < K ∧ o[k]? = some false ∧ x = k
  | 0 => by simp [keepK]
  | K + 1 => by
    have key : (x ∈ (if o.getD K true then [] else [(K : Int)]) ↔ o[K]? = some false ∧ x = K) := by
      rw [List.getD_eq_getElem?_getD]
      cases h : o[K]? with
      | none => simp
      | some b => cases b <;> simp
    rw [keepK, List.mem_append, mem_keepK, key]
    constructor
    · rintro (⟨k, h1, h2, h3⟩ | ⟨h1, h2⟩)
      · exact ⟨k, by omega, h2, h3⟩
      · exact ⟨K, by omega, h1, h2⟩
    · rintro ⟨k, h1, h2, h3⟩
      by_cases e : k = K
      · subst e; exact .inr ⟨h2, h3⟩
      · exact .inl ⟨k, by omega, h2, h3⟩
theorem keepK_pair (o : List Bool) : ∀ K : Nat, (keepK o K).Pairwise (fun x y => x < y)
  | 0 => List.Pairwise.nil
  | K + 1 => by
    rw [keepK]
    refine List.pairwise_append.2 ⟨keepK_pair o K, by split <;> simp, fun x hx y hy => ?_⟩
    obtain ⟨k, h1, h2, rfl⟩ := mem_keepK.1 hx
    split at hy
    · cases hy
    · rw [List.mem_singleton.1 hy]; omega
/-- The clauses of a core, without that at a place. -/
structure Core (n : Nat) (F : Cnf) (l : List Int) : Prop where
  inn : ∀ i, i < l.length → 0 ≤ l.getD i 0 ∧ l.getD i 0 < F.length
  inc : ∀ i, i + 1 < l.length → l.getD i 0 < l.getD (i + 1) 0
  none : ∀ m : List Bool, m.length = n → ∀ G : Cnf, (∀ i, i < l.length → F.getD (l.getD i 0).toNat [] ∈ G) → evF G m = false
  some : ∀ s, s < l.length → ∃ m : List Bool, m.length = n ∧ ∀ G : Cnf, (∀ c ∈ G, ∃ i, i < l.length ∧ i ≠ s ∧ c = F.getD (l.getD i 0).toNat []) → evF G m = true
theorem getD_set {o : List Bool} {i j : Nat} {b : Bool} (hi : i < o.length) : (o.set i b)[j]? = if i = j then some b else o[j]? := by
  by_cases e : i = j
  · subst e; rw [List.getElem?_set_self hi, if_pos rfl]
  · rw [List.getElem?_set_ne e, if_neg e]
theorem corF_good {n : Nat} {F : Cnf} (hn : n ≤ 6) (hF : fOk n F = true) (hno : ∀ m : List Bool, m.length = n → evF F m = false) : ∀ i, i ≤ F.length → ∃ o, corF n F 3000 i = some o ∧ o.length = F.length ∧ (∀ m : List Bool, m.length = n → evF (filt F o) m = false) ∧
    (∀ j, i ≤ j → j < F.length → o[j]? = some false) ∧ ∀ j, j < i → o[j]? = some false → ∃ m : List Bool, m.length = n ∧ evF (filt F (o.set j true)) m = true := by
  intro i
  induction i with
  | zero => exact fun _ => ⟨_, rfl, by simp, by rw [filt_none]; exact hno, fun j _ hj => by simp [hj], fun j hj => by omega⟩
  | succ i ih =>
    intro hi
    obtain ⟨o, h1, h2, h3, h4, h5⟩ := ih (by omega)
    have hio : i < o.length := by omega
    rw [corF, h1]
    rcases seaF_small hn (filt_ok hF (o.set i true)) with ⟨h, hm⟩ | ⟨h, hm⟩
    · refine ⟨o.set i true, by simp only [h]; rfl, by simp [h2], hm, fun j hj hj' => ?_, fun j hj hf => ?_⟩
      · rw [List.getElem?_set_ne (by omega)]; exact h4 j (by omega) hj'
      · rw [getD_set hio] at hf
        split at hf
        · cases hf
        · rename_i hij
          obtain ⟨m, a, b⟩ := h5 j (by omega) hf
          refine ⟨m, a, evF_sub (filt_two fun k hk => ?_) b⟩
          rw [getD_set (by simp; omega), getD_set hio] at hk
          rw [getD_set (by omega)]
          split at hk
          · cases hk
          · rename_i hjk
            rw [if_neg hjk]
            split at hk
            · cases hk
            · exact hk
    · refine ⟨o, by simp only [h]; rfl, h2, h3, fun j hj hj' => h4 j (by omega) hj', fun j hj hf => ?_⟩
      by_cases e : j = i
      · subst e; exact hm
      · exact h5 j (by omega) hf
theorem getD_mem' {l : List Int} {i : Nat} (h : i < l.length) : l.getD i 0 ∈ l := by
  rw [List.getD_eq_getElem?_getD, List.getElem?_eq_getElem h]; exact List.getElem_mem h
theorem cor_good {n : Nat} {F : Cnf} (hn : n ≤ 6) (hF : fOk n F = true) : (corO n F 3000 = none ∧ cntM n F ≠ 0) ∨ (cntM n F = 0 ∧ ∃ l, corO n F 3000 = some l ∧ Core n F l) := by
  unfold corO
  rcases seaF_small hn hF with ⟨h, hm⟩ | ⟨h, m, h1, h2⟩
  · refine .inr ⟨(cntM_zero hF (by omega)).2 hm, ?_⟩
    obtain ⟨o, g1, g2, g3, g4, g5⟩ := corF_good hn hF hm F.length (Nat.le_refl _)
    rw [if_pos h, g1]
    have hat : ∀ i, i < (keepK o F.length).length → ∃ k, k < F.length ∧ o[k]? = some false ∧ (keepK o F.length).getD i 0 = k := fun i hi => mem_keepK.1 (getD_mem' hi)
    have hpair := keepK_pair o F.length
    have hlt : ∀ i j, i < j → j < (keepK o F.length).length → (keepK o F.length).getD i 0 < (keepK o F.length).getD j 0 := by
      intro i j hij hj
      rw [List.getD_eq_getElem?_getD, List.getD_eq_getElem?_getD, List.getElem?_eq_getElem hj, List.getElem?_eq_getElem (by omega)]
      exact List.pairwise_iff_getElem.1 hpair i j _ hj hij
    refine ⟨_, rfl, fun i hi => ?_, fun i hi => hlt i (i + 1) (by omega) hi, fun m hm G hG => ?_, fun s hs => ?_⟩
    · obtain ⟨k, a, _, e⟩ := hat i hi
      rw [e]; omega
    · cases he : evF G m with
      | false => rfl
      | true =>
        rw [← g3 m hm]
        refine (evF_sub (fun c hc => ?_) he).symm
        obtain ⟨k, a, b⟩ := mem_filt.1 hc
        have hkF : k < F.length := by
          rcases Nat.lt_or_ge k F.length with g | g
          · exact g
          · rw [List.getElem?_eq_none g] at b; cases b
        have hin : (k : Int) ∈ keepK o F.length := mem_keepK.2 ⟨k, hkF, a, rfl⟩
        obtain ⟨i, hi, e⟩ := List.mem_iff_getElem.1 hin
        have := hG i hi
        rw [List.getD_eq_getElem?_getD, List.getD_eq_getElem?_getD, List.getElem?_eq_getElem hi, e] at this
        simp only [Option.getD_some, Int.toNat_natCast, b] at this
        exact this
    · obtain ⟨k, a, b, e⟩ := hat s hs
      obtain ⟨m, hm1, hm2⟩ := g5 k a b
      refine ⟨m, hm1, fun G hG => evF_sub (fun c hc => ?_) hm2⟩
      obtain ⟨i, hi, hne, rfl⟩ := hG c hc
      obtain ⟨k', a', b', e'⟩ := hat i hi
      have hkk : k ≠ k' := by
        intro hk
        rcases Nat.lt_or_gt_of_ne hne with g | g
        · have := hlt i s g hs; omega
        · have := hlt s i g hi; omega
      rw [e', Int.toNat_natCast]
      refine mem_filt.2 ⟨k', ?_, ?_⟩
      · rw [getD_set (by omega), if_neg hkk]; exact b'
      · rw [List.getD_eq_getElem?_getD, List.getElem?_eq_getElem a']; rfl
  · refine .inl ⟨by rw [if_neg (by rw [h]; decide)], fun e => ?_⟩
    have := (cntM_zero hF (by omega)).1 e m h1
    rw [h2] at this; cases this
end Go.Sat
