/- The calculus, fifth part: a function's contract; loops and cuts. -/
import Derived.Test.YtkoaicjcanplaaaVf
namespace Go.Vc
open Go Go.RowKit

def vcRes (T : Tab) : List ResultVar → Fr → World → (List Value → Prop) → Prop
  | [], _, _, K => K []
  | .tmp t :: l, ρ, w, K => vcRes T l ρ w (fun vs => K (ρ t :: vs))
  | .cell a t :: l, ρ, w, K => match look T t, ρ a with
    | some r, .pointer (some ⟨b, off, none⟩) =>
      bif r.agg then ∃ vs, vs.length = r.size ∧ CellsAt w b off vs ∧ vcRes T l ρ w (fun vs' => K (.agg vs.toArray :: vs'))
      else ∃ v, w.cell? ⟨b, off, none⟩ = some v ∧ vcRes T l ρ w (fun vs' => K (v :: vs'))
    | _, _ => False

def one : List Value → Value
  | [v] => v
  | vs => .tuple vs.toArray

def retP (T : Tab) (rs : List ResultVar) (R : Value → World → Prop) : Post := fun e ρ w =>
  match e with
  | .normal => vcRes T rs ρ w (fun vs => R (one vs) w)
  | .ret => vcRes T rs ρ w (fun vs => R (one vs) w)
  | _ => False

def ini (args : List Value) : Fr := fun t => args.getD t undef

def resOne (tmps : Array Value) (r : ResultVar) : Sem Value :=
  match r with
  | .tmp t => pure (tmps.getD t undef)
  | .cell a t => do loadVar t (← asAddr (tmps.getD a undef))

theorem results_eq (fn : Func) (tmps : Array Value) : results fn tmps = (do
    let vs ← fn.results.mapM (resOne tmps)
    pure (if h : vs.size = 1 then vs[0] else .tuple vs)) := rfl

theorem resOne_cell {P : Program} {tmps : Array Value} {ad t b off : Nat} {w : World} (ha : tmps.getD ad undef = .pointer (some ⟨b, off, none⟩)) :
    (resOne tmps (.cell ad t)).run P w = (loadVar t ⟨b, off, none⟩).run P w := by
  simp only [resOne, ha, asAddr, Sem.run_bind, Sem.run_pure, Result.andThen_ok]

theorem run_mapM_cons {P : Program} {α β : Type} (f : α → Sem β) (x : α) (l : List α) (w : World) {v : β} {vs : List β} (h1 : (f x).run P w = .ok v w) (h2 : (l.mapM f).run P w = .ok vs w) :
    ((x :: l).mapM f).run P w = .ok (v :: vs) w := by
  simp only [List.mapM_cons, Sem.run_bind, h1, Result.andThen_ok, h2, Sem.run_pure]

theorem res_sound {P : Program} {T : Tab} (hT : Ties P T) (a : Act) (w : World) : ∀ (l : List ResultVar) (K : List Value → Prop), vcRes T l (fr a) w K →
    ∃ vs, K vs ∧ (l.mapM (resOne a.tmps)).run P w = .ok vs w := by
  intro l
  induction l with
  | nil => intro K h; exact ⟨[], h, by simp⟩
  | cons r l ih =>
    intro K h
    cases r with
    | tmp t =>
      obtain ⟨vs, hk, hr⟩ := ih _ h
      exact ⟨_, hk, run_mapM_cons _ _ _ _ (by simp only [resOne, Sem.run_pure]; rfl) hr⟩
    | cell ad t =>
      simp only [vcRes] at h
      split at h
      · rename_i r b off hr ha
        have hf := ties_look hT hr
        have ha' : a.tmps.getD ad undef = .pointer (some ⟨b, off, none⟩) := ha
        cases hg : r.agg with
        | true =>
          rw [hg] at h
          obtain ⟨vs, hl, hc, h⟩ := h
          obtain ⟨vs', hk, hr'⟩ := ih _ h
          have h1 := hf.run_agg w
          have h2 := hf.run_size w
          have h3 := run_cells (P := P) hc
          rw [hl] at h3
          rw [hg] at h1
          refine ⟨_, hk, run_mapM_cons _ _ _ _ ?_ hr'⟩
          rw [resOne_cell ha']
          simp [loadVar, h1, h2, h3]
        | false =>
          rw [hg] at h
          obtain ⟨v, hc, h⟩ := h
          obtain ⟨vs', hk, hr'⟩ := ih _ h
          have h1 := hf.run_agg w
          rw [hg] at h1
          refine ⟨_, hk, run_mapM_cons _ _ _ _ ?_ hr'⟩
          rw [resOne_cell ha']
          simp [loadVar, h1, hc]
      · exact h.elim

theorem one_eq (vs : List Value) : (if h : vs.toArray.size = 1 then vs.toArray[0] else Value.tuple vs.toArray) = one vs := by
  match vs with
  | [] => rfl
  | [v] => rfl
  | _ :: _ :: _ => rfl

theorem ret_of_vc {P : Program} {T : Tab} (hT : Ties P T) (hm : P.follows .mixedOrders = true) {g : Nat} {fn : Func} {c : Code} {args : List Value} {w : World} {R : Value → World → Prop}
    (hf : P.funcs[g]? = some fn) (hb : fn.body = some c) (hname : (fn.name == "runtime.NumGoroutine") = false) (hfit : codeFits fn.ntmps c = true) (hsz : Nat.ble args.length fn.ntmps = true)
    (h : vc P T c (retP T fn.results.toList R) (ini args) w) : Ret P g args.toArray w R := by
  refine ⟨⟨fn, hf, by simp [hb], hname⟩, calls_of_wp hf hb ?_⟩
  have hsz' := Nat.le_of_ble_eq_true hsz
  refine Code.wp_mono ?_ (vc_sound hT hm c hfit (retP T fn.results.toList R) _ w (by simp; omega) rfl ?_)
  · rintro e a w ⟨hn, hd, hq⟩
    have fin : vcRes T fn.results.toList (fr a) w (fun vs => R (one vs) w) → a.defers = [] ∧ ∃ v, (results fn a.tmps).run P w = .ok v w ∧ ∃ v', Ending.returned v = .returned v' ∧ R v' w := by
      intro hres
      obtain ⟨vs, hk, hr⟩ := res_sound hT a w _ _ hres
      refine ⟨hd, one vs, ?_, _, rfl, hk⟩
      rw [results_eq]
      have hr' : (fn.results.mapM (resOne a.tmps)).run P w = .ok vs.toArray w := by
        rw [Array.mapM_eq_mapM_toList]
        simp [hr]
      simp only [Sem.run_bind, hr', Result.andThen_ok, Sem.run_pure, one_eq]
    cases e with
    | normal => exact fin hq
    | ret => exact fin hq
    | _ => exact hq.elim
  · have : fr { tmps := args.toArray ++ Array.replicate (fn.ntmps - args.toArray.size) undef, defers := [] } = ini args := by
      funext t
      simp only [fr, ini, Array.getD_eq_getD_getElem?, List.getD_eq_getElem?_getD, Array.getElem?_append]
      by_cases ht : t < args.length
      · simp [ht]
      · simp [ht, Array.getElem?_replicate]
        split <;> simp_all
    rw [this]
    exact h

/-! ### Loops and cuts: named slots, a range of scratch slots -/
def evs (ρ : Fr) : List Nat → List Value
  | [] => []
  | t :: l => ρ t :: evs ρ l

def over : List Nat → List Value → Fr → Fr
  | d :: ds, v :: vs, ρ => fun t => bif Nat.beq t d then v else over ds vs ρ t
  | _, _, ρ => ρ

def hav (lo hi : Nat) (junk ρ : Fr) : Fr := fun t => bif Nat.ble lo t && Nat.blt t hi then junk t else ρ t

def inSlots (slots : List Nat) (lo hi t : Nat) : Bool := slots.contains t || (Nat.ble lo t && Nat.blt t hi)

/-- The frame differs at these slots alone. -/
def Only (slots : List Nat) (lo hi : Nat) (ρ ρ' : Fr) : Prop := ∀ t, inSlots slots lo hi t = false → ρ' t = ρ t
theorem Only.refl {slots : List Nat} {lo hi : Nat} {ρ : Fr} : Only slots lo hi ρ ρ := fun _ _ => rfl
theorem Only.upd {slots : List Nat} {lo hi : Nat} {ρ ρ' : Fr} {d : Nat} {v : Value} (hd : inSlots slots lo hi d = true) (h : Only slots lo hi ρ ρ') : Only slots lo hi ρ (upd ρ' (some d) v) := by
  intro t ht
  simp only [Vc.upd]
  cases hb : Nat.beq t d with
  | true => have := Nat.eq_of_beq_eq_true hb; subst this; rw [hd] at ht; cases ht
  | false => exact h t ht
theorem Only.skip {slots : List Nat} {lo hi : Nat} {ρ ρ' : Fr} {v : Value} (h : Only slots lo hi ρ ρ') : Only slots lo hi ρ (Vc.upd ρ' none v) := h
theorem Only.over {slots slots' : List Nat} {lo hi : Nat} {ρ ρ' : Fr} (hs : slots'.all (inSlots slots lo hi) = true) (h : Only slots lo hi ρ ρ') : ∀ vs, Only slots lo hi ρ (over slots' vs ρ') := by
  induction slots' with
  | nil => intro vs; cases vs <;> exact h
  | cons d ds ih =>
    intro vs
    simp only [List.all_cons, Bool.and_eq_true] at hs
    cases vs with
    | nil => exact h
    | cons v vs =>
      intro t ht
      simp only [Vc.over]
      cases hb : Nat.beq t d with
      | true => have := Nat.eq_of_beq_eq_true hb; subst this; rw [hs.1] at ht; cases ht
      | false => exact ih hs.2 vs t ht
theorem Only.hav {slots : List Nat} {lo hi lo' hi' : Nat} {ρ ρ' junk : Fr} (hl : Nat.ble lo lo' = true) (hh : Nat.ble hi' hi = true) (h : Only slots lo hi ρ ρ') : Only slots lo hi ρ (hav lo' hi' junk ρ') := by
  intro t ht
  simp only [Vc.hav]
  cases hb : (Nat.ble lo' t && Nat.blt t hi') with
  | false => exact h t ht
  | true =>
    simp only [Bool.and_eq_true, Nat.ble_eq, Nat.blt_eq] at hb hl hh
    simp only [inSlots, Bool.or_eq_false_iff, Bool.and_eq_false_iff] at ht
    rcases ht.2 with h | h
    · have : Nat.ble lo t = true := by rw [Nat.ble_eq]; omega
      rw [this] at h; cases h
    · have : Nat.blt t hi = true := by rw [Nat.blt_eq]; omega
      rw [this] at h; cases h

theorem over_evs (slots : List Nat) (ρ ρ' : Fr) (t : Nat) : over slots (evs ρ slots) ρ' t = if slots.contains t then ρ t else ρ' t := by
  induction slots with
  | nil => rfl
  | cons d ds ih =>
    simp only [Vc.over, evs, List.contains_cons]
    cases hb : Nat.beq t d with
    | true => have := Nat.eq_of_beq_eq_true hb; subst this; simp
    | false =>
      have hne : (t == d) = false := by simpa using Nat.ne_of_beq_eq_false hb
      rw [cond_false, ih]
      simp [hne]

theorem only_eq {slots : List Nat} {lo hi : Nat} {ρ ρ' : Fr} (h : Only slots lo hi ρ ρ') : ρ' = over slots (evs ρ' slots) (hav lo hi ρ' ρ) := by
  funext t
  rw [over_evs]
  split
  · rfl
  · rename_i hs
    simp only [Vc.hav]
    cases hb : (Nat.ble lo t && Nat.blt t hi) with
    | true => rfl
    | false => exact h t (by simp only [inSlots, hb, Bool.or_false]; simpa using hs)

theorem loop_rule {P : Program} {T : Tab} {c : Code} {Q : Post} {ρ : Fr} {w : World} {σ : Type} (slots : List Nat) (lo hi : Nat) (head : σ → List Value) (J : σ → World → Prop) (μ : σ → Nat) (s0 : σ)
    (h0 : evs ρ slots = head s0) (hJ : J s0 w)
    (round : ∀ s w junk, J s w → ∀ K : Fr → World → Prop, (∀ s' ρ' w', evs ρ' slots = head s' → J s' w' → μ s' < μ s → Only slots lo hi ρ ρ' → K ρ' w') →
      vc P T c (seqP K Q) (over slots (head s) (hav lo hi junk ρ)) w) :
    vc P T (.loop c) Q ρ w := by
  refine ⟨fun n ρ' w' => ∃ s junk, μ s = n ∧ ρ' = over slots (head s) (hav lo hi junk ρ) ∧ J s w', μ s0, ⟨s0, ρ, rfl, ?_, hJ⟩, ?_⟩
  · rw [← h0]; exact only_eq Only.refl
  · rintro n ρ' w' ⟨s, junk, rfl, rfl, hj⟩
    refine round s w' junk hj _ ?_
    intro s' ρ' w'' h1 h2 h3 h4
    exact ⟨μ s', h3, s', ρ', rfl, by rw [← h1]; exact only_eq h4, h2⟩

/-- What follows is walked once, whatever way led there. -/
theorem seq_cut {P : Program} {T : Tab} {x y : Code} {Q : Post} {ρ : Fr} {w : World} {σ : Type} (slots : List Nat) (lo hi : Nat) (head : σ → List Value) (J : σ → World → Prop)
    (hx : ∀ K : Fr → World → Prop, (∀ s ρ' w', evs ρ' slots = head s → J s w' → Only slots lo hi ρ ρ' → K ρ' w') → vc P T x (seqP K Q) ρ w)
    (hy : ∀ s w' junk, J s w' → vc P T y Q (over slots (head s) (hav lo hi junk ρ)) w') : vc P T (.seq x y) Q ρ w :=
  hx _ fun s ρ' w' h1 h2 h3 => by
    have := hy s w' ρ' h2
    rw [← h1, ← only_eq h3] at this
    exact this

/-- The first part alone, the rest behind a name. -/
theorem seq_k {P : Program} {T : Tab} {x y : Code} {Q : Post} {ρ : Fr} {w : World} (h : ∀ K : Fr → World → Prop, (∀ ρ w, vc P T y Q ρ w → K ρ w) → vc P T x (seqP K Q) ρ w) : vc P T (.seq x y) Q ρ w :=
  h _ fun _ _ h => h

theorem vbool {a b : Bool} (h : a = b) : Value.bool a = Value.bool b := by rw [h]
theorem vint {k : IntKind} {a b : Int} (h : a = b) : Value.int k a = Value.int k b := by rw [h]
theorem vstr {a b : ByteArray} (h : a = b) : Value.string a = Value.string b := by rw [h]

/-- An index that is in range. -/
theorem ix {p q : Prop} {K : p ∧ q → Prop} (h : p ∧ q) (k : K h) : ∃ h : p ∧ q, K h := ⟨h, k⟩
theorem vs1 {a b : Value} (h : a = b) : [a] = [b] := by rw [h]
theorem vs2 {a b c d : Value} (h : a = b) (h' : c = d) : [a, c] = [b, d] := by rw [h, h']
theorem vs3 {a b c d e f : Value} (h : a = b) (h' : c = d) (h'' : e = f) : [a, c, e] = [b, d, f] := by rw [h, h', h'']
theorem vs4 {a b c d e f g k : Value} (h : a = b) (h' : c = d) (h'' : e = f) (h3 : g = k) : [a, c, e, g] = [b, d, f, k] := by rw [h, h', h'', h3]

end Go.Vc
