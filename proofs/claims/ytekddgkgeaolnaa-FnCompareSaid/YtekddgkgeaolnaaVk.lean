/- The calculus: a region that draws its order, as a tree of operations: each one has blocks of its own, what it gives is told by a fact about them, and a fact is used once. Whatever the order. -/
import Derived.Test.YtekddgkgeaolnaaVj
namespace Go.Vc
open Go Go.RowKit

/-- For each operation: whose facts it uses; which slots its own fact tells of. -/
abbrev Frk := List (List Nat × List Nat)
def Frk.use (f : Frk) (i : Nat) : List Nat := ((f[i]?).getD ([], [])).1
def Frk.dep (f : Frk) (i : Nat) : List Nat := ((f[i]?).getD ([], [])).2
def frkI (ops : Array Oper) (f : Frk) (fin lo hi i : Nat) : Bool :=
  (f.use i).all (fun j => Nat.blt j ops.size && direct ops i j) &&
  (List.range ops.size).all (fun k =>
    (Nat.beq k i || (f.use i).all (fun j => !(f.use k).contains j)) &&
    (match dstOf ops.toList i with | none => true | some d => !(f.dep k).contains d || Nat.beq k i || direct ops k i) &&
    (!direct ops i k || Nat.blt k i)) &&
  (Nat.beq i fin || (List.range ops.size).any fun k => (f.use k).contains i) &&
  (match dstOf ops.toList i with | none => true | some d => inSlots (f.dep fin) lo hi d) &&
  !(List.range ops.size).any fun k => (f.use k).contains fin
def frkB (ops : Array Oper) (f : Frk) (fin lo hi : Nat) : Bool :=
  Region.noSelect ops && aftB ops && Nat.blt fin ops.size && (List.range ops.size).all (frkI ops f fin lo hi)

def NotIn (L : Ord) (k : Nat) : Prop := ∀ x ∈ L, x.1 ≠ k
def Live (n : Nat) (f : Frk) (L : Ord) (k : Nat) : Prop := k < n ∧ NotIn L k ∧ ∀ i, i < n → NotIn L i → ¬ k ∈ f.use i
structure FrkI (ops : Array Oper) (f : Frk) (fact : Nat → List Value → (Nat → Prop) → World → Prop) (ρ : Fr) (W : World) (L : Ord) (ρ' : Fr) (w : World) : Prop where
  ext : Ext W w
  pre : ∀ k, k < ops.size → NotIn L k → ∀ j, j < ops.size → direct ops k j = true → NotIn L j
  same : ∀ t, (∀ j, j < ops.size → dstOf ops.toList j ≠ some t) → ρ' t = ρ t
  facts : ∃ Bs : Nat → Nat → Prop, (∀ k, Live ops.size f L k → fact k (evs ρ' (f.dep k)) (Bs k) w ∧ ∀ b, Bs k b → W.heap.size ≤ b ∧ b < w.heap.size) ∧
    ∀ j k, Live ops.size f L j → Live ops.size f L k → j ≠ k → ∀ b, Bs j b → ¬ Bs k b

theorem evs_upd {ρ : Fr} {d : Option Nat} {v : Value} : ∀ {l : List Nat}, (∀ t, d = some t → t ∉ l) → evs (upd ρ d v) l = evs ρ l
  | [], _ => rfl
  | t :: l, h => by
    have ih := evs_upd (ρ := ρ) (d := d) (v := v) (l := l) fun t' ht' hm => h t' ht' (List.mem_cons_of_mem _ hm)
    rw [evs, evs, ih]
    congr 1
    cases d with
    | none => rfl
    | some e =>
      simp only [upd]
      cases hb : Nat.beq t e with
      | false => rfl
      | true =>
        have := Nat.eq_of_beq_eq_true hb
        subst this
        exact absurd (List.mem_cons_self ..) (h t rfl)
theorem upd_off {ρ : Fr} {d : Option Nat} {v : Value} {t : Nat} (h : d ≠ some t) : upd ρ d v t = ρ t := by
  cases d with
  | none => rfl
  | some e =>
    simp only [upd]
    cases hb : Nat.beq t e with
    | false => rfl
    | true => have := Nat.eq_of_beq_eq_true hb; subst this; exact absurd rfl h
/-- A slot's value, put where the frame's reading finds it. -/
theorem at_slot {ρ : Fr} {t : Nat} {v : Value} (h : ρ t = v) : ρ = upd ρ (some t) v := by
  funext s
  simp only [upd]
  cases hb : Nat.beq s t with
  | false => rfl
  | true => have := Nat.eq_of_beq_eq_true hb; subst this; exact h

/-- A least one among the rest. -/
theorem least_of : ∀ {L : Ord}, L ≠ [] → ∃ x ∈ L, ∀ y ∈ L, x.1 ≤ y.1
  | [x], _ => ⟨x, by simp, fun y hy => by rw [List.mem_singleton.1 hy]; exact Nat.le_refl _⟩
  | x :: y :: L, _ => by
    obtain ⟨z, hz, hm⟩ := least_of (L := y :: L) (by simp)
    by_cases h : x.1 ≤ z.1
    · refine ⟨x, List.mem_cons_self .., fun u hu => ?_⟩
      rcases List.mem_cons.1 hu with rfl | hu
      · exact Nat.le_refl _
      · exact Nat.le_trans h (hm u hu)
    · refine ⟨z, List.mem_cons_of_mem _ hz, fun u hu => ?_⟩
      rcases List.mem_cons.1 hu with rfl | hu
      · omega
      · exact hm u hu

def offB (ops : Array Oper) (t : Nat) : Bool := (List.range ops.size).all fun j => match dstOf ops.toList j with | none => true | some d => !Nat.beq d t
theorem off_of {ops : Array Oper} {t : Nat} (h : offB ops t = true) : ∀ j, j < ops.size → dstOf ops.toList j ≠ some t := fun j hj e => by
  have := List.all_eq_true.1 h j (List.mem_range.2 hj)
  rw [e] at this
  simp at this
/-- The rule. -/
theorem fork_rule {P : Program} {T : Tab} (hT : Ties P T) (hm : P.follows .mixedOrders = true) {ops : Array Oper} {Q : Post} {ρ : Fr} {w : World} (f : Frk) (fin lo hi : Nat) (fact : Nat → List Value → (Nat → Prop) → World → Prop)
    (hB : frkB ops f fin lo hi = true)
    (stab : ∀ i vs B S w1 w2, fact i vs B w1 → Chg S w1 w2 → (∀ b, B b → ¬ S b) → (∀ b, S b → w.heap.size ≤ b) → fact i vs B w2)
    (step : ∀ i o, nthO ops.toList i = some o → ∀ (ρ' : Fr) (w1 : World), Ext w w1 → (∀ t, offB ops t = true → ρ' t = ρ t) → ∀ Bs : Nat → Nat → Prop,
      (∀ j, j ∈ f.use i → fact j (evs ρ' (f.dep j)) (Bs j) w1 ∧ ∀ b, Bs j b → w.heap.size ≤ b ∧ b < w1.heap.size) →
      (∀ j k, j ∈ f.use i → k ∈ f.use i → j ≠ k → ∀ b, Bs j b → ¬ Bs k b) →
      vcG P T ops.toList o ρ' w1 (fun ρ2 w2 => ∃ B, Chg (fun b => ∃ j, j ∈ f.use i ∧ Bs j b) w1 w2 ∧ fact i (evs ρ2 (f.dep i)) B w2 ∧ ∀ b, B b → (∃ j, j ∈ f.use i ∧ Bs j b) ∨ w1.heap.size ≤ b ∧ b < w2.heap.size))
    (fine : ∀ vs junk w2 B, Ext w w2 → fact fin vs B w2 → (∀ b, B b → w.heap.size ≤ b ∧ b < w2.heap.size) → Q .normal (over (f.dep fin) vs (hav lo hi junk ρ)) w2) : DrawRaw P ops Q ρ w := by
  intro id n a hfit hn hd hfr
  simp only [frkB, Bool.and_eq_true, List.all_eq_true, List.mem_range, Nat.blt_eq] at hB
  obtain ⟨⟨⟨hsel, haft⟩, hfin⟩, hall⟩ := hB
  have hI := fun i (hi : i < ops.size) => hall i hi
  simp only [frkI, Bool.and_eq_true, List.all_eq_true, List.mem_range, Nat.blt_eq, Bool.or_eq_true, Nat.beq_eq, Bool.not_eq_true', List.any_eq_true] at hI
  have huse : ∀ i, i < ops.size → ∀ j, j ∈ f.use i → j < ops.size ∧ direct ops i j = true := fun i hi j hj => ((hI i hi).1.1.1.1 j hj)
  have hlin : ∀ i k, i < ops.size → k < ops.size → k ≠ i → ∀ j, j ∈ f.use i → j ∉ f.use k := fun i k hi hk hne j hj hjk => by
    rcases ((hI i hi).1.1.1.2 k hk).1.1 with h | h
    · exact hne h
    · have := h j hj
      rw [List.contains_iff_mem.2 hjk] at this; cases this
  have hdep : ∀ i k d, i < ops.size → k < ops.size → dstOf ops.toList i = some d → d ∈ f.dep k → k = i ∨ direct ops k i = true := fun i k d hi hk hd hdk => by
    have := ((hI i hi).1.1.1.2 k hk).1.2
    rw [hd] at this
    simp only [Bool.or_eq_true, Bool.not_eq_true', Nat.beq_eq] at this
    rcases this with (h | h) | h
    · rw [List.contains_iff_mem.2 hdk] at h; cases h
    · exact .inl h
    · exact .inr h
  have hdir : ∀ i k, i < ops.size → k < ops.size → direct ops i k = true → k < i := fun i k hi hk h => by
    rcases ((hI i hi).1.1.1.2 k hk).2 with h' | h'
    · rw [h] at h'; cases h'
    · exact h'
  have hused : ∀ i, i < ops.size → i = fin ∨ ∃ k, k < ops.size ∧ i ∈ f.use k := fun i hi => by
    rcases (hI i hi).1.1.2 with h | ⟨k, hk, h⟩
    · exact .inl h
    · exact .inr ⟨k, hk, List.contains_iff_mem.1 h⟩
  have hslot : ∀ i d, i < ops.size → dstOf ops.toList i = some d → inSlots (f.dep fin) lo hi d = true := fun i d hi hd => by
    have := (hI i hi).1.2
    rw [hd] at this
    exact this
  have hfinu : ∀ k, k < ops.size → fin ∉ f.use k := fun k hk hm => by
    have := (hI k hk).2
    rw [List.any_eq_false] at this
    exact this k (List.mem_range.2 hk) (List.contains_iff_mem.2 hm)
  refine wp_region_any hm ?_
  refine any_gen hfit haft (fun L => (∀ x ∈ L, x.1 < ops.size) ∧ L.Pairwise (fun a b => a.1 ≠ b.1)) (fun L ρ' w' => FrkI ops f fact ρ w L ρ' w')
    (fun L hL => hL.1) ?_ ?_ ?_ ?_ ops.size ((List.range ops.size).map fun i => (i, Kd.loud)) _ a _ (by simp) (by simp) ?_ ?_ hn hd ?_
  · rintro X x Y ⟨_, hL⟩ y hy e
    rw [List.pairwise_append] at hL
    obtain ⟨_, h2, h3⟩ := hL
    rw [List.pairwise_cons] at h2
    rcases List.mem_append.1 hy with hy | hy
    · exact h3 y hy x (List.mem_cons_self ..) e
    · exact h2.1 y hy e.symm
  · rintro L ⟨hL, _⟩ hne
    obtain ⟨x, hx, hmin⟩ := least_of hne
    refine ⟨x, hx, fun y hy => ?_⟩
    cases hd : direct ops x.1 y.1 with
    | false => rfl
    | true => have := hdir _ _ (hL x hx) (hL y hy) hd; have := hmin y hy; omega
  · rintro ρ' w' ⟨hx, _, hs, Bs, hf, _⟩
    have hlive : Live ops.size f [] fin := ⟨hfin, (fun x (hx : x ∈ ([] : Ord)) => absurd hx (List.not_mem_nil)), fun i hi _ => hfinu i hi⟩
    have hO : Only (f.dep fin) lo hi ρ ρ' := fun t ht => hs t fun j hj e => by rw [hslot j t hj e] at ht; cases ht
    obtain ⟨h1, h2⟩ := hf fin hlive
    have := fine (evs ρ' (f.dep fin)) ρ' w' (Bs fin) hx h1 h2
    rwa [← only_eq hO] at this
  · rintro X ⟨i, kd⟩ Y ⟨hL, hP⟩ hno
    have hi : i < ops.size := hL (i, kd) (by simp)
    have hPP : (X ++ Y).Pairwise (fun a b => a.1 ≠ b.1) := hP.sublist (List.Sublist.append_left (List.sublist_cons_self _ _) _)
    have hnd : ∀ y ∈ X ++ Y, y.1 ≠ i := by
      intro y hy e
      rw [List.pairwise_append] at hP
      obtain ⟨_, h2, h3⟩ := hP
      rw [List.pairwise_cons] at h2
      rcases List.mem_append.1 hy with hy | hy
      · exact h3 y hy _ (List.mem_cons_self ..) e
      · exact h2.1 y hy e.symm
    have hmem : ∀ y, y ∈ X ++ (i, kd) :: Y ↔ y = (i, kd) ∨ y ∈ X ++ Y := fun y => by simp only [List.mem_append, List.mem_cons]; constructor <;> (intro h; rcases h with h | h | h <;> simp [h])
    have hin : ∀ k, NotIn (X ++ Y) k ↔ k = i ∨ NotIn (X ++ (i, kd) :: Y) k := fun k => by
      constructor
      · intro h
        by_cases e : k = i
        · exact .inl e
        · refine .inr fun x hx hxe => ?_
          rcases (hmem x).1 hx with rfl | hx
          · exact e hxe.symm
          · exact h x hx hxe
      · rintro (rfl | h)
        · exact fun x hx => hnd x hx
        · exact fun x hx => h x ((hmem x).2 (.inr hx))
    have hiL : ¬ NotIn (X ++ (i, kd) :: Y) i := fun h => h (i, kd) (by simp) rfl
    refine ⟨⟨fun x hx => hL x ((hmem x).2 (.inr hx)), hPP⟩, fun ρ' w' o ho h => ?_⟩
    obtain ⟨hx, hpre, hs, Bs, hf, hdis⟩ := h
    have hready : ∀ j, j < ops.size → direct ops i j = true → NotIn (X ++ (i, kd) :: Y) j := fun j hj hd x hxm hxe => by
      have := hno x hxm
      rw [hxe, hd] at this; cases this
    have hul : ∀ j, j ∈ f.use i → Live ops.size f (X ++ (i, kd) :: Y) j := fun j hj => by
      obtain ⟨h1, h2⟩ := huse i hi j hj
      refine ⟨h1, hready j h1 h2, fun k hk hkn hjk => ?_⟩
      have : k ≠ i := fun e => hiL (e ▸ hkn)
      exact hlin i k hi hk this j hj hjk
    have hst := step i o ho ρ' w' hx (fun t ht => hs t (off_of ht)) Bs (fun j hj => hf j (hul j hj)) (fun j k hj hk => hdis j k (hul j hj) (hul k hk))
    refine (vcG_SG hT hst).mono fun v w2 => ?_
    rintro ⟨B, hch, hfa, hb⟩
    have hold : ∀ b, (∃ j, j ∈ f.use i ∧ Bs j b) → w.heap.size ≤ b ∧ b < w'.heap.size := fun b ⟨j, hj, hjb⟩ => (hf j (hul j hj)).2 b hjb
    have hz := hch.size
    have hz0 := hx.size
    have hBb : ∀ b, B b → w.heap.size ≤ b ∧ b < w2.heap.size := fun b hb' => by
      rcases hb b hb' with h | h
      · have := hold b h; omega
      · omega
    have hlv : ∀ k, Live ops.size f (X ++ Y) k → k ≠ i → Live ops.size f (X ++ (i, kd) :: Y) k ∧ k ∉ f.use i := fun k ⟨h1, h2, h3⟩ hne => by
      refine ⟨⟨h1, ((hin k).1 h2).resolve_left hne, fun j hj hjn => h3 j hj ((hin j).2 (.inr hjn))⟩, h3 i hi ((hin i).2 (.inl rfl))⟩
    have hdst : dstOf ops.toList i = o.dst := by simp only [dstOf, ho]
    have hsep : ∀ k, Live ops.size f (X ++ Y) k → k ≠ i → ∀ b, Bs k b → ¬ ∃ j, j ∈ f.use i ∧ Bs j b := fun k hk hne b hb' ⟨j, hj, hjb⟩ => by
      obtain ⟨h1, h2⟩ := hlv k hk hne
      exact hdis j k (hul j hj) h1 (fun e => h2 (e ▸ hj)) b hjb hb'
    refine ⟨hx.chg hch fun b hb' => (hold b hb').1, fun k hk hkn j hj hd => ?_, fun t ht => ?_, fun k => if k = i then B else Bs k, fun k hk => ?_, fun j k hj hk hne b hjb hkb => ?_⟩
    · refine (hin j).2 ?_
      rcases (hin k).1 hkn with rfl | h
      · exact .inr (hready j hj hd)
      · exact .inr (hpre k hk h j hj hd)
    · rw [upd_off (by rw [← hdst]; exact ht i hi)]
      exact hs t ht
    · by_cases e : k = i
      · subst e
        simp only [if_true]
        exact ⟨hfa, hBb⟩
      · simp only [e, if_false]
        obtain ⟨h1, h2⟩ := hlv k hk e
        obtain ⟨g1, g2⟩ := hf k h1
        refine ⟨?_, fun b hb' => by have := g2 b hb'; omega⟩
        rw [evs_upd fun t ht hm => ?_]
        · exact stab k _ _ _ _ _ g1 hch (fun b hb' => hsep k hk e b hb') fun b hb' => (hold b hb').1
        · rcases hdep i k t hi hk.1 (hdst.trans ht) hm with h | h
          · exact e h
          · exact hiL (hpre k hk.1 h1.2.1 i hi h)
    · by_cases e : j = i
      · subst e
        have e' : k ≠ j := fun h => hne h.symm
        simp only [if_true, e', if_false] at hjb hkb
        obtain ⟨h1, h2⟩ := hlv k hk e'
        rcases hb b hjb with h | h
        · exact hsep k hk e' b hkb h
        · have := (hf k h1).2 b hkb; omega
      · by_cases e' : k = i
        · subst e'
          simp only [if_true, e, if_false] at hjb hkb
          obtain ⟨h1, h2⟩ := hlv j hj e
          rcases hb b hkb with h | h
          · exact hsep j hj e b hjb h
          · have := (hf j h1).2 b hjb; omega
        · simp only [e, e', if_false] at hjb hkb
          exact hdis j k (hlv j hj e).1 (hlv k hk e').1 hne b hjb hkb
  · refine ⟨fun x hx => ?_, ?_⟩
    · obtain ⟨i, hi, rfl⟩ := List.mem_map.1 hx
      exact List.mem_range.1 hi
    · rw [List.pairwise_map]
      exact List.nodup_range.imp fun h => h
  · intro j hj
    constructor
    · intro _; exact ⟨(j, .loud), List.mem_map.2 ⟨j, List.mem_range.2 hj, rfl⟩, rfl⟩
    · intro _; simp [hj]
  · have hnot : ∀ k, k < ops.size → ¬ NotIn ((List.range ops.size).map fun i => (i, Kd.loud)) k := fun k hk h => h (k, .loud) (List.mem_map.2 ⟨k, List.mem_range.2 hk, rfl⟩) rfl
    subst hfr
    exact ⟨⟨rfl, rfl, rfl, Nat.le_refl _, fun _ _ => rfl⟩, fun k hk h => absurd h (hnot k hk), fun _ _ => rfl, fun _ _ => False, fun k hk => absurd hk.2.1 (hnot k hk.1), fun j k hj => absurd hj.2.1 (hnot j hj.1)⟩

end Go.Vc
