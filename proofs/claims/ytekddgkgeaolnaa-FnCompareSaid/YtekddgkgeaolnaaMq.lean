/- The calculus: maps from strings: made, read, written, gone through in whatever order. No program in sight. -/
import Derived.Test.YtekddgkgeaolnaaFa
import Derived.Maps.RangeRun
namespace Go.Vc
open Go Go.RowKit
open Go.ChangeMaps (setBlock)

/-- What a map holds, in the order in which its keys came. -/
abbrev Al := List (ByteArray × Value)
def Al.get (s : ByteArray) : Al → Option Value
  | [] => none
  | p :: l => if s = p.1 then some p.2 else Al.get s l
def Al.put (s : ByteArray) (v : Value) : Al → Al
  | [] => [(s, v)]
  | p :: l => if s = p.1 then (s, v) :: l else p :: Al.put s v l

def MRows : List MapEntry → Al → Prop
  | [], [] => True
  | e :: es, p :: l => (e.key = .string p.1 ∧ e.val = p.2) ∧ MRows es l
  | _, _ => False
structure MapRep (es : List MapEntry) (clock : Nat) (l : Al) : Prop where
  rows : MRows es l
  born : (es.map (·.born)).Nodup
  old : ∀ e ∈ es, e.born < clock
def MapAt (w : World) (b : Nat) (l : Al) : Prop := ∃ es clock, w.heap[b]? = some (.map es clock) ∧ MapRep es.toList clock l

theorem MapAt.lt {w : World} {b : Nat} {l : Al} (h : MapAt w b l) : b < w.heap.size := by
  obtain ⟨es, clock, hb, _⟩ := h
  exact (Array.getElem?_eq_some_iff.1 hb).1
theorem MapAt.chg {S : Nat → Prop} {w w' : World} {b : Nat} {l : Al} (hb : ¬ S b) (hc : Chg S w w') (h : MapAt w b l) : MapAt w' b l := by
  have hlt := h.lt
  obtain ⟨es, clock, h1, h2⟩ := h
  exact ⟨es, clock, (hc.block b hlt hb).trans h1, h2⟩
theorem MapAt.ext {w w' : World} {b : Nat} {l : Al} (hc : Ext w w') (h : MapAt w b l) : MapAt w' b l := h.chg (S := fun _ => False) (fun h => h) (.of hc)
theorem MapAt.new (w : World) : MapAt (w.alloc (.map #[] 0)) w.heap.size [] := ⟨#[], 0, (Array.getElem?_push_size ..), trivial, List.nodup_nil, by simp⟩

theorem ba_beq (s t : ByteArray) : (s == t) = decide (s = t) := by
  cases s with
  | mk a =>
    cases t with
    | mk b =>
      show (a == b) = _
      by_cases h : a = b
      · subst h; simp
      · simp [h]
theorem find_rows (s : ByteArray) : ∀ (es : List MapEntry) (l : Al) (i : Nat), MRows es l →
    (l.get s = none ∧ Instr.findNow .string (.string s) es i = some none ∧ ∀ x e, e.key = .string s → e.val = x → MRows (es ++ [e]) (l.put s x)) ∨
    ∃ j e v, l.get s = some v ∧ es[j]? = some e ∧ e.key = .string s ∧ Instr.findNow .string (.string s) es i = some (some (i + j, v)) ∧
      ∀ x (f : MapEntry → MapEntry), (∀ e, (f e).key = .string s ∧ (f e).val = x) → MRows (es.modify j f) (l.put s x) := by
  intro es
  induction es with
  | nil =>
    intro l i h
    match l, h with
    | [], _ => exact .inl ⟨rfl, rfl, fun x e hk hv => ⟨⟨hk, hv⟩, trivial⟩⟩
  | cons e es ih =>
    intro l i h
    match l, h with
    | p :: l, ⟨⟨hk, hv⟩, hr⟩ =>
      by_cases hs : s = p.1
      · subst hs
        refine .inr ⟨0, e, p.2, by simp [Al.get], rfl, hk, ?_, fun x f hf => ?_⟩
        · simp [Instr.findNow, hk, Instr.sameNow, ba_beq, hv]
        · rw [Al.put, if_pos rfl]
          exact ⟨hf e, hr⟩
      · have hn : Instr.findNow .string (.string s) (e :: es) i = Instr.findNow .string (.string s) es (i + 1) := by
          simp [Instr.findNow, hk, Instr.sameNow, ba_beq, hs]
        rcases ih l (i + 1) hr with ⟨h1, h2, h3⟩ | ⟨j, e', v, h1, h2, h3, h4, h5⟩
        · refine .inl ⟨by simp only [Al.get, if_neg hs]; exact h1, hn.trans h2, fun x e' a b => ?_⟩
          simp only [Al.put, if_neg hs]
          exact ⟨⟨hk, hv⟩, h3 x e' a b⟩
        · refine .inr ⟨j + 1, e', v, by simp only [Al.get, if_neg hs]; exact h1, h2, h3, hn.trans (h4.trans (by rw [Nat.add_right_comm, Nat.add_assoc])), fun x f hf => ?_⟩
          simp only [Al.put, if_neg hs, List.modify_succ_cons]
          exact ⟨⟨hk, hv⟩, h5 x f hf⟩

theorem modify_born (f : MapEntry → MapEntry) (hf : ∀ e, (f e).born = e.born) : ∀ (es : List MapEntry) (j : Nat), (es.modify j f).map (·.born) = es.map (·.born) := by
  intro es
  induction es with
  | nil => intro j; simp
  | cons e es ih =>
    intro j
    cases j with
    | zero => simp [hf]
    | succ j => simp [ih]
theorem old_of_born {es : List MapEntry} {c : Nat} (h : ∀ n ∈ es.map (·.born), n < c) : ∀ e ∈ es, e.born < c := fun e he => h _ (List.mem_map.2 ⟨e, he, rfl⟩)
theorem born_of_old {es : List MapEntry} {c : Nat} (h : ∀ e ∈ es, e.born < c) : ∀ n ∈ es.map (·.born), n < c := fun n hn => by
  obtain ⟨e, he, rfl⟩ := List.mem_map.1 hn
  exact h e he

theorem chg_block (w : World) (b : Nat) (o : Obj) : Chg (fun B => B = b) w (setBlock w b o) :=
  ⟨rfl, rfl, rfl, by simp [setBlock], fun k _ hn => by
    simp only [setBlock, Array.getElem?_setIfInBounds]
    rw [if_neg (fun e => hn e.symm)]⟩
theorem block_at {w : World} {b : Nat} (hb : b < w.heap.size) (o : Obj) : (setBlock w b o).heap[b]? = some o := by
  simp [setBlock, hb]

section
variable {P : Program} {T : Tab} {o : Oper} {ρ : Fr} {K : Value → World → Prop} {w : World} {t k e : Nat} {r q : TRow} {x i v : Operand} {c : Bool} {b : Nat} {s : ByteArray} {l : Al}

theorem run_checkKey (hk : P.underlying k = some .string) (emp : Bool) (n : Nat) : (Instr.checkKey emp (n + 1) k (.string s)).run P w = .ok () w := by
  simp [Instr.checkKey, run_underlying hk]

theorem exec_lookup (hT : Ties P T) (ho : o.op = .lookup t x i c) (hr : look T t = some r) (ha : r.agg = false) (hd : r.desc = .map k e) (hk : P.underlying k = some .string) (hq : look T e = some q)
    (hx : ev ρ x = .map (some b)) (hi : ev ρ i = .string s) (hm : MapAt w b l) :
    (execOp (ev ρ) o).run P w = .ok (.value (if c then .tuple #[(l.get s).getD q.zero, .bool (l.get s).isSome] else (l.get s).getD q.zero)) w := by
  obtain ⟨es, clock, hb, hrep⟩ := hm
  have hu := ((ties_look hT hr).plain ha).trans (congrArg some hd)
  have hz := (ties_look hT hq).run_zero w
  have hg := MapKept.run_getObj_map (P := P) hb
  have hkey := fun emp => run_checkKey (P := P) (w := w) (s := s) hk emp 9999
  rcases find_rows s es.toList l 0 hrep.rows with ⟨h1, h2, _⟩ | ⟨j, e', v', h1, _, _, h4, _⟩
  · simp [execOp, ho, hx, hi, Instr.lookup, run_underlying hu, hg, hkey, Instr.findKey, run_underlying hk, h2, h1, hz]
  · simp [execOp, ho, hx, hi, Instr.lookup, run_underlying hu, hg, hkey, Instr.findKey, run_underlying hk, h4, h1]
theorem exec_look {u : Value} (hT : Ties P T) (ho : o.op = .lookup t x i c) (hr : look T t = some r) (ha : r.agg = false) (hd : r.desc = .map k e) (hk : P.underlying k = some .string) (hq : look T e = some q)
    (hx : ev ρ x = .map (some b)) (hi : ev ρ i = .string s) (hm : MapAt w b l) (hu : (if c then .tuple #[(l.get s).getD q.zero, .bool (l.get s).isSome] else (l.get s).getD q.zero) = u) :
    (execOp (ev ρ) o).run P w = .ok (.value u) w := by rw [← hu]; exact exec_lookup hT ho hr ha hd hk hq hx hi hm
theorem raw_lookup (hT : Ties P T) (ho : o.op = .lookup t x i c) (hr : look T t = some r) (ha : r.agg = false) (hd : r.desc = .map k e) (hk : P.underlying k = some .string) (hq : look T e = some q)
    (hx : ev ρ x = .map (some b)) (hi : ev ρ i = .string s) (hm : MapAt w b l)
    (hK : K (if c then .tuple #[(l.get s).getD q.zero, .bool (l.get s).isSome] else (l.get s).getD q.zero) w) : Raw P o ρ w K :=
  ⟨.value _, _, w, exec_lookup hT ho hr ha hd hk hq hx hi hm, rfl, hK⟩

theorem raw_lookup_nil (hT : Ties P T) (ho : o.op = .lookup t x i c) (hr : look T t = some r) (ha : r.agg = false) (hd : r.desc = .map k e) (hk : P.underlying k = some .string) (hq : look T e = some q)
    (hx : ev ρ x = .map none) (hi : ev ρ i = .string s)
    (hK : K (if c then .tuple #[q.zero, .bool false] else q.zero) w) : Raw P o ρ w K := by
  have hu := ((ties_look hT hr).plain ha).trans (congrArg some hd)
  have hz := (ties_look hT hq).run_zero w
  have hkey := fun emp => run_checkKey (P := P) (w := w) (s := s) hk emp 9999
  refine ⟨.value _, _, w, ?_, rfl, hK⟩
  simp [execOp, ho, hx, hi, Instr.lookup, run_underlying hu, hkey, Instr.findKey, run_underlying hk, Instr.findNow, hz]

theorem stays (s : ByteArray) : (Instr.keyThatStays (.string s) (.string s)).run P w = .ok (.string s) w := by
  simp [Instr.keyThatStays, Instr.sameBits, ba_beq]

theorem raw_update (hT : Ties P T) (ho : o.op = .mapUpdate t x i v ∨ o.op = .insert t x i v) (hr : look T t = some r) (ha : r.agg = false) (hd : r.desc = .map k e) (hk : P.underlying k = some .string)
    (hx : ev ρ x = .map (some b)) (hi : ev ρ i = .string s) (hm : MapAt w b l)
    (hK : ∀ w', Chg (fun B => B = b) w w' → w'.heap.size = w.heap.size → MapAt w' b (l.put s (ev ρ v)) → K undef w') : Raw P o ρ w K := by
  have hlt := hm.lt
  obtain ⟨es, clock, hb, hrep⟩ := hm
  have hu := ((ties_look hT hr).plain ha).trans (congrArg some hd)
  have hg := MapKept.run_getObj_map (P := P) hb
  have hkey := run_checkKey (P := P) (w := w) (s := s) hk false 9999
  have hrun : ∃ o', (Instr.mapUpdate t (.map (some b)) (.string s) (ev ρ v)).run P w = .ok () (setBlock w b o') ∧ MapAt (setBlock w b o') b (l.put s (ev ρ v)) := by
    rcases find_rows s es.toList l 0 hrep.rows with ⟨h1, h2, h3⟩ | ⟨j, e', v', h1, h5, h6, h4, h7⟩
    · refine ⟨.map (es.push { key := .string s, val := ev ρ v, born := clock }) (clock + 1), ?_, _, _, block_at hlt _, ?_, ?_, ?_⟩
      · simp [Instr.mapUpdate, run_underlying hu, hg, hkey, Instr.findKey, run_underlying hk, h2]
        exact MapKept.run_setObj_map _ hb
      · rw [Array.toList_push]; exact h3 _ _ rfl rfl
      · rw [Array.toList_push, List.map_append]
        refine List.nodup_append.2 ⟨hrep.born, by simp, fun a ha b' hb' => ?_⟩
        have := born_of_old hrep.old a ha
        simp at hb'
        omega
      · intro x hx
        rw [Array.toList_push, List.mem_append] at hx
        rcases hx with hx | hx
        · have := hrep.old x hx; omega
        · simp at hx; subst hx; exact Nat.lt_succ_self _
    · have hkk : ((es[j]?).map (·.key)).getD (.string s) = .string s := by
        rw [← Array.getElem?_toList, h5]; exact h6
      rw [Nat.zero_add] at h4
      refine ⟨.map (es.modify j fun e => { e with key := .string s, val := ev ρ v }) clock, ?_, _, _, block_at hlt _, ?_, ?_, ?_⟩
      · simp [Instr.mapUpdate, run_underlying hu, hg, hkey, Instr.findKey, run_underlying hk, h4, hkk, stays]
        exact MapKept.run_setObj_map _ hb
      · rw [Array.toList_modify]; exact h7 _ _ (fun e => ⟨rfl, rfl⟩)
      · rw [Array.toList_modify, modify_born (fun e => { e with key := .string s, val := ev ρ v }) (fun _ => rfl)]; exact hrep.born
      · refine old_of_born ?_
        rw [Array.toList_modify, modify_born (fun e => { e with key := .string s, val := ev ρ v }) (fun _ => rfl)]; exact born_of_old hrep.old
  obtain ⟨o', hrun, hat⟩ := hrun
  refine ⟨.skip, undef, setBlock w b o', ?_, rfl, hK _ (chg_block w b o') (by simp [setBlock]) hat⟩
  rcases ho with ho | ho
  · simp [execOp, ho, hx, hi, hrun]
  · simp [execOp, ho, hx, hi, hrun]

/-- A walk over a map: what is still to come. -/
def IterAt (w : World) (r b : Nat) (l left : Al) : Prop :=
  ∃ es clock since seen c0 ls, w.heap[r]? = some (.mapIter (some b) since seen c0) ∧ w.heap[b]? = some (.map es clock) ∧ MapRep es.toList clock l ∧ (∀ x ∈ es.toList, x.born < since) ∧ since ≤ c0 ∧ since ≤ clock ∧ ls = (leftOf es seen).toList ∧ MRows ls left
theorem raw_range (hT : Ties P T) (ho : o.op = .range t x) (hr : look T t = some r) (ha : r.agg = false) (hd : r.desc = .map k e)
    (hx : ev ρ x = .map (some b)) (hm : MapAt w b l)
    (hK : ∀ w', Ext w w' → w'.heap.size = w.heap.size + 1 → IterAt w' w.heap.size b l l → K (.pointer (some ⟨w.heap.size, 0, none⟩)) w') : Raw P o ρ w K := by
  have hlt := hm.lt
  obtain ⟨es, clock, hb, hrep⟩ := hm
  have hu := ((ties_look hT hr).plain ha).trans (congrArg some hd)
  have hg := MapKept.run_getObj_map (P := P) hb
  refine ⟨.value (.pointer (some ⟨w.heap.size, 0, none⟩)), _, w.alloc (.mapIter (some b) clock #[] clock), ?_, rfl, hK _ (Ext.new _ _) (by simp) ?_⟩
  · simp [execOp, ho, hx, Instr.range, run_underlying hu, hg]
  · refine ⟨es, clock, clock, #[], clock, _, (Array.getElem?_push_size ..), ?_, hrep, hrep.old, Nat.le_refl _, Nat.le_refl _, rfl, ?_⟩
    · exact ((Ext.new w (.mapIter (some b) clock #[] clock)).block b hlt).trans hb
    · have : leftOf es #[] = es := by simp [leftOf]
      rw [this]; exact hrep.rows

theorem rows_split : ∀ (es : List MapEntry) (l : Al) (e : MapEntry), MRows es l → e ∈ es → (es.map (·.born)).Nodup → ∃ s v l1 l2, l = l1 ++ (s, v) :: l2 ∧ e.key = .string s ∧ e.val = v ∧ MRows (es.filter fun x => !(x.born == e.born)) (l1 ++ l2) := by
  intro es
  induction es with
  | nil => intro l e _ he; simp at he
  | cons a es ih =>
    intro l e h he hn
    match l, h with
    | p :: l, ⟨⟨hk, hv⟩, hr⟩ =>
      simp only [List.map_cons, List.nodup_cons] at hn
      by_cases hae : a.born = e.born
      · have : e = a := by
          rcases List.mem_cons.1 he with rfl | h
          · rfl
          · exact absurd (List.mem_map.2 ⟨e, h, hae.symm⟩) hn.1
        subst this
        refine ⟨p.1, p.2, [], l, rfl, hk, hv, ?_⟩
        rw [List.filter_cons_of_neg (by simp)]
        rw [List.filter_eq_self.2 (fun x hx => ?_)]
        · exact hr
        · simp only [Bool.not_eq_true', beq_eq_false_iff_ne]
          intro hxe
          exact hn.1 (List.mem_map.2 ⟨x, hx, hxe⟩)
      · have he' : e ∈ es := by
          rcases List.mem_cons.1 he with rfl | h
          · exact absurd rfl hae
          · exact h
        obtain ⟨s, v, l1, l2, rfl, h1, h2, h3⟩ := ih l e hr he' hn.2
        refine ⟨s, v, p :: l1, l2, rfl, h1, h2, ?_⟩
        rw [List.filter_cons_of_pos (by simpa using hae)]
        exact ⟨⟨hk, hv⟩, h3⟩

theorem left_push (es : Array MapEntry) (seen : Array Nat) (n : Nat) : (leftOf es (seen.push n)).toList = (leftOf es seen).toList.filter fun x => !(x.born == n) := by
  simp only [leftOf, Array.toList_filter, List.filter_filter]
  congr 1
  funext x
  simp
  cases (seen.any fun y => x.born == y) <;> cases h : (x.born == n) <;> simp_all

theorem raw_next {it : Operand} {r : Nat} {left : Al} (ho : o.op = .next it false) (hi : ev ρ it = .pointer (some ⟨r, 0, none⟩)) (hm : IterAt w r b l left) (hrb : r ≠ b)
    (hE : left = [] → K (.tuple #[.bool false]) w)
    (hN : ∀ s v l1 l2 w', left = l1 ++ (s, v) :: l2 → Chg (fun B => B = r) w w' → w'.heap.size = w.heap.size → IterAt w' r b l (l1 ++ l2) → K (.tuple #[.bool true, .string s, v]) w') : Raw P o ρ w K := by
  obtain ⟨es, clock, since, seen, c0, ls, hr, hb, hrep, hold, hsc, hsk, rfl, hrows⟩ := hm
  rcases run_next_at (P := P) w o.type r b since c0 seen es clock hr hb hold hsc with ⟨h0, hrun⟩ | ⟨e, he, w1, hw1, hrun⟩
  · have : left = [] := by
      have h1 : (leftOf es seen).toList = [] := by simpa using h0
      rw [h1] at hrows
      match left, hrows with
      | [], _ => rfl
    exact ⟨.value _, _, w, by simp [execOp, ho, hi, hrun], rfl, hE this⟩
  · have hsub : ((leftOf es seen).toList.map (·.born)).Nodup := by
      simp only [leftOf, Array.toList_filter]
      exact (List.filter_sublist.map _).nodup hrep.born
    obtain ⟨s, v, l1, l2, rfl, hk, hv, h3⟩ := rows_split _ _ e hrows he hsub
    have hc1 : Chg (fun B => B = r) w w1 := by
      rcases hw1 with rfl | rfl
      · exact Chg.refl _ _
      · exact chg_drew _ _
    have hs1 : w1.heap = w.heap := by rcases hw1 with rfl | rfl <;> rfl
    have hrlt : r < w1.heap.size := by rw [hs1]; exact (Array.getElem?_eq_some_iff.1 hr).1
    refine ⟨.value (.tuple #[.bool true, e.key, e.val]), _, _, by simp [execOp, ho, hi, hrun]; rfl, rfl, ?_⟩
    rw [hk, hv]
    refine hN s v l1 l2 _ rfl (hc1.trans (chg_block _ _ _)) (by simp [setBlock, hs1]) ⟨es, clock, since, seen.push e.born, clock, _, block_at hrlt _, ?_, hrep, hold, hsk, hsk, rfl, ?_⟩
    · refine ((chg_block w1 r _).block b ?_ (fun h => hrb h.symm)).trans ?_
      · rw [hs1]; exact (Array.getElem?_eq_some_iff.1 hb).1
      · rw [hs1]; exact hb
    · rw [left_push]; exact h3
end
end Go.Vc
