/- The calculus, second part: operations on memory, calls. -/
import Derived.Test.YtfmflffggcphjaaVc
namespace Go.Vc
open Go Go.RowKit

/-- The cells from (b, o) on hold these values. -/
def CellsAt (w : World) (b : Nat) : Nat → List Value → Prop
  | _, [] => True
  | o, v :: vs => w.cell? ⟨b, o, none⟩ = some v ∧ CellsAt w b (o + 1) vs

/-- One cell may be written. -/
def Free (w : World) (a : Addr) : Prop := (∃ u, w.cell? a = some u) ∧ w.frozen? a = false

def oneB : Value → Bool
  | .agg _ => false
  | .tuple _ => false
  | _ => true

def setCells (w : World) (b : Nat) : Nat → List Value → World
  | _, [] => w
  | o, v :: vs => setCells (w.setCell ⟨b, o, none⟩ v) b (o + 1) vs

def FreeAll (w : World) (b : Nat) : Nat → List Value → Prop
  | _, [] => True
  | o, v :: vs => (Free w ⟨b, o, none⟩ ∧ oneB v = true) ∧ FreeAll w b (o + 1) vs

/-- A call that returns. -/
def Enters (P : Program) (g : Nat) : Prop := ∃ fn, P.funcs[g]? = some fn ∧ fn.body.isSome = true ∧ (fn.name == "runtime.NumGoroutine") = false
def Ret (P : Program) (g : Nat) (args : Array Value) (w : World) (R : Value → World → Prop) : Prop :=
  Enters P g ∧ Calls P g args w (fun e w' => ∃ v, e = .returned v ∧ R v w')
theorem Ret.mono {P : Program} {g : Nat} {args : Array Value} {w : World} {R R' : Value → World → Prop} (h : Ret P g args w R) (hr : ∀ v w', R v w' → R' v w') : Ret P g args w R' :=
  ⟨h.1, h.2.mono fun _ _ ⟨v, he, h⟩ => ⟨v, he, hr _ _ h⟩⟩
theorem Ret.calls {P : Program} {g : Nat} {args : Array Value} {w : World} {R : Value → World → Prop} (h : Ret P g args w R) : Calls P g args w (fun e w' => ∃ v, e = .returned v ∧ R v w') := h.2

def nv : Next → Option Value
  | .value v => some v
  | .skip => some undef
  | _ => none

def Raw (P : Program) (o : Oper) (ρ : Fr) (w : World) (K : Value → World → Prop) : Prop :=
  ∃ n v w', (execOp (ev ρ) o).run P w = .ok n w' ∧ nv n = some v ∧ K v w'

/-- Parts of a struct laid into its cells. -/
def setL (cells : List Value) (off : Nat) : List Value → List Value
  | [] => cells
  | v :: vs => setL (cells.set off v) (off + 1) vs

def partsOf (ρ : Fr) : List (Nat × Operand) → List (Nat × Value)
  | [] => []
  | (i, x) :: l => (i, ev ρ x) :: partsOf ρ l

/-- Parts laid at their places; 'pl': a part's place, its number of cells, is it an aggregate. -/
def fillL (pl : Nat → Option (Nat × Nat × Bool)) (cells : List Value) : List (Nat × Value) → Option (List Value)
  | [] => some cells
  | (i, v) :: rest => match pl i with
    | none => none
    | some (off, sz, agg) =>
      bif agg then (match v with
        | .agg cs => bif Nat.beq cs.toList.length sz && Nat.ble (off + sz) cells.length then fillL pl (setL cells off cs.toList) rest else none
        | _ => none)
      else bif oneB v && Nat.beq sz 1 && Nat.ble (off + 1) cells.length then fillL pl (cells.set off v) rest else none

/-- Parts that are given one after the other, from the k-th on: their cells. -/
def valsFrom (q : TRow) : Nat → List (Nat × Value) → Option (List Value)
  | _, [] => some []
  | k, (i, v) :: rest =>
    match valsFrom q (k + 1) rest with
    | none => none
    | some l =>
      bif Nat.beq i k then
        bif q.agg then (match v with
          | .agg cs => bif Nat.beq cs.toList.length q.size then some (cs.toList ++ l) else none
          | _ => none)
        else bif oneB v && Nat.beq q.size 1 then some (v :: l) else none
      else none

def placeOf (T : Tab) (fs : List (Nat × Nat)) (i : Nat) : Option (Nat × Nat × Bool) :=
  match fs[i]? with
  | some (off, ft) => match look T ft with
    | some q => some (off, q.size, q.agg)
    | none => none
  | none => none

def allIn (T : Tab) : List (Nat × Nat) → Bool
  | [] => true
  | (_, t) :: l => (match look T t with | some _ => true | none => false) && allIn T l

/-- n times the cells of the zero value. -/
def zs : Nat → List Value → List Value
  | 0, _ => []
  | n + 1, z => z ++ zs n z

def vcOp (P : Program) (T : Tab) (o : Oper) (ρ : Fr) (w : World) (K : Value → World → Prop) : Prop :=
  match vcP T o ρ (fun v => K v w) with
  | some p => p
  | none =>
    match o.op with
    | .load t a => match look T t, ev ρ a with
        | some r, .pointer (some ⟨b, off, none⟩) =>
          bif r.agg then ∃ vs, vs.length = r.size ∧ CellsAt w b off vs ∧ K (.agg vs.toArray) w
          else ∃ v, w.cell? ⟨b, off, none⟩ = some v ∧ K v w
        | _, _ => False
    | .store t a x => match look T t, ev ρ a with
        | some r, .pointer (some ⟨b, off, none⟩) =>
          bif r.agg then (match ev ρ x with
            | .agg cs => bif Nat.beq cs.toList.length r.size then FreeAll w b off cs.toList ∧ K undef (setCells w b off cs.toList) else False
            | _ => False)
          else bif Nat.beq r.size 1 && oneB (ev ρ x) then Free w ⟨b, off, none⟩ ∧ K undef (w.setCell ⟨b, off, none⟩ (ev ρ x)) else False
        | _, _ => False
    | .box t x => K (.pointer (some ⟨w.heap.size, 0, none⟩)) (w.alloc (.cells (ev ρ x).cells t))
    | .alloc t => match look T t with
        | some r => K (.pointer (some ⟨w.heap.size, 0, none⟩)) (w.alloc (.cells r.zero.cells t))
        | none => False
    | .build t parts => match look T t with
        | some r => match fillL (placeOf T r.fs) r.zero.cells.toList (partsOf ρ parts.toList) with
            | some cells => bif r.agg && isInv r.desc && allIn T r.fs then K (.agg cells.toArray) w else False
            | none => False
        | none => Raw P o ρ w K
    | .buildSlice t len parts => match look T t with
        | some r => match r.desc with
            | .slice e => match look T e with
                | some q => match valsFrom q 0 (partsOf ρ parts.toList) with
                    | some cells => bif !r.agg && Nat.ble (len * q.size) 16777216 && Nat.beq q.zero.cells.toList.length q.size && Nat.beq parts.toList.length len then K (.slice (some ⟨w.heap.size, 0, none⟩) len len) (w.alloc (.cells cells.toArray e)) else False
                    | none => False
                | none => False
            | _ => False
        | none => False
    | .makeSlice t l c => match look T t, ev ρ l, ev ρ c with
        | some r, .int _ l, .int _ c => match r.desc with
            | .slice e => match look T e with
                | some q => (0 ≤ l ∧ l ≤ c ∧ c ≤ 9223372036854775807 ∧ q.bytes * c ≤ 281474976710656) ∧
                    bif !r.agg && Nat.beq q.zero.cells.toList.length q.size then K (.slice (some ⟨w.heap.size, 0, none⟩) l.toNat c.toNat) (w.alloc (.cells (zs c.toNat q.zero.cells.toList).toArray e)) else False
                | none => False
            | _ => False
        | _, _, _ => False
    | .makeMap _ r => match r with
        | none => K (.map (some w.heap.size)) (w.alloc (.map #[] 0))
        | some _ => Raw P o ρ w K
    | .call c => match c.callee with
        | .value f => match ev ρ f with
            | .func (.func g) first captured => Ret P g (first.toList ++ evl ρ c.args.toList ++ captured.toList).toArray w K ∨ Raw P o ρ w K
            | _ => False
        | _ => Raw P o ρ w K
    | _ => Raw P o ρ w K

/-- What an operation may come to. -/
def Step (P : Program) (o : Oper) (ρ : Fr) (w : World) (K : Value → World → Prop) : Prop :=
  Raw P o ρ w K ∨ ∃ g args, (execOp (ev ρ) o).run P w = .ok (.enter g args) w ∧ Calls P g args w (fun e w' => ∃ v, e = .returned v ∧ K v w')

theorem raw_value {P : Program} {o : Oper} {ρ : Fr} {w w' : World} {K : Value → World → Prop} {v : Value} (h : (execOp (ev ρ) o).run P w = .ok (.value v) w') (hk : K v w') : Step P o ρ w K :=
  .inl ⟨_, v, w', h, rfl, hk⟩
theorem raw_skip {P : Program} {o : Oper} {ρ : Fr} {w w' : World} {K : Value → World → Prop} (h : (execOp (ev ρ) o).run P w = .ok .skip w') (hk : K undef w') : Step P o ρ w K :=
  .inl ⟨_, undef, w', h, rfl, hk⟩

theorem evl_map (ρ : Fr) (l : List Operand) : evl ρ l = l.map (ev ρ) := by
  induction l with
  | nil => rfl
  | cons x l ih => simp [evl, ih]

theorem run_cells {P : Program} {w : World} {b : Nat} {vs : List Value} {o : Nat} (h : CellsAt w b o vs) : (loadCells ⟨b, o, none⟩ vs.length).run P w = .ok vs.toArray w := by
  have key : ∀ (l : List Value) (o : Nat), CellsAt w b o l → ∀ j v, l[j]? = some v → w.cell? ⟨b, o + j, none⟩ = some v := by
    intro l
    induction l with
    | nil => intro o _ j v h; simp at h
    | cons x l ih =>
      intro o h j v hj
      cases j with
      | zero => simp at hj; subst hj; exact h.1
      | succ j =>
        have := ih (o + 1) h.2 j v (by simpa using hj)
        rwa [show o + (j + 1) = o + 1 + j from by omega]
  exact run_loadCells_list w ⟨b, o, none⟩ vs (fun j v hj => by
    have := key vs o h j v hj
    have e : (⟨b, o, none⟩ : Addr).add j = ⟨b, o + j, none⟩ := by unfold Addr.add; split <;> simp_all
    rw [e]; exact this)

theorem oneB_cells {v : Value} (h : oneB v = true) : v.cells = #[v] := by cases v <;> simp_all [oneB, Value.cells]

theorem run_store_one {P : Program} {w : World} {a : Addr} {v : Value} (h : Free w a) (hv : oneB v = true) : (store a v).run P w = .ok () (w.setCell a v) := by
  obtain ⟨⟨u, hu⟩, hf⟩ := h
  cases v <;> simp_all [store, oneB, Sem.run]

theorem Free.setCell {w : World} {a p : Addr} {u : Value} (h : Free w a) : Free (w.setCell p u) a := by
  obtain ⟨⟨x, hx⟩, hf⟩ := h
  refine ⟨?_, ?_⟩
  · by_cases e : p = a
    · subst e; exact ⟨u, World.cell?_setCell_same w p u hx⟩
    · exact ⟨x, (World.cell?_setCell_other w p a u e).trans hx⟩
  · rw [World.frozen?_setCell]; exact hf

theorem FreeAll.setCell {b : Nat} {p : Addr} {u : Value} : ∀ (vs : List Value) (w : World) (o : Nat), FreeAll w b o vs → FreeAll (w.setCell p u) b o vs := by
  intro vs
  induction vs with
  | nil => intro _ _ _; trivial
  | cons v vs ih => intro w o h; exact ⟨⟨h.1.1.setCell, h.1.2⟩, ih _ _ h.2⟩

theorem run_stores {P : Program} {b : Nat} : ∀ (vs : List Value) (w : World) (o i : Nat), FreeAll w b (o + i) vs →
    (storeCells ⟨b, o, none⟩ vs i).run P w = .ok () (setCells w b (o + i) vs) := by
  intro vs
  induction vs with
  | nil => intro w o i _; simp [storeCells, setCells]
  | cons v vs ih =>
    intro w o i h
    have e : (⟨b, o, none⟩ : Addr).add i = ⟨b, o + i, none⟩ := by unfold Addr.add; split <;> simp_all
    have h1 := run_store_one (P := P) h.1.1 h.1.2
    have := ih (w.setCell ⟨b, o + i, none⟩ v) o (i + 1) (FreeAll.setCell _ _ _ h.2)
    simp [storeCells, e, h1, this, setCells]
    rfl

theorem fold_setL (off : Nat) : ∀ (vs : List Value) (k : Nat) (cs : List Value),
    (vs.zipIdx k).foldl (fun (cs : Array Value) (x : Value × Nat) => cs.setIfInBounds (off + x.2) x.1) cs.toArray = (setL cs (off + k) vs).toArray := by
  intro vs
  induction vs with
  | nil => intro k cs; rfl
  | cons v vs ih =>
    intro k cs
    simp only [List.zipIdx_cons, List.foldl_cons, setL]
    rw [List.setIfInBounds_toArray, ih]
    rfl

theorem fold_cells (off : Nat) (cs : Array Value) (cells : List Value) :
    cs.zipIdx.foldl (fun (a : Array Value) (x : Value × Nat) => a.setIfInBounds (off + x.2) x.1) cells.toArray = (setL cells off cs.toList).toArray := by
  rw [← Array.foldl_toList, Array.toList_zipIdx]
  exact fold_setL off cs.toList 0 cells

theorem setL_length (vs : List Value) : ∀ (cells : List Value) (off : Nat), (setL cells off vs).length = cells.length := by
  induction vs with
  | nil => intro _ _; rfl
  | cons v vs ih => intro cells off; simp [setL, ih]

theorem fill_cons (pl' : Nat → Option (Nat × Nat)) (cells : Array Value) (i : Nat) (v : Value) (rest : List (Nat × Value)) (off : Nat) (hp : pl' i = some (off, v.cells.size)) (h2 : off + v.cells.size ≤ cells.size) :
    Instr.fill pl' cells ((i, v) :: rest) = Instr.fill pl' (v.cells.zipIdx.foldl (fun (a : Array Value) (x : Value × Nat) => a.setIfInBounds (off + x.2) x.1) cells) rest := by
  have h3 : ¬ off + v.cells.size > cells.size := by omega
  simp [Instr.fill, hp, h3]

theorem fill_of (pl : Nat → Option (Nat × Nat × Bool)) (pl' : Nat → Option (Nat × Nat)) (hpl : ∀ i x, pl i = some x → pl' i = some (x.1, x.2.1)) : ∀ (parts : List (Nat × Value)) (cells out : List Value), fillL pl cells parts = some out →
    Instr.fill pl' cells.toArray parts = some out.toArray := by
  intro parts
  induction parts with
  | nil => intro cells out h; simp [fillL] at h; subst h; simp [Instr.fill]
  | cons p parts ih =>
    intro cells out h
    obtain ⟨i, v⟩ := p
    simp only [fillL] at h
    cases hp : pl i with
    | none => simp [hp] at h
    | some x =>
      obtain ⟨off, sz, agg⟩ := x
      have hp' := hpl i _ hp
      simp only [hp] at h
      cases agg with
      | true =>
        simp only [cond_true] at h
        split at h
        · rename_i cs
          cases hc : (Nat.beq cs.toList.length sz && Nat.ble (off + sz) cells.length) with
          | false => rw [hc] at h; cases h
          | true =>
            rw [hc] at h
            simp only [Bool.and_eq_true, Nat.beq_eq, Nat.ble_eq] at hc
            simp only [cond_true] at h
            have e1 : (Value.agg cs).cells.size = sz := by simpa [Value.cells] using hc.1
            rw [fill_cons pl' _ i (.agg cs) parts off (by rw [hp', e1]) (by rw [e1]; simpa using hc.2)]
            rw [fold_cells]
            exact ih _ _ h
        · cases h
      | false =>
        simp only [cond_false] at h
        cases hc : (oneB v && Nat.beq sz 1 && Nat.ble (off + 1) cells.length) with
        | false => rw [hc] at h; cases h
        | true =>
          rw [hc] at h
          simp only [Bool.and_eq_true, Nat.beq_eq, Nat.ble_eq] at hc
          simp only [cond_true] at h
          have e1 : v.cells.size = 1 := by rw [oneB_cells hc.1.1]; rfl
          rw [fill_cons pl' _ i v parts off (by rw [hp', e1, hc.1.2]) (by rw [e1]; simpa using hc.2)]
          rw [fold_cells, oneB_cells hc.1.1]
          exact ih _ _ h

theorem zs_length (z : List Value) : ∀ n, (zs n z).length = n * z.length := by
  intro n
  induction n with
  | zero => simp [zs]
  | succ n ih => simp [zs, ih, Nat.succ_mul]; omega

theorem zs_get (z : List Value) : ∀ (n i : Nat), i < n * z.length → (zs n z)[i]? = z[i % z.length]? := by
  intro n
  induction n with
  | zero => intro i h; simp at h
  | succ n ih =>
    intro i h
    simp only [zs]
    by_cases hi : i < z.length
    · rw [List.getElem?_append_left hi, Nat.mod_eq_of_lt hi]
    · rw [List.getElem?_append_right (by omega), ih (i - z.length) (by rw [Nat.succ_mul] at h; omega)]
      rw [Nat.mod_eq_sub_mod (a := i) (by omega)]

theorem zs_made (z : Array Value) (n : Nat) : (Array.range (n * z.size)).map (z[· % z.size]!) = (zs n z.toList).toArray := by
  by_cases hz : z.size = 0
  · have : z = #[] := Array.eq_empty_of_size_eq_zero hz
    subst this
    have : ∀ n, zs n [] = [] := by
      intro n
      induction n with
      | zero => rfl
      | succ n ih => simp [zs, ih]
    simp [this]
  · apply Array.ext_getElem?
    intro i
    by_cases hi : i < n * z.size
    · have hm : i % z.size < z.size := Nat.mod_lt _ (by omega)
      have h1 := zs_get z.toList n i (by simpa using hi)
      simp only [Array.length_toList, Array.getElem?_toList] at h1
      simp [h1, hi, hm]
    · have h1 : (zs n z.toList)[i]? = none := by
        rw [List.getElem?_eq_none_iff, zs_length]; simp; omega
      simp [h1]
      omega

theorem setL_mid (done rest : List Value) : ∀ (cs z : List Value), cs.length = z.length → setL (done ++ (z ++ rest)) done.length cs = done ++ (cs ++ rest) := by
  intro cs
  induction cs generalizing done with
  | nil => intro z h; have : z = [] := List.eq_nil_of_length_eq_zero h.symm; subst this; rfl
  | cons c cs ih =>
    intro z h
    cases z with
    | nil => simp at h
    | cons z0 z =>
      simp only [setL]
      have e : (done ++ ((z0 :: z) ++ rest)).set done.length c = (done ++ [c]) ++ (z ++ rest) := by simp
      rw [e]
      have := ih (done ++ [c]) z (by simpa using h)
      simp only [List.length_append, List.length_singleton] at this
      rw [this]
      simp

theorem fill_vals (q : TRow) (z : List Value) (hz : z.length = q.size) : ∀ (parts : List (Nat × Value)) (k : Nat) (done cells : List Value), valsFrom q k parts = some cells → done.length = k * q.size →
    fillL (fun i => some (i * q.size, q.size, q.agg)) (done ++ zs parts.length z) parts = some (done ++ cells) := by
  intro parts
  induction parts with
  | nil => intro k done cells h _; simp [valsFrom] at h; subst h; simp [fillL, zs]
  | cons p parts ih =>
    intro k done cells h hd
    obtain ⟨i, v⟩ := p
    simp only [valsFrom] at h
    cases hl : valsFrom q (k + 1) parts with
    | none => simp [hl] at h
    | some l =>
      simp only [hl] at h
      cases hi : Nat.beq i k with
      | false => rw [hi] at h; cases h
      | true =>
        have := Nat.eq_of_beq_eq_true hi
        subst this
        rw [hi] at h
        simp only [cond_true] at h
        simp only [fillL, List.length_cons, zs]
        cases hg : q.agg with
        | true =>
          rw [hg] at h
          simp only [cond_true] at h
          split at h
          · rename_i cs
            cases hc : Nat.beq cs.toList.length q.size with
            | false => rw [hc] at h; cases h
            | true =>
              have hc' := Nat.eq_of_beq_eq_true hc
              rw [hc] at h
              simp only [cond_true, Option.some.injEq] at h
              subst h
              have hb : Nat.ble (i * q.size + q.size) (done ++ (z ++ zs parts.length z)).length = true := by
                rw [Nat.ble_eq]; simp [hd, hz]
              simp only [hb, Bool.and_true, cond_true]
              rw [← hd, setL_mid done _ cs.toList z (by rw [hc', hz])]
              have := ih (i + 1) (done ++ cs.toList) l hl (by simp only [List.length_append, hd, hc', Nat.succ_mul])
              simp only [List.append_assoc] at this
              rw [hg] at this
              exact this
          · cases h
        | false =>
          rw [hg] at h
          simp only [cond_false] at h
          cases hc : (oneB v && Nat.beq q.size 1) with
          | false => rw [hc] at h; cases h
          | true =>
            rw [hc] at h
            simp only [Bool.and_eq_true, Nat.beq_eq] at hc
            simp only [cond_true, Option.some.injEq] at h
            subst h
            have hb : Nat.ble (i * q.size + 1) (done ++ (z ++ zs parts.length z)).length = true := by
              rw [Nat.ble_eq]; simp [hd, hz, hc.2]
            have hq : Nat.beq q.size 1 = true := by rw [hc.2]; rfl
            simp only [cond_false, hb, Bool.and_true, cond_true]
            have hz1 : ∃ z0, z = [z0] := by
              have hzl : z.length = 1 := by rw [hz, hc.2]
              match z, hzl with
              | [z0], _ => exact ⟨z0, rfl⟩
            obtain ⟨z0, rfl⟩ := hz1
            have e : (done ++ ([z0] ++ zs parts.length [z0])).set (i * q.size) v = (done ++ [v]) ++ zs parts.length [z0] := by
              rw [← hd]; simp
            rw [e]
            have := ih (i + 1) (done ++ [v]) l hl (by simp only [List.length_append, hd, List.length_singleton, Nat.succ_mul, hc.2])
            rw [hg] at this
            rw [this]
            simp

end Go.Vc
