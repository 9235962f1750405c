/- The calculus, third part: an operation's condition is enough. -/
import Derived.Test.YtfmflffggcphjaaVd
namespace Go.Vc
open Go Go.RowKit

theorem partsOf_map (ρ : Fr) (l : List (Nat × Operand)) : partsOf ρ l = l.map (fun x => (x.1, ev ρ x.2)) := by
  induction l with
  | nil => rfl
  | cons x l ih => simp [partsOf, ih]

theorem parts_eq (ρ : Fr) (parts : Array (Nat × Operand)) : (parts.map fun (i, x) => (i, ev ρ x)) = (partsOf ρ parts.toList).toArray := by
  apply Array.toList_inj.1
  rw [Array.toList_map, partsOf_map]

theorem places_of {P : Program} {T : Tab} (hT : Ties P T) : ∀ (l : List Field), allIn T (l.map (fun f => (f.offset, f.type))) = true →
    ∃ places, l.mapM (fun f => (P.info? f.type).map fun i => (f.offset, i.size)) = some places ∧
      ∀ i x, placeOf T (l.map (fun f => (f.offset, f.type))) i = some x → places[i]? = some (x.1, x.2.1) := by
  intro l
  induction l with
  | nil => intro _; exact ⟨[], rfl, fun i x h => by simp [placeOf] at h⟩
  | cons f l ih =>
    intro h
    simp only [List.map_cons, allIn, Bool.and_eq_true] at h
    obtain ⟨h1, h2⟩ := h
    obtain ⟨places, hp, hq⟩ := ih h2
    cases hl : look T f.type with
    | none => simp [hl] at h1
    | some q =>
      obtain ⟨i, hi, hs, _⟩ := (ties_look hT hl).info
      refine ⟨(f.offset, i.size) :: places, by simp [hi, hp], ?_⟩
      intro j x hx
      cases j with
      | zero =>
        simp [placeOf, hl] at hx
        subst hx
        simp [hs]
      | succ j =>
        have := hq j x (by simpa [placeOf] using hx)
        simpa using this

theorem run_build_of {P : Program} {T : Tab} (hT : Ties P T) {t : Nat} {r : TRow} (hr : look T t = some r) (ha : r.agg = true ∧ r.desc = .invalid) (hin : allIn T r.fs = true) {parts : List (Nat × Value)} {cells : List Value}
    (hf : fillL (placeOf T r.fs) r.zero.cells.toList parts = some cells) (w : World) : (Instr.build t parts.toArray).run P w = .ok (.agg cells.toArray) w := by
  have hfit := ties_look hT hr
  obtain ⟨fields, hu, hfl⟩ := hfit.struct ha.1 ha.2
  obtain ⟨it, hit, _, _, hz⟩ := hfit.info
  obtain ⟨places, hp, hq⟩ := places_of hT fields.toList (by rw [hfl]; exact hin)
  apply run_build
  unfold Program.built
  simp only [hit, hu, hz, hp]
  rw [hfl] at hq
  have := fill_of (placeOf T r.fs) (fun i => places.toArray[i]?) (fun i x hx => by simpa using hq i x hx) parts r.zero.cells.toList cells hf
  simpa using this

theorem run_buildSlice_of {P : Program} {T : Tab} (hT : Ties P T) {t e len : Nat} {r q : TRow} (hr : look T t = some r) (hd : r.desc = .slice e) (ha : r.agg = false) (hq : look T e = some q)
    (hl : len * q.size ≤ 16777216) (hz : q.zero.cells.toList.length = q.size) {parts : List (Nat × Value)} {cells : List Value}
    (hv : valsFrom q 0 parts = some cells) (hpl : parts.length = len) (w : World) :
    (Instr.buildSlice t len parts.toArray).run P w = .ok (.slice (some ⟨w.heap.size, 0, none⟩) len len) (w.alloc (.cells cells.toArray e)) := by
  have hu := ((ties_look hT hr).plain ha).trans (congrArg some hd)
  have hs := (ties_look hT hq).run_size w
  have hzr := (ties_look hT hq).run_zero w
  have h1 : ¬ (16777216 < len * q.size) := by omega
  have hz' : q.zero.cells.size = q.size := by simpa using hz
  have hf := fill_vals q q.zero.cells.toList hz parts 0 [] cells hv (by simp)
  rw [hpl] at hf
  simp only [List.nil_append] at hf
  have key := fill_of (fun i => some (i * q.size, q.size, q.agg)) (fun i => some (i * q.size, q.size)) (fun i x hx => by simp at hx; subst hx; rfl) parts _ cells hf
  by_cases hn : len * q.size = 0
  · have e0 : zs len q.zero.cells.toList = [] := by
      apply List.eq_nil_of_length_eq_zero
      rw [zs_length, hz, hn]
    rw [e0] at key
    have e1 : (Array.map (fun i => (#[] : Array Value)[i % 0]!) (Array.range 0)) = [].toArray := by simp [Array.range_zero']
    simp [Instr.buildSlice, run_underlying hu, hs, hn, newRow]
    rw [Array.range_zero'] 
    simp [key]
  · have e1 : (Array.map (fun i => q.zero.cells[i % q.zero.cells.size]!) (Array.range (len * q.size))) = (zs len q.zero.cells.toList).toArray := by
      rw [← hz']; exact zs_made _ _
    simp only [Instr.buildSlice, Sem.run_bind, run_underlying hu, hs, Result.andThen_ok]
    simp only [show (2 : Nat) ^ 24 = 16777216 from rfl, if_neg h1, if_neg hn, Sem.run_bind, Sem.run_pure, hzr, Result.andThen_ok, e1, key]
    simp [newRow]

theorem vcOp_sound {P : Program} {T : Tab} (hT : Ties P T) {o : Oper} {ρ : Fr} {w : World} {K : Value → World → Prop} (h : vcOp P T o ρ w K) : Step P o ρ w K := by
  unfold vcOp at h
  split at h
  · rename_i p hp
    obtain ⟨v, hk, hr⟩ := vcP_sound hT hp h
    exact raw_value (hr w) hk
  · split at h
    case h_1 t a ho =>
      split at h
      · rename_i r b off hr ha
        have hf := ties_look hT hr
        cases hg : r.agg with
        | true =>
          rw [hg] at h
          obtain ⟨vs, hl, hc, hk⟩ := h
          refine raw_value (w' := w) ?_ hk
          have h1 := hf.run_agg w
          have h2 := hf.run_size w
          have h3 := run_cells (P := P) hc
          rw [hl] at h3
          rw [hg] at h1
          simp [execOp, ho, ha, Instr.loadAt, Instr.sureAddr, loadVar, h1, h2, h3]
        | false =>
          rw [hg] at h
          obtain ⟨v, hc, hk⟩ := h
          refine raw_value (w' := w) ?_ hk
          have h1 := hf.run_agg w
          rw [hg] at h1
          simp [execOp, ho, ha, Instr.loadAt, Instr.sureAddr, loadVar, h1, load, Sem.run, hc]
      · exact h.elim
    case h_2 t a x ho =>
      split at h
      · rename_i r b off hr ha
        have hf := ties_look hT hr
        have h2 := hf.run_size w
        cases hg : r.agg with
        | true =>
          rw [hg] at h
          simp only [cond_true] at h
          split at h
          · rename_i cs hx
            cases hb : Nat.beq cs.toList.length r.size with
            | false => rw [hb] at h; exact h.elim
            | true =>
            rw [hb] at h
            obtain ⟨hfree, hk⟩ := h
            have hl := Nat.eq_of_beq_eq_true hb
            refine raw_skip (w' := setCells w b off cs.toList) ?_ hk
            have h3 := run_stores (P := P) cs.toList w off 0 hfree
            have hl' : cs.size = r.size := by simpa using hl
            simp [execOp, ho, ha, hx, Instr.storeAt, Instr.sureAddr, storeVar, h2, Value.cells, hl', h3]
          · exact h.elim
        | false =>
          rw [hg] at h
          simp only [cond_false] at h
          cases hb : (Nat.beq r.size 1 && oneB (ev ρ x)) with
          | false => rw [hb] at h; exact h.elim
          | true =>
          rw [hb] at h
          simp only [Bool.and_eq_true, Nat.beq_eq] at hb
          obtain ⟨hs, h1⟩ := hb
          obtain ⟨hfree, hk⟩ := h
          refine raw_skip (w' := w.setCell ⟨b, off, none⟩ (ev ρ x)) ?_ hk
          have h3 := run_store_one (P := P) hfree h1
          have e0 : (⟨b, off, none⟩ : Addr).add 0 = ⟨b, off, none⟩ := rfl
          simp [execOp, ho, ha, Instr.storeAt, Instr.sureAddr, storeVar, h2, oneB_cells h1, hs, storeCells, e0, h3]
      · exact h.elim
    case h_3 t x ho =>
      refine raw_value (w' := w.alloc (.cells (ev ρ x).cells t)) ?_ h
      simp [execOp, ho, Instr.box, newVar, newRow, newObj, Sem.run]
    case h_4 t ho =>
      split at h
      · rename_i r hr
        have hz := (ties_look hT hr).run_zero w
        refine raw_value (w' := w.alloc (.cells r.zero.cells t)) ?_ h
        simp [execOp, ho, Instr.alloc, hz, newVar, newRow, newObj, Sem.run]
      · exact h.elim
    case h_5 t parts ho =>
      split at h
      · rename_i r hr
        split at h
        · rename_i cells hf
          cases hb : (r.agg && isInv r.desc && allIn T r.fs) with
          | false => rw [hb] at h; exact h.elim
          | true =>
          rw [hb] at h
          simp only [Bool.and_eq_true] at hb
          have hrun := run_build_of hT hr ⟨hb.1.1, isInv_eq hb.1.2⟩ hb.2 hf w
          refine raw_value (w' := w) ?_ h
          rw [← parts_eq] at hrun
          simp only [execOp, ho]
          simp only [Sem.run_bind, hrun, Result.andThen_ok, Sem.run_pure]
        · exact h.elim
      · exact .inl h
    case h_6 t len parts ho =>
      split at h
      · rename_i r hr
        split at h
        · rename_i e hd
          split at h
          · rename_i q hq
            split at h
            · rename_i cells hf
              cases hb : (!r.agg && Nat.ble (len * q.size) 16777216 && Nat.beq q.zero.cells.toList.length q.size && Nat.beq parts.toList.length len) with
              | false => rw [hb] at h; exact h.elim
              | true =>
              rw [hb] at h
              simp only [Bool.and_eq_true, Nat.ble_eq, Nat.beq_eq, Bool.not_eq_true'] at hb
              have hrun := run_buildSlice_of hT hr hd hb.1.1.1 hq hb.1.1.2 hb.1.2 hf (by rw [partsOf_map, List.length_map]; exact hb.2) w
              refine raw_value (w' := w.alloc (.cells cells.toArray e)) ?_ h
              rw [← parts_eq] at hrun
              simp only [execOp, ho]
              simp only [Sem.run_bind, hrun, Result.andThen_ok, Sem.run_pure]
            · exact h.elim
          · exact h.elim
        · exact h.elim
      · exact h.elim
    case h_7 t l c ho =>
      split at h
      · rename_i r k l' k' c' hr hl hc
        split at h
        · rename_i e hd
          split at h
          · rename_i q hq
            obtain ⟨hbd, h⟩ := h
            cases hb : (!r.agg && Nat.beq q.zero.cells.toList.length q.size) with
            | false => rw [hb] at h; exact h.elim
            | true =>
            rw [hb] at h
            simp only [Bool.and_eq_true, Nat.beq_eq, Bool.not_eq_true'] at hb
            have hu := ((ties_look hT hr).plain hb.1).trans (congrArg some hd)
            obtain ⟨i, hi, hs, hby, hz⟩ := (ties_look hT hq).info
            have hrun := run_make w t e i q.zero hu hi hz k k' l' c' hbd.1 hbd.2.1 (by rw [hby]; exact hbd.2.2.2) hbd.2.2.1
            refine raw_value (w' := w.alloc (.cells (zs c'.toNat q.zero.cells.toList).toArray e)) ?_ h
            have e1 : madeCells q.zero.cells (c'.toNat * i.size) = (zs c'.toNat q.zero.cells.toList).toArray := by
              rw [hs, ← hb.2, Array.length_toList]; exact zs_made _ _
            rw [e1] at hrun
            simp [execOp, ho, hl, hc, hrun]
          · exact h.elim
        · exact h.elim
      · exact h.elim
    case h_8 t r ho =>
      split at h
      · refine raw_value (w' := w.alloc (.map #[] 0)) ?_ h
        simp [execOp, ho, Instr.makeMap, newObj, Sem.run]
      · exact .inl h
    case h_9 c ho =>
      split at h
      · rename_i f hc
        split at h
        · rename_i g fi ca hf
          rcases h with ⟨⟨fn, hfn, hbody, hname⟩, hcalls⟩ | h
          · refine .inr ⟨g, _, ?_, hcalls⟩
            have hb : ¬ fn.body = none := by cases hx : fn.body <;> simp_all
            have hname' : ¬ fn.name = "runtime.NumGoroutine" := by simpa using hname
            have e : (fi.toList ++ evl ρ c.args.toList ++ ca.toList).toArray = fi ++ c.args.map (ev ρ) ++ ca := by
              rw [evl_map]; simp
            rw [e]
            simp [execOp, ho, resolve, hc, hf, Deferred.ofValue, invoke, callFunc, hfn, hb, hname', program, Sem.run]
          · exact .inl h
        · exact h.elim
      · exact .inl h
    case h_10 => exact .inl h

end Go.Vc
