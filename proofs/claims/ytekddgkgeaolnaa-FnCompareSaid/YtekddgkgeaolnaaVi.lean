/- The calculus, seventh part: a region that draws its order, with operations that change some blocks (an append, a writing call): what is quiet looks elsewhere. -/
import Derived.Test.YtekddgkgeaolnaaRw
namespace Go.Vc
open Go Go.RowKit

/-- A quiet operation: one value in every later world. -/
def vcOpQS (S : Nat → Prop) (P : Program) (T : Tab) (w : World) (o : Oper) (ρ : Fr) (K : Value → Prop) : Prop :=
  match vcP T o ρ K with
  | some p => p
  | none =>
    match o.op with
    | .load t a => match look T t, ev ρ a with
        | some r, .pointer (some ⟨b, off, none⟩) =>
          ¬ S b ∧ (bif r.agg then ∃ vs, vs.length = r.size ∧ CellsAt w b off vs ∧ K (.agg vs.toArray)
          else ∃ v, w.cell? ⟨b, off, none⟩ = some v ∧ K v)
        | _, _ => False
    | .call c => match c.callee with
        | .value f => match ev ρ f with
            | .func (.func g) first captured => ∃ v, (∀ w', Chg S w w' → Ret P g (first.toList ++ evl ρ c.args.toList ++ captured.toList).toArray w' (fun v' w'' => v' = v ∧ Ext w' w'')) ∧ K v
            | _ => False
        | _ => ∃ v, (∀ w', Chg S w w' → (execOp (ev ρ) o).run P w' = .ok (.value v) w') ∧ K v
    | _ => ∃ v, (∀ w', Chg S w w' → (execOp (ev ρ) o).run P w' = .ok (.value v) w') ∧ K v

def vcQGS (S : Nat → Prop) (P : Program) (T : Tab) (w : World) (all : List Oper) (o : Oper) (ρ : Fr) (K : Fr → Prop) : Prop :=
  match o.guard with
  | none => vcOpQS S P T w o ρ (fun v => K (upd ρ o.dst v))
  | some (j, want) =>
    match dstOf all j with
    | none => K (upd ρ o.dst undef)
    | some d =>
      match ρ d with
      | .bool b => br b fun t => bif xor t want then K (upd (upd ρ (some d) (.bool t)) o.dst undef)
          else vcOpQS S P T w o (upd ρ (some d) (.bool t)) (fun v => K (upd (upd ρ (some d) (.bool t)) o.dst v))
      | _ => K (upd ρ o.dst undef)

def HybS (S : Nat → Prop) (P : Program) (all : List Oper) (Q : Fr → World → Prop) : Ord → Fr → World → Prop
  | [], ρ, w0 => ∀ w, Ext w0 w → Q ρ w
  | (i, k) :: L, ρ, w0 => match nthO all i with
    | none => False
    | some o => match k with
      | .quiet => ∃ v, (∀ w, Chg S w0 w → SG P all o ρ w (fun v' w' => v' = v ∧ Ext w w')) ∧ HybS S P all Q L (upd ρ o.dst v) w0
      | .loud => ∀ w, Ext w0 w → SG P all o ρ w (fun v w' => Chg S w w' ∧ HybS S P all Q L (upd ρ o.dst v) w')
      | .wild => ∀ w, Ext w0 w → SG P all o ρ w (fun v w' => HybS S P all Q L (upd ρ o.dst v) w')

def vcHybS (S : Nat → Prop) (P : Program) (T : Tab) (all : List Oper) (Q : Post) : Ord → Fr → World → Prop
  | [], ρ, w0 => ∀ w, Ext w0 w → Q .normal ρ w
  | (i, k) :: L, ρ, w0 => match nthO all i with
    | none => False
    | some o => match k with
      | .quiet => vcQGS S P T w0 all o ρ (fun ρ' => vcHybS S P T all Q L ρ' w0)
      | .loud => ∀ w, Ext w0 w → vcG P T all o ρ w (fun ρ' w' => Chg S w w' ∧ vcHybS S P T all Q L ρ' w')
      | .wild => ∀ w, Ext w0 w → vcG P T all o ρ w (fun ρ' w' => vcHybS S P T all Q L ρ' w')

theorem vcOpQ_stepS {S : Nat → Prop} {P : Program} {T : Tab} (hT : Ties P T) {w : World} {o : Oper} {ρ : Fr} {K : Value → Prop} (h : vcOpQS S P T w o ρ K) :
    ∃ v, (∀ w', Chg S w w' → Step P o ρ w' (fun v' w'' => v' = v ∧ Ext w' w'')) ∧ K v := by
  unfold vcOpQS at h
  split at h
  · rename_i p hp
    obtain ⟨v, hk, hr⟩ := vcP_sound hT hp h
    exact ⟨v, fun w' _ => raw_value (hr w') ⟨rfl, Ext.refl _⟩, hk⟩
  · rename_i hp
    split at h
    case h_1 t ad ho =>
      split at h
      · rename_i r b off hr ha
        have hf := ties_look hT hr
        obtain ⟨hSb, h⟩ := h
        cases hg : r.agg with
        | true =>
          rw [hg] at h
          obtain ⟨vs, hl, hc, hk⟩ := h
          refine ⟨_, fun w' hx => raw_value (w' := w') (v := .agg vs.toArray) ?_ ⟨rfl, Ext.refl _⟩, hk⟩
          have h1 := hf.run_agg w'
          have h2 := hf.run_size w'
          have h3 := run_cells (P := P) (hx.cells hSb hc)
          rw [hl] at h3
          rw [hg] at h1
          simp [execOp, ho, ha, Instr.loadAt, Instr.sureAddr, loadVar, h1, h2, h3]
        | false =>
          rw [hg] at h
          obtain ⟨v, hc, hk⟩ := h
          refine ⟨_, fun w' hx => raw_value (w' := w') (v := v) ?_ ⟨rfl, Ext.refl _⟩, hk⟩
          have h1 := hf.run_agg w'
          rw [hg] at h1
          have hc' := hx.cell (a := ⟨b, off, none⟩) hSb hc
          simp [execOp, ho, ha, Instr.loadAt, Instr.sureAddr, loadVar, h1, load, Sem.run, hc']
      · exact h.elim
    case h_2 c ho =>
      split at h
      · rename_i f hc
        split at h
        · rename_i g fi ca hf
          obtain ⟨v, hcalls, hk⟩ := h
          refine ⟨v, fun w' hx => ?_, hk⟩
          obtain ⟨⟨fn, hfn, hbody, hname⟩, hcall⟩ := hcalls w' hx
          refine .inr ⟨g, _, ?_, hcall.mono fun e w'' ⟨v', he, h⟩ => ⟨v', he, h⟩⟩
          have hb : ¬ fn.body = none := by cases hx : fn.body <;> simp_all
          have hname' : ¬ fn.name = "runtime.NumGoroutine" := by simpa using hname
          have e : (fi.toList ++ evl ρ c.args.toList ++ ca.toList).toArray = fi ++ c.args.map (ev ρ) ++ ca := by
            rw [evl_map]; simp
          rw [e]
          simp [execOp, ho, resolve, hc, hf, Deferred.ofValue, invoke, callFunc, hfn, hb, hname', program, Sem.run]
        · exact h.elim
      · obtain ⟨v, hr, hk⟩ := h
        exact ⟨v, fun w' hx => raw_value (hr w' hx) ⟨rfl, Ext.refl _⟩, hk⟩
    case h_3 =>
      obtain ⟨v, hr, hk⟩ := h
      exact ⟨v, fun w' hx => raw_value (hr w' hx) ⟨rfl, Ext.refl _⟩, hk⟩

theorem vcQG_SGS {S : Nat → Prop} {P : Program} {T : Tab} (hT : Ties P T) {all : List Oper} {o : Oper} {ρ : Fr} {w : World} {K : Fr → Prop} (h : vcQGS S P T w all o ρ K) :
    ∃ v, (∀ w', Chg S w w' → SG P all o ρ w' (fun v' w'' => v' = v ∧ Ext w' w'')) ∧ K (upd ρ o.dst v) := by
  unfold vcQGS at h
  have skip : wantedF all o ρ = false → K (upd ρ o.dst undef) → ∃ v, (∀ w', Chg S w w' → SG P all o ρ w' (fun v' w'' => v' = v ∧ Ext w' w'')) ∧ K (upd ρ o.dst v) := fun hw hk =>
    ⟨undef, fun w' _ => by unfold SG; rw [if_neg (by simp [hw])]; exact ⟨rfl, Ext.refl _⟩, hk⟩
  have run : wantedF all o ρ = true → vcOpQS S P T w o ρ (fun v => K (upd ρ o.dst v)) → ∃ v, (∀ w', Chg S w w' → SG P all o ρ w' (fun v' w'' => v' = v ∧ Ext w' w'')) ∧ K (upd ρ o.dst v) := fun hw h => by
    obtain ⟨v, h1, h2⟩ := vcOpQ_stepS hT h
    exact ⟨v, fun w' hx => by unfold SG; rw [if_pos hw]; exact h1 w' hx, h2⟩
  cases hg : o.guard with
  | none => simp only [hg] at h; exact run (by simp [wantedF, hg]) h
  | some g =>
    obtain ⟨j, want⟩ := g
    simp only [hg] at h
    cases hj : dstOf all j with
    | none => simp only [hj] at h; exact skip (by simp [wantedF, hg, hj]) h
    | some d =>
      simp only [hj] at h
      cases hv : ρ d with
      | bool b =>
        simp only [hv] at h
        rw [br_at, upd_same hv] at h
        cases hx : xor b want with
        | true => rw [hx] at h; exact skip (by simp only [wantedF, hg, hj, hv]; cases b <;> cases want <;> simp_all) h
        | false => rw [hx] at h; exact run (by simp only [wantedF, hg, hj, hv]; cases b <;> cases want <;> simp_all) h
      | _ => simp only [hv] at h; exact skip (by simp [wantedF, hg, hj, hv]) h

theorem vcHyb_HybS {S : Nat → Prop} {P : Program} {T : Tab} (hT : Ties P T) {all : List Oper} {Q : Post} : ∀ (L : Ord) (ρ : Fr) (w : World), vcHybS S P T all Q L ρ w → HybS S P all (fun ρ w => Q .normal ρ w) L ρ w := by
  intro L
  induction L with
  | nil => intro ρ w h; exact h
  | cons x L ih =>
    obtain ⟨i, k⟩ := x
    intro ρ w h
    simp only [vcHybS, HybS] at *
    cases ho : nthO all i with
    | none => simp only [ho] at h
    | some o =>
      simp only [ho] at h ⊢
      cases k with
      | quiet =>
        obtain ⟨v, h1, h2⟩ := vcQG_SGS hT h
        exact ⟨v, h1, ih _ _ h2⟩
      | loud => exact fun w' hx => (vcG_SG hT (h w' hx)).mono fun v w'' h => ⟨h.1, ih _ _ h.2⟩
      | wild => exact fun w' hx => (vcG_SG hT (h w' hx)).mono fun v w'' h => ih _ _ h

theorem HybS.ext {S : Nat → Prop} {P : Program} {all : List Oper} {Q : Fr → World → Prop} : ∀ {L : Ord} {ρ : Fr} {w w' : World}, HybS S P all Q L ρ w → Ext w w' → HybS S P all Q L ρ w' := by
  intro L
  induction L with
  | nil => intro ρ w w' h hx w'' hx'; exact h w'' (hx.trans hx')
  | cons x L ih =>
    obtain ⟨i, k⟩ := x
    intro ρ w w' h hx
    simp only [HybS] at *
    cases ho : nthO all i with
    | none => simp only [ho] at h
    | some o =>
      simp only [ho] at h ⊢
      cases k with
      | quiet => obtain ⟨v, h1, h2⟩ := h; exact ⟨v, fun w'' hx' => h1 w'' ((Chg.of hx).trans hx'), ih h2 hx⟩
      | loud => exact fun w'' hx' => h w'' (hx.trans hx')
      | wild => exact fun w'' hx' => h w'' (hx.trans hx')

theorem hyb_takeS {S : Nat → Prop} {P : Program} {ops : Array Oper} {Q : Fr → World → Prop} (hsel : ∀ (j : Nat) (o : Oper), nthO ops.toList j = some o → ∀ cs b, o.op ≠ .select cs b) {i : Nat} {k : Kd} {oi : Oper} (hi : nthO ops.toList i = some oi) (hk : k ≠ .wild) (Y : Ord) :
    ∀ (X : Ord), (∀ x ∈ X, x.2 = .quiet ∧ ∀ oj, nthO ops.toList x.1 = some oj → oi.apart ops oj = true) → ∀ (ρ : Fr) (w0 : World), HybS S P ops.toList Q (X ++ (i, k) :: Y) ρ w0 →
      ∀ w, Ext w0 w → SG P ops.toList oi ρ w (fun v w' => Chg S w w' ∧ HybS S P ops.toList Q (X ++ Y) (upd ρ oi.dst v) w') := by
  intro X
  induction X with
  | nil =>
    intro _ ρ w0 h w hx
    simp only [List.nil_append, HybS, hi] at h
    cases k with
    | quiet =>
      obtain ⟨v, h1, h2⟩ := h
      refine (h1 w (.of hx)).mono ?_
      rintro v' w' ⟨rfl, hx'⟩
      exact ⟨.of hx', h2.ext (hx.trans hx')⟩
    | loud => exact h w hx
    | wild => exact absurd rfl hk
  | cons x X ih =>
    obtain ⟨j, kj⟩ := x
    intro hX ρ w0 h w hx
    obtain ⟨hq, hap⟩ := hX _ (List.mem_cons_self ..)
    simp only at hq hap
    subst hq
    simp only [List.cons_append, HybS] at h
    cases hj : nthO ops.toList j with
    | none => simp only [hj] at h
    | some oj =>
      simp only [hj] at h
      obtain ⟨vj, h1, h2⟩ := h
      obtain ⟨a1, a2, a3⟩ := Oper.apart_spec (hap _ hj)
      have := ih (fun x hx => hX x (List.mem_cons_of_mem _ hx)) _ _ h2 w hx
      rw [SG.upd (hsel _ _ hi) a3] at this
      refine this.mono ?_
      rintro v w' ⟨hx', h⟩
      refine ⟨hx', ?_⟩
      simp only [List.cons_append, HybS, hj]
      refine ⟨vj, fun w'' hx'' => ?_, ?_⟩
      · rw [SG.upd (hsel _ _ hj) a1]
        exact h1 w'' (((Chg.of hx).trans hx').trans hx'')
      · rw [upd_comm a2]; exact h

theorem any_soundS {S : Nat → Prop} {P : Program} {ops : Array Oper} {n : Nat} {Q : Post} (hfit : ops.toList.all (opFits n) = true) (hs : Region.noSelect ops = true) (haft : aftB ops = true) :
    ∀ (fuel : Nat) (L : Ord) (listed : Array Bool) (a : Act) (w : World), L.length = fuel → listed.size = ops.size → ordB ops L = true →
      (∀ j, j < ops.size → (listed.getD j true = false ↔ ∃ x ∈ L, x.1 = j)) → a.tmps.size = n → a.defers = [] → HybS S P ops.toList (fun ρ w => Q .normal ρ w) L (fr a) w →
      wpAny P .any ops (Lift n Q) fuel listed a w := by
  intro fuel
  induction fuel with
  | zero =>
    intro L listed a w hl hsz hord hlisted hn hd h
    have : L = [] := List.eq_nil_of_length_eq_zero hl
    subst this
    refine ⟨?_, hn, hd, h w (Ext.refl _)⟩
    unfold Region.ready
    rw [List.filter_eq_nil_iff]
    intro j hj
    have := hlisted j (List.mem_range.1 hj)
    simp only [List.not_mem_nil, false_and, exists_false, iff_false] at this
    simp_all
  | succ fuel ih =>
    intro L listed a w hl hsz hord hlisted hn hd h
    have sel : ∀ (j : Nat) (o : Oper), nthO ops.toList j = some o → ∀ cs b, o.op ≠ .select cs b := fun j o ho cs b => by
      rw [nthO_eq, Array.getElem?_toList] at ho
      exact Region.noSelect_spec hs j o cs b ho
    have mark : ∀ j, j < ops.size → (¬ ∃ x ∈ L, x.1 = j) → listed.getD j false = true := fun j hj hno => by
      have := mt (hlisted j hj).1 hno
      have hj' : j < listed.size := by omega
      simp only [Array.getD_eq_getD_getElem?, Array.getElem?_eq_getElem hj', Option.getD_some] at this ⊢
      simpa using this
    constructor
    · intro hr
      exfalso
      match L, hl with
      | x :: Y, _ =>
        have hx := ordB_mem hord x (List.mem_cons_self ..)
        have hmem : x.1 ∈ Region.ready .any ops listed := by
          rw [mem_ready]
          refine ⟨(hlisted x.1 hx.1).2 ⟨x, List.mem_cons_self .., rfl⟩, ops[x.1]'hx.1, by simp [hx.1], ?_⟩
          intro e he hb
          have hdir : direct ops x.1 e.on = true := direct_of (Array.getElem?_eq_getElem hx.1) he hb
          have hlt : e.on < ops.size := by
            have h1 := List.all_eq_true.1 haft (ops[x.1]'hx.1) (by simp)
            have h2 := List.all_eq_true.1 h1 e (by simpa using he)
            simpa using h2
          refine mark _ hlt ?_
          rintro ⟨y, hy, hye⟩
          rcases List.mem_cons.1 hy with rfl | hy
          · have := hx.2; rw [hye] at this hdir; rw [hdir] at this; cases this
          · simp only [ordB, Bool.and_eq_true] at hord
            have := List.all_eq_true.1 hord.1.1.2 y hy
            simp only [pairB, Bool.and_eq_true, hye, hdir] at this
            exact absurd this.1.1 (by simp)
        rw [hr] at hmem
        cases hmem
    · intro i hi
      obtain ⟨hun, o, ho, hall⟩ := mem_ready.1 hi
      have hlt : i < ops.size := (Array.getElem?_eq_some_iff.1 ho).1
      obtain ⟨⟨i', k⟩, hxL, rfl⟩ := (hlisted i hlt).1 hun
      obtain ⟨X, Y, rfl⟩ := List.append_of_mem hxL
      simp only at ho hall hun hlt hi
      have nodir : ∀ e ∈ X ++ (i', k) :: Y, direct ops i' e.1 = false := fun e he => by
        cases hd : direct ops i' e.1 with
        | false => rfl
        | true =>
          obtain ⟨g, hg, hb, hge⟩ := direct_is ho hd
          have h1 := hall g hg hb
          have h2 := (ordB_mem hord e he).1
          have h3 := (hlisted e.1 h2).2 ⟨e, he, rfl⟩
          have hj' : e.1 < listed.size := by omega
          rw [hge] at h1
          simp only [Array.getD_eq_getD_getElem?, Array.getElem?_eq_getElem hj', Option.getD_some] at h1 h3
          rw [h1] at h3
          cases h3
      have before := ordB_before hord nodir
      have hno : nthO ops.toList i' = some o := by rw [nthO_eq, Array.getElem?_toList]; exact ho
      have pb : ∀ x ∈ X, x.2 = .quiet ∧ (k = .wild → False) ∧ apartB ops i' x.1 = true := fun x hx => by
        obtain ⟨h1, h2⟩ := before x hx
        have h3 := nodir x (List.mem_append_left _ hx)
        simp only [pairB, h1, h3, Bool.and_eq_true, Bool.false_or] at h2
        cases k with
        | wild => exact absurd h2.2 (by simp)
        | quiet => exact ⟨h1, by simp, h2.2⟩
        | loud => exact ⟨h1, by simp, h2.2⟩
      have step : SG P ops.toList o (fr a) w (fun v w' => HybS S P ops.toList (fun ρ w => Q .normal ρ w) (X ++ Y) (upd (fr a) o.dst v) w') := by
        by_cases hk : k = .wild
        · subst hk
          have hX : X = [] := by
            cases X with
            | nil => rfl
            | cons x X => exact ((pb x (List.mem_cons_self ..)).2.1 rfl).elim
          subst hX
          simp only [List.nil_append, HybS, hno] at h
          exact h w (Ext.refl _)
        · refine (hyb_takeS sel hno hk Y X (fun x hx => ⟨(pb x hx).1, fun oj hoj => ?_⟩) (fr a) w h w (Ext.refl _)).mono fun v w' h => h.2
          have := (pb x hx).2.2
          simp only [apartB, hno, hoj] at this
          exact this
      have nd : ∀ x ∈ X ++ Y, x.1 ≠ i' := by
        intro x hx e
        rcases List.mem_append.1 hx with hx | hx
        · have := (before x hx).2
          simp only [pairB, Bool.and_eq_true] at this
          exact absurd this.1.2 (by simp [e])
        · have h1 : ordB ops ((i', k) :: Y) = true := by
            exact ordB_tail hord
          simp only [ordB, Bool.and_eq_true] at h1
          have := List.all_eq_true.1 h1.1.1.2 x hx
          simp only [pairB, Bool.and_eq_true] at this
          exact absurd this.1.2 (by simp [e])
      have next : ∀ a w, a.tmps.size = n → a.defers = [] → HybS S P ops.toList (fun ρ w => Q .normal ρ w) (X ++ Y) (fr a) w → wpAny P .any ops (Lift n Q) fuel (listed.setIfInBounds i' true) a w := fun a w hn hd h => by
        refine ih (X ++ Y) _ a w ?_ (by simpa using hsz) (ordB_drop (fun x hx => (before x hx).1) hord) ?_ hn hd h
        · simp only [List.length_append, List.length_cons] at hl ⊢; omega
        · intro j hj
          by_cases e : j = i'
          · subst e
            constructor
            · intro h; exact absurd h (by simp [hsz, hlt])
            · rintro ⟨x, hx, he⟩; exact absurd he (nd x hx)
          · rw [getD_set_ne true (Ne.symm e), hlisted j hj]
            constructor
            · rintro ⟨x, hx, rfl⟩
              refine ⟨x, ?_, rfl⟩
              rcases List.mem_append.1 hx with hx | hx
              · exact List.mem_append_left _ hx
              · rcases List.mem_cons.1 hx with rfl | hx
                · exact absurd rfl e
                · exact List.mem_append_right _ hx
            · rintro ⟨x, hx, rfl⟩
              refine ⟨x, ?_, rfl⟩
              rcases List.mem_append.1 hx with hx | hx
              · exact List.mem_append_left _ hx
              · exact List.mem_append_right _ (List.mem_cons_of_mem _ hx)
      have hfo : opFits n o = true := List.all_eq_true.1 hfit o (by rw [Array.mem_toList_iff]; exact Array.mem_of_getElem? ho)
      unfold wpOp
      simp only [ho]
      have hy : Region.wanted o (yielded ops a.tmps) = wantedF ops.toList o (fr a) := by
        unfold Region.wanted wantedF
        cases hg : o.guard with
        | none => rfl
        | some g =>
          obtain ⟨j, want⟩ := g
          have := yielded_fr ops a j
          dsimp only
          rw [this]
          cases hj : dstOf ops.toList j with
          | none => rfl
          | some d =>
            dsimp only
            cases hv : fr a d <;> simp
      rw [hy]
      unfold SG at step
      split
      · rename_i hw
        rw [if_pos hw] at step
        exact .inl (wp_of_step hn hd hfo next step)
      · rename_i hw
        rw [if_neg hw] at step
        exact next _ _ (by rw [put_size, hn]) (by rw [put_defers, hd]) (by rw [fr_put hn hfo]; exact step)

/-- The rule: an order in which the quiet ones come as early as they can. -/
theorem hyb_ruleS (S : Nat → Prop) {P : Program} {T : Tab} (hT : Ties P T) (hm : P.follows .mixedOrders = true) {ops : Array Oper} {Q : Post} {ρ : Fr} {w : World} (L : Ord) (hB : hybB ops L = true)
    (h : vcHybS S P T ops.toList Q L ρ w) : DrawRaw P ops Q ρ w := by
  intro id n a hfit hn hd hfr
  simp only [hybB, Bool.and_eq_true, Nat.beq_eq] at hB
  refine wp_region_any hm ?_
  refine any_soundS (S := S) hfit hB.1.1.1.1 hB.1.1.1.2 ops.size L _ a _ hB.1.2 (by simp) hB.2 ?_ hn hd ?_
  · intro j hj
    have := List.all_eq_true.1 hB.1.1.2 j (List.mem_range.2 hj)
    obtain ⟨x, hx, hxj⟩ := List.any_eq_true.1 this
    constructor
    · intro _; exact ⟨x, hx, by simpa using hxj⟩
    · intro _; simp [hj]
  · subst hfr
    exact (vcHyb_HybS hT L _ _ h).ext ⟨rfl, rfl, rfl, Nat.le_refl _, fun _ _ => rfl⟩

end Go.Vc
