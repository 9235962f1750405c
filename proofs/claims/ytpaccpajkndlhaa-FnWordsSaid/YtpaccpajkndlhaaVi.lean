/- The calculus, seventh part: a region that draws its order, with operations that change some blocks (an append, a writing call): what is quiet looks elsewhere. The calculus, eighth part: a region that draws its order and holds one 'alloc' that nothing orders: it may run at any time before the operation that needs it. The calculus: a region that draws its order, as a tree of operations: each one has blocks of its own, what it gives is told by a fact about them, and a fact is used once. Whatever the order. -/
import Derived.Test.YtpaccpajkndlhaaFa
namespace Go.Vc
open Go Go.RowKit

/-- A quiet operation: one value in every later world. -/
def vcOpQS (S : Nat → Prop) (P : Program) (T : Tab) (w : World) (o : Oper) (ρ : Fr) (K : Value → Prop) : Prop :=
  match vcP T o ρ K with
  | some p => p
  | none =>
    match o.op with
    | .load t a => match look T t, ev ρ a with
        | some r, .pointer (some ⟨b, off, none⟩) =>
          ¬ S b ∧ (bif r.agg then ∃ vs, vs.length = r.size ∧ CellsAt w b off vs ∧ K (.agg vs.toArray)
          else ∃ v, w.cell? ⟨b, off, none⟩ = some v ∧ K v)
        | _, _ => False
    | .call c => match c.callee with
        | .value f => match ev ρ f with
            | .func (.func g) first captured => ∃ v, (∀ w', Chg S w w' → Ret P g (first.toList ++ evl ρ c.args.toList ++ captured.toList).toArray w' (fun v' w'' => v' = v ∧ Ext w' w'')) ∧ K v
            | _ => False
        | _ => ∃ v, (∀ w', Chg S w w' → (execOp (ev ρ) o).run P w' = .ok (.value v) w') ∧ K v
    | _ => ∃ v, (∀ w', Chg S w w' → (execOp (ev ρ) o).run P w' = .ok (.value v) w') ∧ K v

def vcQGS (S : Nat → Prop) (P : Program) (T : Tab) (w : World) (all : List Oper) (o : Oper) (ρ : Fr) (K : Fr → Prop) : Prop :=
  match o.guard with
  | none => vcOpQS S P T w o ρ (fun v => K (upd ρ o.dst v))
  | some (j, want) =>
    match dstOf all j with
    | none => K (upd ρ o.dst undef)
    | some d =>
      match ρ d with
      | .bool b => br b fun t => bif xor t want then K (upd (upd ρ (some d) (.bool t)) o.dst undef)
          else vcOpQS S P T w o (upd ρ (some d) (.bool t)) (fun v => K (upd (upd ρ (some d) (.bool t)) o.dst v))
      | _ => K (upd ρ o.dst undef)

def HybS (S : Nat → Prop) (P : Program) (all : List Oper) (Q : Fr → World → Prop) : Ord → Fr → World → Prop
  | [], ρ, w0 => ∀ w, Ext w0 w → Q ρ w
  | (i, k) :: L, ρ, w0 => match nthO all i with
    | none => False
    | some o => match k with
      | .quiet => ∃ v, (∀ w, Chg S w0 w → SG P all o ρ w (fun v' w' => v' = v ∧ Ext w w')) ∧ HybS S P all Q L (upd ρ o.dst v) w0
      | .loud => ∀ w, Ext w0 w → SG P all o ρ w (fun v w' => Chg S w w' ∧ HybS S P all Q L (upd ρ o.dst v) w')
      | .wild => ∀ w, Ext w0 w → SG P all o ρ w (fun v w' => HybS S P all Q L (upd ρ o.dst v) w')

def vcHybS (S : Nat → Prop) (P : Program) (T : Tab) (all : List Oper) (Q : Post) : Ord → Fr → World → Prop
  | [], ρ, w0 => ∀ w, Ext w0 w → Q .normal ρ w
  | (i, k) :: L, ρ, w0 => match nthO all i with
    | none => False
    | some o => match k with
      | .quiet => vcQGS S P T w0 all o ρ (fun ρ' => vcHybS S P T all Q L ρ' w0)
      | .loud => ∀ w, Ext w0 w → vcG P T all o ρ w (fun ρ' w' => Chg S w w' ∧ vcHybS S P T all Q L ρ' w')
      | .wild => ∀ w, Ext w0 w → vcG P T all o ρ w (fun ρ' w' => vcHybS S P T all Q L ρ' w')

theorem vcOpQ_stepS {S : Nat → Prop} {P : Program} {T : Tab} (hT : Ties P T) {w : World} {o : Oper} {ρ : Fr} {K : Value → Prop} (h : vcOpQS S P T w o ρ K) :
    ∃ v, (∀ w', Chg S w w' → Step P o ρ w' (fun v' w'' => v' = v ∧ Ext w' w'')) ∧ K v := by
  unfold vcOpQS at h
  split at h
  · rename_i p hp
    obtain ⟨v, hk, hr⟩ := vcP_sound hT hp h
    exact ⟨v, fun w' _ => raw_value (hr w') ⟨rfl, Ext.refl _⟩, hk⟩
  · rename_i hp
    split at h
    case h_1 t ad ho =>
      split at h
      · rename_i r b off hr ha
        have hf := ties_look hT hr
        obtain ⟨hSb, h⟩ := h
        cases hg : r.agg with
        | true =>
          rw [hg] at h
          obtain ⟨vs, hl, hc, hk⟩ := h
          refine ⟨_, fun w' hx => raw_value (w' := w') (v := .agg vs.toArray) ?_ ⟨rfl, Ext.refl _⟩, hk⟩
          have h1 := hf.run_agg w'
          have h2 := hf.run_size w'
          have h3 := run_cells (P := P) (hx.cells hSb hc)
          rw [hl] at h3
          rw [hg] at h1
          simp [execOp, ho, ha, Instr.loadAt, Instr.sureAddr, loadVar, h1, h2, h3]
        | false =>
          rw [hg] at h
          obtain ⟨v, hc, hk⟩ := h
          refine ⟨_, fun w' hx => raw_value (w' := w') (v := v) ?_ ⟨rfl, Ext.refl _⟩, hk⟩
          have h1 := hf.run_agg w'
          rw [hg] at h1
          have hc' := hx.cell (a := ⟨b, off, none⟩) hSb hc
          simp [execOp, ho, ha, Instr.loadAt, Instr.sureAddr, loadVar, h1, load, Sem.run, hc']
      · exact h.elim
    case h_2 c ho =>
      split at h
      · rename_i f hc
        split at h
        · rename_i g fi ca hf
          obtain ⟨v, hcalls, hk⟩ := h
          refine ⟨v, fun w' hx => ?_, hk⟩
          obtain ⟨⟨fn, hfn, hbody, hname⟩, hcall⟩ := hcalls w' hx
          refine .inr ⟨g, _, ?_, hcall.mono fun e w'' ⟨v', he, h⟩ => ⟨v', he, h⟩⟩
          have hb : ¬ fn.body = none := by cases hx : fn.body <;> simp_all
          have hname' : ¬ fn.name = "runtime.NumGoroutine" := by simpa using hname
          have e : (fi.toList ++ evl ρ c.args.toList ++ ca.toList).toArray = fi ++ c.args.map (ev ρ) ++ ca := by
            rw [evl_map]; simp
          rw [e]
          simp [execOp, ho, resolve, hc, hf, Deferred.ofValue, invoke, callFunc, hfn, hb, hname', program, Sem.run]
        · exact h.elim
      · obtain ⟨v, hr, hk⟩ := h
        exact ⟨v, fun w' hx => raw_value (hr w' hx) ⟨rfl, Ext.refl _⟩, hk⟩
    case h_3 =>
      obtain ⟨v, hr, hk⟩ := h
      exact ⟨v, fun w' hx => raw_value (hr w' hx) ⟨rfl, Ext.refl _⟩, hk⟩

theorem vcQG_SGS {S : Nat → Prop} {P : Program} {T : Tab} (hT : Ties P T) {all : List Oper} {o : Oper} {ρ : Fr} {w : World} {K : Fr → Prop} (h : vcQGS S P T w all o ρ K) :
    ∃ v, (∀ w', Chg S w w' → SG P all o ρ w' (fun v' w'' => v' = v ∧ Ext w' w'')) ∧ K (upd ρ o.dst v) := by
  unfold vcQGS at h
  have skip : wantedF all o ρ = false → K (upd ρ o.dst undef) → ∃ v, (∀ w', Chg S w w' → SG P all o ρ w' (fun v' w'' => v' = v ∧ Ext w' w'')) ∧ K (upd ρ o.dst v) := fun hw hk =>
    ⟨undef, fun w' _ => by unfold SG; rw [if_neg (by simp [hw])]; exact ⟨rfl, Ext.refl _⟩, hk⟩
  have run : wantedF all o ρ = true → vcOpQS S P T w o ρ (fun v => K (upd ρ o.dst v)) → ∃ v, (∀ w', Chg S w w' → SG P all o ρ w' (fun v' w'' => v' = v ∧ Ext w' w'')) ∧ K (upd ρ o.dst v) := fun hw h => by
    obtain ⟨v, h1, h2⟩ := vcOpQ_stepS hT h
    exact ⟨v, fun w' hx => by unfold SG; rw [if_pos hw]; exact h1 w' hx, h2⟩
  cases hg : o.guard with
  | none => simp only [hg] at h; exact run (by simp [wantedF, hg]) h
  | some g =>
    obtain ⟨j, want⟩ := g
    simp only [hg] at h
    cases hj : dstOf all j with
    | none => simp only [hj] at h; exact skip (by simp [wantedF, hg, hj]) h
    | some d =>
      simp only [hj] at h
      cases hv : ρ d with
      | bool b =>
        simp only [hv] at h
        rw [br_at, upd_same hv] at h
        cases hx : xor b want with
        | true => rw [hx] at h; exact skip (by simp only [wantedF, hg, hj, hv]; cases b <;> cases want <;> simp_all) h
        | false => rw [hx] at h; exact run (by simp only [wantedF, hg, hj, hv]; cases b <;> cases want <;> simp_all) h
      | _ => simp only [hv] at h; exact skip (by simp [wantedF, hg, hj, hv]) h

theorem vcHyb_HybS {S : Nat → Prop} {P : Program} {T : Tab} (hT : Ties P T) {all : List Oper} {Q : Post} : ∀ (L : Ord) (ρ : Fr) (w : World), vcHybS S P T all Q L ρ w → HybS S P all (fun ρ w => Q .normal ρ w) L ρ w := by
  intro L
  induction L with
  | nil => intro ρ w h; exact h
  | cons x L ih =>
    obtain ⟨i, k⟩ := x
    intro ρ w h
    simp only [vcHybS, HybS] at *
    cases ho : nthO all i with
    | none => simp only [ho] at h
    | some o =>
      simp only [ho] at h ⊢
      cases k with
      | quiet =>
        obtain ⟨v, h1, h2⟩ := vcQG_SGS hT h
        exact ⟨v, h1, ih _ _ h2⟩
      | loud => exact fun w' hx => (vcG_SG hT (h w' hx)).mono fun v w'' h => ⟨h.1, ih _ _ h.2⟩
      | wild => exact fun w' hx => (vcG_SG hT (h w' hx)).mono fun v w'' h => ih _ _ h

theorem HybS.ext {S : Nat → Prop} {P : Program} {all : List Oper} {Q : Fr → World → Prop} : ∀ {L : Ord} {ρ : Fr} {w w' : World}, HybS S P all Q L ρ w → Ext w w' → HybS S P all Q L ρ w' := by
  intro L
  induction L with
  | nil => intro ρ w w' h hx w'' hx'; exact h w'' (hx.trans hx')
  | cons x L ih =>
    obtain ⟨i, k⟩ := x
    intro ρ w w' h hx
    simp only [HybS] at *
    cases ho : nthO all i with
    | none => simp only [ho] at h
    | some o =>
      simp only [ho] at h ⊢
      cases k with
      | quiet => obtain ⟨v, h1, h2⟩ := h; exact ⟨v, fun w'' hx' => h1 w'' ((Chg.of hx).trans hx'), ih h2 hx⟩
      | loud => exact fun w'' hx' => h w'' (hx.trans hx')
      | wild => exact fun w'' hx' => h w'' (hx.trans hx')

theorem hyb_takeS {S : Nat → Prop} {P : Program} {ops : Array Oper} {Q : Fr → World → Prop} (hsel : ∀ (j : Nat) (o : Oper), nthO ops.toList j = some o → ∀ cs b, o.op ≠ .select cs b) {i : Nat} {k : Kd} {oi : Oper} (hi : nthO ops.toList i = some oi) (hk : k ≠ .wild) (Y : Ord) :
    ∀ (X : Ord), (∀ x ∈ X, x.2 = .quiet ∧ ∀ oj, nthO ops.toList x.1 = some oj → oi.apart ops oj = true) → ∀ (ρ : Fr) (w0 : World), HybS S P ops.toList Q (X ++ (i, k) :: Y) ρ w0 →
      ∀ w, Ext w0 w → SG P ops.toList oi ρ w (fun v w' => Chg S w w' ∧ HybS S P ops.toList Q (X ++ Y) (upd ρ oi.dst v) w') := by
  intro X
  induction X with
  | nil =>
    intro _ ρ w0 h w hx
    simp only [List.nil_append, HybS, hi] at h
    cases k with
    | quiet =>
      obtain ⟨v, h1, h2⟩ := h
      refine (h1 w (.of hx)).mono ?_
      rintro v' w' ⟨rfl, hx'⟩
      exact ⟨.of hx', h2.ext (hx.trans hx')⟩
    | loud => exact h w hx
    | wild => exact absurd rfl hk
  | cons x X ih =>
    obtain ⟨j, kj⟩ := x
    intro hX ρ w0 h w hx
    obtain ⟨hq, hap⟩ := hX _ (List.mem_cons_self ..)
    simp only at hq hap
    subst hq
    simp only [List.cons_append, HybS] at h
    cases hj : nthO ops.toList j with
    | none => simp only [hj] at h
    | some oj =>
      simp only [hj] at h
      obtain ⟨vj, h1, h2⟩ := h
      obtain ⟨a1, a2, a3⟩ := Oper.apart_spec (hap _ hj)
      have := ih (fun x hx => hX x (List.mem_cons_of_mem _ hx)) _ _ h2 w hx
      rw [SG.upd (hsel _ _ hi) a3] at this
      refine this.mono ?_
      rintro v w' ⟨hx', h⟩
      refine ⟨hx', ?_⟩
      simp only [List.cons_append, HybS, hj]
      refine ⟨vj, fun w'' hx'' => ?_, ?_⟩
      · rw [SG.upd (hsel _ _ hj) a1]
        exact h1 w'' (((Chg.of hx).trans hx').trans hx'')
      · rw [upd_comm a2]; exact h

theorem any_soundS {S : Nat → Prop} {P : Program} {ops : Array Oper} {n : Nat} {Q : Post} (hfit : ops.toList.all (opFits n) = true) (hs : Region.noSelect ops = true) (haft : aftB ops = true) :
    ∀ (fuel : Nat) (L : Ord) (listed : Array Bool) (a : Act) (w : World), L.length = fuel → listed.size = ops.size → ordB ops L = true →
      (∀ j, j < ops.size → (listed.getD j true = false ↔ ∃ x ∈ L, x.1 = j)) → a.tmps.size = n → a.defers = [] → HybS S P ops.toList (fun ρ w => Q .normal ρ w) L (fr a) w →
      wpAny P .any ops (Lift n Q) fuel listed a w := by
  intro fuel
  induction fuel with
  | zero =>
    intro L listed a w hl hsz hord hlisted hn hd h
    have : L = [] := List.eq_nil_of_length_eq_zero hl
    subst this
    refine ⟨?_, hn, hd, h w (Ext.refl _)⟩
    unfold Region.ready
    rw [List.filter_eq_nil_iff]
    intro j hj
    have := hlisted j (List.mem_range.1 hj)
    simp only [List.not_mem_nil, false_and, exists_false, iff_false] at this
    simp_all
  | succ fuel ih =>
    intro L listed a w hl hsz hord hlisted hn hd h
    have sel : ∀ (j : Nat) (o : Oper), nthO ops.toList j = some o → ∀ cs b, o.op ≠ .select cs b := fun j o ho cs b => by
      rw [nthO_eq, Array.getElem?_toList] at ho
      exact Region.noSelect_spec hs j o cs b ho
    have mark : ∀ j, j < ops.size → (¬ ∃ x ∈ L, x.1 = j) → listed.getD j false = true := fun j hj hno => by
      have := mt (hlisted j hj).1 hno
      have hj' : j < listed.size := by omega
      simp only [Array.getD_eq_getD_getElem?, Array.getElem?_eq_getElem hj', Option.getD_some] at this ⊢
      simpa using this
    constructor
    · intro hr
      exfalso
      match L, hl with
      | x :: Y, _ =>
        have hx := ordB_mem hord x (List.mem_cons_self ..)
        have hmem : x.1 ∈ Region.ready .any ops listed := by
          rw [mem_ready]
          refine ⟨(hlisted x.1 hx.1).2 ⟨x, List.mem_cons_self .., rfl⟩, ops[x.1]'hx.1, by simp [hx.1], ?_⟩
          intro e he hb
          have hdir : direct ops x.1 e.on = true := direct_of (Array.getElem?_eq_getElem hx.1) he hb
          have hlt : e.on < ops.size := by
            have h1 := List.all_eq_true.1 haft (ops[x.1]'hx.1) (by simp)
            have h2 := List.all_eq_true.1 h1 e (by simpa using he)
            simpa using h2
          refine mark _ hlt ?_
          rintro ⟨y, hy, hye⟩
          rcases List.mem_cons.1 hy with rfl | hy
          · have := hx.2; rw [hye] at this hdir; rw [hdir] at this; cases this
          · simp only [ordB, Bool.and_eq_true] at hord
            have := List.all_eq_true.1 hord.1.1.2 y hy
            simp only [pairB, Bool.and_eq_true, hye, hdir] at this
            exact absurd this.1.1 (by simp)
        rw [hr] at hmem
        cases hmem
    · intro i hi
      obtain ⟨hun, o, ho, hall⟩ := mem_ready.1 hi
      have hlt : i < ops.size := (Array.getElem?_eq_some_iff.1 ho).1
      obtain ⟨⟨i', k⟩, hxL, rfl⟩ := (hlisted i hlt).1 hun
      obtain ⟨X, Y, rfl⟩ := List.append_of_mem hxL
      simp only at ho hall hun hlt hi
      have nodir : ∀ e ∈ X ++ (i', k) :: Y, direct ops i' e.1 = false := fun e he => by
        cases hd : direct ops i' e.1 with
        | false => rfl
        | true =>
          obtain ⟨g, hg, hb, hge⟩ := direct_is ho hd
          have h1 := hall g hg hb
          have h2 := (ordB_mem hord e he).1
          have h3 := (hlisted e.1 h2).2 ⟨e, he, rfl⟩
          have hj' : e.1 < listed.size := by omega
          rw [hge] at h1
          simp only [Array.getD_eq_getD_getElem?, Array.getElem?_eq_getElem hj', Option.getD_some] at h1 h3
          rw [h1] at h3
          cases h3
      have before := ordB_before hord nodir
      have hno : nthO ops.toList i' = some o := by rw [nthO_eq, Array.getElem?_toList]; exact ho
      have pb : ∀ x ∈ X, x.2 = .quiet ∧ (k = .wild → False) ∧ apartB ops i' x.1 = true := fun x hx => by
        obtain ⟨h1, h2⟩ := before x hx
        have h3 := nodir x (List.mem_append_left _ hx)
        simp only [pairB, h1, h3, Bool.and_eq_true, Bool.false_or] at h2
        cases k with
        | wild => exact absurd h2.2 (by simp)
        | quiet => exact ⟨h1, by simp, h2.2⟩
        | loud => exact ⟨h1, by simp, h2.2⟩
      have step : SG P ops.toList o (fr a) w (fun v w' => HybS S P ops.toList (fun ρ w => Q .normal ρ w) (X ++ Y) (upd (fr a) o.dst v) w') := by
        by_cases hk : k = .wild
        · subst hk
          have hX : X = [] := by
            cases X with
            | nil => rfl
            | cons x X => exact ((pb x (List.mem_cons_self ..)).2.1 rfl).elim
          subst hX
          simp only [List.nil_append, HybS, hno] at h
          exact h w (Ext.refl _)
        · refine (hyb_takeS sel hno hk Y X (fun x hx => ⟨(pb x hx).1, fun oj hoj => ?_⟩) (fr a) w h w (Ext.refl _)).mono fun v w' h => h.2
          have := (pb x hx).2.2
          simp only [apartB, hno, hoj] at this
          exact this
      have nd : ∀ x ∈ X ++ Y, x.1 ≠ i' := by
        intro x hx e
        rcases List.mem_append.1 hx with hx | hx
        · have := (before x hx).2
          simp only [pairB, Bool.and_eq_true] at this
          exact absurd this.1.2 (by simp [e])
        · have h1 : ordB ops ((i', k) :: Y) = true := by
            exact ordB_tail hord
          simp only [ordB, Bool.and_eq_true] at h1
          have := List.all_eq_true.1 h1.1.1.2 x hx
          simp only [pairB, Bool.and_eq_true] at this
          exact absurd this.1.2 (by simp [e])
      have next : ∀ a w, a.tmps.size = n → a.defers = [] → HybS S P ops.toList (fun ρ w => Q .normal ρ w) (X ++ Y) (fr a) w → wpAny P .any ops (Lift n Q) fuel (listed.setIfInBounds i' true) a w := fun a w hn hd h => by
        refine ih (X ++ Y) _ a w ?_ (by simpa using hsz) (ordB_drop (fun x hx => (before x hx).1) hord) ?_ hn hd h
        · simp only [List.length_append, List.length_cons] at hl ⊢; omega
        · intro j hj
          by_cases e : j = i'
          · subst e
            constructor
            · intro h; exact absurd h (by simp [hsz, hlt])
            · rintro ⟨x, hx, he⟩; exact absurd he (nd x hx)
          · rw [getD_set_ne true (Ne.symm e), hlisted j hj]
            constructor
            · rintro ⟨x, hx, rfl⟩
              refine ⟨x, ?_, rfl⟩
              rcases List.mem_append.1 hx with hx | hx
              · exact List.mem_append_left _ hx
              · rcases List.mem_cons.1 hx with rfl | hx
                · exact absurd rfl e
                · exact List.mem_append_right _ hx
            · rintro ⟨x, hx, rfl⟩
              refine ⟨x, ?_, rfl⟩
              rcases List.mem_append.1 hx with hx | hx
              · exact List.mem_append_left _ hx
              · exact List.mem_append_right _ (List.mem_cons_of_mem _ hx)
      have hfo : opFits n o = true := List.all_eq_true.1 hfit o (by rw [Array.mem_toList_iff]; exact Array.mem_of_getElem? ho)
      unfold wpOp
      simp only [ho]
      have hy : Region.wanted o (yielded ops a.tmps) = wantedF ops.toList o (fr a) := by
        unfold Region.wanted wantedF
        cases hg : o.guard with
        | none => rfl
        | some g =>
          obtain ⟨j, want⟩ := g
          have := yielded_fr ops a j
          dsimp only
          rw [this]
          cases hj : dstOf ops.toList j with
          | none => rfl
          | some d =>
            dsimp only
            cases hv : fr a d <;> simp
      rw [hy]
      unfold SG at step
      split
      · rename_i hw
        rw [if_pos hw] at step
        exact .inl (wp_of_step hn hd hfo next step)
      · rename_i hw
        rw [if_neg hw] at step
        exact next _ _ (by rw [put_size, hn]) (by rw [put_defers, hd]) (by rw [fr_put hn hfo]; exact step)

/-- The rule: an order in which the quiet ones come as early as they can. -/
theorem hyb_ruleS (S : Nat → Prop) {P : Program} {T : Tab} (hT : Ties P T) (hm : P.follows .mixedOrders = true) {ops : Array Oper} {Q : Post} {ρ : Fr} {w : World} (L : Ord) (hB : hybB ops L = true)
    (h : vcHybS S P T ops.toList Q L ρ w) : DrawRaw P ops Q ρ w := by
  intro id n a hfit hn hd hfr
  simp only [hybB, Bool.and_eq_true, Nat.beq_eq] at hB
  refine wp_region_any hm ?_
  refine any_soundS (S := S) hfit hB.1.1.1.1 hB.1.1.1.2 ops.size L _ a _ hB.1.2 (by simp) hB.2 ?_ hn hd ?_
  · intro j hj
    have := List.all_eq_true.1 hB.1.1.2 j (List.mem_range.2 hj)
    obtain ⟨x, hx, hxj⟩ := List.any_eq_true.1 this
    constructor
    · intro _; exact ⟨x, hx, by simpa using hxj⟩
    · intro _; simp [hj]
  · subst hfr
    exact (vcHyb_HybS hT L _ _ h).ext ⟨rfl, rfl, rfl, Nat.le_refl _, fun _ _ => rfl⟩

end Go.Vc
namespace Go.Vc
open Go Go.RowKit

theorem any_gen {P : Program} {ops : Array Oper} {n : Nat} {Q : Post} (hfit : ops.toList.all (opFits n) = true) (haft : aftB ops = true) (G : Ord → Prop) (I : Ord → Fr → World → Prop)
    (hmem : ∀ L, G L → ∀ x ∈ L, x.1 < ops.size) (hnd : ∀ X x Y, G (X ++ x :: Y) → ∀ y ∈ X ++ Y, y.1 ≠ x.1) (hready : ∀ L, G L → L ≠ [] → ∃ x ∈ L, ∀ y ∈ L, direct ops x.1 y.1 = false)
    (hnil : ∀ ρ w, I [] ρ w → Q .normal ρ w)
    (hstep : ∀ X x Y, G (X ++ x :: Y) → (∀ e ∈ X ++ x :: Y, direct ops x.1 e.1 = false) → G (X ++ Y) ∧ ∀ ρ w o, nthO ops.toList x.1 = some o → I (X ++ x :: Y) ρ w → SG P ops.toList o ρ w (fun v w' => I (X ++ Y) (upd ρ o.dst v) w')) :
    ∀ (fuel : Nat) (L : Ord) (listed : Array Bool) (a : Act) (w : World), L.length = fuel → listed.size = ops.size → G L →
      (∀ j, j < ops.size → (listed.getD j true = false ↔ ∃ x ∈ L, x.1 = j)) → a.tmps.size = n → a.defers = [] → I L (fr a) w →
      wpAny P .any ops (Lift n Q) fuel listed a w := by
  intro fuel
  induction fuel with
  | zero =>
    intro L listed a w hl hsz hord hlisted hn hd h
    have : L = [] := List.eq_nil_of_length_eq_zero hl
    subst this
    refine ⟨?_, hn, hd, hnil _ _ h⟩
    unfold Region.ready
    rw [List.filter_eq_nil_iff]
    intro j hj
    have := hlisted j (List.mem_range.1 hj)
    simp only [List.not_mem_nil, false_and, exists_false, iff_false] at this
    simp_all
  | succ fuel ih =>
    intro L listed a w hl hsz hord hlisted hn hd h
    have mark : ∀ j, j < ops.size → (¬ ∃ x ∈ L, x.1 = j) → listed.getD j false = true := fun j hj hno => by
      have := mt (hlisted j hj).1 hno
      have hj' : j < listed.size := by omega
      simp only [Array.getD_eq_getD_getElem?, Array.getElem?_eq_getElem hj', Option.getD_some] at this ⊢
      simpa using this
    constructor
    · intro hr
      exfalso
      obtain ⟨x, hxL, hxd⟩ := hready L hord (by intro e; rw [e] at hl; cases hl)
      have hx := hmem L hord x hxL
      have hm : x.1 ∈ Region.ready .any ops listed := by
        rw [mem_ready]
        refine ⟨(hlisted x.1 hx).2 ⟨x, hxL, rfl⟩, ops[x.1]'hx, by simp [hx], ?_⟩
        intro e he hb
        have hdir : direct ops x.1 e.on = true := direct_of (Array.getElem?_eq_getElem hx) he hb
        have hlt : e.on < ops.size := by
          have h1 := List.all_eq_true.1 haft (ops[x.1]'hx) (by simp)
          have h2 := List.all_eq_true.1 h1 e (by simpa using he)
          simpa using h2
        refine mark _ hlt ?_
        rintro ⟨y, hy, hye⟩
        have := hxd y hy
        rw [hye, hdir] at this
        cases this
      rw [hr] at hm
      cases hm
    · intro i hi
      obtain ⟨hun, o, ho, hall⟩ := mem_ready.1 hi
      have hlt : i < ops.size := (Array.getElem?_eq_some_iff.1 ho).1
      obtain ⟨⟨i', k⟩, hxL, rfl⟩ := (hlisted i hlt).1 hun
      obtain ⟨X, Y, rfl⟩ := List.append_of_mem hxL
      simp only at ho hall hun hlt hi
      have nodir : ∀ e ∈ X ++ (i', k) :: Y, direct ops i' e.1 = false := fun e he => by
        cases hd : direct ops i' e.1 with
        | false => rfl
        | true =>
          obtain ⟨g, hg, hb, hge⟩ := direct_is ho hd
          have h1 := hall g hg hb
          have h2 := hmem _ hord e he
          have h3 := (hlisted e.1 h2).2 ⟨e, he, rfl⟩
          have hj' : e.1 < listed.size := by omega
          rw [hge] at h1
          simp only [Array.getD_eq_getD_getElem?, Array.getElem?_eq_getElem hj', Option.getD_some] at h1 h3
          rw [h1] at h3
          cases h3
      have hno : nthO ops.toList i' = some o := by rw [nthO_eq, Array.getElem?_toList]; exact ho
      obtain ⟨hG', hsg⟩ := hstep X (i', k) Y hord nodir
      have step := hsg (fr a) w o hno h
      have nd := hnd X (i', k) Y hord
      have next : ∀ a w, a.tmps.size = n → a.defers = [] → I (X ++ Y) (fr a) w → wpAny P .any ops (Lift n Q) fuel (listed.setIfInBounds i' true) a w := fun a w hn hd h => by
        refine ih (X ++ Y) _ a w ?_ (by simpa using hsz) hG' ?_ hn hd h
        · simp only [List.length_append, List.length_cons] at hl ⊢; omega
        · intro j hj
          by_cases e : j = i'
          · subst e
            constructor
            · intro h; exact absurd h (by simp [hsz, hlt])
            · rintro ⟨x, hx, he⟩; exact absurd he (nd x hx)
          · rw [getD_set_ne true (Ne.symm e), hlisted j hj]
            constructor
            · rintro ⟨x, hx, rfl⟩
              refine ⟨x, ?_, rfl⟩
              rcases List.mem_append.1 hx with hx | hx
              · exact List.mem_append_left _ hx
              · rcases List.mem_cons.1 hx with rfl | hx
                · exact absurd rfl e
                · exact List.mem_append_right _ hx
            · rintro ⟨x, hx, rfl⟩
              refine ⟨x, ?_, rfl⟩
              rcases List.mem_append.1 hx with hx | hx
              · exact List.mem_append_left _ hx
              · exact List.mem_append_right _ (List.mem_cons_of_mem _ hx)
      have hfo : opFits n o = true := List.all_eq_true.1 hfit o (by rw [Array.mem_toList_iff]; exact Array.mem_of_getElem? ho)
      unfold wpOp
      simp only [ho]
      have hy : Region.wanted o (yielded ops a.tmps) = wantedF ops.toList o (fr a) := by
        unfold Region.wanted wantedF
        cases hg : o.guard with
        | none => rfl
        | some g =>
          obtain ⟨j, want⟩ := g
          have := yielded_fr ops a j
          dsimp only
          rw [this]
          cases hj : dstOf ops.toList j with
          | none => rfl
          | some d =>
            dsimp only
            cases hv : fr a d <;> simp
      rw [hy]
      unfold SG at step
      split
      · rename_i hw
        rw [if_pos hw] at step
        exact .inl (wp_of_step hn hd hfo next step)
      · rename_i hw
        rw [if_neg hw] at step
        exact next _ _ (by rw [put_size, hn]) (by rw [put_defers, hd]) (by rw [fr_put hn hfo]; exact step)

/-- Block B was made by the alloc, at some time. -/
def Made (ob : Obj) (B : Nat) (w : World) : Prop := ∃ wa : World, wa.heap.size = B ∧ Ext (wa.alloc ob) w
theorem Made.ext {ob : Obj} {B : Nat} {w w' : World} (hx : Ext w w') (h : Made ob B w) : Made ob B w' := by
  obtain ⟨wa, h1, h2⟩ := h
  exact ⟨wa, h1, h2.trans hx⟩
theorem Made.lt {ob : Obj} {B : Nat} {w : World} (h : Made ob B w) : B < w.heap.size := by
  obtain ⟨wa, h1, h2⟩ := h
  have := h2.size
  simp only [World.size_alloc] at this
  omega
theorem Made.rmy {l : List Value} {t B : Nat} {w : World} (h : Made (.cells l.toArray t) B w) : Rmy w B l.length := by
  obtain ⟨wa, rfl, h2⟩ := h
  exact (Rmy.new wa l t).ext h2
def Clear (B : Nat) (sp : List (Nat × Nat)) : Prop := ∀ s ∈ sp, B < s.1 ∨ s.2 ≤ B
abbrev ptrB (B : Nat) : Value := .pointer (some ⟨B, 0, none⟩)

/-- Kinds: 'pure' looks at the memory of the region's beginning alone (or at none): it may also run after the last store. -/
inductive Ka
  | quiet
  | pure
  | loud
  | wild
  deriving DecidableEq
abbrev OrdA := List (Nat × Ka)
def Ka.kd : Ka → Kd
  | .quiet => .quiet
  | .pure => .quiet
  | .loud => .loud
  | .wild => .loud
def kdL : OrdA → Ord
  | [] => []
  | (i, k) :: L => (i, k.kd) :: kdL L
theorem kdL_app : ∀ X Y : OrdA, kdL (X ++ Y) = kdL X ++ kdL Y
  | [], _ => rfl
  | (i, k) :: X, Y => by simp only [List.cons_append, kdL, kdL_app X Y]
theorem kdL_split : ∀ {L : OrdA} {X : Ord} {x : Nat × Kd} {Y : Ord}, kdL L = X ++ x :: Y → ∃ XA xA YA, L = XA ++ xA :: YA ∧ X = kdL XA ∧ x = (xA.1, xA.2.kd) ∧ Y = kdL YA := by
  intro L
  induction L with
  | nil => intro X x Y h; cases X <;> cases h
  | cons z L ih =>
    intro X x Y h
    obtain ⟨i, k⟩ := z
    cases X with
    | nil =>
      simp only [kdL, List.nil_append, List.cons.injEq] at h
      exact ⟨[], (i, k), L, rfl, rfl, h.1.symm, h.2.symm⟩
    | cons y X =>
      simp only [kdL, List.cons_append, List.cons.injEq] at h
      obtain ⟨XA, xA, YA, rfl, rfl, h3, h4⟩ := ih h.2
      exact ⟨(i, k) :: XA, xA, YA, rfl, by simp only [kdL, h.1], h3, h4⟩
theorem kdL_mem {L : OrdA} {x : Nat × Ka} (h : x ∈ L) : (x.1, x.2.kd) ∈ kdL L := by
  induction L with
  | nil => cases h
  | cons z L ih =>
    obtain ⟨i, k⟩ := z
    rcases List.mem_cons.1 h with rfl | h
    · exact List.mem_cons_self ..
    · exact List.mem_cons_of_mem _ (ih h)
theorem kdL_len : ∀ L : OrdA, (kdL L).length = L.length
  | [] => rfl
  | (i, k) :: L => by simp only [kdL, List.length_cons, kdL_len L]

def HybA (P : Program) (all : List Oper) (Q : Fr → World → Prop) (d : Nat) (ob : Obj) (ws : World) : List (Nat × Nat) → OrdA → Fr → World → Prop
  | sp, [], ρ, w0 => ∀ B w, Made ob B w → Clear B sp → Ext w0 w → Q (upd ρ (some d) (ptrB B)) w
  | sp, (i, k) :: L, ρ, w0 => match nthO all i with
    | none => False
    | some o => match k with
      | .quiet => ∃ v, (∀ w, Ext w0 w → SG P all o ρ w (fun v' w' => v' = v ∧ Ext w w')) ∧ HybA P all Q d ob ws sp L (upd ρ o.dst v) w0
      | .pure => ∃ v, (∀ w, Ext ws w → SG P all o ρ w (fun v' w' => v' = v ∧ Ext w w')) ∧ HybA P all Q d ob ws sp L (upd ρ o.dst v) w0
      | .loud => ∀ w, Ext w0 w → SG P all o ρ w (fun v w' => Ext w w' ∧ HybA P all Q d ob ws ((w.heap.size, w'.heap.size) :: sp) L (upd ρ o.dst v) w')
      | .wild => ∀ B w, Made ob B w → Clear B sp → Ext w0 w → SG P all o (upd ρ (some d) (ptrB B)) w (fun v w' => Ext ws w' ∧ Hyb P all Q (kdL L) (upd (upd ρ (some d) (ptrB B)) o.dst v) w')

def vcHybA (P : Program) (T : Tab) (all : List Oper) (Q : Post) (d : Nat) (ob : Obj) (ws : World) : List (Nat × Nat) → OrdA → Fr → World → Prop
  | sp, [], ρ, w0 => ∀ B w, Made ob B w → Clear B sp → Ext w0 w → Q .normal (upd ρ (some d) (ptrB B)) w
  | sp, (i, k) :: L, ρ, w0 => match nthO all i with
    | none => False
    | some o => match k with
      | .quiet => vcQG P T w0 all o ρ (fun ρ' => vcHybA P T all Q d ob ws sp L ρ' w0)
      | .pure => vcQG P T ws all o ρ (fun ρ' => vcHybA P T all Q d ob ws sp L ρ' w0)
      | .loud => ∀ w, Ext w0 w → vcG P T all o ρ w (fun ρ' w' => Ext w w' ∧ vcHybA P T all Q d ob ws ((w.heap.size, w'.heap.size) :: sp) L ρ' w')
      | .wild => ∀ B w, Made ob B w → Clear B sp → Ext w0 w → vcG P T all o (upd ρ (some d) (ptrB B)) w (fun ρ' w' => Ext ws w' ∧ vcHyb P T all Q (kdL L) ρ' w')

theorem vcHybA_HybA {P : Program} {T : Tab} (hT : Ties P T) {all : List Oper} {Q : Post} {d : Nat} {ob : Obj} {ws : World} : ∀ (L : OrdA) (sp : List (Nat × Nat)) (ρ : Fr) (w : World), vcHybA P T all Q d ob ws sp L ρ w → HybA P all (fun ρ w => Q .normal ρ w) d ob ws sp L ρ w := by
  intro L
  induction L with
  | nil => intro sp ρ w h; exact h
  | cons x L ih =>
    obtain ⟨i, k⟩ := x
    intro sp ρ w h
    simp only [vcHybA, HybA] at *
    cases ho : nthO all i with
    | none => simp only [ho] at h
    | some o =>
      simp only [ho] at h ⊢
      cases k with
      | quiet =>
        obtain ⟨v, h1, h2⟩ := vcQG_SG hT h
        exact ⟨v, h1, ih _ _ _ h2⟩
      | pure =>
        obtain ⟨v, h1, h2⟩ := vcQG_SG hT h
        exact ⟨v, h1, ih _ _ _ h2⟩
      | loud => exact fun w' hx => (vcG_SG hT (h w' hx)).mono fun v w'' h => ⟨h.1, ih _ _ _ h.2⟩
      | wild => exact fun B w' hm hc hx => (vcG_SG hT (h B w' hm hc hx)).mono fun v w'' h => ⟨h.1, vcHyb_Hyb hT _ _ _ h.2⟩

theorem HybA.ext {P : Program} {all : List Oper} {Q : Fr → World → Prop} {d : Nat} {ob : Obj} {ws : World} : ∀ {L : OrdA} {sp : List (Nat × Nat)} {ρ : Fr} {w w' : World}, HybA P all Q d ob ws sp L ρ w → Ext w w' → HybA P all Q d ob ws sp L ρ w' := by
  intro L
  induction L with
  | nil => intro sp ρ w w' h hx B w'' hm hc hx'; exact h B w'' hm hc (hx.trans hx')
  | cons x L ih =>
    obtain ⟨i, k⟩ := x
    intro sp ρ w w' h hx
    simp only [HybA] at *
    cases ho : nthO all i with
    | none => simp only [ho] at h
    | some o =>
      simp only [ho] at h ⊢
      cases k with
      | quiet => obtain ⟨v, h1, h2⟩ := h; exact ⟨v, fun w'' hx' => h1 w'' (hx.trans hx'), ih h2 hx⟩
      | pure => obtain ⟨v, h1, h2⟩ := h; exact ⟨v, h1, ih h2 hx⟩
      | loud => exact fun w'' hx' => h w'' (hx.trans hx')
      | wild => exact fun B w'' hm hc hx' => h B w'' hm hc (hx.trans hx')

theorem hybA_take {P : Program} {ops : Array Oper} {Q : Fr → World → Prop} {d : Nat} {ob : Obj} {ws : World} (hsel : ∀ (j : Nat) (o : Oper), nthO ops.toList j = some o → ∀ cs b, o.op ≠ .select cs b) {i : Nat} {k : Ka} {oi : Oper} (hi : nthO ops.toList i = some oi) (hk : k ≠ .wild) (Y : OrdA) :
    ∀ (X : OrdA), (∀ x ∈ X, (x.2 = .quiet ∨ x.2 = .pure) ∧ ∀ oj, nthO ops.toList x.1 = some oj → oi.apart ops oj = true) → ∀ (sp : List (Nat × Nat)) (ρ : Fr) (w0 : World), HybA P ops.toList Q d ob ws sp (X ++ (i, k) :: Y) ρ w0 →
      ∀ w, Ext ws w → Ext w0 w → SG P ops.toList oi ρ w (fun v w' => Ext w w' ∧ ∃ sp', (sp' = sp ∨ sp' = (w.heap.size, w'.heap.size) :: sp) ∧ HybA P ops.toList Q d ob ws sp' (X ++ Y) (upd ρ oi.dst v) w') := by
  intro X
  induction X with
  | nil =>
    intro _ sp ρ w0 h w hws hx
    simp only [List.nil_append, HybA, hi] at h
    cases k with
    | quiet =>
      obtain ⟨v, h1, h2⟩ := h
      refine (h1 w hx).mono ?_
      rintro v' w' ⟨rfl, hx'⟩
      exact ⟨hx', sp, .inl rfl, h2.ext (hx.trans hx')⟩
    | pure =>
      obtain ⟨v, h1, h2⟩ := h
      refine (h1 w hws).mono ?_
      rintro v' w' ⟨rfl, hx'⟩
      exact ⟨hx', sp, .inl rfl, h2.ext (hx.trans hx')⟩
    | loud => exact (h w hx).mono fun v w' h => ⟨h.1, _, .inr rfl, h.2⟩
    | wild => exact absurd rfl hk
  | cons x X ih =>
    obtain ⟨j, kj⟩ := x
    intro hX sp ρ w0 h w hws hx
    obtain ⟨hq, hap⟩ := hX _ (List.mem_cons_self ..)
    simp only at hq hap
    simp only [List.cons_append, HybA] at h
    cases hj : nthO ops.toList j with
    | none => simp only [hj] at h
    | some oj =>
      simp only [hj] at h
      obtain ⟨a1, a2, a3⟩ := Oper.apart_spec (hap _ hj)
      rcases hq with rfl | rfl
      · obtain ⟨vj, h1, h2⟩ := h
        have := ih (fun x hx => hX x (List.mem_cons_of_mem _ hx)) _ _ _ h2 w hws hx
        rw [SG.upd (hsel _ _ hi) a3] at this
        refine this.mono ?_
        rintro v w' ⟨hx', sp', hsp, h⟩
        refine ⟨hx', sp', hsp, ?_⟩
        simp only [List.cons_append, HybA, hj]
        refine ⟨vj, fun w'' hx'' => ?_, ?_⟩
        · rw [SG.upd (hsel _ _ hj) a1]
          exact h1 w'' ((hx.trans hx').trans hx'')
        · rw [upd_comm a2]; exact h
      · obtain ⟨vj, h1, h2⟩ := h
        have := ih (fun x hx => hX x (List.mem_cons_of_mem _ hx)) _ _ _ h2 w hws hx
        rw [SG.upd (hsel _ _ hi) a3] at this
        refine this.mono ?_
        rintro v w' ⟨hx', sp', hsp, h⟩
        refine ⟨hx', sp', hsp, ?_⟩
        simp only [List.cons_append, HybA, hj]
        refine ⟨vj, fun w'' hx'' => ?_, ?_⟩
        · rw [SG.upd (hsel _ _ hj) a1]
          exact h1 w'' hx''
        · rw [upd_comm a2]; exact h

/-- The last store, past pure operations. -/
theorem hybA_wild {P : Program} {ops : Array Oper} {Q : Fr → World → Prop} {d : Nat} {ob : Obj} {ws : World} (hsel : ∀ (j : Nat) (o : Oper), nthO ops.toList j = some o → ∀ cs b, o.op ≠ .select cs b) {i : Nat} {oi oa : Oper} (hi : nthO ops.toList i = some oi) (hda : oa.dst = some d) (Y : OrdA) {B : Nat} {w : World} {sp : List (Nat × Nat)} (hm : Made ob B w) (hc : Clear B sp) :
    ∀ (X : OrdA), (∀ x ∈ X, x.2 = .pure ∧ ∀ oj, nthO ops.toList x.1 = some oj → oi.apart ops oj = true ∧ oj.apart ops oa = true) → ∀ (ρ : Fr) (w0 : World), HybA P ops.toList Q d ob ws sp (X ++ (i, .wild) :: Y) ρ w0 →
      Ext w0 w → SG P ops.toList oi (upd ρ (some d) (ptrB B)) w (fun v w' => Ext ws w' ∧ Hyb P ops.toList Q (kdL (X ++ Y)) (upd (upd ρ (some d) (ptrB B)) oi.dst v) w') := by
  intro X
  induction X with
  | nil =>
    intro _ ρ w0 h hx
    simp only [List.nil_append, HybA, hi] at h
    exact h B w hm hc hx
  | cons x X ih =>
    obtain ⟨j, kj⟩ := x
    intro hX ρ w0 h hx
    obtain ⟨hq, hap⟩ := hX _ (List.mem_cons_self ..)
    simp only at hq hap
    subst hq
    simp only [List.cons_append, HybA] at h
    cases hj : nthO ops.toList j with
    | none => simp only [hj] at h
    | some oj =>
      simp only [hj] at h
      obtain ⟨a1, a2, a3⟩ := Oper.apart_spec (hap _ hj).1
      obtain ⟨b1, b2, b3⟩ := Oper.apart_spec (hap _ hj).2
      obtain ⟨vj, h1, h2⟩ := h
      have := ih (fun x hx => hX x (List.mem_cons_of_mem _ hx)) _ _ h2 hx
      have ec : upd (upd ρ oj.dst vj) (some d) (ptrB B) = upd (upd ρ (some d) (ptrB B)) oj.dst vj := upd_comm fun e he h2 => b2 e he (by rw [hda]; exact h2)
      rw [ec, SG.upd (hsel _ _ hi) a3] at this
      refine this.mono ?_
      rintro v w' ⟨hx', h⟩
      refine ⟨hx', ?_⟩
      simp only [List.cons_append, kdL, Ka.kd, Hyb, hj]
      refine ⟨vj, fun w'' hx'' => ?_, ?_⟩
      · rw [SG.upd (hsel _ _ hj) a1, SG.upd (hsel _ _ hj) (fun e he => b3 e (by rw [hda]; exact he))]
        exact h1 w'' (hx'.trans hx'')
      · rw [upd_comm a2]; exact h

def preA (ops : Array Oper) (ia : Nat) : List Nat → OrdA → Bool
  | _, [] => true
  | acc, (j, .wild) :: _ => direct ops j ia && acc.all (direct ops j)
  | acc, (j, .quiet) :: L => apartB ops j ia && preA ops ia (j :: acc) L
  | acc, (j, _) :: L => apartB ops j ia && preA ops ia acc L
def hybAB (ops : Array Oper) (ia : Nat) (L : OrdA) : Bool :=
  Region.noSelect ops && aftB ops && (List.range ops.size).all (fun j => Nat.beq j ia || (kdL L).any fun x => Nat.beq x.1 j) && Nat.beq (L.length + 1) ops.size && ordB ops (kdL L) && preA ops ia [] L && Nat.blt ia ops.size && (kdL L).all (fun x => !Nat.beq x.1 ia) && (List.range ops.size).all (fun j => !direct ops ia j)

def qp (x : Nat × Ka) : Prop := x.2 = .quiet ∨ x.2 = .pure
theorem preA_acc {ops : Array Oper} {ia : Nat} : ∀ {L : OrdA} {acc acc' : List Nat}, (∀ j ∈ acc', j ∈ acc) → preA ops ia acc L = true → preA ops ia acc' L = true := by
  intro L
  induction L with
  | nil => intro _ _ _ _; rfl
  | cons z L ih =>
    intro acc acc' hs h
    obtain ⟨j, k⟩ := z
    cases k with
    | wild =>
      simp only [preA, Bool.and_eq_true, List.all_eq_true] at h ⊢
      exact ⟨h.1, fun x hx => h.2 x (hs x hx)⟩
    | quiet =>
      simp only [preA, Bool.and_eq_true] at h ⊢
      refine ⟨h.1, ih (fun x hx => ?_) h.2⟩
      rcases List.mem_cons.1 hx with rfl | hx
      · exact List.mem_cons_self ..
      · exact List.mem_cons_of_mem _ (hs x hx)
    | pure => simp only [preA, Bool.and_eq_true] at h ⊢; exact ⟨h.1, ih hs h.2⟩
    | loud => simp only [preA, Bool.and_eq_true] at h ⊢; exact ⟨h.1, ih hs h.2⟩
theorem preA_wild {ops : Array Oper} {ia : Nat} {x : Nat × Ka} {Y : OrdA} : ∀ {X : OrdA} {acc : List Nat}, (∀ x ∈ X, qp x) → preA ops ia acc (X ++ x :: Y) = true → x.2 = .wild → ∀ j ∈ acc, direct ops x.1 j = true := by
  intro X
  induction X with
  | nil =>
    intro acc _ h hw j hj
    obtain ⟨i, k⟩ := x
    simp only at hw
    subst hw
    simp only [List.nil_append, preA, Bool.and_eq_true, List.all_eq_true] at h
    exact h.2 j hj
  | cons y X ih =>
    intro acc hX h hw j hj
    obtain ⟨i, k⟩ := y
    have hq := hX _ (List.mem_cons_self ..)
    have hX' := fun y hy => hX y (List.mem_cons_of_mem _ hy)
    unfold qp at hq
    simp only at hq
    rcases hq with rfl | rfl
    · simp only [List.cons_append, preA, Bool.and_eq_true] at h
      exact ih hX' h.2 hw j (List.mem_cons_of_mem _ hj)
    · simp only [List.cons_append, preA, Bool.and_eq_true] at h
      exact ih hX' h.2 hw j hj
theorem preA_at {ops : Array Oper} {ia : Nat} {x : Nat × Ka} {Y : OrdA} : ∀ {X : OrdA} {acc : List Nat}, (∀ x ∈ X, qp x) → preA ops ia acc (X ++ x :: Y) = true →
    (x.2 = .wild → direct ops x.1 ia = true ∧ (∀ y ∈ X, apartB ops y.1 ia = true) ∧ ∀ y ∈ X, y.2 = .quiet → direct ops x.1 y.1 = true) ∧ (x.2 ≠ .wild → apartB ops x.1 ia = true ∧ preA ops ia acc (X ++ Y) = true) := by
  intro X
  induction X with
  | nil =>
    intro acc _ h
    obtain ⟨j, k⟩ := x
    cases k with
    | wild => simp only [List.nil_append, preA, Bool.and_eq_true] at h; exact ⟨fun _ => ⟨h.1, fun y hy => (by cases hy), fun y hy => (by cases hy)⟩, fun h' => absurd rfl h'⟩
    | quiet => simp only [List.nil_append, preA, Bool.and_eq_true] at h; exact ⟨fun h' => (by cases h'), fun _ => ⟨h.1, preA_acc (fun _ hj => List.mem_cons_of_mem _ hj) h.2⟩⟩
    | pure => simp only [List.nil_append, preA, Bool.and_eq_true] at h; exact ⟨fun h' => (by cases h'), fun _ => h⟩
    | loud => simp only [List.nil_append, preA, Bool.and_eq_true] at h; exact ⟨fun h' => (by cases h'), fun _ => h⟩
  | cons y X ih =>
    intro acc hX h
    obtain ⟨j, k⟩ := y
    have hq := hX _ (List.mem_cons_self ..)
    have hX' := fun y hy => hX y (List.mem_cons_of_mem _ hy)
    unfold qp at hq
    simp only at hq
    rcases hq with rfl | rfl
    · simp only [List.cons_append, preA, Bool.and_eq_true] at h ⊢
      obtain ⟨h1, h2⟩ := ih hX' h.2
      refine ⟨fun hw => ⟨(h1 hw).1, fun y hy => ?_, fun y hy hyq => ?_⟩, fun hw => ⟨(h2 hw).1, h.1, (h2 hw).2⟩⟩
      · rcases List.mem_cons.1 hy with rfl | hy
        · exact h.1
        · exact (h1 hw).2.1 y hy
      · rcases List.mem_cons.1 hy with rfl | hy
        · exact preA_wild hX' h.2 hw j (List.mem_cons_self ..)
        · exact (h1 hw).2.2 y hy hyq
    · simp only [List.cons_append, preA, Bool.and_eq_true] at h ⊢
      obtain ⟨h1, h2⟩ := ih hX' h.2
      refine ⟨fun hw => ⟨(h1 hw).1, fun y hy => ?_, fun y hy hyq => ?_⟩, fun hw => ⟨(h2 hw).1, h.1, (h2 hw).2⟩⟩
      · rcases List.mem_cons.1 hy with rfl | hy
        · exact h.1
        · exact (h1 hw).2.1 y hy
      · rcases List.mem_cons.1 hy with rfl | hy
        · cases hyq
        · exact (h1 hw).2.2 y hy hyq

theorem ordB_nd {ops : Array Oper} {x : Nat × Kd} {Y : Ord} : ∀ {X : Ord}, ordB ops (X ++ x :: Y) = true → ∀ y ∈ X ++ Y, y.1 ≠ x.1 := by
  intro X
  induction X with
  | nil =>
    intro h y hy e
    simp only [List.nil_append, ordB, Bool.and_eq_true] at h
    have := List.all_eq_true.1 h.1.1.2 y (by simpa using hy)
    simp only [pairB, Bool.and_eq_true] at this
    exact absurd this.1.2 (by simp [e])
  | cons z X ih =>
    intro h y hy e
    simp only [List.cons_append, ordB, Bool.and_eq_true] at h
    rcases List.mem_cons.1 hy with rfl | hy
    · have := List.all_eq_true.1 h.1.1.2 x (by simp)
      simp only [pairB, Bool.and_eq_true] at this
      exact absurd this.1.2 (by simp [e])
    · exact ih h.2 y hy e

theorem apart_of {ops : Array Oper} {i j : Nat} {oi oj : Oper} (h : apartB ops i j = true) (hi : nthO ops.toList i = some oi) (hj : nthO ops.toList j = some oj) : oi.apart ops oj = true := by
  simp only [apartB, hi, hj] at h
  exact h

theorem kd_quiet {k : Ka} (h : k.kd = .quiet) : k = .quiet ∨ k = .pure := by cases k <;> simp_all [Ka.kd]
theorem before_qp {ops : Array Oper} {X : OrdA} {x : Nat × Kd} (h : ∀ y ∈ kdL X, y.2 = .quiet ∧ pairB ops y x = true) : ∀ y ∈ X, qp y := fun _ hy => kd_quiet (h _ (kdL_mem hy)).1
/-- The rule. -/
theorem hyb_ruleA {P : Program} {T : Tab} (hT : Ties P T) (hm : P.follows .mixedOrders = true) {ops : Array Oper} {Q : Post} {ρ : Fr} {w : World} (ia d t : Nat) (L : OrdA) {oa : Oper} {r : TRow} (hoa : nthO ops.toList ia = some oa) (hop : oa.op = .alloc t) (hdst : oa.dst = some d) (hg : oa.guard = none) (hr : look T t = some r)
    (hB : hybAB ops ia L = true) (h : vcHybA P T ops.toList Q d (.cells r.zero.cells t) w [(0, w.heap.size)] L ρ w) : DrawRaw P ops Q ρ w := by
  intro id n a hfit hn hd hfr
  simp only [hybAB, Bool.and_eq_true, Nat.beq_eq, Nat.blt_eq, List.all_eq_true] at hB
  obtain ⟨⟨⟨⟨⟨⟨⟨⟨hs, haft⟩, hcov⟩, hlen⟩, hord⟩, hpre⟩, hia⟩, hno⟩, hfree⟩ := hB
  have sel : ∀ (j : Nat) (o : Oper), nthO ops.toList j = some o → ∀ cs b, o.op ≠ .select cs b := fun j o ho cs b => by
    rw [nthO_eq, Array.getElem?_toList] at ho
    exact Region.noSelect_spec hs j o cs b ho
  have hfree' : ∀ j, j < ops.size → direct ops ia j = false := fun j hj => by
    have := hfree j (List.mem_range.2 hj)
    simpa using this
  have hno' : ∀ x ∈ kdL L, x.1 ≠ ia := fun x hx e => by
    have := hno x hx
    simp [e] at this
  refine wp_region_any hm ?_
  refine any_gen hfit haft
    (fun L' => (∃ L, L' = (ia, .loud) :: L ∧ ordB ops L = true ∧ ∀ x ∈ L, x.1 ≠ ia) ∨ ordB ops L' = true)
    (fun L' ρ w' => (∃ L sp, L' = (ia, .loud) :: kdL L ∧ HybA P ops.toList (fun ρ w => Q .normal ρ w) d (.cells r.zero.cells t) w sp L ρ w' ∧ ordB ops (kdL L) = true ∧ preA ops ia [] L = true ∧ (∀ s ∈ sp, s.2 ≤ w'.heap.size) ∧ Ext w w')
      ∨ (∃ L, L' = kdL L ∧ ordB ops (kdL L) = true ∧ preA ops ia [] L = true ∧ ∃ ρ0 sp B, ρ = upd ρ0 (some d) (ptrB B) ∧ HybA P ops.toList (fun ρ w => Q .normal ρ w) d (.cells r.zero.cells t) w sp L ρ0 w' ∧ Made (.cells r.zero.cells t) B w' ∧ Clear B sp ∧ Ext w w')
      ∨ (ordB ops L' = true ∧ Hyb P ops.toList (fun ρ w => Q .normal ρ w) L' ρ w'))
    ?_ ?_ ?_ ?_ ?_ ops.size ((ia, .loud) :: kdL L) _ a _ (by rw [List.length_cons, kdL_len]; exact hlen) (by simp) (.inl ⟨kdL L, rfl, hord, hno'⟩) ?_ hn hd ?_
  · rintro L' (⟨L, rfl, h1, h3⟩ | h1) x hx
    · rcases List.mem_cons.1 hx with rfl | hx
      · exact hia
      · exact (ordB_mem h1 x hx).1
    · exact (ordB_mem h1 x hx).1
  · rintro X x Y (⟨L, he, h1, h3⟩ | h1) y hy
    · cases X with
      | nil =>
        simp only [List.nil_append, List.cons.injEq] at he
        obtain ⟨rfl, rfl⟩ := he
        exact h3 y (by simpa using hy)
      | cons z X =>
        simp only [List.cons_append, List.cons.injEq] at he
        obtain ⟨rfl, rfl⟩ := he
        rcases List.mem_cons.1 hy with rfl | hy
        · exact fun e => h3 x (by simp) e.symm
        · exact ordB_nd h1 y hy
    · exact ordB_nd h1 y hy
  · rintro L' (⟨L, rfl, h1, h3⟩ | h1) hne
    · refine ⟨_, List.mem_cons_self .., fun y hy => ?_⟩
      rcases List.mem_cons.1 hy with rfl | hy
      · exact hfree' _ hia
      · exact hfree' _ (ordB_mem h1 y hy).1
    · cases L' with
      | nil => exact absurd rfl hne
      | cons x Y =>
        refine ⟨x, List.mem_cons_self .., fun y hy => ?_⟩
        have hx := ordB_mem h1 x (List.mem_cons_self ..)
        rcases List.mem_cons.1 hy with rfl | hy
        · exact hx.2
        · simp only [ordB, Bool.and_eq_true] at h1
          have := List.all_eq_true.1 h1.1.1.2 y hy
          simp only [pairB, Bool.and_eq_true, Bool.not_eq_true'] at this
          exact this.1.1
  · rintro ρ w' (⟨L, sp, he, _⟩ | ⟨L, he, _, _, ρ0, sp, B, rfl, h, hmd, hcl, _⟩ | ⟨_, h⟩)
    · cases he
    · cases L with
      | nil => exact h B w' hmd hcl (Ext.refl _)
      | cons z L => obtain ⟨i, k⟩ := z; cases he
    · exact h w' (Ext.refl _)
  · intro X x Y hG nodir
    obtain ⟨j, k⟩ := x
    simp only at nodir
    refine ⟨?_, ?_⟩
    · rcases hG with ⟨L, he, h1, h3⟩ | h1
      · cases X with
        | nil =>
          simp only [List.nil_append, List.cons.injEq] at he
          obtain ⟨_, rfl⟩ := he
          exact .inr h1
        | cons z X =>
          simp only [List.cons_append, List.cons.injEq] at he
          obtain ⟨rfl, rfl⟩ := he
          have before := ordB_before h1 (fun e he => nodir e (List.mem_cons_of_mem _ he))
          refine .inl ⟨X ++ Y, rfl, ordB_drop (fun x hx => (before x hx).1) h1, fun x hx => h3 x ?_⟩
          rcases List.mem_append.1 hx with hx | hx
          · exact List.mem_append_left _ hx
          · exact List.mem_append_right _ (List.mem_cons_of_mem _ hx)
      · have before := ordB_before h1 nodir
        exact .inr (ordB_drop (fun x hx => (before x hx).1) h1)
    · intro ρ w' o ho hI
      simp only at ho
      rcases hI with ⟨L, sp, he, h, h1, h2, hsp, hws⟩ | ⟨L, he, h1, h2, ρ0, sp, B, rfl, h, hmd, hcl, hws⟩ | ⟨h1, h⟩
      · cases X with
        | nil =>
          simp only [List.nil_append, List.cons.injEq, Prod.mk.injEq] at he
          obtain ⟨⟨rfl, rfl⟩, rfl⟩ := he
          rw [hoa] at ho
          cases ho
          have hv : vcG P T ops.toList oa ρ w' (fun ρ' w'' => ρ' = upd ρ (some d) (ptrB w'.heap.size) ∧ w'' = w'.alloc (.cells r.zero.cells t)) := by
            unfold vcG
            rw [hg]
            simp only [vcOp, vcP, hop, hr, hdst]
            first | exact ⟨rfl, rfl⟩ | trivial
          refine (vcG_SG hT hv).mono ?_
          rintro v w'' ⟨hv1, rfl⟩
          exact .inr (.inl ⟨L, rfl, h1, h2, ρ, sp, w'.heap.size, hv1, h.ext (Ext.new _ _), ⟨w', rfl, Ext.refl _⟩, fun s hs => .inr (hsp s hs), hws.trans (Ext.new _ _)⟩)
        | cons z X =>
          simp only [List.cons_append, List.cons.injEq] at he
          obtain ⟨rfl, he⟩ := he
          obtain ⟨XA, ⟨j', kA⟩, YA, rfl, rfl, hxe, rfl⟩ := kdL_split he.symm
          simp only [Prod.mk.injEq] at hxe
          obtain ⟨rfl, rfl⟩ := hxe
          rw [← he] at h1
          have before := ordB_before h1 (fun e he => nodir e (List.mem_cons_of_mem _ he))
          have hqp := before_qp before
          have hp := preA_at hqp h2
          have hk : kA ≠ .wild := fun hk => by
            have h4 := nodir (ia, .loud) (List.mem_cons_self ..)
            have h5 : direct ops j ia = true := (hp.1 hk).1
            simp only at h4
            rw [h5] at h4
            cases h4
          have hap : ∀ x ∈ XA, (x.2 = .quiet ∨ x.2 = .pure) ∧ ∀ oj, nthO ops.toList x.1 = some oj → o.apart ops oj = true := fun x hx => by
            obtain ⟨g1, g2⟩ := before _ (kdL_mem hx)
            have g3 := nodir _ (List.mem_cons_of_mem _ (List.mem_append_left _ (kdL_mem hx)))
            simp only at g1 g3
            simp only [pairB, g1, g3, Bool.and_eq_true, Bool.false_or] at g2
            refine ⟨hqp x hx, fun oj hoj => ?_⟩
            cases kA with
            | wild => exact absurd rfl hk
            | quiet => exact apart_of g2.2 ho hoj
            | pure => exact apart_of g2.2 ho hoj
            | loud => exact apart_of g2.2 ho hoj
          refine (hybA_take sel ho hk YA XA hap sp ρ w' h w' hws (Ext.refl _)).mono ?_
          rintro v w'' ⟨hx, sp', hsp', h'⟩
          refine .inl ⟨XA ++ YA, sp', by rw [kdL_app]; rfl, h', by rw [kdL_app]; exact ordB_drop (fun x hx => (before x hx).1) h1, (hp.2 hk).2, fun s hs => ?_, hws.trans hx⟩
          rcases hsp' with rfl | rfl
          · exact Nat.le_trans (hsp s hs) hx.size
          · rcases List.mem_cons.1 hs with rfl | hs
            · exact Nat.le_refl _
            · exact Nat.le_trans (hsp s hs) hx.size
      · obtain ⟨XA, ⟨j', kA⟩, YA, rfl, rfl, hxe, rfl⟩ := kdL_split he.symm
        simp only [Prod.mk.injEq] at hxe
        obtain ⟨rfl, rfl⟩ := hxe
        rw [← he] at h1
        have before := ordB_before h1 nodir
        have hqp := before_qp before
        have hp := preA_at hqp h2
        have hapA : ∀ x ∈ XA, ∀ oj, nthO ops.toList x.1 = some oj → o.apart ops oj = true := fun x hx oj hoj => by
          obtain ⟨g1, g2⟩ := before _ (kdL_mem hx)
          have g3 := nodir _ (List.mem_append_left _ (kdL_mem hx))
          simp only at g1 g3
          simp only [pairB, g1, g3, Bool.and_eq_true, Bool.false_or] at g2
          cases kA with
          | wild => exact apart_of g2.2 ho hoj
          | quiet => exact apart_of g2.2 ho hoj
          | pure => exact apart_of g2.2 ho hoj
          | loud => exact apart_of g2.2 ho hoj
        by_cases hk : kA = .wild
        · subst hk
          have hw := hp.1 rfl
          have hXp : ∀ x ∈ XA, x.2 = .pure ∧ ∀ oj, nthO ops.toList x.1 = some oj → o.apart ops oj = true ∧ oj.apart ops oa = true := fun x hx => by
            refine ⟨?_, fun oj hoj => ⟨hapA x hx oj hoj, apart_of (hw.2.1 x hx) hoj hoa⟩⟩
            rcases hqp x hx with h | h
            · have h5 := hw.2.2 x hx h
              have h6 := nodir _ (List.mem_append_left _ (kdL_mem hx))
              simp only at h5 h6
              rw [h5] at h6
              cases h6
            · exact h
          refine (hybA_wild sel ho hdst YA hmd hcl XA hXp ρ0 w' h (Ext.refl _)).mono fun v w'' h' => ?_
          exact .inr (.inr ⟨ordB_drop (fun x hx => (before x hx).1) h1, by have := h'.2; rw [kdL_app] at this; exact this⟩)
        · have hapj := apart_of (hp.2 hk).1 ho hoa
          obtain ⟨a1, a2, a3⟩ := Oper.apart_spec hapj
          rw [SG.upd (sel _ _ ho) (fun e he => a3 e (by rw [hdst]; exact he))]
          refine (hybA_take sel ho hk YA XA (fun x hx => ⟨hqp x hx, hapA x hx⟩) sp ρ0 w' h w' hws (Ext.refl _)).mono ?_
          rintro v w'' ⟨hx, sp', hsp', h'⟩
          refine .inr (.inl ⟨XA ++ YA, by rw [kdL_app], by rw [kdL_app]; exact ordB_drop (fun x hx => (before x hx).1) h1, (hp.2 hk).2, upd ρ0 o.dst v, sp', B, ?_, h', hmd.ext hx, fun s hs => ?_, hws.trans hx⟩)
          · exact upd_comm fun e he he2 => a2 e he2 (by rw [hdst]; exact he)
          · rcases hsp' with rfl | rfl
            · exact hcl s hs
            · rcases List.mem_cons.1 hs with rfl | hs
              · exact .inl hmd.lt
              · exact hcl s hs
      · have before := ordB_before h1 nodir
        have hq := fun x hx => (before x hx).1
        by_cases hk : k = .wild
        · subst hk
          have hX : X = [] := by
            cases X with
            | nil => rfl
            | cons x X =>
              obtain ⟨g1, g2⟩ := before x (List.mem_cons_self ..)
              have g3 := nodir x (List.mem_append_left _ (List.mem_cons_self ..))
              simp only [pairB, g1, g3, Bool.and_eq_true, Bool.false_or] at g2
              exact absurd g2.2 (by simp)
          subst hX
          simp only [List.nil_append, Hyb, ho] at h
          exact (h w' (Ext.refl _)).mono fun v w'' h' => .inr (.inr ⟨ordB_drop hq h1, h'⟩)
        · have hap : ∀ x ∈ X, x.2 = .quiet ∧ ∀ oj, nthO ops.toList x.1 = some oj → o.apart ops oj = true := fun x hx => by
            obtain ⟨g1, g2⟩ := before x hx
            have g3 := nodir x (List.mem_append_left _ hx)
            simp only [pairB, g1, g3, Bool.and_eq_true, Bool.false_or] at g2
            refine ⟨g1, fun oj hoj => ?_⟩
            cases k with
            | wild => exact absurd rfl hk
            | quiet => exact apart_of g2.2 ho hoj
            | loud => exact apart_of g2.2 ho hoj
          exact (hyb_take sel ho hk Y X hap ρ w' h w' (Ext.refl _)).mono fun v w'' h' => .inr (.inr ⟨ordB_drop hq h1, h'.2⟩)
  · intro j hj
    have := hcov j (List.mem_range.2 hj)
    constructor
    · intro _
      simp only [Bool.or_eq_true, Nat.beq_eq] at this
      rcases this with rfl | hx
      · exact ⟨_, List.mem_cons_self .., rfl⟩
      · obtain ⟨x, hx, hxj⟩ := List.any_eq_true.1 hx
        exact ⟨x, List.mem_cons_of_mem _ hx, by simpa using hxj⟩
    · intro _; simp [hj]
  · subst hfr
    have hx : Ext w { w with drawn := w.drawn + 1 } := ⟨rfl, rfl, rfl, Nat.le_refl _, fun _ _ => rfl⟩
    exact .inl ⟨L, [(0, w.heap.size)], rfl, (vcHybA_HybA hT L _ _ _ h).ext hx, hord, hpre, fun s hs => by rw [List.mem_singleton.1 hs]; exact Nat.le_refl _, hx⟩

end Go.Vc
namespace Go.Vc
open Go Go.RowKit

/-- For each operation: whose facts it uses; which slots its own fact tells of. -/
abbrev Frk := List (List Nat × List Nat)
def Frk.use (f : Frk) (i : Nat) : List Nat := ((f[i]?).getD ([], [])).1
def Frk.dep (f : Frk) (i : Nat) : List Nat := ((f[i]?).getD ([], [])).2
def frkI (ops : Array Oper) (f : Frk) (fin lo hi i : Nat) : Bool :=
  (f.use i).all (fun j => Nat.blt j ops.size && direct ops i j) &&
  (List.range ops.size).all (fun k =>
    (Nat.beq k i || (f.use i).all (fun j => !(f.use k).contains j)) &&
    (match dstOf ops.toList i with | none => true | some d => !(f.dep k).contains d || Nat.beq k i || direct ops k i) &&
    (!direct ops i k || Nat.blt k i)) &&
  (Nat.beq i fin || (List.range ops.size).any fun k => (f.use k).contains i) &&
  (match dstOf ops.toList i with | none => true | some d => inSlots (f.dep fin) lo hi d) &&
  !(List.range ops.size).any fun k => (f.use k).contains fin
def frkB (ops : Array Oper) (f : Frk) (fin lo hi : Nat) : Bool :=
  Region.noSelect ops && aftB ops && Nat.blt fin ops.size && (List.range ops.size).all (frkI ops f fin lo hi)

def NotIn (L : Ord) (k : Nat) : Prop := ∀ x ∈ L, x.1 ≠ k
def Live (n : Nat) (f : Frk) (L : Ord) (k : Nat) : Prop := k < n ∧ NotIn L k ∧ ∀ i, i < n → NotIn L i → ¬ k ∈ f.use i
structure FrkI (ops : Array Oper) (f : Frk) (fact : Nat → List Value → (Nat → Prop) → World → Prop) (ρ : Fr) (W : World) (L : Ord) (ρ' : Fr) (w : World) : Prop where
  ext : Ext W w
  pre : ∀ k, k < ops.size → NotIn L k → ∀ j, j < ops.size → direct ops k j = true → NotIn L j
  same : ∀ t, (∀ j, j < ops.size → dstOf ops.toList j ≠ some t) → ρ' t = ρ t
  facts : ∃ Bs : Nat → Nat → Prop, (∀ k, Live ops.size f L k → fact k (evs ρ' (f.dep k)) (Bs k) w ∧ ∀ b, Bs k b → W.heap.size ≤ b ∧ b < w.heap.size) ∧
    ∀ j k, Live ops.size f L j → Live ops.size f L k → j ≠ k → ∀ b, Bs j b → ¬ Bs k b

theorem evs_upd {ρ : Fr} {d : Option Nat} {v : Value} : ∀ {l : List Nat}, (∀ t, d = some t → t ∉ l) → evs (upd ρ d v) l = evs ρ l
  | [], _ => rfl
  | t :: l, h => by
    have ih := evs_upd (ρ := ρ) (d := d) (v := v) (l := l) fun t' ht' hm => h t' ht' (List.mem_cons_of_mem _ hm)
    rw [evs, evs, ih]
    congr 1
    cases d with
    | none => rfl
    | some e =>
      simp only [upd]
      cases hb : Nat.beq t e with
      | false => rfl
      | true =>
        have := Nat.eq_of_beq_eq_true hb
        subst this
        exact absurd (List.mem_cons_self ..) (h t rfl)
theorem upd_off {ρ : Fr} {d : Option Nat} {v : Value} {t : Nat} (h : d ≠ some t) : upd ρ d v t = ρ t := by
  cases d with
  | none => rfl
  | some e =>
    simp only [upd]
    cases hb : Nat.beq t e with
    | false => rfl
    | true => have := Nat.eq_of_beq_eq_true hb; subst this; exact absurd rfl h
/-- A slot's value, put where the frame's reading finds it. -/
theorem at_slot {ρ : Fr} {t : Nat} {v : Value} (h : ρ t = v) : ρ = upd ρ (some t) v := by
  funext s
  simp only [upd]
  cases hb : Nat.beq s t with
  | false => rfl
  | true => have := Nat.eq_of_beq_eq_true hb; subst this; exact h

/-- A least one among the rest. -/
theorem least_of : ∀ {L : Ord}, L ≠ [] → ∃ x ∈ L, ∀ y ∈ L, x.1 ≤ y.1
  | [x], _ => ⟨x, by simp, fun y hy => by rw [List.mem_singleton.1 hy]; exact Nat.le_refl _⟩
  | x :: y :: L, _ => by
    obtain ⟨z, hz, hm⟩ := least_of (L := y :: L) (by simp)
    by_cases h : x.1 ≤ z.1
    · refine ⟨x, List.mem_cons_self .., fun u hu => ?_⟩
      rcases List.mem_cons.1 hu with rfl | hu
      · exact Nat.le_refl _
      · exact Nat.le_trans h (hm u hu)
    · refine ⟨z, List.mem_cons_of_mem _ hz, fun u hu => ?_⟩
      rcases List.mem_cons.1 hu with rfl | hu
      · omega
      · exact hm u hu

def offB (ops : Array Oper) (t : Nat) : Bool := (List.range ops.size).all fun j => match dstOf ops.toList j with | none => true | some d => !Nat.beq d t
theorem off_of {ops : Array Oper} {t : Nat} (h : offB ops t = true) : ∀ j, j < ops.size → dstOf ops.toList j ≠ some t := fun j hj e => by
  have := List.all_eq_true.1 h j (List.mem_range.2 hj)
  rw [e] at this
  simp at this
/-- The rule. -/
theorem fork_rule {P : Program} {T : Tab} (hT : Ties P T) (hm : P.follows .mixedOrders = true) {ops : Array Oper} {Q : Post} {ρ : Fr} {w : World} (f : Frk) (fin lo hi : Nat) (fact : Nat → List Value → (Nat → Prop) → World → Prop)
    (hB : frkB ops f fin lo hi = true)
    (stab : ∀ i vs B S w1 w2, fact i vs B w1 → Chg S w1 w2 → (∀ b, B b → ¬ S b) → (∀ b, S b → w.heap.size ≤ b) → fact i vs B w2)
    (step : ∀ i o, nthO ops.toList i = some o → ∀ (ρ' : Fr) (w1 : World), Ext w w1 → (∀ t, offB ops t = true → ρ' t = ρ t) → ∀ Bs : Nat → Nat → Prop,
      (∀ j, j ∈ f.use i → fact j (evs ρ' (f.dep j)) (Bs j) w1 ∧ ∀ b, Bs j b → w.heap.size ≤ b ∧ b < w1.heap.size) →
      (∀ j k, j ∈ f.use i → k ∈ f.use i → j ≠ k → ∀ b, Bs j b → ¬ Bs k b) →
      vcG P T ops.toList o ρ' w1 (fun ρ2 w2 => ∃ B, Chg (fun b => ∃ j, j ∈ f.use i ∧ Bs j b) w1 w2 ∧ fact i (evs ρ2 (f.dep i)) B w2 ∧ ∀ b, B b → (∃ j, j ∈ f.use i ∧ Bs j b) ∨ w1.heap.size ≤ b ∧ b < w2.heap.size))
    (fine : ∀ vs junk w2 B, Ext w w2 → fact fin vs B w2 → (∀ b, B b → w.heap.size ≤ b ∧ b < w2.heap.size) → Q .normal (over (f.dep fin) vs (hav lo hi junk ρ)) w2) : DrawRaw P ops Q ρ w := by
  intro id n a hfit hn hd hfr
  simp only [frkB, Bool.and_eq_true, List.all_eq_true, List.mem_range, Nat.blt_eq] at hB
  obtain ⟨⟨⟨hsel, haft⟩, hfin⟩, hall⟩ := hB
  have hI := fun i (hi : i < ops.size) => hall i hi
  simp only [frkI, Bool.and_eq_true, List.all_eq_true, List.mem_range, Nat.blt_eq, Bool.or_eq_true, Nat.beq_eq, Bool.not_eq_true', List.any_eq_true] at hI
  have huse : ∀ i, i < ops.size → ∀ j, j ∈ f.use i → j < ops.size ∧ direct ops i j = true := fun i hi j hj => ((hI i hi).1.1.1.1 j hj)
  have hlin : ∀ i k, i < ops.size → k < ops.size → k ≠ i → ∀ j, j ∈ f.use i → j ∉ f.use k := fun i k hi hk hne j hj hjk => by
    rcases ((hI i hi).1.1.1.2 k hk).1.1 with h | h
    · exact hne h
    · have := h j hj
      rw [List.contains_iff_mem.2 hjk] at this; cases this
  have hdep : ∀ i k d, i < ops.size → k < ops.size → dstOf ops.toList i = some d → d ∈ f.dep k → k = i ∨ direct ops k i = true := fun i k d hi hk hd hdk => by
    have := ((hI i hi).1.1.1.2 k hk).1.2
    rw [hd] at this
    simp only [Bool.or_eq_true, Bool.not_eq_true', Nat.beq_eq] at this
    rcases this with (h | h) | h
    · rw [List.contains_iff_mem.2 hdk] at h; cases h
    · exact .inl h
    · exact .inr h
  have hdir : ∀ i k, i < ops.size → k < ops.size → direct ops i k = true → k < i := fun i k hi hk h => by
    rcases ((hI i hi).1.1.1.2 k hk).2 with h' | h'
    · rw [h] at h'; cases h'
    · exact h'
  have hused : ∀ i, i < ops.size → i = fin ∨ ∃ k, k < ops.size ∧ i ∈ f.use k := fun i hi => by
    rcases (hI i hi).1.1.2 with h | ⟨k, hk, h⟩
    · exact .inl h
    · exact .inr ⟨k, hk, List.contains_iff_mem.1 h⟩
  have hslot : ∀ i d, i < ops.size → dstOf ops.toList i = some d → inSlots (f.dep fin) lo hi d = true := fun i d hi hd => by
    have := (hI i hi).1.2
    rw [hd] at this
    exact this
  have hfinu : ∀ k, k < ops.size → fin ∉ f.use k := fun k hk hm => by
    have := (hI k hk).2
    rw [List.any_eq_false] at this
    exact this k (List.mem_range.2 hk) (List.contains_iff_mem.2 hm)
  refine wp_region_any hm ?_
  refine any_gen hfit haft (fun L => (∀ x ∈ L, x.1 < ops.size) ∧ L.Pairwise (fun a b => a.1 ≠ b.1)) (fun L ρ' w' => FrkI ops f fact ρ w L ρ' w')
    (fun L hL => hL.1) ?_ ?_ ?_ ?_ ops.size ((List.range ops.size).map fun i => (i, Kd.loud)) _ a _ (by simp) (by simp) ?_ ?_ hn hd ?_
  · rintro X x Y ⟨_, hL⟩ y hy e
    rw [List.pairwise_append] at hL
    obtain ⟨_, h2, h3⟩ := hL
    rw [List.pairwise_cons] at h2
    rcases List.mem_append.1 hy with hy | hy
    · exact h3 y hy x (List.mem_cons_self ..) e
    · exact h2.1 y hy e.symm
  · rintro L ⟨hL, _⟩ hne
    obtain ⟨x, hx, hmin⟩ := least_of hne
    refine ⟨x, hx, fun y hy => ?_⟩
    cases hd : direct ops x.1 y.1 with
    | false => rfl
    | true => have := hdir _ _ (hL x hx) (hL y hy) hd; have := hmin y hy; omega
  · rintro ρ' w' ⟨hx, _, hs, Bs, hf, _⟩
    have hlive : Live ops.size f [] fin := ⟨hfin, (fun x (hx : x ∈ ([] : Ord)) => absurd hx (List.not_mem_nil)), fun i hi _ => hfinu i hi⟩
    have hO : Only (f.dep fin) lo hi ρ ρ' := fun t ht => hs t fun j hj e => by rw [hslot j t hj e] at ht; cases ht
    obtain ⟨h1, h2⟩ := hf fin hlive
    have := fine (evs ρ' (f.dep fin)) ρ' w' (Bs fin) hx h1 h2
    rwa [← only_eq hO] at this
  · rintro X ⟨i, kd⟩ Y ⟨hL, hP⟩ hno
    have hi : i < ops.size := hL (i, kd) (by simp)
    have hPP : (X ++ Y).Pairwise (fun a b => a.1 ≠ b.1) := hP.sublist (List.Sublist.append_left (List.sublist_cons_self _ _) _)
    have hnd : ∀ y ∈ X ++ Y, y.1 ≠ i := by
      intro y hy e
      rw [List.pairwise_append] at hP
      obtain ⟨_, h2, h3⟩ := hP
      rw [List.pairwise_cons] at h2
      rcases List.mem_append.1 hy with hy | hy
      · exact h3 y hy _ (List.mem_cons_self ..) e
      · exact h2.1 y hy e.symm
    have hmem : ∀ y, y ∈ X ++ (i, kd) :: Y ↔ y = (i, kd) ∨ y ∈ X ++ Y := fun y => by simp only [List.mem_append, List.mem_cons]; constructor <;> (intro h; rcases h with h | h | h <;> simp [h])
    have hin : ∀ k, NotIn (X ++ Y) k ↔ k = i ∨ NotIn (X ++ (i, kd) :: Y) k := fun k => by
      constructor
      · intro h
        by_cases e : k = i
        · exact .inl e
        · refine .inr fun x hx hxe => ?_
          rcases (hmem x).1 hx with rfl | hx
          · exact e hxe.symm
          · exact h x hx hxe
      · rintro (rfl | h)
        · exact fun x hx => hnd x hx
        · exact fun x hx => h x ((hmem x).2 (.inr hx))
    have hiL : ¬ NotIn (X ++ (i, kd) :: Y) i := fun h => h (i, kd) (by simp) rfl
    refine ⟨⟨fun x hx => hL x ((hmem x).2 (.inr hx)), hPP⟩, fun ρ' w' o ho h => ?_⟩
    obtain ⟨hx, hpre, hs, Bs, hf, hdis⟩ := h
    have hready : ∀ j, j < ops.size → direct ops i j = true → NotIn (X ++ (i, kd) :: Y) j := fun j hj hd x hxm hxe => by
      have := hno x hxm
      rw [hxe, hd] at this; cases this
    have hul : ∀ j, j ∈ f.use i → Live ops.size f (X ++ (i, kd) :: Y) j := fun j hj => by
      obtain ⟨h1, h2⟩ := huse i hi j hj
      refine ⟨h1, hready j h1 h2, fun k hk hkn hjk => ?_⟩
      have : k ≠ i := fun e => hiL (e ▸ hkn)
      exact hlin i k hi hk this j hj hjk
    have hst := step i o ho ρ' w' hx (fun t ht => hs t (off_of ht)) Bs (fun j hj => hf j (hul j hj)) (fun j k hj hk => hdis j k (hul j hj) (hul k hk))
    refine (vcG_SG hT hst).mono fun v w2 => ?_
    rintro ⟨B, hch, hfa, hb⟩
    have hold : ∀ b, (∃ j, j ∈ f.use i ∧ Bs j b) → w.heap.size ≤ b ∧ b < w'.heap.size := fun b ⟨j, hj, hjb⟩ => (hf j (hul j hj)).2 b hjb
    have hz := hch.size
    have hz0 := hx.size
    have hBb : ∀ b, B b → w.heap.size ≤ b ∧ b < w2.heap.size := fun b hb' => by
      rcases hb b hb' with h | h
      · have := hold b h; omega
      · omega
    have hlv : ∀ k, Live ops.size f (X ++ Y) k → k ≠ i → Live ops.size f (X ++ (i, kd) :: Y) k ∧ k ∉ f.use i := fun k ⟨h1, h2, h3⟩ hne => by
      refine ⟨⟨h1, ((hin k).1 h2).resolve_left hne, fun j hj hjn => h3 j hj ((hin j).2 (.inr hjn))⟩, h3 i hi ((hin i).2 (.inl rfl))⟩
    have hdst : dstOf ops.toList i = o.dst := by simp only [dstOf, ho]
    have hsep : ∀ k, Live ops.size f (X ++ Y) k → k ≠ i → ∀ b, Bs k b → ¬ ∃ j, j ∈ f.use i ∧ Bs j b := fun k hk hne b hb' ⟨j, hj, hjb⟩ => by
      obtain ⟨h1, h2⟩ := hlv k hk hne
      exact hdis j k (hul j hj) h1 (fun e => h2 (e ▸ hj)) b hjb hb'
    refine ⟨hx.chg hch fun b hb' => (hold b hb').1, fun k hk hkn j hj hd => ?_, fun t ht => ?_, fun k => if k = i then B else Bs k, fun k hk => ?_, fun j k hj hk hne b hjb hkb => ?_⟩
    · refine (hin j).2 ?_
      rcases (hin k).1 hkn with rfl | h
      · exact .inr (hready j hj hd)
      · exact .inr (hpre k hk h j hj hd)
    · rw [upd_off (by rw [← hdst]; exact ht i hi)]
      exact hs t ht
    · by_cases e : k = i
      · subst e
        simp only [if_true]
        exact ⟨hfa, hBb⟩
      · simp only [e, if_false]
        obtain ⟨h1, h2⟩ := hlv k hk e
        obtain ⟨g1, g2⟩ := hf k h1
        refine ⟨?_, fun b hb' => by have := g2 b hb'; omega⟩
        rw [evs_upd fun t ht hm => ?_]
        · exact stab k _ _ _ _ _ g1 hch (fun b hb' => hsep k hk e b hb') fun b hb' => (hold b hb').1
        · rcases hdep i k t hi hk.1 (hdst.trans ht) hm with h | h
          · exact e h
          · exact hiL (hpre k hk.1 h1.2.1 i hi h)
    · by_cases e : j = i
      · subst e
        have e' : k ≠ j := fun h => hne h.symm
        simp only [if_true, e', if_false] at hjb hkb
        obtain ⟨h1, h2⟩ := hlv k hk e'
        rcases hb b hjb with h | h
        · exact hsep k hk e' b hkb h
        · have := (hf k h1).2 b hkb; omega
      · by_cases e' : k = i
        · subst e'
          simp only [if_true, e, if_false] at hjb hkb
          obtain ⟨h1, h2⟩ := hlv j hj e
          rcases hb b hkb with h | h
          · exact hsep j hj e b hjb h
          · have := (hf j h1).2 b hjb; omega
        · simp only [e, e', if_false] at hjb hkb
          exact hdis j k (hlv j hj e).1 (hlv k hk e').1 hne b hjb hkb
  · refine ⟨fun x hx => ?_, ?_⟩
    · obtain ⟨i, hi, rfl⟩ := List.mem_map.1 hx
      exact List.mem_range.1 hi
    · rw [List.pairwise_map]
      exact List.nodup_range.imp fun h => h
  · intro j hj
    constructor
    · intro _; exact ⟨(j, .loud), List.mem_map.2 ⟨j, List.mem_range.2 hj, rfl⟩, rfl⟩
    · intro _; simp [hj]
  · have hnot : ∀ k, k < ops.size → ¬ NotIn ((List.range ops.size).map fun i => (i, Kd.loud)) k := fun k hk h => h (k, .loud) (List.mem_map.2 ⟨k, List.mem_range.2 hk, rfl⟩) rfl
    subst hfr
    exact ⟨⟨rfl, rfl, rfl, Nat.le_refl _, fun _ _ => rfl⟩, fun k hk h => absurd h (hnot k hk), fun _ _ => rfl, fun _ _ => False, fun k hk => absurd hk.2.1 (hnot k hk.1), fun j k hj => absurd hj.2.1 (hnot j hj.1)⟩

end Go.Vc
