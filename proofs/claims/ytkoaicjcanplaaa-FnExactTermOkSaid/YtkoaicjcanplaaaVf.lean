/- The calculus, fourth part: code; soundness; a function's contract. -/
import Derived.Test.YtkoaicjcanplaaaVe
import Derived.Deep.LoopGhost
namespace Go.Vc
open Go Go.RowKit

/-- All that was there is as it was; more may be there. -/
abbrev Ext (w w' : World) : Prop := Below w.heap.size w w'
theorem Ext.refl (w : World) : Ext w w := Below.refl _ _
theorem Ext.trans {a b c : World} (h : Ext a b) (k : Ext b c) : Ext a c := Below.trans h (Below.mono k h.size)
theorem Ext.alloc {a w : World} (h : Ext a w) (o : Obj) : Ext a (w.alloc o) := Below.alloc h h.size o
theorem Ext.new (w : World) (o : Obj) : Ext w (w.alloc o) := (Ext.refl w).alloc o
theorem Ext.cell {w w' : World} (h : Ext w w') {a : Addr} {v : Value} (hc : w.cell? a = some v) : w'.cell? a = some v :=
  (Below.cell h (World.block_lt_of_cell? w a hc)).trans hc
theorem CellsAt.ext {w w' : World} (h : Ext w w') {b : Nat} : ∀ {vs : List Value} {o : Nat}, CellsAt w b o vs → CellsAt w' b o vs
  | [], _, _ => trivial
  | _ :: _, _, hc => ⟨h.cell hc.1, CellsAt.ext h hc.2⟩

abbrev Post := Exit → Fr → World → Prop

def nthO : List Oper → Nat → Option Oper
  | [], _ => none
  | o :: _, 0 => some o
  | _ :: l, n + 1 => nthO l n

def dstOf (all : List Oper) (j : Nat) : Option Nat :=
  match nthO all j with
  | some o => o.dst
  | none => none

/-- An operation under its guard. -/
def vcG (P : Program) (T : Tab) (all : List Oper) (o : Oper) (ρ : Fr) (w : World) (K : Fr → World → Prop) : Prop :=
  match o.guard with
  | none => vcOp P T o ρ w (fun v w' => K (upd ρ o.dst v) w')
  | some (j, want) =>
    match dstOf all j with
    | none => K (upd ρ o.dst undef) w
    | some d =>
      match ρ d with
      | .bool b => br b fun t => bif xor t want then K (upd (upd ρ (some d) (.bool t)) o.dst undef) w
          else vcOp P T o (upd ρ (some d) (.bool t)) w (fun v w' => K (upd (upd ρ (some d) (.bool t)) o.dst v) w')
      | _ => K (upd ρ o.dst undef) w

def vcOps (P : Program) (T : Tab) (all : List Oper) : List Oper → Post → Fr → World → Prop
  | [], Q, ρ, w => Q .normal ρ w
  | o :: rest, Q, ρ, w => vcG P T all o ρ w (fun ρ' w' => vcOps P T all rest Q ρ' w')

def vcIdx (P : Program) (T : Tab) (all : List Oper) : List Nat → Post → Fr → World → Prop
  | [], Q, ρ, w => Q .normal ρ w
  | i :: rest, Q, ρ, w => match nthO all i with
    | none => vcIdx P T all rest Q ρ w
    | some o => vcG P T all o ρ w (fun ρ' w' => vcIdx P T all rest Q ρ' w')

/-- A quiet operation: one value in every later world. -/
def vcOpQ (P : Program) (T : Tab) (w : World) (o : Oper) (ρ : Fr) (K : Value → Prop) : Prop :=
  match vcP T o ρ K with
  | some p => p
  | none =>
    match o.op with
    | .load t a => match look T t, ev ρ a with
        | some r, .pointer (some ⟨b, off, none⟩) =>
          bif r.agg then ∃ vs, vs.length = r.size ∧ CellsAt w b off vs ∧ K (.agg vs.toArray)
          else ∃ v, w.cell? ⟨b, off, none⟩ = some v ∧ K v
        | _, _ => False
    | .call c => match c.callee with
        | .value f => match ev ρ f with
            | .func (.func g) first captured => ∃ v, (∀ w', Ext w w' → Ret P g (first.toList ++ evl ρ c.args.toList ++ captured.toList).toArray w' (fun v' w'' => v' = v ∧ Ext w' w'')) ∧ K v
            | _ => False
        | _ => ∃ v, (∀ w', Ext w w' → (execOp (ev ρ) o).run P w' = .ok (.value v) w') ∧ K v
    | _ => ∃ v, (∀ w', Ext w w' → (execOp (ev ρ) o).run P w' = .ok (.value v) w') ∧ K v

def vcQG (P : Program) (T : Tab) (w : World) (all : List Oper) (o : Oper) (ρ : Fr) (K : Fr → Prop) : Prop :=
  match o.guard with
  | none => vcOpQ P T w o ρ (fun v => K (upd ρ o.dst v))
  | some (j, want) =>
    match dstOf all j with
    | none => K (upd ρ o.dst undef)
    | some d =>
      match ρ d with
      | .bool b => br b fun t => bif xor t want then K (upd (upd ρ (some d) (.bool t)) o.dst undef)
          else vcOpQ P T w o (upd ρ (some d) (.bool t)) (fun v => K (upd (upd ρ (some d) (.bool t)) o.dst v))
      | _ => K (upd ρ o.dst undef)

def vcQ (P : Program) (T : Tab) (w : World) (all : List Oper) : List Oper → (Fr → Prop) → Fr → Prop
  | [], Q, ρ => Q ρ
  | o :: rest, Q, ρ => vcQG P T w all o ρ (fun ρ' => vcQ P T w all rest Q ρ')

def fr (a : Act) : Fr := fun t => a.tmps.getD t undef
def opFits (n : Nat) (o : Oper) : Bool :=
  match o.dst with
  | none => true
  | some d => Nat.blt d n
def Lift (n : Nat) (Q : Post) : Exit → Act → World → Prop := fun e a w => a.tmps.size = n ∧ a.defers = [] ∧ Q e (fr a) w
/-- A region that draws its order, in the model's own words. -/
def DrawRaw (P : Program) (ops : Array Oper) (Q : Post) (ρ : Fr) (w : World) : Prop :=
  ∀ (id n : Nat) (a : Act), ops.toList.all (opFits n) = true → a.tmps.size = n → a.defers = [] → fr a = ρ → (Code.region id ops true).wp P (Lift n Q) a w

/-- A region that draws its order: quiet in the order of the text; or in every order. -/
def vcDraw (P : Program) (T : Tab) (ops : Array Oper) (Q : Post) (ρ : Fr) (w : World) : Prop :=
  (Region.lexB .any ops = true ∧ vcQ P T w ops.toList ops.toList (fun ρ' => ∀ w', Ext w w' → Q .normal ρ' w') ρ) ∨
  (∀ t, vcIdx P T ops.toList (Region.schedule true ops t) Q ρ { w with drawn := w.drawn + 1 }) ∨ DrawRaw P ops Q ρ w

def seqP (next : Fr → World → Prop) (Q : Post) : Post := fun e ρ w =>
  match e with
  | .normal => next ρ w
  | e => Q e ρ w
def blockP (id : Nat) (Q : Post) : Post := fun e ρ w =>
  match e with
  | .exit j => bif Nat.beq j id then Q .normal ρ w else Q (.exit j) ρ w
  | e => Q e ρ w

def LoopVc (body : Post → Fr → World → Prop) (Q : Post) (ρ : Fr) (w : World) : Prop :=
  ∃ (I : Nat → Fr → World → Prop) (n₀ : Nat), I n₀ ρ w ∧ ∀ n ρ w, I n ρ w → body (seqP (fun ρ' w' => ∃ k, k < n ∧ I k ρ' w') Q) ρ w

def vc (P : Program) (T : Tab) : Code → Post → Fr → World → Prop
  | .skip, Q, ρ, w => Q .normal ρ w
  | .label _, Q, ρ, w => Q .normal ρ w
  | .ret, Q, ρ, w => Q .ret ρ w
  | .exit id, Q, ρ, w => Q (.exit id) ρ w
  | .seq a b, Q, ρ, w => vc P T a (seqP (fun ρ w => vc P T b Q ρ w) Q) ρ w
  | .cond c x y, Q, ρ, w => match ev ρ c with
    | .bool t => br t fun t => bif t then vc P T x Q ρ w else vc P T y Q ρ w
    | _ => False
  | .block id c, Q, ρ, w => vc P T c (blockP id Q) ρ w
  | .loop c, Q, ρ, w => LoopVc (fun Q ρ w => vc P T c Q ρ w) Q ρ w
  | .region _ ops draw, Q, ρ, w => bif draw then vcDraw P T ops Q ρ w else vcOps P T ops.toList ops.toList Q ρ w
  | _, _, _, _ => False

/-! ### Soundness -/
def codeFits (n : Nat) : Code → Bool
  | .region _ ops _ => ops.toList.all (opFits n)
  | .seq a b => codeFits n a && codeFits n b
  | .cond _ a b => codeFits n a && codeFits n b
  | .block _ b => codeFits n b
  | .loop b => codeFits n b
  | _ => true

theorem eval_fr (a : Act) : a.eval = ev (fr a) := by funext x; cases x <;> rfl

theorem put_size (a : Act) (d : Option Nat) (v : Value) : (a.put d v).tmps.size = a.tmps.size := by cases d <;> simp [Act.put]
theorem put_defers (a : Act) (d : Option Nat) (v : Value) : (a.put d v).defers = a.defers := by cases d <;> rfl
theorem fr_put {a : Act} {o : Oper} {n : Nat} (hn : a.tmps.size = n) (ho : opFits n o = true) (v : Value) : fr (a.put o.dst v) = upd (fr a) o.dst v := by
  cases hd : o.dst with
  | none => rfl
  | some d =>
    simp only [opFits, hd, Nat.blt_eq] at ho
    funext t
    simp only [fr, Act.put, upd]
    by_cases e : t = d
    · subst e
      simp [hn, ho]
    · have : Nat.beq t d = false := by
        cases hb : Nat.beq t d with
        | false => rfl
        | true => exact absurd (Nat.eq_of_beq_eq_true hb) e
      rw [this]
      simp [Array.getD_eq_getD_getElem?, Array.getElem?_setIfInBounds_ne (Ne.symm e)]

theorem upd_same {ρ : Fr} {d : Nat} {v : Value} (h : ρ d = v) : upd ρ (some d) v = ρ := by
  funext t
  simp only [upd]
  cases hb : Nat.beq t d with
  | true => have := Nat.eq_of_beq_eq_true hb; subst this; exact h.symm
  | false => rfl

theorem nthO_eq (l : List Oper) : ∀ i, nthO l i = l[i]? := by
  induction l with
  | nil => intro i; rfl
  | cons o l ih => intro i; cases i with
    | zero => rfl
    | succ i => simpa [nthO] using ih i

theorem wp_of_step {P : Program} {o : Oper} {a : Act} {w : World} {n : Nat} (hn : a.tmps.size = n) (hd : a.defers = []) (ho : opFits n o = true)
    {K : Fr → World → Prop} {next : Act → World → Prop} {Q : Exit → Act → World → Prop}
    (hK : ∀ a w, a.tmps.size = n → a.defers = [] → K (fr a) w → next a w)
    (h : Step P o (fr a) w (fun v w' => K (upd (fr a) o.dst v) w')) : o.wp P a w next Q := by
  have put : ∀ v w', K (upd (fr a) o.dst v) w' → next (a.put o.dst v) w' := fun v w' hk =>
    hK _ _ (by rw [put_size, hn]) (by rw [put_defers, hd]) (by rw [fr_put hn ho]; exact hk)
  unfold Oper.wp
  rw [eval_fr]
  rcases h with ⟨nx, v, w', hr, hv, hk⟩ | ⟨g, args, hr, hc⟩
  · rw [hr]
    cases nx <;> simp [nv] at hv
    · subst hv; exact put _ _ hk
    · subst hv; exact put _ _ hk
  · rw [hr, Oper.upon_enter]
    exact hc.mono fun e w' ⟨v, he, hk⟩ => by subst he; exact put _ _ hk

theorem yielded_fr (ops : Array Oper) (a : Act) (j : Nat) : yielded ops a.tmps j = match dstOf ops.toList j with
    | none => none
    | some d => (match fr a d with | .bool b => some b | _ => none) := by
  unfold yielded dstOf
  rw [nthO_eq, Array.getElem?_toList]
  cases ho : ops[j]? with
  | none => rfl
  | some o =>
    cases hd : o.dst with
    | none => simp [hd]
    | some d =>
      simp only [Option.bind_some, hd]
      simp only [fr, Array.getD_eq_getD_getElem?]
      cases ht : a.tmps[d]? with
      | none => rfl
      | some v => cases v <;> rfl

/-- An operation under its guard, in the model's own words. -/
theorem guarded_sound {P : Program} {T : Tab} (hT : Ties P T) {ops : Array Oper} {o : Oper} {a : Act} {w : World} {n : Nat} (hn : a.tmps.size = n) (hd : a.defers = []) (ho : opFits n o = true)
    {K : Fr → World → Prop} {next : Act → World → Prop} {Q : Exit → Act → World → Prop}
    (hK : ∀ a w, a.tmps.size = n → a.defers = [] → K (fr a) w → next a w)
    (h : vcG P T ops.toList o (fr a) w K) :
    if Region.wanted o (yielded ops a.tmps) then o.wp P a w next Q else next (a.put o.dst undef) w := by
  have skip : K (upd (fr a) o.dst undef) w → next (a.put o.dst undef) w := fun hk =>
    hK _ _ (by rw [put_size, hn]) (by rw [put_defers, hd]) (by rw [fr_put hn ho]; exact hk)
  unfold vcG at h
  cases hg : o.guard with
  | none =>
    simp only [hg] at h
    rw [if_pos (by simp [Region.wanted, hg])]
    exact wp_of_step hn hd ho hK (vcOp_sound hT h)
  | some g =>
    obtain ⟨j, want⟩ := g
    simp only [hg] at h
    have hy := yielded_fr ops a j
    cases hj : dstOf ops.toList j with
    | none =>
      simp only [hj] at h hy
      rw [if_neg (by simp [Region.wanted, hg, hy])]
      exact skip h
    | some d =>
      simp only [hj] at h hy
      cases hv : fr a d with
      | bool b =>
        simp only [hv] at h hy
        rw [br_at, upd_same hv] at h
        cases hx : xor b want with
        | true =>
          rw [hx] at h
          rw [if_neg (by cases b <;> cases want <;> simp_all [Region.wanted])]
          exact skip h
        | false =>
          rw [hx] at h
          rw [if_pos (by cases b <;> cases want <;> simp_all [Region.wanted])]
          exact wp_of_step hn hd ho hK (vcOp_sound hT h)
      | _ =>
        simp only [hv] at h hy
        rw [if_neg (by simp [Region.wanted, hg, hy])]
        exact skip h

theorem ops_sound {P : Program} {T : Tab} (hT : Ties P T) {ops : Array Oper} {n : Nat} {Q : Post} : ∀ (l : List Oper), l.all (opFits n) = true → ∀ (a : Act) (w : World), a.tmps.size = n → a.defers = [] →
    vcOps P T ops.toList l Q (fr a) w → wpList P ops (Lift n Q) l a w := by
  intro l
  induction l with
  | nil => intro _ a w hn hd h; exact ⟨hn, hd, h⟩
  | cons o l ih =>
    intro hf a w hn hd h
    simp only [List.all_cons, Bool.and_eq_true] at hf
    refine wpList_step fun K hK => ?_
    exact guarded_sound hT hn hd hf.1 (fun a w hn hd hk => hK _ _ (ih hf.2 a w hn hd hk)) h

theorem idx_sound {P : Program} {T : Tab} (hT : Ties P T) {ops : Array Oper} {n : Nat} (hf : ops.toList.all (opFits n) = true) {Q : Post} : ∀ (l : List Nat) (a : Act) (w : World), a.tmps.size = n → a.defers = [] →
    vcIdx P T ops.toList l Q (fr a) w → wpOps P ops (Lift n Q) l a w := by
  intro l
  induction l with
  | nil => intro a w hn hd h; exact ⟨hn, hd, h⟩
  | cons i l ih =>
    intro a w hn hd h
    simp only [vcIdx, nthO_eq, Array.getElem?_toList] at h
    simp only [wpOps]
    cases ho : ops[i]? with
    | none =>
      simp only [ho] at h
      exact ih a w hn hd h
    | some o =>
      simp only [ho] at h
      have hfo : opFits n o = true := by
        have := List.all_eq_true.1 hf o
        exact this (by
          rw [Array.mem_toList_iff]
          exact Array.mem_of_getElem? ho)
      have := guarded_sound (Q := Lift n Q) (next := wpOps P ops (Lift n Q) l) hT hn hd hfo (fun a w hn hd hk => ih a w hn hd hk) h
      dsimp only
      split
      · rename_i hw; rw [if_pos hw] at this; exact .inl this
      · rename_i hw; rw [if_neg hw] at this; exact this

theorem quiet_sound {P : Program} {T : Tab} (hT : Ties P T) {o : Oper} {a : Act} {w : World} {K : Value → Prop} (h : vcOpQ P T w o (fr a) K) :
    ∃ v, (∀ w', Ext w w' → o.quietAt P a (Ext w) w' v) ∧ K v := by
  unfold vcOpQ at h
  split at h
  · rename_i p hp
    obtain ⟨v, hk, hr⟩ := vcP_sound hT hp h
    refine ⟨v, fun w' _ => ?_, hk⟩
    unfold Oper.quietAt
    rw [eval_fr, hr w']
    exact ⟨rfl, rfl⟩
  · split at h
    case h_1 t ad ho =>
      split at h
      · rename_i r b off hr ha
        have hf := ties_look hT hr
        cases hg : r.agg with
        | true =>
          rw [hg] at h
          obtain ⟨vs, hl, hc, hk⟩ := h
          refine ⟨_, fun w' hx => ?_, hk⟩
          have h1 := hf.run_agg w'
          have h2 := hf.run_size w'
          have h3 := run_cells (P := P) (CellsAt.ext hx hc)
          rw [hl] at h3
          rw [hg] at h1
          unfold Oper.quietAt
          rw [eval_fr]
          simp [execOp, ho, ha, Instr.loadAt, Instr.sureAddr, loadVar, h1, h2, h3, Oper.quietUpon]
        | false =>
          rw [hg] at h
          obtain ⟨v, hc, hk⟩ := h
          refine ⟨_, fun w' hx => ?_, hk⟩
          have h1 := hf.run_agg w'
          rw [hg] at h1
          have hc' := hx.cell hc
          unfold Oper.quietAt
          rw [eval_fr]
          simp [execOp, ho, ha, Instr.loadAt, Instr.sureAddr, loadVar, h1, load, Sem.run, hc', Oper.quietUpon]
      · exact h.elim
    case h_2 c ho =>
      split at h
      · rename_i f hc
        split at h
        · rename_i g fi ca hf
          obtain ⟨v, hcalls, hk⟩ := h
          refine ⟨v, fun w' hx => ?_, hk⟩
          obtain ⟨⟨fn, hfn, hbody, hname⟩, hcall⟩ := hcalls w' hx
          have hb : ¬ fn.body = none := by cases hx : fn.body <;> simp_all
          have hname' : ¬ fn.name = "runtime.NumGoroutine" := by simpa using hname
          have e : (fi.toList ++ evl (fr a) c.args.toList ++ ca.toList).toArray = fi ++ (c.args.map (ev (fr a)) ++ ca) := by
            rw [evl_map]; simp
          rw [e] at hcall
          unfold Oper.quietAt
          rw [eval_fr]
          have hr : (execOp (ev (fr a)) o).run P w' = .ok (.enter g (fi ++ (c.args.map (ev (fr a)) ++ ca))) w' := by
            simp [execOp, ho, resolve, hc, hf, Deferred.ofValue, invoke, callFunc, hfn, hb, hname', program, Sem.run]
          rw [hr]
          refine ⟨rfl, hcall.mono ?_⟩
          rintro e w'' ⟨v', rfl, rfl, hx'⟩
          exact ⟨rfl, hx.trans hx'⟩
        · exact h.elim
      · obtain ⟨v, hr, hk⟩ := h
        refine ⟨v, fun w' hx => ?_, hk⟩
        unfold Oper.quietAt
        rw [eval_fr, hr w' hx]
        exact ⟨rfl, rfl⟩
    case h_3 =>
      obtain ⟨v, hr, hk⟩ := h
      refine ⟨v, fun w' hx => ?_, hk⟩
      unfold Oper.quietAt
      rw [eval_fr, hr w' hx]
      exact ⟨rfl, rfl⟩

theorem opsQ_sound {P : Program} {T : Tab} (hT : Ties P T) {ops : Array Oper} {n : Nat} {w : World} {Q : Fr → Prop} : ∀ (l : List Oper), l.all (opFits n) = true → ∀ (a : Act), a.tmps.size = n → a.defers = [] →
    vcQ P T w ops.toList l Q (fr a) → wpQuiet P ops (Ext w) (fun a => a.tmps.size = n ∧ a.defers = [] ∧ Q (fr a)) l a := by
  intro l
  induction l with
  | nil => intro _ a hn hd h; exact ⟨hn, hd, h⟩
  | cons o l ih =>
    intro hf a hn hd h
    simp only [List.all_cons, Bool.and_eq_true] at hf
    have ho := hf.1
    have put : ∀ v, vcQ P T w ops.toList l Q (upd (fr a) o.dst v) → wpQuiet P ops (Ext w) (fun a => a.tmps.size = n ∧ a.defers = [] ∧ Q (fr a)) l (a.put o.dst v) := fun v hk =>
      ih hf.2 _ (by rw [put_size, hn]) (by rw [put_defers, hd]) (by rw [fr_put hn ho]; exact hk)
    have run : vcOpQ P T w o (fr a) (fun v => vcQ P T w ops.toList l Q (upd (fr a) o.dst v)) → o.quiet P a (Ext w) (wpQuiet P ops (Ext w) (fun a => a.tmps.size = n ∧ a.defers = [] ∧ Q (fr a)) l) := fun hk => by
      obtain ⟨v, h1, h2⟩ := quiet_sound hT hk
      exact ⟨v, h1, put v h2⟩
    show if Region.wanted o (yielded ops a.tmps) then _ else _
    simp only [vcQ, vcQG] at h
    cases hg : o.guard with
    | none =>
      simp only [hg] at h
      rw [if_pos (by simp [Region.wanted, hg])]
      exact run h
    | some g =>
      obtain ⟨j, want⟩ := g
      simp only [hg] at h
      have hy := yielded_fr ops a j
      cases hj : dstOf ops.toList j with
      | none =>
        simp only [hj] at h hy
        rw [if_neg (by simp [Region.wanted, hg, hy])]
        exact put _ h
      | some d =>
        simp only [hj] at h hy
        cases hv : fr a d with
        | bool b =>
          simp only [hv] at h hy
          rw [br_at, upd_same hv] at h
          cases hx : xor b want with
          | true =>
            rw [hx] at h
            rw [if_neg (by cases b <;> cases want <;> simp_all [Region.wanted])]
            exact put _ h
          | false =>
            rw [hx] at h
            rw [if_pos (by cases b <;> cases want <;> simp_all [Region.wanted])]
            exact run h
        | _ =>
          simp only [hv] at h hy
          rw [if_neg (by simp [Region.wanted, hg, hy])]
          exact put _ h

theorem wpQuiet_mono {P : Program} {ops : Array Oper} {C : World → Prop} {Q Q' : Act → Prop} (h : ∀ a, Q a → Q' a) : ∀ (l : List Oper) (a : Act), wpQuiet P ops C Q l a → wpQuiet P ops C Q' l a
  | [], a, hh => h a hh
  | o :: l, a, hh => by
    simp only [wpQuiet] at *
    split
    · rename_i hw; rw [if_pos hw] at hh; exact Oper.quiet_mono (fun a => wpQuiet_mono h l a) hh
    · rename_i hw; rw [if_neg hw] at hh; exact wpQuiet_mono h l _ hh

theorem vc_sound {P : Program} {T : Tab} (hT : Ties P T) (hm : P.follows .mixedOrders = true) {n : Nat} : ∀ (c : Code), codeFits n c = true → ∀ (Q : Post) (a : Act) (w : World), a.tmps.size = n → a.defers = [] →
    vc P T c Q (fr a) w → c.wp P (Lift n Q) a w := by
  intro c
  induction c with
  | skip => intro _ Q a w hn hd h; exact wp_skip ⟨hn, hd, h⟩
  | label l => intro _ Q a w hn hd h; exact wp_label ⟨hn, hd, h⟩
  | ret => intro _ Q a w hn hd h; exact wp_ret ⟨hn, hd, h⟩
  | exit id => intro _ Q a w hn hd h; exact wp_exit ⟨hn, hd, h⟩
  | goto l => intro _ Q a w hn hd h; exact h.elim
  | refuse s => intro _ Q a w hn hd h; exact h.elim
  | scope b ih => intro _ Q a w hn hd h; exact h.elim
  | rangeFunc f ps x y ihx ihy => intro _ Q a w hn hd h; exact h.elim
  | seq x y ihx ihy =>
    intro hf Q a w hn hd h
    simp only [codeFits, Bool.and_eq_true] at hf
    refine wp_seq (Code.wp_mono ?_ (ihx hf.1 _ a w hn hd h))
    rintro e a w ⟨hn, hd, hq⟩
    cases e with
    | normal => exact ihy hf.2 Q a w hn hd hq
    | _ => exact ⟨hn, hd, hq⟩
  | cond c x y ihx ihy =>
    intro hf Q a w hn hd h
    simp only [codeFits, Bool.and_eq_true] at hf
    simp only [vc] at h
    split at h
    · rename_i t ht
      rw [br_at] at h
      refine wp_cond (t := t) (by rw [eval_fr]; exact ht) ?_
      cases t with
      | true => exact ihx hf.1 Q a w hn hd h
      | false => exact ihy hf.2 Q a w hn hd h
    · exact h.elim
  | block id c ih =>
    intro hf Q a w hn hd h
    refine wp_block (Code.wp_mono ?_ (ih hf _ a w hn hd h))
    rintro e a w ⟨hn, hd, hq⟩
    cases e with
    | exit j =>
      simp only [blockP] at hq
      show if j = id then _ else _
      cases hb : Nat.beq j id with
      | true => rw [if_pos (Nat.eq_of_beq_eq_true hb)]; rw [hb] at hq; exact ⟨hn, hd, hq⟩
      | false => rw [if_neg (Nat.ne_of_beq_eq_false hb)]; rw [hb] at hq; exact ⟨hn, hd, hq⟩
    | _ => exact ⟨hn, hd, hq⟩
  | loop c ih =>
    intro hf Q a w hn hd h
    obtain ⟨I, n0, h0, hr⟩ := h
    refine wp_loop_ghost (fun k a w => a.tmps.size = n ∧ a.defers = [] ∧ I k (fr a) w) n0 ⟨hn, hd, h0⟩ ?_
    rintro k a w ⟨hn, hd, hI⟩
    refine Code.wp_mono ?_ (ih hf _ a w hn hd (hr _ _ _ hI))
    rintro e a w ⟨hn, hd, hq⟩
    cases e with
    | normal => obtain ⟨m, hm, hq⟩ := hq; exact ⟨m, hm, hn, hd, hq⟩
    | _ => exact ⟨hn, hd, hq⟩
  | region id ops draw =>
    intro hf Q a w hn hd h
    cases draw with
    | false => exact wp_region_list (ops_sound hT _ hf a w hn hd h)
    | true =>
      rcases h with ⟨hB, h⟩ | h | h
      · refine wp_region_quiet (C := Ext w) hm hB ⟨rfl, rfl, rfl, Nat.le_refl _, fun _ _ => rfl⟩ ?_
        have := opsQ_sound hT ops.toList hf a hn hd h
        refine wpQuiet_mono ?_ _ _ this
        rintro a ⟨hn, hd, hq⟩ w' hx
        exact ⟨hn, hd, hq w' hx⟩
      · refine wp_region_draw fun t => ?_
        rw [hm]
        exact idx_sound hT hf _ a _ hn hd (h t)
      · exact h id n a hf hn hd rfl

end Go.Vc
