/- The calculus, sixth part: a region that draws its order, with calls that make new memory: quiet operations float, the others keep their order. -/
import Derived.Test.YtkoaicjcanplaaaVg
import Derived.Orders
namespace Go.Vc
open Go Go.RowKit

inductive Kd
  | quiet
  | loud
  | wild
  deriving DecidableEq
abbrev Ord := List (Nat × Kd)

def wantedF (all : List Oper) (o : Oper) (ρ : Fr) : Bool :=
  match o.guard with
  | none => true
  | some (j, want) => match dstOf all j with
    | none => false
    | some d => match ρ d with
      | .bool b => b == want
      | _ => false

/-- An operation under its guard, by its value. -/
def SG (P : Program) (all : List Oper) (o : Oper) (ρ : Fr) (w : World) (K : Value → World → Prop) : Prop :=
  if wantedF all o ρ = true then Step P o ρ w K else K undef w

theorem Step.mono {P : Program} {o : Oper} {ρ : Fr} {w : World} {K K' : Value → World → Prop} (hk : ∀ v w', K v w' → K' v w') (h : Step P o ρ w K) : Step P o ρ w K' := by
  rcases h with ⟨n, v, w', h1, h2, h3⟩ | ⟨g, args, h1, h2⟩
  · exact .inl ⟨n, v, w', h1, h2, hk _ _ h3⟩
  · exact .inr ⟨g, args, h1, h2.mono fun e w' ⟨v, he, h⟩ => ⟨v, he, hk _ _ h⟩⟩
theorem SG.mono {P : Program} {all : List Oper} {o : Oper} {ρ : Fr} {w : World} {K K' : Value → World → Prop} (hk : ∀ v w', K v w' → K' v w') (h : SG P all o ρ w K) : SG P all o ρ w K' := by
  unfold SG at *
  split
  · rename_i hw; rw [if_pos hw] at h; exact h.mono hk
  · rename_i hw; rw [if_neg hw] at h; exact hk _ _ h

def Hyb (P : Program) (all : List Oper) (Q : Fr → World → Prop) : Ord → Fr → World → Prop
  | [], ρ, w0 => ∀ w, Ext w0 w → Q ρ w
  | (i, k) :: L, ρ, w0 => match nthO all i with
    | none => False
    | some o => match k with
      | .quiet => ∃ v, (∀ w, Ext w0 w → SG P all o ρ w (fun v' w' => v' = v ∧ Ext w w')) ∧ Hyb P all Q L (upd ρ o.dst v) w0
      | .loud => ∀ w, Ext w0 w → SG P all o ρ w (fun v w' => Ext w w' ∧ Hyb P all Q L (upd ρ o.dst v) w')
      | .wild => ∀ w, Ext w0 w → SG P all o ρ w (fun v w' => Hyb P all Q L (upd ρ o.dst v) w')

def vcHyb (P : Program) (T : Tab) (all : List Oper) (Q : Post) : Ord → Fr → World → Prop
  | [], ρ, w0 => ∀ w, Ext w0 w → Q .normal ρ w
  | (i, k) :: L, ρ, w0 => match nthO all i with
    | none => False
    | some o => match k with
      | .quiet => vcQG P T w0 all o ρ (fun ρ' => vcHyb P T all Q L ρ' w0)
      | .loud => ∀ w, Ext w0 w → vcG P T all o ρ w (fun ρ' w' => Ext w w' ∧ vcHyb P T all Q L ρ' w')
      | .wild => ∀ w, Ext w0 w → vcG P T all o ρ w (fun ρ' w' => vcHyb P T all Q L ρ' w')

theorem vcG_SG {P : Program} {T : Tab} (hT : Ties P T) {all : List Oper} {o : Oper} {ρ : Fr} {w : World} {K : Fr → World → Prop} (h : vcG P T all o ρ w K) :
    SG P all o ρ w (fun v w' => K (upd ρ o.dst v) w') := by
  unfold vcG at h
  unfold SG wantedF
  cases hg : o.guard with
  | none => simp only [hg] at h; rw [if_pos rfl]; exact vcOp_sound hT h
  | some g =>
    obtain ⟨j, want⟩ := g
    simp only [hg] at h
    cases hj : dstOf all j with
    | none => simp only [hj] at h ⊢; rw [if_neg (by simp)]; exact h
    | some d =>
      simp only [hj] at h ⊢
      cases hv : ρ d with
      | bool b =>
        simp only [hv] at h ⊢
        rw [br_at, upd_same hv] at h
        cases hx : xor b want with
        | true => rw [hx] at h; rw [if_neg (by cases b <;> cases want <;> simp_all)]; exact h
        | false => rw [hx] at h; rw [if_pos (by cases b <;> cases want <;> simp_all)]; exact vcOp_sound hT h
      | _ => simp only [hv] at h ⊢; rw [if_neg (by simp)]; exact h

theorem vcOpQ_step {P : Program} {T : Tab} (hT : Ties P T) {w : World} {o : Oper} {ρ : Fr} {K : Value → Prop} (h : vcOpQ P T w o ρ K) :
    ∃ v, (∀ w', Ext w w' → Step P o ρ w' (fun v' w'' => v' = v ∧ Ext w' w'')) ∧ K v := by
  unfold vcOpQ at h
  split at h
  · rename_i p hp
    obtain ⟨v, hk, hr⟩ := vcP_sound hT hp h
    exact ⟨v, fun w' _ => raw_value (hr w') ⟨rfl, Ext.refl _⟩, hk⟩
  · rename_i hp
    split at h
    case h_1 t ad ho =>
      split at h
      · rename_i r b off hr ha
        have hf := ties_look hT hr
        cases hg : r.agg with
        | true =>
          rw [hg] at h
          obtain ⟨vs, hl, hc, hk⟩ := h
          refine ⟨_, fun w' hx => raw_value (w' := w') (v := .agg vs.toArray) ?_ ⟨rfl, Ext.refl _⟩, hk⟩
          have h1 := hf.run_agg w'
          have h2 := hf.run_size w'
          have h3 := run_cells (P := P) (CellsAt.ext hx hc)
          rw [hl] at h3
          rw [hg] at h1
          simp [execOp, ho, ha, Instr.loadAt, Instr.sureAddr, loadVar, h1, h2, h3]
        | false =>
          rw [hg] at h
          obtain ⟨v, hc, hk⟩ := h
          refine ⟨_, fun w' hx => raw_value (w' := w') (v := v) ?_ ⟨rfl, Ext.refl _⟩, hk⟩
          have h1 := hf.run_agg w'
          rw [hg] at h1
          have hc' := hx.cell hc
          simp [execOp, ho, ha, Instr.loadAt, Instr.sureAddr, loadVar, h1, load, Sem.run, hc']
      · exact h.elim
    case h_2 c ho =>
      split at h
      · rename_i f hc
        split at h
        · rename_i g fi ca hf
          obtain ⟨v, hcalls, hk⟩ := h
          refine ⟨v, fun w' hx => ?_, hk⟩
          obtain ⟨⟨fn, hfn, hbody, hname⟩, hcall⟩ := hcalls w' hx
          refine .inr ⟨g, _, ?_, hcall.mono fun e w'' ⟨v', he, h⟩ => ⟨v', he, h⟩⟩
          have hb : ¬ fn.body = none := by cases hx : fn.body <;> simp_all
          have hname' : ¬ fn.name = "runtime.NumGoroutine" := by simpa using hname
          have e : (fi.toList ++ evl ρ c.args.toList ++ ca.toList).toArray = fi ++ c.args.map (ev ρ) ++ ca := by
            rw [evl_map]; simp
          rw [e]
          simp [execOp, ho, resolve, hc, hf, Deferred.ofValue, invoke, callFunc, hfn, hb, hname', program, Sem.run]
        · exact h.elim
      · obtain ⟨v, hr, hk⟩ := h
        exact ⟨v, fun w' hx => raw_value (hr w' hx) ⟨rfl, Ext.refl _⟩, hk⟩
    case h_3 =>
      obtain ⟨v, hr, hk⟩ := h
      exact ⟨v, fun w' hx => raw_value (hr w' hx) ⟨rfl, Ext.refl _⟩, hk⟩

theorem vcQG_SG {P : Program} {T : Tab} (hT : Ties P T) {all : List Oper} {o : Oper} {ρ : Fr} {w : World} {K : Fr → Prop} (h : vcQG P T w all o ρ K) :
    ∃ v, (∀ w', Ext w w' → SG P all o ρ w' (fun v' w'' => v' = v ∧ Ext w' w'')) ∧ K (upd ρ o.dst v) := by
  unfold vcQG at h
  have skip : wantedF all o ρ = false → K (upd ρ o.dst undef) → ∃ v, (∀ w', Ext w w' → SG P all o ρ w' (fun v' w'' => v' = v ∧ Ext w' w'')) ∧ K (upd ρ o.dst v) := fun hw hk =>
    ⟨undef, fun w' _ => by unfold SG; rw [if_neg (by simp [hw])]; exact ⟨rfl, Ext.refl _⟩, hk⟩
  have run : wantedF all o ρ = true → vcOpQ P T w o ρ (fun v => K (upd ρ o.dst v)) → ∃ v, (∀ w', Ext w w' → SG P all o ρ w' (fun v' w'' => v' = v ∧ Ext w' w'')) ∧ K (upd ρ o.dst v) := fun hw h => by
    obtain ⟨v, h1, h2⟩ := vcOpQ_step hT h
    exact ⟨v, fun w' hx => by unfold SG; rw [if_pos hw]; exact h1 w' hx, h2⟩
  cases hg : o.guard with
  | none => simp only [hg] at h; exact run (by simp [wantedF, hg]) h
  | some g =>
    obtain ⟨j, want⟩ := g
    simp only [hg] at h
    cases hj : dstOf all j with
    | none => simp only [hj] at h; exact skip (by simp [wantedF, hg, hj]) h
    | some d =>
      simp only [hj] at h
      cases hv : ρ d with
      | bool b =>
        simp only [hv] at h
        rw [br_at, upd_same hv] at h
        cases hx : xor b want with
        | true => rw [hx] at h; exact skip (by simp only [wantedF, hg, hj, hv]; cases b <;> cases want <;> simp_all) h
        | false => rw [hx] at h; exact run (by simp only [wantedF, hg, hj, hv]; cases b <;> cases want <;> simp_all) h
      | _ => simp only [hv] at h; exact skip (by simp [wantedF, hg, hj, hv]) h

theorem vcHyb_Hyb {P : Program} {T : Tab} (hT : Ties P T) {all : List Oper} {Q : Post} : ∀ (L : Ord) (ρ : Fr) (w : World), vcHyb P T all Q L ρ w → Hyb P all (fun ρ w => Q .normal ρ w) L ρ w := by
  intro L
  induction L with
  | nil => intro ρ w h; exact h
  | cons x L ih =>
    obtain ⟨i, k⟩ := x
    intro ρ w h
    simp only [vcHyb, Hyb] at *
    cases ho : nthO all i with
    | none => simp only [ho] at h
    | some o =>
      simp only [ho] at h ⊢
      cases k with
      | quiet =>
        obtain ⟨v, h1, h2⟩ := vcQG_SG hT h
        exact ⟨v, h1, ih _ _ h2⟩
      | loud => exact fun w' hx => (vcG_SG hT (h w' hx)).mono fun v w'' h => ⟨h.1, ih _ _ h.2⟩
      | wild => exact fun w' hx => (vcG_SG hT (h w' hx)).mono fun v w'' h => ih _ _ h

theorem Hyb.ext {P : Program} {all : List Oper} {Q : Fr → World → Prop} : ∀ {L : Ord} {ρ : Fr} {w w' : World}, Hyb P all Q L ρ w → Ext w w' → Hyb P all Q L ρ w' := by
  intro L
  induction L with
  | nil => intro ρ w w' h hx w'' hx'; exact h w'' (hx.trans hx')
  | cons x L ih =>
    obtain ⟨i, k⟩ := x
    intro ρ w w' h hx
    simp only [Hyb] at *
    cases ho : nthO all i with
    | none => simp only [ho] at h
    | some o =>
      simp only [ho] at h ⊢
      cases k with
      | quiet => obtain ⟨v, h1, h2⟩ := h; exact ⟨v, fun w'' hx' => h1 w'' (hx.trans hx'), ih h2 hx⟩
      | loud => exact fun w'' hx' => h w'' (hx.trans hx')
      | wild => exact fun w'' hx' => h w'' (hx.trans hx')

theorem upd_ne {ρ : Fr} {dst : Option Nat} {v : Value} {t : Nat} (h : ∀ d, dst = some d → d ≠ t) : upd ρ dst v t = ρ t := by
  cases dst with
  | none => rfl
  | some d =>
    simp only [upd]
    cases hb : Nat.beq t d with
    | false => rfl
    | true => exact absurd (Nat.eq_of_beq_eq_true hb).symm (h d rfl)

theorem upd_comm {ρ : Fr} {x y : Option Nat} {v u : Value} (h : ∀ d, x = some d → y ≠ some d) : upd (upd ρ x v) y u = upd (upd ρ y u) x v := by
  cases x with
  | none => rfl
  | some d =>
    cases y with
    | none => rfl
    | some e =>
      have hne : d ≠ e := fun he => h d rfl (he ▸ rfl)
      funext t
      simp only [upd]
      cases h1 : Nat.beq t e with
      | true =>
        have := Nat.eq_of_beq_eq_true h1
        cases h2 : Nat.beq t d with
        | true => exact absurd ((Nat.eq_of_beq_eq_true h2).symm.trans this) hne
        | false => rfl
      | false => rfl

theorem SG.congr {P : Program} {ops : Array Oper} {o : Oper} (hs : ∀ cs b, o.op ≠ .select cs b) {ρ ρ' : Fr} (h : ∀ t ∈ o.looksAt ops, ρ t = ρ' t) {w : World} {K : Value → World → Prop}
    (hh : SG P ops.toList o ρ w K) : SG P ops.toList o ρ' w K := by
  have he : execOp (ev ρ) o = execOp (ev ρ') o := execOp_congr o hs fun x hx => by
    cases x with
    | tmp t => exact h t (List.mem_append_left _ (List.mem_filterMap.2 ⟨.tmp t, by simpa using hx, rfl⟩))
    | _ => rfl
  have hw : wantedF ops.toList o ρ = wantedF ops.toList o ρ' := by
    unfold wantedF
    cases hg : o.guard with
    | none => rfl
    | some g =>
      obtain ⟨j, want⟩ := g
      dsimp only
      cases hj : dstOf ops.toList j with
      | none => rfl
      | some d =>
        dsimp only
        have : d ∈ o.looksAt ops := by
          unfold Oper.looksAt
          rw [hg]
          refine List.mem_append_right _ ?_
          unfold dstOf at hj
          rw [nthO_eq, Array.getElem?_toList] at hj
          cases hh : ops[j]? with
          | none => rw [hh] at hj; cases hj
          | some oj => rw [hh] at hj; simp at hj; simp [hh, hj]
        rw [h d this]
  unfold SG Step Raw at *
  rw [← hw, ← he]
  exact hh

theorem SG.upd {P : Program} {ops : Array Oper} {o : Oper} (hs : ∀ cs b, o.op ≠ .select cs b) {ρ : Fr} {dst : Option Nat} {v : Value} (h : ∀ d, dst = some d → d ∉ o.looksAt ops) {w : World} {K : Value → World → Prop} :
    SG P ops.toList o (upd ρ dst v) w K ↔ SG P ops.toList o ρ w K := by
  have key : ∀ t ∈ o.looksAt ops, Vc.upd ρ dst v t = ρ t := fun t ht => upd_ne fun d hd e => h d hd (e ▸ ht)
  exact ⟨SG.congr hs key, SG.congr hs fun t ht => (key t ht).symm⟩

theorem hyb_take {P : Program} {ops : Array Oper} {Q : Fr → World → Prop} (hsel : ∀ (j : Nat) (o : Oper), nthO ops.toList j = some o → ∀ cs b, o.op ≠ .select cs b) {i : Nat} {k : Kd} {oi : Oper} (hi : nthO ops.toList i = some oi) (hk : k ≠ .wild) (Y : Ord) :
    ∀ (X : Ord), (∀ x ∈ X, x.2 = .quiet ∧ ∀ oj, nthO ops.toList x.1 = some oj → oi.apart ops oj = true) → ∀ (ρ : Fr) (w0 : World), Hyb P ops.toList Q (X ++ (i, k) :: Y) ρ w0 →
      ∀ w, Ext w0 w → SG P ops.toList oi ρ w (fun v w' => Ext w w' ∧ Hyb P ops.toList Q (X ++ Y) (upd ρ oi.dst v) w') := by
  intro X
  induction X with
  | nil =>
    intro _ ρ w0 h w hx
    simp only [List.nil_append, Hyb, hi] at h
    cases k with
    | quiet =>
      obtain ⟨v, h1, h2⟩ := h
      refine (h1 w hx).mono ?_
      rintro v' w' ⟨rfl, hx'⟩
      exact ⟨hx', h2.ext (hx.trans hx')⟩
    | loud => exact h w hx
    | wild => exact absurd rfl hk
  | cons x X ih =>
    obtain ⟨j, kj⟩ := x
    intro hX ρ w0 h w hx
    obtain ⟨hq, hap⟩ := hX _ (List.mem_cons_self ..)
    simp only at hq hap
    subst hq
    simp only [List.cons_append, Hyb] at h
    cases hj : nthO ops.toList j with
    | none => simp only [hj] at h
    | some oj =>
      simp only [hj] at h
      obtain ⟨vj, h1, h2⟩ := h
      obtain ⟨a1, a2, a3⟩ := Oper.apart_spec (hap _ hj)
      have := ih (fun x hx => hX x (List.mem_cons_of_mem _ hx)) _ _ h2 w hx
      rw [SG.upd (hsel _ _ hi) a3] at this
      refine this.mono ?_
      rintro v w' ⟨hx', h⟩
      refine ⟨hx', ?_⟩
      simp only [List.cons_append, Hyb, hj]
      refine ⟨vj, fun w'' hx'' => ?_, ?_⟩
      · rw [SG.upd (hsel _ _ hj) a1]
        exact h1 w'' ((hx.trans hx').trans hx'')
      · rw [upd_comm a2]; exact h

def direct (ops : Array Oper) (i j : Nat) : Bool :=
  match nthO ops.toList i with
  | some o => o.after.toList.any fun e => Region.binds .any e && Nat.beq e.on j
  | none => false

def apartB (ops : Array Oper) (i j : Nat) : Bool :=
  match nthO ops.toList i, nthO ops.toList j with
  | some x, some y => x.apart ops y
  | _, _ => false

def pairB (ops : Array Oper) (x y : Nat × Kd) : Bool :=
  !direct ops x.1 y.1 && !Nat.beq x.1 y.1 && (direct ops y.1 x.1 || match x.2, y.2 with
    | .quiet, .wild => false
    | .quiet, _ => apartB ops y.1 x.1
    | _, _ => true)

def isQuiet : Kd → Bool
  | .quiet => true
  | _ => false
theorem isQuiet_eq {k : Kd} (h : isQuiet k = true) : k = .quiet := by cases k <;> simp_all [isQuiet]

def ordB (ops : Array Oper) : Ord → Bool
  | [] => true
  | x :: Y => !direct ops x.1 x.1 && Nat.blt x.1 ops.size && Y.all (pairB ops x) && (isQuiet x.2 || Y.all fun y => (x :: Y).any fun e => direct ops y.1 e.1) && ordB ops Y

def aftB (ops : Array Oper) : Bool := ops.toList.all fun o => o.after.toList.all fun e => Nat.blt e.on ops.size

def hybB (ops : Array Oper) (L : Ord) : Bool :=
  Region.noSelect ops && aftB ops && (List.range ops.size).all (fun j => L.any fun x => Nat.beq x.1 j) && Nat.beq L.length ops.size && ordB ops L

theorem ordB_drop {ops : Array Oper} {i : Nat × Kd} {Y : Ord} : ∀ {X : Ord}, (∀ x ∈ X, x.2 = .quiet) → ordB ops (X ++ i :: Y) = true → ordB ops (X ++ Y) = true := by
  intro X
  induction X with
  | nil => intro _ h; simp only [List.nil_append, ordB, Bool.and_eq_true] at h ⊢; exact h.2
  | cons x X ih =>
    intro hX h
    simp only [List.cons_append, ordB, Bool.and_eq_true, List.all_append, List.all_cons] at h ⊢
    refine ⟨⟨⟨h.1.1.1, h.1.1.2.1, h.1.1.2.2.2⟩, ?_⟩, ih (fun y hy => hX y (List.mem_cons_of_mem _ hy)) h.2⟩
    rw [hX x (List.mem_cons_self ..)]
    rfl

theorem ordB_before {ops : Array Oper} {i : Nat × Kd} {Y : Ord} : ∀ {X : Ord}, ordB ops (X ++ i :: Y) = true → (∀ e ∈ X ++ i :: Y, direct ops i.1 e.1 = false) →
    ∀ x ∈ X, x.2 = .quiet ∧ pairB ops x i = true := by
  intro X
  induction X with
  | nil => intro _ _ x hx; cases hx
  | cons x X ih =>
    intro h hd y hy
    simp only [List.cons_append, ordB, Bool.and_eq_true] at h
    rcases List.mem_cons.1 hy with rfl | hy
    · refine ⟨?_, List.all_eq_true.1 h.1.1.2 i (by simp)⟩
      cases hq : isQuiet y.2 with
      | true => exact isQuiet_eq hq
      | false =>
        have := h.1.2
        rw [hq, Bool.false_or] at this
        have := List.all_eq_true.1 this i (by simp)
        obtain ⟨e, he, hde⟩ := List.any_eq_true.1 this
        rw [hd e (by simpa using he)] at hde
        cases hde
    · exact ih h.2 (fun e he => hd e (by simp only [List.cons_append]; exact List.mem_cons_of_mem _ he)) y hy

theorem ordB_mem {ops : Array Oper} : ∀ {L : Ord}, ordB ops L = true → ∀ x ∈ L, x.1 < ops.size ∧ direct ops x.1 x.1 = false := by
  intro L
  induction L with
  | nil => intro _ x hx; cases hx
  | cons y L ih =>
    intro h x hx
    simp only [ordB, Bool.and_eq_true, Bool.not_eq_true', Nat.blt_eq] at h
    rcases List.mem_cons.1 hx with rfl | hx
    · exact ⟨h.1.1.1.2, h.1.1.1.1⟩
    · exact ih h.2 x hx

theorem ordB_tail {ops : Array Oper} {Y : Ord} : ∀ {X : Ord}, ordB ops (X ++ Y) = true → ordB ops Y = true := by
  intro X
  induction X with
  | nil => exact id
  | cons x X ih => intro h; simp only [List.cons_append, ordB, Bool.and_eq_true] at h; exact ih h.2

theorem direct_of {ops : Array Oper} {i : Nat} {o : Oper} (ho : ops[i]? = some o) {e : Edge} (he : e ∈ o.after) (hb : Region.binds .any e = true) : direct ops i e.on = true := by
  unfold direct
  rw [nthO_eq, Array.getElem?_toList, ho]
  exact List.any_eq_true.2 ⟨e, by simpa using he, by simp [hb]⟩

theorem direct_is {ops : Array Oper} {i j : Nat} {o : Oper} (ho : ops[i]? = some o) (h : direct ops i j = true) : ∃ e ∈ o.after, Region.binds .any e = true ∧ e.on = j := by
  unfold direct at h
  rw [nthO_eq, Array.getElem?_toList, ho] at h
  obtain ⟨e, he, hb⟩ := List.any_eq_true.1 h
  simp only [Bool.and_eq_true, Nat.beq_eq] at hb
  exact ⟨e, by simpa using he, hb.1, hb.2⟩

theorem any_sound {P : Program} {ops : Array Oper} {n : Nat} {Q : Post} (hfit : ops.toList.all (opFits n) = true) (hs : Region.noSelect ops = true) (haft : aftB ops = true) :
    ∀ (fuel : Nat) (L : Ord) (listed : Array Bool) (a : Act) (w : World), L.length = fuel → listed.size = ops.size → ordB ops L = true →
      (∀ j, j < ops.size → (listed.getD j true = false ↔ ∃ x ∈ L, x.1 = j)) → a.tmps.size = n → a.defers = [] → Hyb P ops.toList (fun ρ w => Q .normal ρ w) L (fr a) w →
      wpAny P .any ops (Lift n Q) fuel listed a w := by
  intro fuel
  induction fuel with
  | zero =>
    intro L listed a w hl hsz hord hlisted hn hd h
    have : L = [] := List.eq_nil_of_length_eq_zero hl
    subst this
    refine ⟨?_, hn, hd, h w (Ext.refl _)⟩
    unfold Region.ready
    rw [List.filter_eq_nil_iff]
    intro j hj
    have := hlisted j (List.mem_range.1 hj)
    simp only [List.not_mem_nil, false_and, exists_false, iff_false] at this
    simp_all
  | succ fuel ih =>
    intro L listed a w hl hsz hord hlisted hn hd h
    have sel : ∀ (j : Nat) (o : Oper), nthO ops.toList j = some o → ∀ cs b, o.op ≠ .select cs b := fun j o ho cs b => by
      rw [nthO_eq, Array.getElem?_toList] at ho
      exact Region.noSelect_spec hs j o cs b ho
    have mark : ∀ j, j < ops.size → (¬ ∃ x ∈ L, x.1 = j) → listed.getD j false = true := fun j hj hno => by
      have := mt (hlisted j hj).1 hno
      have hj' : j < listed.size := by omega
      simp only [Array.getD_eq_getD_getElem?, Array.getElem?_eq_getElem hj', Option.getD_some] at this ⊢
      simpa using this
    constructor
    · intro hr
      exfalso
      match L, hl with
      | x :: Y, _ =>
        have hx := ordB_mem hord x (List.mem_cons_self ..)
        have hmem : x.1 ∈ Region.ready .any ops listed := by
          rw [mem_ready]
          refine ⟨(hlisted x.1 hx.1).2 ⟨x, List.mem_cons_self .., rfl⟩, ops[x.1]'hx.1, by simp [hx.1], ?_⟩
          intro e he hb
          have hdir : direct ops x.1 e.on = true := direct_of (Array.getElem?_eq_getElem hx.1) he hb
          have hlt : e.on < ops.size := by
            have h1 := List.all_eq_true.1 haft (ops[x.1]'hx.1) (by simp)
            have h2 := List.all_eq_true.1 h1 e (by simpa using he)
            simpa using h2
          refine mark _ hlt ?_
          rintro ⟨y, hy, hye⟩
          rcases List.mem_cons.1 hy with rfl | hy
          · have := hx.2; rw [hye] at this hdir; rw [hdir] at this; cases this
          · simp only [ordB, Bool.and_eq_true] at hord
            have := List.all_eq_true.1 hord.1.1.2 y hy
            simp only [pairB, Bool.and_eq_true, hye, hdir] at this
            exact absurd this.1.1 (by simp)
        rw [hr] at hmem
        cases hmem
    · intro i hi
      obtain ⟨hun, o, ho, hall⟩ := mem_ready.1 hi
      have hlt : i < ops.size := (Array.getElem?_eq_some_iff.1 ho).1
      obtain ⟨⟨i', k⟩, hxL, rfl⟩ := (hlisted i hlt).1 hun
      obtain ⟨X, Y, rfl⟩ := List.append_of_mem hxL
      simp only at ho hall hun hlt hi
      have nodir : ∀ e ∈ X ++ (i', k) :: Y, direct ops i' e.1 = false := fun e he => by
        cases hd : direct ops i' e.1 with
        | false => rfl
        | true =>
          obtain ⟨g, hg, hb, hge⟩ := direct_is ho hd
          have h1 := hall g hg hb
          have h2 := (ordB_mem hord e he).1
          have h3 := (hlisted e.1 h2).2 ⟨e, he, rfl⟩
          have hj' : e.1 < listed.size := by omega
          rw [hge] at h1
          simp only [Array.getD_eq_getD_getElem?, Array.getElem?_eq_getElem hj', Option.getD_some] at h1 h3
          rw [h1] at h3
          cases h3
      have before := ordB_before hord nodir
      have hno : nthO ops.toList i' = some o := by rw [nthO_eq, Array.getElem?_toList]; exact ho
      have pb : ∀ x ∈ X, x.2 = .quiet ∧ (k = .wild → False) ∧ apartB ops i' x.1 = true := fun x hx => by
        obtain ⟨h1, h2⟩ := before x hx
        have h3 := nodir x (List.mem_append_left _ hx)
        simp only [pairB, h1, h3, Bool.and_eq_true, Bool.false_or] at h2
        cases k with
        | wild => exact absurd h2.2 (by simp)
        | quiet => exact ⟨h1, by simp, h2.2⟩
        | loud => exact ⟨h1, by simp, h2.2⟩
      have step : SG P ops.toList o (fr a) w (fun v w' => Hyb P ops.toList (fun ρ w => Q .normal ρ w) (X ++ Y) (upd (fr a) o.dst v) w') := by
        by_cases hk : k = .wild
        · subst hk
          have hX : X = [] := by
            cases X with
            | nil => rfl
            | cons x X => exact ((pb x (List.mem_cons_self ..)).2.1 rfl).elim
          subst hX
          simp only [List.nil_append, Hyb, hno] at h
          exact h w (Ext.refl _)
        · refine (hyb_take sel hno hk Y X (fun x hx => ⟨(pb x hx).1, fun oj hoj => ?_⟩) (fr a) w h w (Ext.refl _)).mono fun v w' h => h.2
          have := (pb x hx).2.2
          simp only [apartB, hno, hoj] at this
          exact this
      have nd : ∀ x ∈ X ++ Y, x.1 ≠ i' := by
        intro x hx e
        rcases List.mem_append.1 hx with hx | hx
        · have := (before x hx).2
          simp only [pairB, Bool.and_eq_true] at this
          exact absurd this.1.2 (by simp [e])
        · have h1 : ordB ops ((i', k) :: Y) = true := by
            exact ordB_tail hord
          simp only [ordB, Bool.and_eq_true] at h1
          have := List.all_eq_true.1 h1.1.1.2 x hx
          simp only [pairB, Bool.and_eq_true] at this
          exact absurd this.1.2 (by simp [e])
      have next : ∀ a w, a.tmps.size = n → a.defers = [] → Hyb P ops.toList (fun ρ w => Q .normal ρ w) (X ++ Y) (fr a) w → wpAny P .any ops (Lift n Q) fuel (listed.setIfInBounds i' true) a w := fun a w hn hd h => by
        refine ih (X ++ Y) _ a w ?_ (by simpa using hsz) (ordB_drop (fun x hx => (before x hx).1) hord) ?_ hn hd h
        · simp only [List.length_append, List.length_cons] at hl ⊢; omega
        · intro j hj
          by_cases e : j = i'
          · subst e
            constructor
            · intro h; exact absurd h (by simp [hsz, hlt])
            · rintro ⟨x, hx, he⟩; exact absurd he (nd x hx)
          · rw [getD_set_ne true (Ne.symm e), hlisted j hj]
            constructor
            · rintro ⟨x, hx, rfl⟩
              refine ⟨x, ?_, rfl⟩
              rcases List.mem_append.1 hx with hx | hx
              · exact List.mem_append_left _ hx
              · rcases List.mem_cons.1 hx with rfl | hx
                · exact absurd rfl e
                · exact List.mem_append_right _ hx
            · rintro ⟨x, hx, rfl⟩
              refine ⟨x, ?_, rfl⟩
              rcases List.mem_append.1 hx with hx | hx
              · exact List.mem_append_left _ hx
              · exact List.mem_append_right _ (List.mem_cons_of_mem _ hx)
      have hfo : opFits n o = true := List.all_eq_true.1 hfit o (by rw [Array.mem_toList_iff]; exact Array.mem_of_getElem? ho)
      unfold wpOp
      simp only [ho]
      have hy : Region.wanted o (yielded ops a.tmps) = wantedF ops.toList o (fr a) := by
        unfold Region.wanted wantedF
        cases hg : o.guard with
        | none => rfl
        | some g =>
          obtain ⟨j, want⟩ := g
          have := yielded_fr ops a j
          dsimp only
          rw [this]
          cases hj : dstOf ops.toList j with
          | none => rfl
          | some d =>
            dsimp only
            cases hv : fr a d <;> simp
      rw [hy]
      unfold SG at step
      split
      · rename_i hw
        rw [if_pos hw] at step
        exact .inl (wp_of_step hn hd hfo next step)
      · rename_i hw
        rw [if_neg hw] at step
        exact next _ _ (by rw [put_size, hn]) (by rw [put_defers, hd]) (by rw [fr_put hn hfo]; exact step)

/-- The rule: an order in which the quiet ones come as early as they can. -/
theorem hyb_rule {P : Program} {T : Tab} (hT : Ties P T) (hm : P.follows .mixedOrders = true) {ops : Array Oper} {Q : Post} {ρ : Fr} {w : World} (L : Ord) (hB : hybB ops L = true)
    (h : vcHyb P T ops.toList Q L ρ w) : DrawRaw P ops Q ρ w := by
  intro id n a hfit hn hd hfr
  simp only [hybB, Bool.and_eq_true, Nat.beq_eq] at hB
  refine wp_region_any hm ?_
  refine any_sound hfit hB.1.1.1.1 hB.1.1.1.2 ops.size L _ a _ hB.1.2 (by simp) hB.2 ?_ hn hd ?_
  · intro j hj
    have := List.all_eq_true.1 hB.1.1.2 j (List.mem_range.2 hj)
    obtain ⟨x, hx, hxj⟩ := List.any_eq_true.1 this
    constructor
    · intro _; exact ⟨x, hx, by simpa using hxj⟩
    · intro _; simp [hj]
  · subst hfr
    exact (vcHyb_Hyb hT L _ _ h).ext ⟨rfl, rfl, rfl, Nat.le_refl _, fun _ _ => rfl⟩

end Go.Vc
