/- The calculus, eighth part: a region that draws its order and holds one 'alloc' that nothing orders: it may run at any time before the operation that needs it. -/
import Derived.Test.YtekddgkgeaolnaaVi
namespace Go.Vc
open Go Go.RowKit

theorem any_gen {P : Program} {ops : Array Oper} {n : Nat} {Q : Post} (hfit : ops.toList.all (opFits n) = true) (haft : aftB ops = true) (G : Ord → Prop) (I : Ord → Fr → World → Prop)
    (hmem : ∀ L, G L → ∀ x ∈ L, x.1 < ops.size) (hnd : ∀ X x Y, G (X ++ x :: Y) → ∀ y ∈ X ++ Y, y.1 ≠ x.1) (hready : ∀ L, G L → L ≠ [] → ∃ x ∈ L, ∀ y ∈ L, direct ops x.1 y.1 = false)
    (hnil : ∀ ρ w, I [] ρ w → Q .normal ρ w)
    (hstep : ∀ X x Y, G (X ++ x :: Y) → (∀ e ∈ X ++ x :: Y, direct ops x.1 e.1 = false) → G (X ++ Y) ∧ ∀ ρ w o, nthO ops.toList x.1 = some o → I (X ++ x :: Y) ρ w → SG P ops.toList o ρ w (fun v w' => I (X ++ Y) (upd ρ o.dst v) w')) :
    ∀ (fuel : Nat) (L : Ord) (listed : Array Bool) (a : Act) (w : World), L.length = fuel → listed.size = ops.size → G L →
      (∀ j, j < ops.size → (listed.getD j true = false ↔ ∃ x ∈ L, x.1 = j)) → a.tmps.size = n → a.defers = [] → I L (fr a) w →
      wpAny P .any ops (Lift n Q) fuel listed a w := by
  intro fuel
  induction fuel with
  | zero =>
    intro L listed a w hl hsz hord hlisted hn hd h
    have : L = [] := List.eq_nil_of_length_eq_zero hl
    subst this
    refine ⟨?_, hn, hd, hnil _ _ h⟩
    unfold Region.ready
    rw [List.filter_eq_nil_iff]
    intro j hj
    have := hlisted j (List.mem_range.1 hj)
    simp only [List.not_mem_nil, false_and, exists_false, iff_false] at this
    simp_all
  | succ fuel ih =>
    intro L listed a w hl hsz hord hlisted hn hd h
    have mark : ∀ j, j < ops.size → (¬ ∃ x ∈ L, x.1 = j) → listed.getD j false = true := fun j hj hno => by
      have := mt (hlisted j hj).1 hno
      have hj' : j < listed.size := by omega
      simp only [Array.getD_eq_getD_getElem?, Array.getElem?_eq_getElem hj', Option.getD_some] at this ⊢
      simpa using this
    constructor
    · intro hr
      exfalso
      obtain ⟨x, hxL, hxd⟩ := hready L hord (by intro e; rw [e] at hl; cases hl)
      have hx := hmem L hord x hxL
      have hm : x.1 ∈ Region.ready .any ops listed := by
        rw [mem_ready]
        refine ⟨(hlisted x.1 hx).2 ⟨x, hxL, rfl⟩, ops[x.1]'hx, by simp [hx], ?_⟩
        intro e he hb
        have hdir : direct ops x.1 e.on = true := direct_of (Array.getElem?_eq_getElem hx) he hb
        have hlt : e.on < ops.size := by
          have h1 := List.all_eq_true.1 haft (ops[x.1]'hx) (by simp)
          have h2 := List.all_eq_true.1 h1 e (by simpa using he)
          simpa using h2
        refine mark _ hlt ?_
        rintro ⟨y, hy, hye⟩
        have := hxd y hy
        rw [hye, hdir] at this
        cases this
      rw [hr] at hm
      cases hm
    · intro i hi
      obtain ⟨hun, o, ho, hall⟩ := mem_ready.1 hi
      have hlt : i < ops.size := (Array.getElem?_eq_some_iff.1 ho).1
      obtain ⟨⟨i', k⟩, hxL, rfl⟩ := (hlisted i hlt).1 hun
      obtain ⟨X, Y, rfl⟩ := List.append_of_mem hxL
      simp only at ho hall hun hlt hi
      have nodir : ∀ e ∈ X ++ (i', k) :: Y, direct ops i' e.1 = false := fun e he => by
        cases hd : direct ops i' e.1 with
        | false => rfl
        | true =>
          obtain ⟨g, hg, hb, hge⟩ := direct_is ho hd
          have h1 := hall g hg hb
          have h2 := hmem _ hord e he
          have h3 := (hlisted e.1 h2).2 ⟨e, he, rfl⟩
          have hj' : e.1 < listed.size := by omega
          rw [hge] at h1
          simp only [Array.getD_eq_getD_getElem?, Array.getElem?_eq_getElem hj', Option.getD_some] at h1 h3
          rw [h1] at h3
          cases h3
      have hno : nthO ops.toList i' = some o := by rw [nthO_eq, Array.getElem?_toList]; exact ho
      obtain ⟨hG', hsg⟩ := hstep X (i', k) Y hord nodir
      have step := hsg (fr a) w o hno h
      have nd := hnd X (i', k) Y hord
      have next : ∀ a w, a.tmps.size = n → a.defers = [] → I (X ++ Y) (fr a) w → wpAny P .any ops (Lift n Q) fuel (listed.setIfInBounds i' true) a w := fun a w hn hd h => by
        refine ih (X ++ Y) _ a w ?_ (by simpa using hsz) hG' ?_ hn hd h
        · simp only [List.length_append, List.length_cons] at hl ⊢; omega
        · intro j hj
          by_cases e : j = i'
          · subst e
            constructor
            · intro h; exact absurd h (by simp [hsz, hlt])
            · rintro ⟨x, hx, he⟩; exact absurd he (nd x hx)
          · rw [getD_set_ne true (Ne.symm e), hlisted j hj]
            constructor
            · rintro ⟨x, hx, rfl⟩
              refine ⟨x, ?_, rfl⟩
              rcases List.mem_append.1 hx with hx | hx
              · exact List.mem_append_left _ hx
              · rcases List.mem_cons.1 hx with rfl | hx
                · exact absurd rfl e
                · exact List.mem_append_right _ hx
            · rintro ⟨x, hx, rfl⟩
              refine ⟨x, ?_, rfl⟩
              rcases List.mem_append.1 hx with hx | hx
              · exact List.mem_append_left _ hx
              · exact List.mem_append_right _ (List.mem_cons_of_mem _ hx)
      have hfo : opFits n o = true := List.all_eq_true.1 hfit o (by rw [Array.mem_toList_iff]; exact Array.mem_of_getElem? ho)
      unfold wpOp
      simp only [ho]
      have hy : Region.wanted o (yielded ops a.tmps) = wantedF ops.toList o (fr a) := by
        unfold Region.wanted wantedF
        cases hg : o.guard with
        | none => rfl
        | some g =>
          obtain ⟨j, want⟩ := g
          have := yielded_fr ops a j
          dsimp only
          rw [this]
          cases hj : dstOf ops.toList j with
          | none => rfl
          | some d =>
            dsimp only
            cases hv : fr a d <;> simp
      rw [hy]
      unfold SG at step
      split
      · rename_i hw
        rw [if_pos hw] at step
        exact .inl (wp_of_step hn hd hfo next step)
      · rename_i hw
        rw [if_neg hw] at step
        exact next _ _ (by rw [put_size, hn]) (by rw [put_defers, hd]) (by rw [fr_put hn hfo]; exact step)

/-- Block B was made by the alloc, at some time. -/
def Made (ob : Obj) (B : Nat) (w : World) : Prop := ∃ wa : World, wa.heap.size = B ∧ Ext (wa.alloc ob) w
theorem Made.ext {ob : Obj} {B : Nat} {w w' : World} (hx : Ext w w') (h : Made ob B w) : Made ob B w' := by
  obtain ⟨wa, h1, h2⟩ := h
  exact ⟨wa, h1, h2.trans hx⟩
theorem Made.lt {ob : Obj} {B : Nat} {w : World} (h : Made ob B w) : B < w.heap.size := by
  obtain ⟨wa, h1, h2⟩ := h
  have := h2.size
  simp only [World.size_alloc] at this
  omega
theorem Made.rmy {l : List Value} {t B : Nat} {w : World} (h : Made (.cells l.toArray t) B w) : Rmy w B l.length := by
  obtain ⟨wa, rfl, h2⟩ := h
  exact (Rmy.new wa l t).ext h2
def Clear (B : Nat) (sp : List (Nat × Nat)) : Prop := ∀ s ∈ sp, B < s.1 ∨ s.2 ≤ B
abbrev ptrB (B : Nat) : Value := .pointer (some ⟨B, 0, none⟩)

/-- Kinds: 'pure' looks at the memory of the region's beginning alone (or at none): it may also run after the last store. -/
inductive Ka
  | quiet
  | pure
  | loud
  | wild
  deriving DecidableEq
abbrev OrdA := List (Nat × Ka)
def Ka.kd : Ka → Kd
  | .quiet => .quiet
  | .pure => .quiet
  | .loud => .loud
  | .wild => .loud
def kdL : OrdA → Ord
  | [] => []
  | (i, k) :: L => (i, k.kd) :: kdL L
theorem kdL_app : ∀ X Y : OrdA, kdL (X ++ Y) = kdL X ++ kdL Y
  | [], _ => rfl
  | (i, k) :: X, Y => by simp only [List.cons_append, kdL, kdL_app X Y]
theorem kdL_split : ∀ {L : OrdA} {X : Ord} {x : Nat × Kd} {Y : Ord}, kdL L = X ++ x :: Y → ∃ XA xA YA, L = XA ++ xA :: YA ∧ X = kdL XA ∧ x = (xA.1, xA.2.kd) ∧ Y = kdL YA := by
  intro L
  induction L with
  | nil => intro X x Y h; cases X <;> cases h
  | cons z L ih =>
    intro X x Y h
    obtain ⟨i, k⟩ := z
    cases X with
    | nil =>
      simp only [kdL, List.nil_append, List.cons.injEq] at h
      exact ⟨[], (i, k), L, rfl, rfl, h.1.symm, h.2.symm⟩
    | cons y X =>
      simp only [kdL, List.cons_append, List.cons.injEq] at h
      obtain ⟨XA, xA, YA, rfl, rfl, h3, h4⟩ := ih h.2
      exact ⟨(i, k) :: XA, xA, YA, rfl, by simp only [kdL, h.1], h3, h4⟩
theorem kdL_mem {L : OrdA} {x : Nat × Ka} (h : x ∈ L) : (x.1, x.2.kd) ∈ kdL L := by
  induction L with
  | nil => cases h
  | cons z L ih =>
    obtain ⟨i, k⟩ := z
    rcases List.mem_cons.1 h with rfl | h
    · exact List.mem_cons_self ..
    · exact List.mem_cons_of_mem _ (ih h)
theorem kdL_len : ∀ L : OrdA, (kdL L).length = L.length
  | [] => rfl
  | (i, k) :: L => by simp only [kdL, List.length_cons, kdL_len L]

def HybA (P : Program) (all : List Oper) (Q : Fr → World → Prop) (d : Nat) (ob : Obj) (ws : World) : List (Nat × Nat) → OrdA → Fr → World → Prop
  | sp, [], ρ, w0 => ∀ B w, Made ob B w → Clear B sp → Ext w0 w → Q (upd ρ (some d) (ptrB B)) w
  | sp, (i, k) :: L, ρ, w0 => match nthO all i with
    | none => False
    | some o => match k with
      | .quiet => ∃ v, (∀ w, Ext w0 w → SG P all o ρ w (fun v' w' => v' = v ∧ Ext w w')) ∧ HybA P all Q d ob ws sp L (upd ρ o.dst v) w0
      | .pure => ∃ v, (∀ w, Ext ws w → SG P all o ρ w (fun v' w' => v' = v ∧ Ext w w')) ∧ HybA P all Q d ob ws sp L (upd ρ o.dst v) w0
      | .loud => ∀ w, Ext w0 w → SG P all o ρ w (fun v w' => Ext w w' ∧ HybA P all Q d ob ws ((w.heap.size, w'.heap.size) :: sp) L (upd ρ o.dst v) w')
      | .wild => ∀ B w, Made ob B w → Clear B sp → Ext w0 w → SG P all o (upd ρ (some d) (ptrB B)) w (fun v w' => Ext ws w' ∧ Hyb P all Q (kdL L) (upd (upd ρ (some d) (ptrB B)) o.dst v) w')

def vcHybA (P : Program) (T : Tab) (all : List Oper) (Q : Post) (d : Nat) (ob : Obj) (ws : World) : List (Nat × Nat) → OrdA → Fr → World → Prop
  | sp, [], ρ, w0 => ∀ B w, Made ob B w → Clear B sp → Ext w0 w → Q .normal (upd ρ (some d) (ptrB B)) w
  | sp, (i, k) :: L, ρ, w0 => match nthO all i with
    | none => False
    | some o => match k with
      | .quiet => vcQG P T w0 all o ρ (fun ρ' => vcHybA P T all Q d ob ws sp L ρ' w0)
      | .pure => vcQG P T ws all o ρ (fun ρ' => vcHybA P T all Q d ob ws sp L ρ' w0)
      | .loud => ∀ w, Ext w0 w → vcG P T all o ρ w (fun ρ' w' => Ext w w' ∧ vcHybA P T all Q d ob ws ((w.heap.size, w'.heap.size) :: sp) L ρ' w')
      | .wild => ∀ B w, Made ob B w → Clear B sp → Ext w0 w → vcG P T all o (upd ρ (some d) (ptrB B)) w (fun ρ' w' => Ext ws w' ∧ vcHyb P T all Q (kdL L) ρ' w')

theorem vcHybA_HybA {P : Program} {T : Tab} (hT : Ties P T) {all : List Oper} {Q : Post} {d : Nat} {ob : Obj} {ws : World} : ∀ (L : OrdA) (sp : List (Nat × Nat)) (ρ : Fr) (w : World), vcHybA P T all Q d ob ws sp L ρ w → HybA P all (fun ρ w => Q .normal ρ w) d ob ws sp L ρ w := by
  intro L
  induction L with
  | nil => intro sp ρ w h; exact h
  | cons x L ih =>
    obtain ⟨i, k⟩ := x
    intro sp ρ w h
    simp only [vcHybA, HybA] at *
    cases ho : nthO all i with
    | none => simp only [ho] at h
    | some o =>
      simp only [ho] at h ⊢
      cases k with
      | quiet =>
        obtain ⟨v, h1, h2⟩ := vcQG_SG hT h
        exact ⟨v, h1, ih _ _ _ h2⟩
      | pure =>
        obtain ⟨v, h1, h2⟩ := vcQG_SG hT h
        exact ⟨v, h1, ih _ _ _ h2⟩
      | loud => exact fun w' hx => (vcG_SG hT (h w' hx)).mono fun v w'' h => ⟨h.1, ih _ _ _ h.2⟩
      | wild => exact fun B w' hm hc hx => (vcG_SG hT (h B w' hm hc hx)).mono fun v w'' h => ⟨h.1, vcHyb_Hyb hT _ _ _ h.2⟩

theorem HybA.ext {P : Program} {all : List Oper} {Q : Fr → World → Prop} {d : Nat} {ob : Obj} {ws : World} : ∀ {L : OrdA} {sp : List (Nat × Nat)} {ρ : Fr} {w w' : World}, HybA P all Q d ob ws sp L ρ w → Ext w w' → HybA P all Q d ob ws sp L ρ w' := by
  intro L
  induction L with
  | nil => intro sp ρ w w' h hx B w'' hm hc hx'; exact h B w'' hm hc (hx.trans hx')
  | cons x L ih =>
    obtain ⟨i, k⟩ := x
    intro sp ρ w w' h hx
    simp only [HybA] at *
    cases ho : nthO all i with
    | none => simp only [ho] at h
    | some o =>
      simp only [ho] at h ⊢
      cases k with
      | quiet => obtain ⟨v, h1, h2⟩ := h; exact ⟨v, fun w'' hx' => h1 w'' (hx.trans hx'), ih h2 hx⟩
      | pure => obtain ⟨v, h1, h2⟩ := h; exact ⟨v, h1, ih h2 hx⟩
      | loud => exact fun w'' hx' => h w'' (hx.trans hx')
      | wild => exact fun B w'' hm hc hx' => h B w'' hm hc (hx.trans hx')

theorem hybA_take {P : Program} {ops : Array Oper} {Q : Fr → World → Prop} {d : Nat} {ob : Obj} {ws : World} (hsel : ∀ (j : Nat) (o : Oper), nthO ops.toList j = some o → ∀ cs b, o.op ≠ .select cs b) {i : Nat} {k : Ka} {oi : Oper} (hi : nthO ops.toList i = some oi) (hk : k ≠ .wild) (Y : OrdA) :
    ∀ (X : OrdA), (∀ x ∈ X, (x.2 = .quiet ∨ x.2 = .pure) ∧ ∀ oj, nthO ops.toList x.1 = some oj → oi.apart ops oj = true) → ∀ (sp : List (Nat × Nat)) (ρ : Fr) (w0 : World), HybA P ops.toList Q d ob ws sp (X ++ (i, k) :: Y) ρ w0 →
      ∀ w, Ext ws w → Ext w0 w → SG P ops.toList oi ρ w (fun v w' => Ext w w' ∧ ∃ sp', (sp' = sp ∨ sp' = (w.heap.size, w'.heap.size) :: sp) ∧ HybA P ops.toList Q d ob ws sp' (X ++ Y) (upd ρ oi.dst v) w') := by
  intro X
  induction X with
  | nil =>
    intro _ sp ρ w0 h w hws hx
    simp only [List.nil_append, HybA, hi] at h
    cases k with
    | quiet =>
      obtain ⟨v, h1, h2⟩ := h
      refine (h1 w hx).mono ?_
      rintro v' w' ⟨rfl, hx'⟩
      exact ⟨hx', sp, .inl rfl, h2.ext (hx.trans hx')⟩
    | pure =>
      obtain ⟨v, h1, h2⟩ := h
      refine (h1 w hws).mono ?_
      rintro v' w' ⟨rfl, hx'⟩
      exact ⟨hx', sp, .inl rfl, h2.ext (hx.trans hx')⟩
    | loud => exact (h w hx).mono fun v w' h => ⟨h.1, _, .inr rfl, h.2⟩
    | wild => exact absurd rfl hk
  | cons x X ih =>
    obtain ⟨j, kj⟩ := x
    intro hX sp ρ w0 h w hws hx
    obtain ⟨hq, hap⟩ := hX _ (List.mem_cons_self ..)
    simp only at hq hap
    simp only [List.cons_append, HybA] at h
    cases hj : nthO ops.toList j with
    | none => simp only [hj] at h
    | some oj =>
      simp only [hj] at h
      obtain ⟨a1, a2, a3⟩ := Oper.apart_spec (hap _ hj)
      rcases hq with rfl | rfl
      · obtain ⟨vj, h1, h2⟩ := h
        have := ih (fun x hx => hX x (List.mem_cons_of_mem _ hx)) _ _ _ h2 w hws hx
        rw [SG.upd (hsel _ _ hi) a3] at this
        refine this.mono ?_
        rintro v w' ⟨hx', sp', hsp, h⟩
        refine ⟨hx', sp', hsp, ?_⟩
        simp only [List.cons_append, HybA, hj]
        refine ⟨vj, fun w'' hx'' => ?_, ?_⟩
        · rw [SG.upd (hsel _ _ hj) a1]
          exact h1 w'' ((hx.trans hx').trans hx'')
        · rw [upd_comm a2]; exact h
      · obtain ⟨vj, h1, h2⟩ := h
        have := ih (fun x hx => hX x (List.mem_cons_of_mem _ hx)) _ _ _ h2 w hws hx
        rw [SG.upd (hsel _ _ hi) a3] at this
        refine this.mono ?_
        rintro v w' ⟨hx', sp', hsp, h⟩
        refine ⟨hx', sp', hsp, ?_⟩
        simp only [List.cons_append, HybA, hj]
        refine ⟨vj, fun w'' hx'' => ?_, ?_⟩
        · rw [SG.upd (hsel _ _ hj) a1]
          exact h1 w'' hx''
        · rw [upd_comm a2]; exact h

/-- The last store, past pure operations. -/
theorem hybA_wild {P : Program} {ops : Array Oper} {Q : Fr → World → Prop} {d : Nat} {ob : Obj} {ws : World} (hsel : ∀ (j : Nat) (o : Oper), nthO ops.toList j = some o → ∀ cs b, o.op ≠ .select cs b) {i : Nat} {oi oa : Oper} (hi : nthO ops.toList i = some oi) (hda : oa.dst = some d) (Y : OrdA) {B : Nat} {w : World} {sp : List (Nat × Nat)} (hm : Made ob B w) (hc : Clear B sp) :
    ∀ (X : OrdA), (∀ x ∈ X, x.2 = .pure ∧ ∀ oj, nthO ops.toList x.1 = some oj → oi.apart ops oj = true ∧ oj.apart ops oa = true) → ∀ (ρ : Fr) (w0 : World), HybA P ops.toList Q d ob ws sp (X ++ (i, .wild) :: Y) ρ w0 →
      Ext w0 w → SG P ops.toList oi (upd ρ (some d) (ptrB B)) w (fun v w' => Ext ws w' ∧ Hyb P ops.toList Q (kdL (X ++ Y)) (upd (upd ρ (some d) (ptrB B)) oi.dst v) w') := by
  intro X
  induction X with
  | nil =>
    intro _ ρ w0 h hx
    simp only [List.nil_append, HybA, hi] at h
    exact h B w hm hc hx
  | cons x X ih =>
    obtain ⟨j, kj⟩ := x
    intro hX ρ w0 h hx
    obtain ⟨hq, hap⟩ := hX _ (List.mem_cons_self ..)
    simp only at hq hap
    subst hq
    simp only [List.cons_append, HybA] at h
    cases hj : nthO ops.toList j with
    | none => simp only [hj] at h
    | some oj =>
      simp only [hj] at h
      obtain ⟨a1, a2, a3⟩ := Oper.apart_spec (hap _ hj).1
      obtain ⟨b1, b2, b3⟩ := Oper.apart_spec (hap _ hj).2
      obtain ⟨vj, h1, h2⟩ := h
      have := ih (fun x hx => hX x (List.mem_cons_of_mem _ hx)) _ _ h2 hx
      have ec : upd (upd ρ oj.dst vj) (some d) (ptrB B) = upd (upd ρ (some d) (ptrB B)) oj.dst vj := upd_comm fun e he h2 => b2 e he (by rw [hda]; exact h2)
      rw [ec, SG.upd (hsel _ _ hi) a3] at this
      refine this.mono ?_
      rintro v w' ⟨hx', h⟩
      refine ⟨hx', ?_⟩
      simp only [List.cons_append, kdL, Ka.kd, Hyb, hj]
      refine ⟨vj, fun w'' hx'' => ?_, ?_⟩
      · rw [SG.upd (hsel _ _ hj) a1, SG.upd (hsel _ _ hj) (fun e he => b3 e (by rw [hda]; exact he))]
        exact h1 w'' (hx'.trans hx'')
      · rw [upd_comm a2]; exact h

def preA (ops : Array Oper) (ia : Nat) : List Nat → OrdA → Bool
  | _, [] => true
  | acc, (j, .wild) :: _ => direct ops j ia && acc.all (direct ops j)
  | acc, (j, .quiet) :: L => apartB ops j ia && preA ops ia (j :: acc) L
  | acc, (j, _) :: L => apartB ops j ia && preA ops ia acc L
def hybAB (ops : Array Oper) (ia : Nat) (L : OrdA) : Bool :=
  Region.noSelect ops && aftB ops && (List.range ops.size).all (fun j => Nat.beq j ia || (kdL L).any fun x => Nat.beq x.1 j) && Nat.beq (L.length + 1) ops.size && ordB ops (kdL L) && preA ops ia [] L && Nat.blt ia ops.size && (kdL L).all (fun x => !Nat.beq x.1 ia) && (List.range ops.size).all (fun j => !direct ops ia j)

def qp (x : Nat × Ka) : Prop := x.2 = .quiet ∨ x.2 = .pure
theorem preA_acc {ops : Array Oper} {ia : Nat} : ∀ {L : OrdA} {acc acc' : List Nat}, (∀ j ∈ acc', j ∈ acc) → preA ops ia acc L = true → preA ops ia acc' L = true := by
  intro L
  induction L with
  | nil => intro _ _ _ _; rfl
  | cons z L ih =>
    intro acc acc' hs h
    obtain ⟨j, k⟩ := z
    cases k with
    | wild =>
      simp only [preA, Bool.and_eq_true, List.all_eq_true] at h ⊢
      exact ⟨h.1, fun x hx => h.2 x (hs x hx)⟩
    | quiet =>
      simp only [preA, Bool.and_eq_true] at h ⊢
      refine ⟨h.1, ih (fun x hx => ?_) h.2⟩
      rcases List.mem_cons.1 hx with rfl | hx
      · exact List.mem_cons_self ..
      · exact List.mem_cons_of_mem _ (hs x hx)
    | pure => simp only [preA, Bool.and_eq_true] at h ⊢; exact ⟨h.1, ih hs h.2⟩
    | loud => simp only [preA, Bool.and_eq_true] at h ⊢; exact ⟨h.1, ih hs h.2⟩
theorem preA_wild {ops : Array Oper} {ia : Nat} {x : Nat × Ka} {Y : OrdA} : ∀ {X : OrdA} {acc : List Nat}, (∀ x ∈ X, qp x) → preA ops ia acc (X ++ x :: Y) = true → x.2 = .wild → ∀ j ∈ acc, direct ops x.1 j = true := by
  intro X
  induction X with
  | nil =>
    intro acc _ h hw j hj
    obtain ⟨i, k⟩ := x
    simp only at hw
    subst hw
    simp only [List.nil_append, preA, Bool.and_eq_true, List.all_eq_true] at h
    exact h.2 j hj
  | cons y X ih =>
    intro acc hX h hw j hj
    obtain ⟨i, k⟩ := y
    have hq := hX _ (List.mem_cons_self ..)
    have hX' := fun y hy => hX y (List.mem_cons_of_mem _ hy)
    unfold qp at hq
    simp only at hq
    rcases hq with rfl | rfl
    · simp only [List.cons_append, preA, Bool.and_eq_true] at h
      exact ih hX' h.2 hw j (List.mem_cons_of_mem _ hj)
    · simp only [List.cons_append, preA, Bool.and_eq_true] at h
      exact ih hX' h.2 hw j hj
theorem preA_at {ops : Array Oper} {ia : Nat} {x : Nat × Ka} {Y : OrdA} : ∀ {X : OrdA} {acc : List Nat}, (∀ x ∈ X, qp x) → preA ops ia acc (X ++ x :: Y) = true →
    (x.2 = .wild → direct ops x.1 ia = true ∧ (∀ y ∈ X, apartB ops y.1 ia = true) ∧ ∀ y ∈ X, y.2 = .quiet → direct ops x.1 y.1 = true) ∧ (x.2 ≠ .wild → apartB ops x.1 ia = true ∧ preA ops ia acc (X ++ Y) = true) := by
  intro X
  induction X with
  | nil =>
    intro acc _ h
    obtain ⟨j, k⟩ := x
    cases k with
    | wild => simp only [List.nil_append, preA, Bool.and_eq_true] at h; exact ⟨fun _ => ⟨h.1, fun y hy => (by cases hy), fun y hy => (by cases hy)⟩, fun h' => absurd rfl h'⟩
    | quiet => simp only [List.nil_append, preA, Bool.and_eq_true] at h; exact ⟨fun h' => (by cases h'), fun _ => ⟨h.1, preA_acc (fun _ hj => List.mem_cons_of_mem _ hj) h.2⟩⟩
    | pure => simp only [List.nil_append, preA, Bool.and_eq_true] at h; exact ⟨fun h' => (by cases h'), fun _ => h⟩
    | loud => simp only [List.nil_append, preA, Bool.and_eq_true] at h; exact ⟨fun h' => (by cases h'), fun _ => h⟩
  | cons y X ih =>
    intro acc hX h
    obtain ⟨j, k⟩ := y
    have hq := hX _ (List.mem_cons_self ..)
    have hX' := fun y hy => hX y (List.mem_cons_of_mem _ hy)
    unfold qp at hq
    simp only at hq
    rcases hq with rfl | rfl
    · simp only [List.cons_append, preA, Bool.and_eq_true] at h ⊢
      obtain ⟨h1, h2⟩ := ih hX' h.2
      refine ⟨fun hw => ⟨(h1 hw).1, fun y hy => ?_, fun y hy hyq => ?_⟩, fun hw => ⟨(h2 hw).1, h.1, (h2 hw).2⟩⟩
      · rcases List.mem_cons.1 hy with rfl | hy
        · exact h.1
        · exact (h1 hw).2.1 y hy
      · rcases List.mem_cons.1 hy with rfl | hy
        · exact preA_wild hX' h.2 hw j (List.mem_cons_self ..)
        · exact (h1 hw).2.2 y hy hyq
    · simp only [List.cons_append, preA, Bool.and_eq_true] at h ⊢
      obtain ⟨h1, h2⟩ := ih hX' h.2
      refine ⟨fun hw => ⟨(h1 hw).1, fun y hy => ?_, fun y hy hyq => ?_⟩, fun hw => ⟨(h2 hw).1, h.1, (h2 hw).2⟩⟩
      · rcases List.mem_cons.1 hy with rfl | hy
        · exact h.1
        · exact (h1 hw).2.1 y hy
      · rcases List.mem_cons.1 hy with rfl | hy
        · cases hyq
        · exact (h1 hw).2.2 y hy hyq

theorem ordB_nd {ops : Array Oper} {x : Nat × Kd} {Y : Ord} : ∀ {X : Ord}, ordB ops (X ++ x :: Y) = true → ∀ y ∈ X ++ Y, y.1 ≠ x.1 := by
  intro X
  induction X with
  | nil =>
    intro h y hy e
    simp only [List.nil_append, ordB, Bool.and_eq_true] at h
    have := List.all_eq_true.1 h.1.1.2 y (by simpa using hy)
    simp only [pairB, Bool.and_eq_true] at this
    exact absurd this.1.2 (by simp [e])
  | cons z X ih =>
    intro h y hy e
    simp only [List.cons_append, ordB, Bool.and_eq_true] at h
    rcases List.mem_cons.1 hy with rfl | hy
    · have := List.all_eq_true.1 h.1.1.2 x (by simp)
      simp only [pairB, Bool.and_eq_true] at this
      exact absurd this.1.2 (by simp [e])
    · exact ih h.2 y hy e

theorem apart_of {ops : Array Oper} {i j : Nat} {oi oj : Oper} (h : apartB ops i j = true) (hi : nthO ops.toList i = some oi) (hj : nthO ops.toList j = some oj) : oi.apart ops oj = true := by
  simp only [apartB, hi, hj] at h
  exact h

theorem kd_quiet {k : Ka} (h : k.kd = .quiet) : k = .quiet ∨ k = .pure := by cases k <;> simp_all [Ka.kd]
theorem before_qp {ops : Array Oper} {X : OrdA} {x : Nat × Kd} (h : ∀ y ∈ kdL X, y.2 = .quiet ∧ pairB ops y x = true) : ∀ y ∈ X, qp y := fun _ hy => kd_quiet (h _ (kdL_mem hy)).1
/-- The rule. -/
theorem hyb_ruleA {P : Program} {T : Tab} (hT : Ties P T) (hm : P.follows .mixedOrders = true) {ops : Array Oper} {Q : Post} {ρ : Fr} {w : World} (ia d t : Nat) (L : OrdA) {oa : Oper} {r : TRow} (hoa : nthO ops.toList ia = some oa) (hop : oa.op = .alloc t) (hdst : oa.dst = some d) (hg : oa.guard = none) (hr : look T t = some r)
    (hB : hybAB ops ia L = true) (h : vcHybA P T ops.toList Q d (.cells r.zero.cells t) w [(0, w.heap.size)] L ρ w) : DrawRaw P ops Q ρ w := by
  intro id n a hfit hn hd hfr
  simp only [hybAB, Bool.and_eq_true, Nat.beq_eq, Nat.blt_eq, List.all_eq_true] at hB
  obtain ⟨⟨⟨⟨⟨⟨⟨⟨hs, haft⟩, hcov⟩, hlen⟩, hord⟩, hpre⟩, hia⟩, hno⟩, hfree⟩ := hB
  have sel : ∀ (j : Nat) (o : Oper), nthO ops.toList j = some o → ∀ cs b, o.op ≠ .select cs b := fun j o ho cs b => by
    rw [nthO_eq, Array.getElem?_toList] at ho
    exact Region.noSelect_spec hs j o cs b ho
  have hfree' : ∀ j, j < ops.size → direct ops ia j = false := fun j hj => by
    have := hfree j (List.mem_range.2 hj)
    simpa using this
  have hno' : ∀ x ∈ kdL L, x.1 ≠ ia := fun x hx e => by
    have := hno x hx
    simp [e] at this
  refine wp_region_any hm ?_
  refine any_gen hfit haft
    (fun L' => (∃ L, L' = (ia, .loud) :: L ∧ ordB ops L = true ∧ ∀ x ∈ L, x.1 ≠ ia) ∨ ordB ops L' = true)
    (fun L' ρ w' => (∃ L sp, L' = (ia, .loud) :: kdL L ∧ HybA P ops.toList (fun ρ w => Q .normal ρ w) d (.cells r.zero.cells t) w sp L ρ w' ∧ ordB ops (kdL L) = true ∧ preA ops ia [] L = true ∧ (∀ s ∈ sp, s.2 ≤ w'.heap.size) ∧ Ext w w')
      ∨ (∃ L, L' = kdL L ∧ ordB ops (kdL L) = true ∧ preA ops ia [] L = true ∧ ∃ ρ0 sp B, ρ = upd ρ0 (some d) (ptrB B) ∧ HybA P ops.toList (fun ρ w => Q .normal ρ w) d (.cells r.zero.cells t) w sp L ρ0 w' ∧ Made (.cells r.zero.cells t) B w' ∧ Clear B sp ∧ Ext w w')
      ∨ (ordB ops L' = true ∧ Hyb P ops.toList (fun ρ w => Q .normal ρ w) L' ρ w'))
    ?_ ?_ ?_ ?_ ?_ ops.size ((ia, .loud) :: kdL L) _ a _ (by rw [List.length_cons, kdL_len]; exact hlen) (by simp) (.inl ⟨kdL L, rfl, hord, hno'⟩) ?_ hn hd ?_
  · rintro L' (⟨L, rfl, h1, h3⟩ | h1) x hx
    · rcases List.mem_cons.1 hx with rfl | hx
      · exact hia
      · exact (ordB_mem h1 x hx).1
    · exact (ordB_mem h1 x hx).1
  · rintro X x Y (⟨L, he, h1, h3⟩ | h1) y hy
    · cases X with
      | nil =>
        simp only [List.nil_append, List.cons.injEq] at he
        obtain ⟨rfl, rfl⟩ := he
        exact h3 y (by simpa using hy)
      | cons z X =>
        simp only [List.cons_append, List.cons.injEq] at he
        obtain ⟨rfl, rfl⟩ := he
        rcases List.mem_cons.1 hy with rfl | hy
        · exact fun e => h3 x (by simp) e.symm
        · exact ordB_nd h1 y hy
    · exact ordB_nd h1 y hy
  · rintro L' (⟨L, rfl, h1, h3⟩ | h1) hne
    · refine ⟨_, List.mem_cons_self .., fun y hy => ?_⟩
      rcases List.mem_cons.1 hy with rfl | hy
      · exact hfree' _ hia
      · exact hfree' _ (ordB_mem h1 y hy).1
    · cases L' with
      | nil => exact absurd rfl hne
      | cons x Y =>
        refine ⟨x, List.mem_cons_self .., fun y hy => ?_⟩
        have hx := ordB_mem h1 x (List.mem_cons_self ..)
        rcases List.mem_cons.1 hy with rfl | hy
        · exact hx.2
        · simp only [ordB, Bool.and_eq_true] at h1
          have := List.all_eq_true.1 h1.1.1.2 y hy
          simp only [pairB, Bool.and_eq_true, Bool.not_eq_true'] at this
          exact this.1.1
  · rintro ρ w' (⟨L, sp, he, _⟩ | ⟨L, he, _, _, ρ0, sp, B, rfl, h, hmd, hcl, _⟩ | ⟨_, h⟩)
    · cases he
    · cases L with
      | nil => exact h B w' hmd hcl (Ext.refl _)
      | cons z L => obtain ⟨i, k⟩ := z; cases he
    · exact h w' (Ext.refl _)
  · intro X x Y hG nodir
    obtain ⟨j, k⟩ := x
    simp only at nodir
    refine ⟨?_, ?_⟩
    · rcases hG with ⟨L, he, h1, h3⟩ | h1
      · cases X with
        | nil =>
          simp only [List.nil_append, List.cons.injEq] at he
          obtain ⟨_, rfl⟩ := he
          exact .inr h1
        | cons z X =>
          simp only [List.cons_append, List.cons.injEq] at he
          obtain ⟨rfl, rfl⟩ := he
          have before := ordB_before h1 (fun e he => nodir e (List.mem_cons_of_mem _ he))
          refine .inl ⟨X ++ Y, rfl, ordB_drop (fun x hx => (before x hx).1) h1, fun x hx => h3 x ?_⟩
          rcases List.mem_append.1 hx with hx | hx
          · exact List.mem_append_left _ hx
          · exact List.mem_append_right _ (List.mem_cons_of_mem _ hx)
      · have before := ordB_before h1 nodir
        exact .inr (ordB_drop (fun x hx => (before x hx).1) h1)
    · intro ρ w' o ho hI
      simp only at ho
      rcases hI with ⟨L, sp, he, h, h1, h2, hsp, hws⟩ | ⟨L, he, h1, h2, ρ0, sp, B, rfl, h, hmd, hcl, hws⟩ | ⟨h1, h⟩
      · cases X with
        | nil =>
          simp only [List.nil_append, List.cons.injEq, Prod.mk.injEq] at he
          obtain ⟨⟨rfl, rfl⟩, rfl⟩ := he
          rw [hoa] at ho
          cases ho
          have hv : vcG P T ops.toList oa ρ w' (fun ρ' w'' => ρ' = upd ρ (some d) (ptrB w'.heap.size) ∧ w'' = w'.alloc (.cells r.zero.cells t)) := by
            unfold vcG
            rw [hg]
            simp only [vcOp, vcP, hop, hr, hdst]
            first | exact ⟨rfl, rfl⟩ | trivial
          refine (vcG_SG hT hv).mono ?_
          rintro v w'' ⟨hv1, rfl⟩
          exact .inr (.inl ⟨L, rfl, h1, h2, ρ, sp, w'.heap.size, hv1, h.ext (Ext.new _ _), ⟨w', rfl, Ext.refl _⟩, fun s hs => .inr (hsp s hs), hws.trans (Ext.new _ _)⟩)
        | cons z X =>
          simp only [List.cons_append, List.cons.injEq] at he
          obtain ⟨rfl, he⟩ := he
          obtain ⟨XA, ⟨j', kA⟩, YA, rfl, rfl, hxe, rfl⟩ := kdL_split he.symm
          simp only [Prod.mk.injEq] at hxe
          obtain ⟨rfl, rfl⟩ := hxe
          rw [← he] at h1
          have before := ordB_before h1 (fun e he => nodir e (List.mem_cons_of_mem _ he))
          have hqp := before_qp before
          have hp := preA_at hqp h2
          have hk : kA ≠ .wild := fun hk => by
            have h4 := nodir (ia, .loud) (List.mem_cons_self ..)
            have h5 : direct ops j ia = true := (hp.1 hk).1
            simp only at h4
            rw [h5] at h4
            cases h4
          have hap : ∀ x ∈ XA, (x.2 = .quiet ∨ x.2 = .pure) ∧ ∀ oj, nthO ops.toList x.1 = some oj → o.apart ops oj = true := fun x hx => by
            obtain ⟨g1, g2⟩ := before _ (kdL_mem hx)
            have g3 := nodir _ (List.mem_cons_of_mem _ (List.mem_append_left _ (kdL_mem hx)))
            simp only at g1 g3
            simp only [pairB, g1, g3, Bool.and_eq_true, Bool.false_or] at g2
            refine ⟨hqp x hx, fun oj hoj => ?_⟩
            cases kA with
            | wild => exact absurd rfl hk
            | quiet => exact apart_of g2.2 ho hoj
            | pure => exact apart_of g2.2 ho hoj
            | loud => exact apart_of g2.2 ho hoj
          refine (hybA_take sel ho hk YA XA hap sp ρ w' h w' hws (Ext.refl _)).mono ?_
          rintro v w'' ⟨hx, sp', hsp', h'⟩
          refine .inl ⟨XA ++ YA, sp', by rw [kdL_app]; rfl, h', by rw [kdL_app]; exact ordB_drop (fun x hx => (before x hx).1) h1, (hp.2 hk).2, fun s hs => ?_, hws.trans hx⟩
          rcases hsp' with rfl | rfl
          · exact Nat.le_trans (hsp s hs) hx.size
          · rcases List.mem_cons.1 hs with rfl | hs
            · exact Nat.le_refl _
            · exact Nat.le_trans (hsp s hs) hx.size
      · obtain ⟨XA, ⟨j', kA⟩, YA, rfl, rfl, hxe, rfl⟩ := kdL_split he.symm
        simp only [Prod.mk.injEq] at hxe
        obtain ⟨rfl, rfl⟩ := hxe
        rw [← he] at h1
        have before := ordB_before h1 nodir
        have hqp := before_qp before
        have hp := preA_at hqp h2
        have hapA : ∀ x ∈ XA, ∀ oj, nthO ops.toList x.1 = some oj → o.apart ops oj = true := fun x hx oj hoj => by
          obtain ⟨g1, g2⟩ := before _ (kdL_mem hx)
          have g3 := nodir _ (List.mem_append_left _ (kdL_mem hx))
          simp only at g1 g3
          simp only [pairB, g1, g3, Bool.and_eq_true, Bool.false_or] at g2
          cases kA with
          | wild => exact apart_of g2.2 ho hoj
          | quiet => exact apart_of g2.2 ho hoj
          | pure => exact apart_of g2.2 ho hoj
          | loud => exact apart_of g2.2 ho hoj
        by_cases hk : kA = .wild
        · subst hk
          have hw := hp.1 rfl
          have hXp : ∀ x ∈ XA, x.2 = .pure ∧ ∀ oj, nthO ops.toList x.1 = some oj → o.apart ops oj = true ∧ oj.apart ops oa = true := fun x hx => by
            refine ⟨?_, fun oj hoj => ⟨hapA x hx oj hoj, apart_of (hw.2.1 x hx) hoj hoa⟩⟩
            rcases hqp x hx with h | h
            · have h5 := hw.2.2 x hx h
              have h6 := nodir _ (List.mem_append_left _ (kdL_mem hx))
              simp only at h5 h6
              rw [h5] at h6
              cases h6
            · exact h
          refine (hybA_wild sel ho hdst YA hmd hcl XA hXp ρ0 w' h (Ext.refl _)).mono fun v w'' h' => ?_
          exact .inr (.inr ⟨ordB_drop (fun x hx => (before x hx).1) h1, by have := h'.2; rw [kdL_app] at this; exact this⟩)
        · have hapj := apart_of (hp.2 hk).1 ho hoa
          obtain ⟨a1, a2, a3⟩ := Oper.apart_spec hapj
          rw [SG.upd (sel _ _ ho) (fun e he => a3 e (by rw [hdst]; exact he))]
          refine (hybA_take sel ho hk YA XA (fun x hx => ⟨hqp x hx, hapA x hx⟩) sp ρ0 w' h w' hws (Ext.refl _)).mono ?_
          rintro v w'' ⟨hx, sp', hsp', h'⟩
          refine .inr (.inl ⟨XA ++ YA, by rw [kdL_app], by rw [kdL_app]; exact ordB_drop (fun x hx => (before x hx).1) h1, (hp.2 hk).2, upd ρ0 o.dst v, sp', B, ?_, h', hmd.ext hx, fun s hs => ?_, hws.trans hx⟩)
          · exact upd_comm fun e he he2 => a2 e he2 (by rw [hdst]; exact he)
          · rcases hsp' with rfl | rfl
            · exact hcl s hs
            · rcases List.mem_cons.1 hs with rfl | hs
              · exact .inl hmd.lt
              · exact hcl s hs
      · have before := ordB_before h1 nodir
        have hq := fun x hx => (before x hx).1
        by_cases hk : k = .wild
        · subst hk
          have hX : X = [] := by
            cases X with
            | nil => rfl
            | cons x X =>
              obtain ⟨g1, g2⟩ := before x (List.mem_cons_self ..)
              have g3 := nodir x (List.mem_append_left _ (List.mem_cons_self ..))
              simp only [pairB, g1, g3, Bool.and_eq_true, Bool.false_or] at g2
              exact absurd g2.2 (by simp)
          subst hX
          simp only [List.nil_append, Hyb, ho] at h
          exact (h w' (Ext.refl _)).mono fun v w'' h' => .inr (.inr ⟨ordB_drop hq h1, h'⟩)
        · have hap : ∀ x ∈ X, x.2 = .quiet ∧ ∀ oj, nthO ops.toList x.1 = some oj → o.apart ops oj = true := fun x hx => by
            obtain ⟨g1, g2⟩ := before x hx
            have g3 := nodir x (List.mem_append_left _ hx)
            simp only [pairB, g1, g3, Bool.and_eq_true, Bool.false_or] at g2
            refine ⟨g1, fun oj hoj => ?_⟩
            cases k with
            | wild => exact absurd rfl hk
            | quiet => exact apart_of g2.2 ho hoj
            | loud => exact apart_of g2.2 ho hoj
          exact (hyb_take sel ho hk Y X hap ρ w' h w' (Ext.refl _)).mono fun v w'' h' => .inr (.inr ⟨ordB_drop hq h1, h'.2⟩)
  · intro j hj
    have := hcov j (List.mem_range.2 hj)
    constructor
    · intro _
      simp only [Bool.or_eq_true, Nat.beq_eq] at this
      rcases this with rfl | hx
      · exact ⟨_, List.mem_cons_self .., rfl⟩
      · obtain ⟨x, hx, hxj⟩ := List.any_eq_true.1 hx
        exact ⟨x, List.mem_cons_of_mem _ hx, by simpa using hxj⟩
    · intro _; simp [hj]
  · subst hfr
    have hx : Ext w { w with drawn := w.drawn + 1 } := ⟨rfl, rfl, rfl, Nat.le_refl _, fun _ _ => rfl⟩
    exact .inl ⟨L, [(0, w.heap.size)], rfl, (vcHybA_HybA hT L _ _ _ h).ext hx, hord, hpre, fun s hs => by rw [List.mem_singleton.1 hs]; exact Nat.le_refl _, hx⟩

end Go.Vc
