/- Terms plainly: what they stand for, how they compare, one step towards a simpler form. No program in sight. Terms plainly: one step towards a simpler form keeps a term valid and its width. No program in sight. Words, plainly: the operations, their rules. No program in sight. Terms plainly: a step towards a simpler form keeps what a term stands for; no operation with one, two or three kids is left out. No program in sight. Terms plainly: the simpler form, what it keeps, that nothing more can be made simpler. No program in sight. -/
import Derived.Test.YtkoaicjcanplaaaQa
import Derived.Test.YtkoaicjcanplaaaTw
import Derived.Test.YtkoaicjcanplaaaWe
import Derived.Lib.Bytealg
import Derived.Test.YtkoaicjcanplaaaWf
namespace Go.Proofs.Ytkoaicjcanplaaa
open Go Go.Vc Go.RowKit

abbrev Tm := Lab × TF
def tms : TF → List Tm
  | .nil => []
  | .cons x k r => (x, k) :: tms r
def mkTF : List Tm → TF
  | [] => .nil
  | t :: l => .cons t.1 t.2 (mkTF l)
theorem tms_mk : ∀ l, tms (mkTF l) = l := by
  intro l
  induction l with
  | nil => rfl
  | cons t l ih => simp [mkTF, tms, ih]
theorem mk_tms : ∀ k, mkTF (tms k) = k := by
  intro k
  induction k with
  | nil => rfl
  | cons x k r _ ih => simp [mkTF, tms, ih]
theorem tms_len : ∀ k, (tms k).length = k.len := by
  intro k
  induction k with
  | nil => rfl
  | cons x k r _ ih => simp [tms, Fo.len, ih]
theorem hdF_tms : ∀ k, hdF k = (tms k).map (·.1) := by
  intro k
  induction k with
  | nil => rfl
  | cons x k r _ ih => simp [hdF, tms, ih]
def zeroT : Tm := (zeroL, .nil)
def kid (k : TF) (i : Nat) : Tm := (tms k).getD i zeroT
def Tm.sz (t : Tm) : Nat := t.2.size + 1
def OkT (t : Tm) : Prop := NodeOk t.1 (hdF t.2) ∧ OkF t.2
theorem OkF_mem : ∀ {k : TF}, OkF k → ∀ t ∈ tms k, OkT t := by
  intro k
  induction k with
  | nil => intro _ t h; cases h
  | cons x k r _ ih =>
    rintro ⟨h1, h2⟩ t h
    rcases List.mem_cons.1 h with rfl | h
    · exact h1
    · exact ih h2 t h
theorem OkF_mk : ∀ {l : List Tm}, (∀ t ∈ l, OkT t) → OkF (mkTF l) := by
  intro l
  induction l with
  | nil => intro _; trivial
  | cons t l ih => intro h; exact ⟨h t (by simp), ih fun u hu => h u (by simp [hu])⟩

/-! what a term stands for -/
def ap (x : Lab) (l : List Lab) (v : List Int) (e : ByteArray → Int) : Int :=
  if x.op = 0 then x.n else if x.op = 22 then e x.name else if x.op = 17 then (if v.getD 0 0 = 1 then v.getD 1 0 else v.getD 2 0)
  else if x.op = 1 ∨ x.op = 2 then uW x.op (kw l 0) (v.getD 0 0) else if x.op = 19 then cW (kw l 0) (v.getD 0 0) x.n x.w
  else if x.op = 20 ∨ x.op = 21 then wiW (kw l 0) (v.getD 0 0) x.w (decide (x.op = 21))
  else if x.op = 18 then jW (kw l 0) (v.getD 0 0) (kw l 1) (v.getD 1 0) else bW x.op (kw l 0) (v.getD 0 0) (v.getD 1 0)
def evF (e : ByteArray → Int) : TF → List Int
  | .nil => []
  | .cons x k r => ap x (hdF k) (evF e k) e :: evF e r
def evT (e : ByteArray → Int) (t : Tm) : Int := ap t.1 (hdF t.2) (evF e t.2) e
theorem evF_tms (e : ByteArray → Int) : ∀ k, evF e k = (tms k).map (evT e) := by
  intro k
  induction k with
  | nil => rfl
  | cons x k r _ ih => simp [evF, tms, ih, evT]

/-! comparing -/
def cmpI (a b : Int) : Int := if a < b then -1 else if b < a then 1 else 0
def cmpS (a b : ByteArray) : Int := Lib.compareBytes a.data.toList b.data.toList
def cmpL (x y : Lab) : Int :=
  if cmpI x.op y.op ≠ 0 then cmpI x.op y.op else if cmpI x.w y.w ≠ 0 then cmpI x.w y.w else if cmpI x.n y.n ≠ 0 then cmpI x.n y.n else cmpS x.name y.name
def cmpF : TF → TF → Int
  | .nil, .nil => 0
  | .nil, .cons _ _ _ => -1
  | .cons _ _ _, .nil => 1
  | .cons x k r, .cons y l q => if cmpL x y ≠ 0 then cmpL x y else if cmpF k l ≠ 0 then cmpF k l else cmpF r q
def cmpT (a b : Tm) : Int := if cmpL a.1 b.1 ≠ 0 then cmpL a.1 b.1 else cmpF a.2 b.2
theorem cmpI_zero {a b : Int} : cmpI a b = 0 ↔ a = b := by
  unfold cmpI
  split
  · omega
  · split <;> omega
theorem cmpI_swap (a b : Int) : cmpI b a = - cmpI a b := by
  unfold cmpI
  by_cases h1 : a < b
  · rw [if_neg (by omega), if_pos h1, if_pos h1]; rfl
  · by_cases h2 : b < a
    · rw [if_pos h2, if_neg h1, if_pos h2]
    · rw [if_neg h2, if_neg h1, if_neg h1, if_neg h2]; rfl
theorem cmpI_val (a b : Int) : cmpI a b = -1 ∨ cmpI a b = 0 ∨ cmpI a b = 1 := by
  unfold cmpI
  split
  · exact .inl rfl
  · split
    · exact .inr (.inr rfl)
    · exact .inr (.inl rfl)
theorem cb_zero : ∀ a b : List UInt8, Lib.compareBytes a b = 0 ↔ a = b := by
  intro a
  induction a with
  | nil => intro b; cases b <;> simp [Lib.compareBytes]
  | cons x a ih =>
    intro b
    cases b with
    | nil => simp [Lib.compareBytes]
    | cons y b =>
      simp only [Lib.compareBytes]
      by_cases h1 : x < y
      · rw [if_pos h1]
        simp only [List.cons.injEq, false_iff, show (-1 : Int) ≠ 0 from by decide]
        rintro ⟨rfl, _⟩
        exact absurd h1 (by simp)
      · rw [if_neg h1]
        by_cases h2 : y < x
        · rw [if_pos h2]
          simp only [List.cons.injEq, false_iff, show (1 : Int) ≠ 0 from by decide]
          rintro ⟨rfl, _⟩
          exact absurd h2 (by simp)
        · rw [if_neg h2, ih, List.cons.injEq]
          have : x = y := by
            rw [UInt8.lt_iff_toNat_lt] at h1 h2
            exact UInt8.toNat_inj.1 (by omega)
          simp [this]
theorem cb_swap : ∀ a b : List UInt8, Lib.compareBytes b a = - Lib.compareBytes a b := by
  intro a
  induction a with
  | nil => intro b; cases b <;> rfl
  | cons x a ih =>
    intro b
    cases b with
    | nil => rfl
    | cons y b =>
      simp only [Lib.compareBytes]
      by_cases h1 : x < y
      · rw [if_neg (by rw [UInt8.lt_iff_toNat_lt] at *; omega), if_pos h1, if_pos h1]; rfl
      · by_cases h2 : y < x
        · rw [if_pos h2, if_neg h1, if_pos h2]
        · rw [if_neg h2, if_neg h1, if_neg h1, if_neg h2]; exact ih b
theorem cb_val : ∀ a b : List UInt8, Lib.compareBytes a b = -1 ∨ Lib.compareBytes a b = 0 ∨ Lib.compareBytes a b = 1 := by
  intro a
  induction a with
  | nil => intro b; cases b <;> simp [Lib.compareBytes]
  | cons x a ih =>
    intro b
    cases b with
    | nil => simp [Lib.compareBytes]
    | cons y b =>
      simp only [Lib.compareBytes]
      split
      · simp
      · split
        · simp
        · exact ih b
theorem cb_less : ∀ a b : List UInt8, Op.bytesLess a b = decide (Lib.compareBytes a b = -1) := by
  intro a
  induction a with
  | nil => intro b; cases b <;> simp [Lib.compareBytes, Op.bytesLess]
  | cons x a ih =>
    intro b
    cases b with
    | nil => simp [Lib.compareBytes, Op.bytesLess]
    | cons y b =>
      simp only [Lib.compareBytes, Op.bytesLess]
      by_cases h1 : x < y
      · simp [h1]
      · by_cases h2 : y < x
        · have : ¬ x = y := by rintro rfl; exact absurd h2 (by simp)
          simp [h1, h2, this]
        · have : x = y := by
            rw [UInt8.lt_iff_toNat_lt] at h1 h2
            exact UInt8.toNat_inj.1 (by omega)
          subst this
          simp [h1, ih]
theorem cb_trans : ∀ a b c : List UInt8, Lib.compareBytes a b = -1 → Lib.compareBytes b c = -1 → Lib.compareBytes a c = -1 := by
  intro a
  induction a with
  | nil => intro b c; cases b <;> cases c <;> simp [Lib.compareBytes]
  | cons x a ih =>
    intro b c
    cases b with
    | nil => intro h; simp [Lib.compareBytes] at h
    | cons y b =>
      cases c with
      | nil => intro _ h; simp [Lib.compareBytes] at h
      | cons z c =>
        simp only [Lib.compareBytes, UInt8.lt_iff_toNat_lt]
        intro h1 h2
        by_cases a1 : x.toNat < y.toNat
        · by_cases a2 : y.toNat < z.toNat
          · rw [if_pos (by omega)]
          · rw [if_neg a2] at h2
            by_cases a3 : z.toNat < y.toNat
            · rw [if_pos a3] at h2; cases h2
            · rw [if_pos (by omega)]
        · rw [if_neg a1] at h1
          by_cases a3 : y.toNat < x.toNat
          · rw [if_pos a3] at h1; cases h1
          · rw [if_neg a3] at h1
            by_cases a2 : y.toNat < z.toNat
            · rw [if_pos (by omega)]
            · rw [if_neg a2] at h2
              by_cases a4 : z.toNat < y.toNat
              · rw [if_pos a4] at h2; cases h2
              · rw [if_neg a4] at h2
                rw [if_neg (by omega), if_neg (by omega)]
                exact ih b c h1 h2
theorem bytes_ext {a b : ByteArray} : a.data.toList = b.data.toList ↔ a = b := ⟨fun h => by cases a; cases b; simp only [ByteArray.mk.injEq]; exact Array.toList_inj.1 h, fun h => by rw [h]⟩
theorem cmpS_zero {a b : ByteArray} : cmpS a b = 0 ↔ a = b := (cb_zero _ _).trans bytes_ext
theorem cmpS_swap (a b : ByteArray) : cmpS b a = - cmpS a b := cb_swap _ _
theorem cmpS_val (a b : ByteArray) : cmpS a b = -1 ∨ cmpS a b = 0 ∨ cmpS a b = 1 := cb_val _ _
theorem less_cmp (a b : ByteArray) : less a b = decide (cmpS a b = -1) := by
  unfold less cmpS
  rw [ByteArray.toList_eq, ByteArray.toList_eq]
  exact cb_less _ _
theorem cmpS_trans {a b c : ByteArray} (h1 : cmpS a b = -1) (h2 : cmpS b c = -1) : cmpS a c = -1 := cb_trans _ _ _ h1 h2
theorem cmpL_zero {x y : Lab} : cmpL x y = 0 ↔ x = y := by
  obtain ⟨o, w, n, s⟩ := x
  obtain ⟨o', w', n', s'⟩ := y
  simp only [cmpL, Lab.mk.injEq]
  by_cases h1 : cmpI o o' = 0
  · by_cases h2 : cmpI w w' = 0
    · by_cases h3 : cmpI n n' = 0
      · rw [if_neg (by simp [h1]), if_neg (by simp [h2]), if_neg (by simp [h3]), cmpS_zero]
        simp [cmpI_zero.1 h1, cmpI_zero.1 h2, cmpI_zero.1 h3]
      · have : n ≠ n' := fun e => h3 (cmpI_zero.2 e)
        simp [h1, h2, h3, this]
    · have : w ≠ w' := fun e => h2 (cmpI_zero.2 e)
      simp [h1, h2, this]
  · have : o ≠ o' := fun e => h1 (cmpI_zero.2 e)
    simp [h1, this]
theorem cmpL_swap (x y : Lab) : cmpL y x = - cmpL x y := by
  simp only [cmpL, cmpI_swap x.op y.op, cmpI_swap x.w y.w, cmpI_swap x.n y.n, cmpS_swap x.name y.name]
  by_cases h1 : cmpI x.op y.op = 0 <;> by_cases h2 : cmpI x.w y.w = 0 <;> by_cases h3 : cmpI x.n y.n = 0 <;> simp [h1, h2, h3]
theorem cmpL_val (x y : Lab) : cmpL x y = -1 ∨ cmpL x y = 0 ∨ cmpL x y = 1 := by
  unfold cmpL
  split
  · exact cmpI_val _ _
  · split
    · exact cmpI_val _ _
    · split
      · exact cmpI_val _ _
      · exact cmpS_val _ _
theorem cmpF_zero : ∀ k l : TF, cmpF k l = 0 ↔ k = l := by
  intro k
  induction k with
  | nil => intro l; cases l <;> simp [cmpF]
  | cons x k r ihk ihr =>
    intro l
    cases l with
    | nil => simp [cmpF]
    | cons y l q =>
      simp only [cmpF, Fo.cons.injEq]
      by_cases h1 : cmpL x y = 0
      · by_cases h2 : cmpF k l = 0
        · rw [if_neg (by simp [h1]), if_neg (by simp [h2]), ihr]
          simp [cmpL_zero.1 h1, (ihk l).1 h2]
        · have : k ≠ l := fun e => h2 ((ihk l).2 e)
          simp [h1, h2, this]
      · have : x ≠ y := fun e => h1 (cmpL_zero.2 e)
        simp [h1, this]
theorem cmpF_swap : ∀ k l : TF, cmpF l k = - cmpF k l := by
  intro k
  induction k with
  | nil => intro l; cases l <;> rfl
  | cons x k r ihk ihr =>
    intro l
    cases l with
    | nil => rfl
    | cons y l q =>
      simp only [cmpF, cmpL_swap x y, ihk l, ihr q]
      by_cases h1 : cmpL x y = 0 <;> by_cases h2 : cmpF k l = 0 <;> simp [h1, h2]
theorem cmpF_val : ∀ k l : TF, cmpF k l = -1 ∨ cmpF k l = 0 ∨ cmpF k l = 1 := by
  intro k
  induction k with
  | nil => intro l; cases l <;> simp [cmpF]
  | cons x k r ihk ihr =>
    intro l
    cases l with
    | nil => simp [cmpF]
    | cons y l q =>
      simp only [cmpF]
      split
      · exact cmpL_val _ _
      · split
        · exact ihk _
        · exact ihr _
theorem cmpT_zero {a b : Tm} : cmpT a b = 0 ↔ a = b := by
  obtain ⟨x, k⟩ := a
  obtain ⟨y, l⟩ := b
  simp only [cmpT, Prod.mk.injEq]
  by_cases h1 : cmpL x y = 0
  · rw [if_neg (by simp [h1]), cmpF_zero]
    simp [cmpL_zero.1 h1]
  · have : x ≠ y := fun e => h1 (cmpL_zero.2 e)
    simp [h1, this]
theorem cmpT_swap (a b : Tm) : cmpT b a = - cmpT a b := by
  simp only [cmpT, cmpL_swap a.1 b.1, cmpF_swap a.2 b.2]
  by_cases h1 : cmpL a.1 b.1 = 0 <;> simp [h1]
theorem cmpT_val (a b : Tm) : cmpT a b = -1 ∨ cmpT a b = 0 ∨ cmpT a b = 1 := by
  unfold cmpT
  split
  · exact cmpL_val _ _
  · exact cmpF_val _ _
theorem cmpF_cons (x y : Lab) (k l r q : TF) : cmpF (.cons x k r) (.cons y l q) = if cmpT (x, k) (y, l) ≠ 0 then cmpT (x, k) (y, l) else cmpF r q := by
  simp only [cmpF, cmpT]
  by_cases h1 : cmpL x y = 0 <;> simp [h1]
end Go.Proofs.Ytkoaicjcanplaaa
namespace Go.Proofs.Ytkoaicjcanplaaa
open Go Go.Vc Go.RowKit
set_option linter.unusedVariables false

def isC (t : Tm) (n : Int) : Bool := decide (t.1.op = 0 ∧ t.1.n = n)
def conT (w n : Int) : Tm := (constL w n, .nil)
def mkn (op w n : Int) : Lab := ⟨op, w, n, ByteArray.empty⟩
def swp (op : Int) : Bool := decide (op = 3 ∨ op = 5 ∨ op = 8 ∨ op = 9 ∨ op = 10 ∨ op = 14)
/-- A step ends (inl) or goes on with another term (inr). -/
abbrev St := Tm ⊕ Tm
def stIf (t a b c : Tm) : St :=
  if isC a 1 then .inl b else if a.1.op = 0 then .inl c else if cmpT b c = 0 then .inl b
  else if a.1.op = 1 then .inr (mkn 17 t.1.w 0, mkTF [kid a.2 0, c, b])
  else if t.1.w = 1 ∧ isC b 1 = true ∧ isC c 0 = true then .inl a
  else if t.1.w = 1 ∧ isC b 0 = true ∧ isC c 1 = true then .inr (mkn 1 1 0, mkTF [a])
  else .inl t
def stCut (t a : Tm) : St :=
  if t.1.n = 0 ∧ t.1.w = a.1.w then .inl a
  else if a.1.op = 19 then .inr (mkn 19 t.1.w (t.1.n + a.1.n), mkTF [kid a.2 0])
  else if a.1.op = 18 then
    (if t.1.n + t.1.w ≤ (kid a.2 1).1.w then .inr (mkn 19 t.1.w t.1.n, mkTF [kid a.2 1])
     else if (kid a.2 1).1.w ≤ t.1.n then .inr (mkn 19 t.1.w (t.1.n - (kid a.2 1).1.w), mkTF [kid a.2 0]) else .inl t)
  else if a.1.op = 20 ∨ a.1.op = 21 then (if t.1.n + t.1.w ≤ (kid a.2 0).1.w then .inr (mkn 19 t.1.w t.1.n, mkTF [kid a.2 0]) else .inl t)
  else .inl t
def stWid (t a : Tm) : St :=
  if t.1.w = a.1.w then .inl a else if a.1.op = t.1.op then .inr (mkn t.1.op t.1.w 0, mkTF [kid a.2 0]) else .inl t
def stJoin (t a b : Tm) : St :=
  if a.1.op = 19 ∧ b.1.op = 19 ∧ a.1.n = b.1.n + b.1.w ∧ cmpT (kid a.2 0) (kid b.2 0) = 0 then .inr (mkn 19 t.1.w b.1.n, mkTF [kid b.2 0]) else .inl t
def ones (w : Int) : Int := 2 ^ w.toNat - 1
def stFirst (op w : Int) (a b : Tm) : Option St :=
  if (op = 3 ∧ a.1.n = 0) ∨ (op = 5 ∧ a.1.n = 1) ∨ (op = 8 ∧ a.1.n = ones a.1.w) ∨ (op = 9 ∧ a.1.n = 0) ∨ (op = 10 ∧ a.1.n = 0) ∨ (op = 14 ∧ a.1.w = 1 ∧ a.1.n = 1) then some (.inl b)
  else if (op = 5 ∧ a.1.n = 0) ∨ (op = 8 ∧ a.1.n = 0) then some (.inl (conT w 0))
  else if op = 9 ∧ a.1.n = ones a.1.w then some (.inl (conT w (ones a.1.w)))
  else if (op = 10 ∧ a.1.n = ones a.1.w) ∨ (op = 14 ∧ a.1.w = 1 ∧ a.1.n = 0) then some (.inr (mkn 1 w 0, mkTF [b]))
  else none
/-- Behind the rules for a constant as the first kid. -/
def stRest (t a b : Tm) : St :=
  if isC b 0 = true ∧ (t.1.op = 4 ∨ t.1.op = 11 ∨ t.1.op = 12 ∨ t.1.op = 13) then .inl a
  else if isC b 0 = true ∧ t.1.op = 15 then .inl (conT 1 0)
  else if cmpT a b = 0 ∧ (t.1.op = 8 ∨ t.1.op = 9) then .inl a
  else if cmpT a b = 0 ∧ (t.1.op = 4 ∨ t.1.op = 10 ∨ t.1.op = 15 ∨ t.1.op = 16) then .inl (conT t.1.w 0)
  else if cmpT a b = 0 ∧ t.1.op = 14 then .inl (conT 1 1)
  else if swp t.1.op = true ∧ t.1.op ≠ 14 ∧ a.1.op = 0 ∧ b.1.op = t.1.op ∧ (kid b.2 0).1.op = 0 then .inr (mkn t.1.op t.1.w 0, mkTF [conT t.1.w (bW t.1.op t.1.w a.1.n (kid b.2 0).1.n), kid b.2 1])
  else .inl t
def stBin (t a b : Tm) : St :=
  if swp t.1.op = true ∧ cmpT a b = 1 then .inr (mkn t.1.op t.1.w 0, mkTF [b, a])
  else match (if a.1.op = 0 then stFirst t.1.op t.1.w a b else none) with
  | some s => s
  | none => stRest t a b
def allC (k : TF) : Bool := (hdF k).all fun x => decide (x.op = 0)
def e0 : ByteArray → Int := fun _ => 0
def step (t : Tm) : St :=
  if t.2 = .nil then .inl t
  else if allC t.2 = true then .inl (conT t.1.w (ap t.1 (hdF t.2) ((hdF t.2).map (·.n)) e0))
  else if t.1.op = 1 ∨ t.1.op = 2 then .inl (if (kid t.2 0).1.op = t.1.op then kid (kid t.2 0).2 0 else t)
  else if t.1.op = 17 then stIf t (kid t.2 0) (kid t.2 1) (kid t.2 2)
  else if t.1.op = 19 then stCut t (kid t.2 0)
  else if t.1.op = 20 ∨ t.1.op = 21 then stWid t (kid t.2 0)
  else if t.1.op = 18 then stJoin t (kid t.2 0) (kid t.2 1)
  else stBin t (kid t.2 0) (kid t.2 1)
def ms (t : Tm) : Nat := 2 * t.sz + if swp t.1.op = true ∧ cmpT (kid t.2 0) (kid t.2 1) = 1 then 1 else 0

/-! valid nodes -/
theorem kc_pos {op : Int} (h : (0 : Int) ≤ kc op) : 0 ≤ op ∧ op ≤ 22 := by
  unfold kc at h
  split at h
  · omega
  split at h
  · omega
  split at h
  · omega
  split at h <;> omega
theorem NodeOk.op {x : Lab} {l : List Lab} (h : NodeOk x l) : 0 ≤ x.op ∧ x.op ≤ 22 := kc_pos (by have := h.count; omega)
theorem len0 {k : TF} (h : k.len = 0) : k = .nil := Fo.len_zero h
theorem len1 {k : TF} (h : k.len = 1) : ∃ a, k = mkTF [a] := by
  match k, h with
  | .cons x l .nil, _ => exact ⟨(x, l), rfl⟩
theorem len2 {k : TF} (h : k.len = 2) : ∃ a b, k = mkTF [a, b] := by
  match k, h with
  | .cons x l (.cons y m .nil), _ => exact ⟨(x, l), (y, m), rfl⟩
theorem len3 {k : TF} (h : k.len = 3) : ∃ a b c, k = mkTF [a, b, c] := by
  match k, h with
  | .cons x l (.cons y m (.cons z n .nil)), _ => exact ⟨(x, l), (y, m), (z, n), rfl⟩
theorem kc0 {op : Int} (h : op = 0 ∨ op = 22) : kc op = 0 := by unfold kc; rw [if_pos h]
theorem kc1 {op : Int} (h : op = 1 ∨ op = 2 ∨ op = 19 ∨ op = 20 ∨ op = 21) : kc op = 1 := by unfold kc; rw [if_neg (by omega), if_pos h]
theorem kc2 {op : Int} (h : (3 ≤ op ∧ op ≤ 16) ∨ op = 18) : kc op = 2 := by unfold kc; rw [if_neg (by omega), if_neg (by omega), if_pos h]
theorem kc3 : kc 17 = 3 := by decide
section
variable {x : Lab} {k : TF}
theorem ok_nil (h : OkT (x, k)) (ho : x.op = 0 ∨ x.op = 22) : k = .nil := by
  have : ((hdF k).length : Int) = kc x.op := h.1.count
  rw [hdF_len, kc0 ho] at this
  exact len0 (by omega)
theorem ok_cons (h : OkT (x, k)) (ho : ¬ (x.op = 0 ∨ x.op = 22)) : k ≠ .nil := by
  rintro rfl
  have h1 := h.1.count
  have h2 := h.1.op
  simp only [hdF, List.length_nil] at h1
  unfold kc at h1
  rw [if_neg ho] at h1
  split at h1
  · omega
  split at h1
  · omega
  split at h1 <;> omega
/-- One kid. -/
theorem ok_1 (h : OkT (x, k)) (ho : x.op = 1 ∨ x.op = 2 ∨ x.op = 19 ∨ x.op = 20 ∨ x.op = 21) : ∃ a, k = mkTF [a] ∧ OkT a := by
  have : ((hdF k).length : Int) = kc x.op := h.1.count
  rw [hdF_len, kc1 ho] at this
  obtain ⟨a, rfl⟩ := len1 (show k.len = 1 by omega)
  exact ⟨a, rfl, h.2.1⟩
theorem ok_2 (h : OkT (x, k)) (ho : (3 ≤ x.op ∧ x.op ≤ 16) ∨ x.op = 18) : ∃ a b, k = mkTF [a, b] ∧ OkT a ∧ OkT b := by
  have : ((hdF k).length : Int) = kc x.op := h.1.count
  rw [hdF_len, kc2 ho] at this
  obtain ⟨a, b, rfl⟩ := len2 (show k.len = 2 by omega)
  exact ⟨a, b, rfl, h.2.1, h.2.2.1⟩
theorem ok_3 (h : OkT (x, k)) (ho : x.op = 17) : ∃ a b c, k = mkTF [a, b, c] ∧ OkT a ∧ OkT b ∧ OkT c := by
  have : ((hdF k).length : Int) = kc x.op := h.1.count
  rw [hdF_len, ho, kc3] at this
  obtain ⟨a, b, c, rfl⟩ := len3 (show k.len = 3 by omega)
  exact ⟨a, b, c, rfl, h.2.1, h.2.2.1, h.2.2.2.1⟩
end
theorem fit_un {x : Lab} {l : List Lab} (h : NodeOk x l) (ho : x.op = 1 ∨ x.op = 2) : kw l 0 = x.w := by
  have := h.fits; unfold fit at this; rw [if_neg (by omega), if_pos ho] at this; exact of_decide_eq_true this
theorem fit_bin {x : Lab} {l : List Lab} (h : NodeOk x l) (ho : 3 ≤ x.op ∧ x.op ≤ 13) : kw l 0 = x.w ∧ kw l 1 = x.w := by
  have := h.fits; unfold fit at this; rw [if_neg (by omega), if_neg (by omega), if_pos ho] at this; exact of_decide_eq_true this
theorem fit_cmp {x : Lab} {l : List Lab} (h : NodeOk x l) (ho : 14 ≤ x.op ∧ x.op ≤ 16) : kw l 0 = kw l 1 ∧ x.w = 1 := by
  have := h.fits; unfold fit at this; rw [if_neg (by omega), if_neg (by omega), if_neg (by omega), if_pos ho] at this; exact of_decide_eq_true this
theorem fit_if {x : Lab} {l : List Lab} (h : NodeOk x l) (ho : x.op = 17) : kw l 0 = 1 ∧ kw l 1 = x.w ∧ kw l 2 = x.w := by
  have := h.fits; unfold fit at this; rw [if_neg (by omega), if_neg (by omega), if_neg (by omega), if_neg (by omega), if_pos ho] at this; exact of_decide_eq_true this
theorem fit_join {x : Lab} {l : List Lab} (h : NodeOk x l) (ho : x.op = 18) : kw l 0 + kw l 1 = x.w := by
  have := h.fits; unfold fit at this; rw [if_neg (by omega), if_neg (by omega), if_neg (by omega), if_neg (by omega), if_neg (by omega), if_pos ho] at this; exact of_decide_eq_true this
theorem fit_cut {x : Lab} {l : List Lab} (h : NodeOk x l) (ho : x.op = 19) : 0 ≤ x.n ∧ x.n ≤ kw l 0 - x.w := by
  have := h.fits; unfold fit at this; rw [if_neg (by omega), if_neg (by omega), if_neg (by omega), if_neg (by omega), if_neg (by omega), if_neg (by omega), if_pos ho] at this; exact of_decide_eq_true this
theorem fit_wid {x : Lab} {l : List Lab} (h : NodeOk x l) (ho : x.op = 20 ∨ x.op = 21) : kw l 0 ≤ x.w := by
  have := h.fits; unfold fit at this; rw [if_neg (by omega), if_neg (by omega), if_neg (by omega), if_neg (by omega), if_neg (by omega), if_neg (by omega), if_neg (by omega)] at this; exact of_decide_eq_true this
/-- New nodes that are valid. -/
theorem okn {op w n : Int} {l : List Tm} (hl : ∀ t ∈ l, OkT t) (hw : 1 ≤ w ∧ w ≤ 16) (hc : (l.length : Int) = kc op) (hf : fit (mkn op w n) (l.map (·.1)) = true) (h0 : op ≠ 0) (h22 : op ≠ 22) (hn : op ≠ 19 → n = 0) : OkT (mkn op w n, mkTF l) := by
  have e : hdF (mkTF l) = l.map (·.1) := by rw [hdF_tms, tms_mk]
  refine ⟨?_, OkF_mk hl⟩
  show NodeOk (mkn op w n) (hdF (mkTF l))
  rw [e]
  exact ⟨hw, by rw [List.length_map]; exact hc, fun y hy => by
    obtain ⟨t, ht, rfl⟩ := List.mem_map.1 hy
    exact (hl t ht).1.width, hf, fun h => absurd h h0, fun _ h => hn h, fun _ => rfl, fun h => absurd h h22⟩
theorem ok_con {w n : Int} (h : wOk w n = true) : OkT (conT w n) :=
  ⟨⟨by have := wOk_iff.1 h; exact ⟨this.1, this.2.1⟩, rfl, by simp [conT, hdF], rfl, fun _ => h, fun h => absurd rfl h, fun _ => rfl, fun h => by cases h⟩, trivial⟩
theorem ok_un {op w : Int} {a : Tm} (ha : OkT a) (ho : op = 1 ∨ op = 2) (h : a.1.w = w) : OkT (mkn op w 0, mkTF [a]) :=
  okn (by simpa using ha) (by rw [← h]; exact ha.1.width) (by rw [kc1 (by omega)]; rfl) (by unfold fit; rw [if_neg (by simp only [mkn]; omega), if_pos (by simp only [mkn]; omega)]; simpa [kw, mkn] using h) (by omega) (by omega) (fun _ => rfl)
theorem ok_cut {w n : Int} {a : Tm} (ha : OkT a) (hw : 1 ≤ w) (h : 0 ≤ n ∧ n ≤ a.1.w - w) : OkT (mkn 19 w n, mkTF [a]) :=
  okn (by simpa using ha) ⟨hw, by have := ha.1.width; omega⟩ rfl (by simp only [fit, mkn, kw]; exact decide_eq_true h) (by decide) (by decide) (fun h => absurd rfl h)
theorem ok_wid {op w : Int} {a : Tm} (ha : OkT a) (ho : op = 20 ∨ op = 21) (hw : w ≤ 16) (h : a.1.w ≤ w) : OkT (mkn op w 0, mkTF [a]) :=
  okn (by simpa using ha) ⟨by have := ha.1.width; omega, hw⟩ (by rw [kc1 (by omega)]; rfl) (by rcases ho with rfl | rfl <;> (simp only [fit, mkn, kw]; exact decide_eq_true h)) (by omega) (by omega) (fun _ => rfl)
theorem ok_bin {op w : Int} {a b : Tm} (ha : OkT a) (hb : OkT b) (ho : 3 ≤ op ∧ op ≤ 13) (h : a.1.w = w) (h' : b.1.w = w) : OkT (mkn op w 0, mkTF [a, b]) :=
  okn (by simp [ha, hb]) (by rw [← h]; exact ha.1.width) (by rw [kc2 (by omega)]; rfl) (by unfold fit; rw [if_neg (by simp only [mkn]; omega), if_neg (by simp only [mkn]; omega), if_pos (by simp only [mkn]; omega)]; exact decide_eq_true ⟨h, h'⟩) (by omega) (by omega) (fun _ => rfl)
theorem ok_cmp {op : Int} {a b : Tm} (ha : OkT a) (hb : OkT b) (ho : 14 ≤ op ∧ op ≤ 16) (h : a.1.w = b.1.w) : OkT (mkn op 1 0, mkTF [a, b]) :=
  okn (by simp [ha, hb]) (by omega) (by rw [kc2 (by omega)]; rfl) (by unfold fit; rw [if_neg (by simp only [mkn]; omega), if_neg (by simp only [mkn]; omega), if_neg (by simp only [mkn]; omega), if_pos (by simp only [mkn]; omega)]; exact decide_eq_true ⟨h, rfl⟩) (by omega) (by omega) (fun _ => rfl)
theorem ok_if {w : Int} {a b c : Tm} (ha : OkT a) (hb : OkT b) (hc : OkT c) (h0 : a.1.w = 1) (h1 : b.1.w = w) (h2 : c.1.w = w) : OkT (mkn 17 w 0, mkTF [a, b, c]) :=
  okn (by simp [ha, hb, hc]) (by rw [← h1]; exact hb.1.width) rfl (by simp only [fit, mkn, kw]; exact decide_eq_true ⟨h0, h1, h2⟩) (by decide) (by decide) (fun _ => rfl)
/-- A constant of one's own. -/
theorem con_of {a : Tm} (h : OkT a) (ho : a.1.op = 0) : a = conT a.1.w a.1.n ∧ wOk a.1.w a.1.n = true := by
  obtain ⟨⟨op, w, n, nm⟩, k⟩ := a
  have hk := ok_nil h (.inl ho)
  have hn := h.1.noname (by rw [show ((⟨op, w, n, nm⟩ : Lab), k).1.op = op from rfl] at ho ⊢; omega)
  simp only at ho hk hn
  subst ho
  subst hk
  subst hn
  exact ⟨rfl, h.1.const rfl⟩
end Go.Proofs.Ytkoaicjcanplaaa
namespace Go.Proofs.Ytkoaicjcanplaaa
open Go Go.Vc Go.RowKit
set_option linter.unusedVariables false
section
variable {k n m : Nat} {a b c : Int}
theorem pow_pos16 (h : k ≤ 16) : (0 : Int) < 2 ^ k := by have := pow16n k h; omega
theorem b2_word (x : Bool) : wOk ((1 : Nat) : Int) (b2 x) = true := by cases x <;> decide
theorem bW_if (ha : wOk k a = true) (hb : wOk k b = true) {X Y : Int} : (if (wOk k a && wOk k b) = true then X else Y) = X := if_pos (bW_two 0 ha hb)
section
variable (ha : wOk k a = true) (hb : wOk k b = true)
include ha hb
theorem bW3 : bW 3 k a b = (a + b) % 2 ^ k := by
  obtain ⟨h1, h2, _⟩ := wOkN.1 ha
  rw [bW, bW_if ha hb, if_pos rfl, wOf_mod h1 h2]
theorem bW4 : bW 4 k a b = (a - b) % 2 ^ k := by
  obtain ⟨h1, h2, _⟩ := wOkN.1 ha
  rw [bW, bW_if ha hb, if_neg (by decide), if_pos rfl, wOf_mod h1 h2]
theorem bW5 : bW 5 k a b = (a * b) % 2 ^ k := by
  obtain ⟨h1, h2, _⟩ := wOkN.1 ha
  rw [bW, bW_if ha hb, if_neg (by decide), if_neg (by decide), if_pos rfl, wOf_mod h1 h2]
theorem bW6 : bW 6 k a b = if b = 0 then 2 ^ k - 1 else a / b := by
  rw [bW, bW_if ha hb, if_neg (by decide), if_neg (by decide), if_neg (by decide), if_pos rfl, Int.toNat_natCast]
theorem bW7 : bW 7 k a b = if b = 0 then a else a % b := by
  rw [bW, bW_if ha hb, if_neg (by decide), if_neg (by decide), if_neg (by decide), if_neg (by decide), if_pos rfl]
theorem bW8 : bW 8 k a b = bitsI .and .i64 a b := by
  rw [bW, bW_if ha hb, if_neg (by decide), if_neg (by decide), if_neg (by decide), if_neg (by decide), if_neg (by decide), if_pos rfl]
theorem bW9 : bW 9 k a b = bitsI .or .i64 a b := by
  rw [bW, bW_if ha hb, if_neg (by decide), if_neg (by decide), if_neg (by decide), if_neg (by decide), if_neg (by decide), if_neg (by decide), if_pos rfl]
theorem bW10 : bW 10 k a b = bitsI .xor .i64 a b := by
  rw [bW, bW_if ha hb, if_neg (by decide), if_neg (by decide), if_neg (by decide), if_neg (by decide), if_neg (by decide), if_neg (by decide), if_neg (by decide), if_pos rfl]
theorem bW11 : bW 11 k a b = if (k : Int) ≤ b then 0 else (a * 2 ^ b.toNat) % 2 ^ k := by
  obtain ⟨h1, h2, _⟩ := wOkN.1 ha
  rw [bW, bW_if ha hb, if_neg (by decide), if_neg (by decide), if_neg (by decide), if_neg (by decide), if_neg (by decide), if_neg (by decide), if_neg (by decide), if_neg (by decide), if_pos rfl, wOf_mod h1 h2]
theorem bW12 : bW 12 k a b = if (k : Int) ≤ b then 0 else a / 2 ^ b.toNat := by
  rw [bW, bW_if ha hb, if_neg (by decide), if_neg (by decide), if_neg (by decide), if_neg (by decide), if_neg (by decide), if_neg (by decide), if_neg (by decide), if_neg (by decide), if_neg (by decide), if_pos rfl]
theorem bW13 : bW 13 k a b = (sOf k a / 2 ^ (if (k : Int) ≤ b then (k : Int) - 1 else b).toNat) % 2 ^ k := by
  obtain ⟨h1, h2, _⟩ := wOkN.1 ha
  rw [bW, bW_if ha hb, if_neg (by decide), if_neg (by decide), if_neg (by decide), if_neg (by decide), if_neg (by decide), if_neg (by decide), if_neg (by decide), if_neg (by decide), if_neg (by decide), if_neg (by decide), if_pos rfl, wOf_mod h1 h2]
theorem bW14 : bW 14 k a b = b2 (decide (a = b)) := by
  rw [bW, bW_if ha hb, if_neg (by decide), if_neg (by decide), if_neg (by decide), if_neg (by decide), if_neg (by decide), if_neg (by decide), if_neg (by decide), if_neg (by decide), if_neg (by decide), if_neg (by decide), if_neg (by decide), if_pos rfl]
theorem bW15 : bW 15 k a b = b2 (decide (a < b)) := by
  rw [bW, bW_if ha hb, if_neg (by decide), if_neg (by decide), if_neg (by decide), if_neg (by decide), if_neg (by decide), if_neg (by decide), if_neg (by decide), if_neg (by decide), if_neg (by decide), if_neg (by decide), if_neg (by decide), if_neg (by decide), if_pos rfl]
theorem bW16 : bW 16 k a b = b2 (decide (sOf k a < sOf k b)) := by
  rw [bW, bW_if ha hb, if_neg (by decide), if_neg (by decide), if_neg (by decide), if_neg (by decide), if_neg (by decide), if_neg (by decide), if_neg (by decide), if_neg (by decide), if_neg (by decide), if_neg (by decide), if_neg (by decide), if_neg (by decide), if_neg (by decide), if_pos rfl]
end
theorem ofNat16 {x : Int} (h0 : 0 ≤ x) (h1 : x ≤ 200000) : (BitVec.ofInt IntKind.i64.bits x).toNat = x.toNat := by
  rw [BitVec.toNat_ofInt]
  show (x % ((2 ^ 64 : Nat) : Int)).toNat = _
  omega
theorem word_le (h : wOk k a = true) : 0 ≤ a ∧ a < 2 ^ k ∧ a.toNat < 2 ^ k ∧ a ≤ 65536 := by
  obtain ⟨h1, h2, h3, h4⟩ := wOkN.1 h
  have hp := pow16n k h2
  rw [← pow_cast] at h4 hp
  rw [← pow_cast]
  omega
theorem nat_word (h1 : 1 ≤ k) (h2 : k ≤ 16) {x : Nat} (h : x < 2 ^ k) : wOk k (x : Int) = true := by
  rw [wOkN, ← pow_cast]; omega
section
variable (ha : wOk k a = true) (hb : wOk k b = true)
include ha hb
theorem and_nat : bitsI .and .i64 a b = ((a.toNat &&& b.toNat : Nat) : Int) := by
  obtain ⟨h1, h2, h3, h4⟩ := word_le ha
  obtain ⟨g1, g2, g3, g4⟩ := word_le hb
  have hp := pow16n k (wOkN.1 ha).2.1
  have hlt := Nat.and_lt_two_pow a.toNat g3
  unfold bitsI
  simp only
  rw [BitVec.toNat_and, ofNat16 h1 (by omega), ofNat16 g1 (by omega)]
  rw [← pow_cast] at hp
  exact IntWalk.i64_in _ (by omega)
theorem or_nat : bitsI .or .i64 a b = ((a.toNat ||| b.toNat : Nat) : Int) := by
  obtain ⟨h1, h2, h3, h4⟩ := word_le ha
  obtain ⟨g1, g2, g3, g4⟩ := word_le hb
  have hp := pow16n k (wOkN.1 ha).2.1
  have hlt := Nat.or_lt_two_pow h3 g3
  unfold bitsI
  simp only
  rw [BitVec.toNat_or, ofNat16 h1 (by omega), ofNat16 g1 (by omega)]
  rw [← pow_cast] at hp
  exact IntWalk.i64_in _ (by omega)
theorem xor_nat : bitsI .xor .i64 a b = ((a.toNat ^^^ b.toNat : Nat) : Int) := by
  obtain ⟨h1, h2, h3, h4⟩ := word_le ha
  obtain ⟨g1, g2, g3, g4⟩ := word_le hb
  have hp := pow16n k (wOkN.1 ha).2.1
  have hlt := Nat.xor_lt_two_pow h3 g3
  unfold bitsI
  simp only
  rw [BitVec.toNat_xor, ofNat16 h1 (by omega), ofNat16 g1 (by omega)]
  rw [← pow_cast] at hp
  exact IntWalk.i64_in _ (by omega)
/-- What an operation gives is a word. -/
theorem and_word : wOk k (bW 8 k a b) = true := by
  rw [bW8 ha hb, and_nat ha hb]
  exact nat_word (wOkN.1 ha).1 (wOkN.1 ha).2.1 (Nat.and_lt_two_pow _ (word_le hb).2.2.1)
theorem or_word : wOk k (bW 9 k a b) = true := by
  rw [bW9 ha hb, or_nat ha hb]
  exact nat_word (wOkN.1 ha).1 (wOkN.1 ha).2.1 (Nat.or_lt_two_pow (word_le ha).2.2.1 (word_le hb).2.2.1)
theorem xor_word : wOk k (bW 10 k a b) = true := by
  rw [bW10 ha hb, xor_nat ha hb]
  exact nat_word (wOkN.1 ha).1 (wOkN.1 ha).2.1 (Nat.xor_lt_two_pow (word_le ha).2.2.1 (word_le hb).2.2.1)
theorem bW_word (op : Int) (ho : 3 ≤ op ∧ op ≤ 13) : wOk k (bW op k a b) = true := by
  obtain ⟨h1, h2, h3, h4⟩ := wOkN.1 ha
  obtain ⟨_, _, g3, g4⟩ := wOkN.1 hb
  have hp := pow16n k h2
  have hop : op = 3 ∨ op = 4 ∨ op = 5 ∨ op = 6 ∨ op = 7 ∨ op = 8 ∨ op = 9 ∨ op = 10 ∨ op = 11 ∨ op = 12 ∨ op = 13 := by omega
  rcases hop with rfl | rfl | rfl | rfl | rfl | rfl | rfl | rfl | rfl | rfl | rfl
  · rw [bW3 ha hb]; exact mod_word h1 h2 _
  · rw [bW4 ha hb]; exact mod_word h1 h2 _
  · rw [bW5 ha hb]; exact mod_word h1 h2 _
  · rw [bW6 ha hb]
    split
    · exact wOkN.2 ⟨h1, h2, by omega, by omega⟩
    · have := Int.ediv_le_self b h3
      exact wOkN.2 ⟨h1, h2, Int.ediv_nonneg h3 g3, by omega⟩
  · rw [bW7 ha hb]
    split
    · exact ha
    · have := Int.emod_lt_of_pos a (show 0 < b by omega)
      exact wOkN.2 ⟨h1, h2, Int.emod_nonneg _ (by omega), by omega⟩
  · exact and_word ha hb
  · exact or_word ha hb
  · exact xor_word ha hb
  · rw [bW11 ha hb]
    split
    · exact wOkN.2 ⟨h1, h2, by omega, by omega⟩
    · exact mod_word h1 h2 _
  · rw [bW12 ha hb]
    split
    · exact wOkN.2 ⟨h1, h2, by omega, by omega⟩
    · have := Int.ediv_le_self (2 ^ b.toNat) h3
      exact wOkN.2 ⟨h1, h2, Int.ediv_nonneg h3 (Int.le_of_lt (Int.pow_pos (by omega))), by omega⟩
  · rw [bW13 ha hb]; exact mod_word h1 h2 _
theorem bW_cmp (op : Int) (ho : 14 ≤ op ∧ op ≤ 16) : wOk ((1 : Nat) : Int) (bW op k a b) = true := by
  have hop : op = 14 ∨ op = 15 ∨ op = 16 := by omega
  rcases hop with rfl | rfl | rfl
  · rw [bW14 ha hb]; exact b2_word _
  · rw [bW15 ha hb]; exact b2_word _
  · rw [bW16 ha hb]; exact b2_word _
theorem bW_comm (op : Int) (ho : op = 3 ∨ op = 5 ∨ op = 8 ∨ op = 9 ∨ op = 10 ∨ op = 14) : bW op k a b = bW op k b a := by
  rcases ho with rfl | rfl | rfl | rfl | rfl | rfl
  · rw [bW3 ha hb, bW3 hb ha, Int.add_comm]
  · rw [bW5 ha hb, bW5 hb ha, Int.mul_comm]
  · rw [bW8 ha hb, bW8 hb ha, and_nat ha hb, and_nat hb ha, Nat.and_comm]
  · rw [bW9 ha hb, bW9 hb ha, or_nat ha hb, or_nat hb ha, Nat.or_comm]
  · rw [bW10 ha hb, bW10 hb ha, xor_nat ha hb, xor_nat hb ha, Nat.xor_comm]
  · rw [bW14 ha hb, bW14 hb ha]; congr 1; exact decide_eq_decide.2 ⟨fun h => h.symm, fun h => h.symm⟩
end
theorem bW_assoc (ha : wOk k a = true) (hb : wOk k b = true) (hc : wOk k c = true) (op : Int) (ho : op = 3 ∨ op = 5 ∨ op = 8 ∨ op = 9 ∨ op = 10) : bW op k (bW op k a b) c = bW op k a (bW op k b c) := by
  have h1 := bW_word ha hb op (by omega)
  have h2 := bW_word hb hc op (by omega)
  rcases ho with rfl | rfl | rfl | rfl | rfl
  · rw [bW3 h1 hc, bW3 ha h2, bW3 ha hb, bW3 hb hc, Int.emod_add_emod, Int.add_emod_emod, Int.add_assoc]
  · rw [bW5 h1 hc, bW5 ha h2, bW5 ha hb, bW5 hb hc, Int.mul_emod, Int.emod_emod, ← Int.mul_emod, Int.mul_emod a, Int.emod_emod, ← Int.mul_emod, Int.mul_assoc]
  · rw [bW8 h1 hc, bW8 ha h2, and_nat h1 hc, and_nat ha h2, bW8 ha hb, bW8 hb hc, and_nat ha hb, and_nat hb hc, Int.toNat_natCast, Int.toNat_natCast, Nat.and_assoc]
  · rw [bW9 h1 hc, bW9 ha h2, or_nat h1 hc, or_nat ha h2, bW9 ha hb, bW9 hb hc, or_nat ha hb, or_nat hb hc, Int.toNat_natCast, Int.toNat_natCast, Nat.or_assoc]
  · rw [bW10 h1 hc, bW10 ha h2, xor_nat h1 hc, xor_nat ha h2, bW10 ha hb, bW10 hb hc, xor_nat ha hb, xor_nat hb hc, Int.toNat_natCast, Int.toNat_natCast, Nat.xor_assoc]
theorem zero_word (h1 : 1 ≤ k) (h2 : k ≤ 16) : wOk k 0 = true := by have := pow16n k h2; exact wOkN.2 ⟨h1, h2, by omega, by omega⟩
theorem ones_word (h1 : 1 ≤ k) (h2 : k ≤ 16) : wOk k (2 ^ k - 1) = true := by have := pow16n k h2; exact wOkN.2 ⟨h1, h2, by omega, by omega⟩
theorem ones_nat (h2 : k ≤ 16) : ((2 : Int) ^ k - 1).toNat = 2 ^ k - 1 := by rw [← pow_cast]; have := Nat.one_le_two_pow (n := k); omega
section
variable (hb : wOk k b = true)
include hb
theorem id_add : bW 3 k 0 b = b := by
  obtain ⟨h1, h2, h3, h4⟩ := wOkN.1 hb
  rw [bW3 (zero_word h1 h2) hb, Int.zero_add, Int.emod_eq_of_lt h3 h4]
theorem id_mul : bW 5 k 1 b = b := by
  obtain ⟨h1, h2, h3, h4⟩ := wOkN.1 hb
  have := pow16n (k - 1) (by omega)
  have hs := pow_split (n := k - 1) (k := k) (by omega)
  rw [show k - (k - 1) = 1 by omega, Int.pow_one] at hs
  rw [bW5 (wOkN.2 ⟨h1, h2, by omega, by omega⟩) hb, Int.one_mul, Int.emod_eq_of_lt h3 h4]
theorem id_and : bW 8 k (2 ^ k - 1) b = b := by
  obtain ⟨h1, h2, h3, h4⟩ := wOkN.1 hb
  rw [bW8 (ones_word h1 h2) hb, and_nat (ones_word h1 h2) hb, ones_nat h2, Nat.and_comm, Nat.and_two_pow_sub_one_eq_mod, Nat.mod_eq_of_lt (word_le hb).2.2.1]
  omega
theorem id_or : bW 9 k 0 b = b := by
  obtain ⟨h1, h2, h3, h4⟩ := wOkN.1 hb
  rw [bW9 (zero_word h1 h2) hb, or_nat (zero_word h1 h2) hb, Int.toNat_zero, Nat.zero_or]; omega
theorem id_xor : bW 10 k 0 b = b := by
  obtain ⟨h1, h2, h3, h4⟩ := wOkN.1 hb
  rw [bW10 (zero_word h1 h2) hb, xor_nat (zero_word h1 h2) hb, Int.toNat_zero, Nat.zero_xor]; omega
theorem no_mul : bW 5 k 0 b = 0 := by
  obtain ⟨h1, h2, h3, h4⟩ := wOkN.1 hb
  rw [bW5 (zero_word h1 h2) hb, Int.zero_mul, Int.zero_emod]
theorem no_and : bW 8 k 0 b = 0 := by
  obtain ⟨h1, h2, h3, h4⟩ := wOkN.1 hb
  rw [bW8 (zero_word h1 h2) hb, and_nat (zero_word h1 h2) hb, Int.toNat_zero, Nat.zero_and]; rfl
theorem no_or : bW 9 k (2 ^ k - 1) b = 2 ^ k - 1 := by
  obtain ⟨h1, h2, h3, h4⟩ := wOkN.1 hb
  have hw := ones_word h1 h2
  have hlt := (word_le hb).2.2.1
  rw [bW9 hw hb, or_nat hw hb, ones_nat h2]
  have : (2 ^ k - 1) ||| b.toNat = 2 ^ k - 1 := by
    apply Nat.eq_of_testBit_eq
    intro j
    rw [Nat.testBit_or, Nat.testBit_two_pow_sub_one]
    by_cases hj : j < k
    · simp [hj]
    · rw [Nat.testBit_lt_two_pow (Nat.lt_of_lt_of_le hlt (Nat.pow_le_pow_right (by decide) (by omega)))]; simp
  rw [this, ← ones_nat h2]
  have := pow16n k h2
  omega
theorem xor_ones : bW 10 k (2 ^ k - 1) b = uW 1 k b := by
  obtain ⟨h1, h2, h3, h4⟩ := wOkN.1 hb
  have hw := ones_word h1 h2
  have hlt := (word_le hb).2.2.1
  rw [bW10 hw hb, xor_nat hw hb, ones_nat h2, uW, if_pos hb, if_pos rfl, Int.toNat_natCast]
  have : (2 ^ k - 1) ^^^ b.toNat = 2 ^ k - 1 - b.toNat := by
    apply Nat.eq_of_testBit_eq
    intro j
    rw [Nat.testBit_xor, Nat.testBit_two_pow_sub_one, show 2 ^ k - 1 - b.toNat = 2 ^ k - (b.toNat + 1) from by omega, Nat.testBit_two_pow_sub_succ hlt]
    by_cases hj : j < k
    · simp [hj]
    · rw [Nat.testBit_lt_two_pow (Nat.lt_of_lt_of_le hlt (Nat.pow_le_pow_right (by decide) (by omega)))]; simp [hj]
  rw [this]
  have hc := pow_cast k
  omega
theorem un_word (op : Int) (ho : op = 1 ∨ op = 2) : wOk k (uW op k b) = true := by
  obtain ⟨h1, h2, h3, h4⟩ := wOkN.1 hb
  rcases ho with rfl | rfl
  · rw [uW, if_pos hb, if_pos rfl, Int.toNat_natCast]
    exact wOkN.2 ⟨h1, h2, by omega, by omega⟩
  · rw [uW, if_pos hb, if_neg (by decide), if_pos rfl, wOf_mod h1 h2]
    exact mod_word h1 h2 _
theorem un_un (op : Int) (ho : op = 1 ∨ op = 2) : uW op k (uW op k b) = b := by
  have hw := un_word hb op ho
  obtain ⟨h1, h2, h3, h4⟩ := wOkN.1 hb
  rcases ho with rfl | rfl
  · exact not_not_word hb
  · have e : ∀ x, wOk k x = true → uW 2 k x = (-x) % 2 ^ k := fun x hx => by rw [uW, if_pos hx, if_neg (by decide), if_pos rfl, wOf_mod h1 h2]
    rw [e _ hw, e _ hb]
    have hp := pow16n k h2
    by_cases h0 : b = 0
    · subst h0; simp
    · have e1 : (-b) % 2 ^ k = 2 ^ k - b := by rw [← Int.add_emod_right, Int.emod_eq_of_lt (by omega) (by omega)]; omega
      rw [e1]
      have : (-(2 ^ k - b)) % 2 ^ k = b := by rw [← Int.add_emod_right, Int.emod_eq_of_lt (by omega) (by omega)]; omega
      exact this
theorem same_and : bW 8 k b b = b := by
  rw [bW8 hb hb, and_nat hb hb, Nat.and_self]; have := (wOkN.1 hb).2.2.1; omega
theorem same_or : bW 9 k b b = b := by
  rw [bW9 hb hb, or_nat hb hb, Nat.or_self]; have := (wOkN.1 hb).2.2.1; omega
theorem same_no (op : Int) (ho : op = 4 ∨ op = 10 ∨ op = 15 ∨ op = 16) : bW op k b b = 0 := by
  rcases ho with rfl | rfl | rfl | rfl
  · rw [bW4 hb hb, Int.sub_self, Int.zero_emod]
  · rw [bW10 hb hb, xor_nat hb hb, Nat.xor_self]; rfl
  · rw [bW15 hb hb, decide_eq_false (by omega)]; rfl
  · rw [bW16 hb hb, decide_eq_false (by omega)]; rfl
theorem same_eq : bW 14 k b b = 1 := by rw [bW14 hb hb, decide_eq_true rfl]; rfl
theorem by_zero (op : Int) (ho : op = 4 ∨ op = 11 ∨ op = 12 ∨ op = 13) : bW op k b 0 = b := by
  obtain ⟨h1, h2, h3, h4⟩ := wOkN.1 hb
  have hz := zero_word h1 h2
  have hk : ¬ (k : Int) ≤ 0 := by omega
  rcases ho with rfl | rfl | rfl | rfl
  · rw [bW4 hb hz, Int.sub_zero, Int.emod_eq_of_lt h3 h4]
  · rw [bW11 hb hz, if_neg hk, show (2 : Int) ^ Int.toNat 0 = 1 from rfl, Int.mul_one, Int.emod_eq_of_lt h3 h4]
  · rw [bW12 hb hz, if_neg hk, show (2 : Int) ^ Int.toNat 0 = 1 from rfl, Int.ediv_one]
  · rw [bW13 hb hz, if_neg hk, show (2 : Int) ^ Int.toNat 0 = 1 from rfl, Int.ediv_one, sOf_N hb]
    split
    · exact Int.emod_eq_of_lt h3 h4
    · have hp := pow16n k h2
      rw [← Int.add_emod_right, Int.emod_eq_of_lt (by omega) (by omega)]; omega
theorem less_zero : bW 15 k b 0 = 0 := by
  obtain ⟨h1, h2, h3, h4⟩ := wOkN.1 hb
  rw [bW15 hb (zero_word h1 h2), decide_eq_false (by omega)]; rfl
end
/-- Words of one bit. -/
theorem bit (h : wOk ((1 : Nat) : Int) a = true) : a = 0 ∨ a = 1 := by
  obtain ⟨h1, h2, h3, h4⟩ := wOkN.1 h
  have : (2 : Int) ^ 1 = 2 := rfl
  omega
theorem bit_not (h : wOk ((1 : Nat) : Int) a = true) : uW 1 ((1 : Nat) : Int) a = 1 - a := by
  rcases bit h with rfl | rfl <;> decide
theorem bit_eq1 (h : wOk ((1 : Nat) : Int) a = true) : bW 14 ((1 : Nat) : Int) 1 a = a := by
  rw [bW14 (by decide) h]
  rcases bit h with rfl | rfl <;> decide
theorem bit_eq0 (h : wOk ((1 : Nat) : Int) a = true) : bW 14 ((1 : Nat) : Int) 0 a = uW 1 ((1 : Nat) : Int) a := by
  rw [bW14 (by decide) h, bit_not h]
  rcases bit h with rfl | rfl <;> decide
end
section
variable {k n m j l p : Nat} {a b : Int} {s : Bool}
theorem cut_val (h : wOk k a = true) (hn : 1 ≤ n) (hl : l + n ≤ k) : cW k a l n = ((a.toNat / 2 ^ l % 2 ^ n : Nat) : Int) := by
  obtain ⟨h1, h2, h3, h4⟩ := wOkN.1 h
  rw [cW_yes h (by omega), Int.toNat_natCast, Int.toNat_natCast, and_pow (by omega)]
  rw [Int.natCast_emod, Int.natCast_ediv, Int.toNat_of_nonneg h3, pow_cast, pow_cast]
theorem cut_word (h : wOk k a = true) (hn : 1 ≤ n) (hl : l + n ≤ k) : wOk n (cW k a l n) = true := by
  obtain ⟨h1, h2, h3, h4⟩ := wOkN.1 h
  rw [cut_val h hn hl]
  exact nat_word hn (by omega) (Nat.mod_lt _ (Nat.two_pow_pos n))
theorem cut_all (h : wOk k a = true) : cW k a (0 : Nat) k = a := by
  obtain ⟨h1, h2, h3, h4⟩ := wOkN.1 h
  rw [cut_val h h1 (by omega), Nat.pow_zero, Nat.div_one, Nat.mod_eq_of_lt (word_le h).2.2.1]; omega
theorem cut_cut (h : wOk k a = true) (hn : 1 ≤ n) (hm : l + m ≤ k) (hj : j + n ≤ m) : cW m (cW k a l m) j n = cW k a ((l + j : Nat) : Int) n := by
  rw [cut_val (cut_word h (by omega) hm) hn hj, cut_val h (by omega) hm, cut_val h hn (by omega), Int.toNat_natCast]
  congr 1
  apply Nat.eq_of_testBit_eq
  intro i
  rw [Nat.testBit_mod_two_pow, Nat.testBit_mod_two_pow, Nat.testBit_div_two_pow, Nat.testBit_mod_two_pow, Nat.testBit_div_two_pow, Nat.testBit_div_two_pow]
  by_cases hi : i < n
  · rw [decide_eq_true (show i + j < m by omega), show i + j + l = i + (l + j) by omega]; simp
  · simp [hi]
theorem join_val (ha : wOk m a = true) (hb : wOk n b = true) (hw : m + n ≤ 16) : jW m a n b = ((2 ^ n * a.toNat + b.toNat : Nat) : Int) := by
  obtain ⟨h1, h2, h3, h4⟩ := wOkN.1 ha
  obtain ⟨g1, g2, g3, g4⟩ := wOkN.1 hb
  rw [jW_yes ha hb (by omega), Int.toNat_natCast, Int.natCast_add, Int.natCast_mul, pow_cast, Int.toNat_of_nonneg h3, Int.toNat_of_nonneg g3, Int.mul_comm]
theorem join_word (ha : wOk m a = true) (hb : wOk n b = true) (hw : m + n ≤ 16) : wOk ((m + n : Nat) : Int) (jW m a n b) = true := by
  have h1 := (word_le ha).2.2.1
  have h2 := (word_le hb).2.2.1
  have h3 := wOkN.1 ha
  have h4 := wOkN.1 hb
  rw [join_val ha hb hw]
  refine nat_word (by omega) hw ?_
  have : 2 ^ n * (a.toNat + 1) ≤ 2 ^ n * 2 ^ m := Nat.mul_le_mul_left _ h1
  rw [← Nat.pow_add, Nat.add_comm n m] at this
  rw [Nat.mul_succ] at this
  omega
theorem cut_low (ha : wOk m a = true) (hb : wOk n b = true) (hw : m + n ≤ 16) (hp : 1 ≤ p) (hj : j + p ≤ n) : cW ((m + n : Nat) : Int) (jW m a n b) j p = cW n b j p := by
  have h2 := (word_le hb).2.2.1
  rw [cut_val (join_word ha hb hw) hp (by omega), cut_val hb hp hj, join_val ha hb hw, Int.toNat_natCast]
  congr 1
  apply Nat.eq_of_testBit_eq
  intro i
  rw [Nat.testBit_mod_two_pow, Nat.testBit_mod_two_pow, Nat.testBit_div_two_pow, Nat.testBit_div_two_pow, Nat.testBit_two_pow_mul_add _ h2]
  by_cases hi : i < p
  · rw [if_pos (by omega)]
  · simp [hi]
theorem cut_high (ha : wOk m a = true) (hb : wOk n b = true) (hw : m + n ≤ 16) (hp : 1 ≤ p) (hj : j + p ≤ m) : cW ((m + n : Nat) : Int) (jW m a n b) ((n + j : Nat) : Int) p = cW m a j p := by
  have h2 := (word_le hb).2.2.1
  rw [cut_val (join_word ha hb hw) hp (by omega), cut_val ha hp hj, join_val ha hb hw, Int.toNat_natCast]
  congr 1
  apply Nat.eq_of_testBit_eq
  intro i
  rw [Nat.testBit_mod_two_pow, Nat.testBit_mod_two_pow, Nat.testBit_div_two_pow, Nat.testBit_div_two_pow, Nat.testBit_two_pow_mul_add _ h2]
  rw [if_neg (by omega), show i + (n + j) - n = i + j by omega]
theorem join_cuts (h : wOk k a = true) (hp : 1 ≤ p) (hm : 1 ≤ m) (hl : l + m + p ≤ k) : jW p (cW k a ((l + m : Nat) : Int) p) m (cW k a l m) = cW k a l ((p + m : Nat) : Int) := by
  obtain ⟨h1, h2, h3, h4⟩ := wOkN.1 h
  rw [join_val (cut_word h hp (by omega)) (cut_word h hm (by omega)) (by omega), cut_val h hp (by omega), cut_val h hm (by omega), cut_val h (by omega) (by omega), Int.toNat_natCast, Int.toNat_natCast]
  congr 1
  apply Nat.eq_of_testBit_eq
  intro i
  rw [Nat.testBit_two_pow_mul_add _ (Nat.mod_lt _ (Nat.two_pow_pos m)), Nat.testBit_mod_two_pow, Nat.testBit_mod_two_pow, Nat.testBit_mod_two_pow, Nat.testBit_div_two_pow, Nat.testBit_div_two_pow]
  by_cases hi : i < m
  · rw [if_pos hi]; simp [hi, show i < p + m by omega]
  · rw [if_neg hi, show i - m + (l + m) = i + l by omega, decide_eq_decide.2 (show i - m < p ↔ i < p + m by omega)]
/-- A wider word: what stands above its bits. -/
theorem wid_val (h : wOk k a = true) (hk : k ≤ m) (hm : m ≤ 16) (s : Bool) : ∃ q, wiW k a m s = ((2 ^ k * q + a.toNat : Nat) : Int) ∧ 2 ^ k * q + a.toNat < 2 ^ m := by
  obtain ⟨h1, h2, h3, h4⟩ := wOkN.1 h
  have hlt := (word_le h).2.2.1
  have hle : 2 ^ k ≤ 2 ^ m := Nat.pow_le_pow_right (by decide) hk
  rw [wiW_yes h (by omega)]
  cases s with
  | false => exact ⟨0, by simp; omega, by omega⟩
  | true =>
    rw [if_pos rfl, wOf_mod (by omega) hm, sOf_N h]
    split
    · refine ⟨0, ?_, by omega⟩
      have e := pow_cast m
      have e' := pow_cast k
      rw [Int.emod_eq_of_lt h3 (by omega)]; omega
    · refine ⟨2 ^ (m - k) - 1, ?_, ?_⟩
      · have hs : 2 ^ m = 2 ^ k * 2 ^ (m - k) := by rw [← Nat.pow_add]; congr 1; omega
        have hq : 2 ^ k * (2 ^ (m - k) - 1) = 2 ^ m - 2 ^ k := by rw [Nat.mul_sub, Nat.mul_one, ← hs]
        have e := pow_cast m
        have e' := pow_cast k
        rw [hq, ← Int.add_emod_right, Int.emod_eq_of_lt (by omega) (by omega)]; omega
      · have hs : 2 ^ m = 2 ^ k * 2 ^ (m - k) := by rw [← Nat.pow_add]; congr 1; omega
        have hq : 2 ^ k * (2 ^ (m - k) - 1) = 2 ^ m - 2 ^ k := by rw [Nat.mul_sub, Nat.mul_one, ← hs]
        omega
theorem wid_word (h : wOk k a = true) (hk : k ≤ m) (hm : m ≤ 16) (s : Bool) : wOk m (wiW k a m s) = true := by
  obtain ⟨q, e, hq⟩ := wid_val h hk hm s
  have := wOkN.1 h
  rw [e]; exact nat_word (by omega) hm hq
theorem cut_wid (h : wOk k a = true) (hk : k ≤ m) (hm : m ≤ 16) (hp : 1 ≤ p) (hj : j + p ≤ k) : cW m (wiW k a m s) j p = cW k a j p := by
  obtain ⟨q, e, hq⟩ := wid_val h hk hm s
  have hlt := (word_le h).2.2.1
  rw [cut_val (wid_word h hk hm s) hp (by omega), cut_val h hp hj, e, Int.toNat_natCast]
  congr 1
  apply Nat.eq_of_testBit_eq
  intro i
  rw [Nat.testBit_mod_two_pow, Nat.testBit_mod_two_pow, Nat.testBit_div_two_pow, Nat.testBit_div_two_pow, Nat.testBit_two_pow_mul_add _ hlt]
  by_cases hi : i < p
  · rw [if_pos (by omega)]
  · simp [hi]
theorem sign_back (h : wOk k a = true) (hk : k ≤ m) (hm : m ≤ 16) : sOf m (wiW k a m true) = sOf k a := by
  obtain ⟨h1, h2, h3, h4⟩ := wOkN.1 h
  have hw := wid_word h hk hm true
  rw [sOf_N hw, sOf_N h]
  rw [wiW_yes h (by omega), if_pos rfl, wOf_mod (by omega) hm, sOf_N h]
  have hp := pow16n (k - 1) (by omega)
  have hs := pow_split (n := k - 1) (k := k) (by omega)
  rw [show k - (k - 1) = 1 by omega, Int.pow_one] at hs
  have hs' := pow_split (n := m - 1) (k := m) (by omega)
  rw [show m - (m - 1) = 1 by omega, Int.pow_one] at hs'
  have hle : (2 : Int) ^ (k - 1) ≤ 2 ^ (m - 1) := by
    rw [← pow_cast, ← pow_cast]
    exact Int.ofNat_le.2 (Nat.pow_le_pow_right (by decide) (by omega))
  split
  · rename_i hlt
    rw [Int.emod_eq_of_lt (by omega) (by omega), if_pos (by omega)]
  · rename_i hlt
    have e : (a - 2 ^ k) % 2 ^ m = a - 2 ^ k + 2 ^ m := by
      rw [← Int.add_emod_right, Int.emod_eq_of_lt (by omega) (by omega)]
    rw [e, if_neg (by omega)]; omega
theorem wid_all (h : wOk k a = true) (s : Bool) : wiW k a k s = a := by
  obtain ⟨h1, h2, h3, h4⟩ := wOkN.1 h
  rw [wiW_yes h (by omega)]
  cases s with
  | false => rfl
  | true =>
    rw [if_pos rfl, wOf_mod h1 h2, sOf_N h]
    split
    · exact Int.emod_eq_of_lt h3 h4
    · have hp := pow16n k h2
      rw [← Int.add_emod_right, Int.emod_eq_of_lt (by omega) (by omega)]; omega
theorem wid_wid (h : wOk k a = true) (hk : k ≤ m) (hm : m ≤ p) (hp : p ≤ 16) (s : Bool) : wiW m (wiW k a m s) p s = wiW k a p s := by
  have hw := wid_word h hk (by omega) s
  rw [wiW_yes hw (by omega), wiW_yes h (by omega)]
  cases s with
  | false => rw [if_neg (by decide), if_neg (by decide), wiW_yes h (by omega)]; rfl
  | true =>
    have := sign_back h hk (show m ≤ 16 by omega)
    rw [wiW_yes h (by omega)] at this
    rw [if_pos rfl, if_pos rfl, wiW_yes h (by omega), if_pos rfl]
    rw [if_pos rfl] at this
    rw [this]
end
end Go.Proofs.Ytkoaicjcanplaaa
namespace Go.Proofs.Ytkoaicjcanplaaa
open Go Go.Vc Go.RowKit
set_option linter.unusedVariables false
/-! words, with widths as numbers -/
theorem wnat {w a : Int} (h : wOk w a = true) : ∃ k : Nat, w = k := ⟨w.toNat, by have := wOk_iff.1 h; omega⟩
theorem inat {n : Int} (h : 0 ≤ n) : ∃ k : Nat, n = k := ⟨n.toNat, by omega⟩
theorem ones_nat' (k : Nat) : ones (k : Int) = 2 ^ k - 1 := by rw [ones, Int.toNat_natCast]
section
variable {w v n l op a b c : Int}
theorem unW (h : wOk w a = true) (ho : op = 1 ∨ op = 2) : wOk w (uW op w a) = true := by obtain ⟨k, rfl⟩ := wnat h; exact un_word h op ho
theorem unun (h : wOk w a = true) (ho : op = 1 ∨ op = 2) : uW op w (uW op w a) = a := by obtain ⟨k, rfl⟩ := wnat h; exact un_un h op ho
theorem biW (ha : wOk w a = true) (hb : wOk w b = true) (ho : 3 ≤ op ∧ op ≤ 13) : wOk w (bW op w a b) = true := by obtain ⟨k, rfl⟩ := wnat ha; exact bW_word ha hb op ho
theorem cmW (ha : wOk w a = true) (hb : wOk w b = true) (ho : 14 ≤ op ∧ op ≤ 16) : wOk 1 (bW op w a b) = true := by obtain ⟨k, rfl⟩ := wnat ha; exact bW_cmp ha hb op ho
theorem biC (ha : wOk w a = true) (hb : wOk w b = true) (ho : op = 3 ∨ op = 5 ∨ op = 8 ∨ op = 9 ∨ op = 10 ∨ op = 14) : bW op w a b = bW op w b a := by obtain ⟨k, rfl⟩ := wnat ha; exact bW_comm ha hb op ho
theorem biA (ha : wOk w a = true) (hb : wOk w b = true) (hc : wOk w c = true) (ho : op = 3 ∨ op = 5 ∨ op = 8 ∨ op = 9 ∨ op = 10) : bW op w (bW op w a b) c = bW op w a (bW op w b c) := by obtain ⟨k, rfl⟩ := wnat ha; exact bW_assoc ha hb hc op ho
theorem cuW (h : wOk w a = true) (hl : 0 ≤ l) (hn : 1 ≤ n) (hw : l + n ≤ w) : wOk n (cW w a l n) = true := by
  obtain ⟨k, rfl⟩ := wnat h
  obtain ⟨i, rfl⟩ := inat hl
  obtain ⟨j, rfl⟩ := inat (show 0 ≤ n by omega)
  exact cut_word h (by omega) (by omega)
theorem cuA (h : wOk w a = true) : cW w a 0 w = a := by obtain ⟨k, rfl⟩ := wnat h; exact cut_all h
theorem cuC {m : Int} (h : wOk w a = true) (hl : 0 ≤ l) (hj : 0 ≤ c) (hn : 1 ≤ n) (hm : l + m ≤ w) (hc : c + n ≤ m) : cW m (cW w a l m) c n = cW w a (c + l) n := by
  obtain ⟨k, rfl⟩ := wnat h
  obtain ⟨i, rfl⟩ := inat hl
  obtain ⟨j, rfl⟩ := inat hj
  obtain ⟨n, rfl⟩ := inat (show 0 ≤ n by omega)
  obtain ⟨m, rfl⟩ := inat (show 0 ≤ m by omega)
  rw [Int.add_comm]
  exact cut_cut h (by omega) (by omega) (by omega)
theorem joW (ha : wOk w a = true) (hb : wOk v b = true) (hw : w + v ≤ 16) : wOk (w + v) (jW w a v b) = true := by
  obtain ⟨k, rfl⟩ := wnat ha
  obtain ⟨m, rfl⟩ := wnat hb
  exact join_word ha hb (by omega)
theorem cuL (ha : wOk w a = true) (hb : wOk v b = true) (hw : w + v ≤ 16) (hl : 0 ≤ l) (hn : 1 ≤ n) (hj : l + n ≤ v) : cW (w + v) (jW w a v b) l n = cW v b l n := by
  obtain ⟨k, rfl⟩ := wnat ha
  obtain ⟨m, rfl⟩ := wnat hb
  obtain ⟨l, rfl⟩ := inat hl
  obtain ⟨n, rfl⟩ := inat (show 0 ≤ n by omega)
  exact cut_low ha hb (by omega) (by omega) (by omega)
theorem cuH (ha : wOk w a = true) (hb : wOk v b = true) (hw : w + v ≤ 16) (hl : v ≤ l) (hn : 1 ≤ n) (hj : l + n ≤ w + v) : cW (w + v) (jW w a v b) l n = cW w a (l - v) n := by
  obtain ⟨k, rfl⟩ := wnat ha
  obtain ⟨m, rfl⟩ := wnat hb
  obtain ⟨j, hj'⟩ := inat (show 0 ≤ l - m by omega)
  obtain ⟨n, rfl⟩ := inat (show 0 ≤ n by omega)
  rw [hj', show l = ((m + j : Nat) : Int) by omega]
  exact cut_high ha hb (by omega) (by omega) (by omega)
theorem joC {m p : Int} (h : wOk w a = true) (hl : 0 ≤ l) (hp : 1 ≤ p) (hm : 1 ≤ m) (hw : l + m + p ≤ w) : jW p (cW w a (l + m) p) m (cW w a l m) = cW w a l (p + m) := by
  obtain ⟨k, rfl⟩ := wnat h
  obtain ⟨l, rfl⟩ := inat hl
  obtain ⟨p, rfl⟩ := inat (show 0 ≤ p by omega)
  obtain ⟨m, rfl⟩ := inat (show 0 ≤ m by omega)
  exact join_cuts h (by omega) (by omega) (by omega)
theorem wiX (h : wOk w a = true) (hv : w ≤ v) (hv' : v ≤ 16) (s : Bool) : wOk v (wiW w a v s) = true := by
  obtain ⟨k, rfl⟩ := wnat h
  obtain ⟨m, rfl⟩ := inat (show 0 ≤ v by omega)
  exact wid_word h (by omega) (by omega) s
theorem cuX (h : wOk w a = true) (hv : w ≤ v) (hv' : v ≤ 16) (hl : 0 ≤ l) (hn : 1 ≤ n) (hj : l + n ≤ w) (s : Bool) : cW v (wiW w a v s) l n = cW w a l n := by
  obtain ⟨k, rfl⟩ := wnat h
  obtain ⟨m, rfl⟩ := inat (show 0 ≤ v by omega)
  obtain ⟨l, rfl⟩ := inat hl
  obtain ⟨n, rfl⟩ := inat (show 0 ≤ n by omega)
  exact cut_wid h (by omega) (by omega) (by omega) (by omega)
theorem wiA (h : wOk w a = true) (s : Bool) : wiW w a w s = a := by obtain ⟨k, rfl⟩ := wnat h; exact wid_all h s
theorem wiwi {u : Int} (h : wOk w a = true) (hv : w ≤ v) (hu : v ≤ u) (hu' : u ≤ 16) (s : Bool) : wiW v (wiW w a v s) u s = wiW w a u s := by
  obtain ⟨k, rfl⟩ := wnat h
  obtain ⟨m, rfl⟩ := inat (show 0 ≤ v by omega)
  obtain ⟨p, rfl⟩ := inat (show 0 ≤ u by omega)
  exact wid_wid h (by omega) (by omega) (by omega) s
end

theorem bit1 {a : Int} (h : wOk 1 a = true) : a = 0 ∨ a = 1 := bit h
theorem bitN {a : Int} (h : wOk 1 a = true) : uW 1 1 a = 1 - a := bit_not h
theorem bitE1 {a : Int} (h : wOk 1 a = true) : bW 14 1 1 a = a := bit_eq1 h
theorem bitE0 {a : Int} (h : wOk 1 a = true) : bW 14 1 0 a = uW 1 1 a := bit_eq0 h

/-! what a term stands for, operation by operation -/
def varsT (t : Tm) : Vs := varsF (.cons t.1 t.2 .nil)
def EnvOk (e : ByteArray → Int) (l : Vs) : Prop := ∀ p ∈ l, wOk p.2 (e p.1) = true
theorem varsT_eq (t : Tm) : varsT t = (if t.1.op = 22 then [(t.1.name, t.1.w)] else []) ++ varsF t.2 := by simp [varsT, varsF]
theorem varsF_mk : ∀ l : List Tm, varsF (mkTF l) = l.flatMap varsT := by
  intro l
  induction l with
  | nil => rfl
  | cons t l ih => simp only [mkTF, varsF, ih, List.flatMap_cons, varsT_eq]
theorem varsT_mk {x : Lab} {l : List Tm} (h : x.op ≠ 22) : varsT (x, mkTF l) = l.flatMap varsT := by
  rw [varsT_eq, varsF_mk, if_neg h]; rfl
theorem size_mk : ∀ l : List Tm, (mkTF l).size = (l.map Tm.sz).sum := by
  intro l
  induction l with
  | nil => rfl
  | cons t l ih => simp only [mkTF, Fo.size, ih, List.map_cons, List.sum_cons, Tm.sz]; omega
theorem sz1 (x : Lab) (a : Tm) : Tm.sz (x, mkTF [a]) = a.sz + 1 := by simp [Tm.sz, size_mk]
theorem sz2 (x : Lab) (a b : Tm) : Tm.sz (x, mkTF [a, b]) = a.sz + b.sz + 1 := by simp [Tm.sz, size_mk]
theorem sz3 (x : Lab) (a b c : Tm) : Tm.sz (x, mkTF [a, b, c]) = a.sz + b.sz + c.sz + 1 := by simp [Tm.sz, size_mk]; omega
theorem sz_pos (t : Tm) : 1 ≤ t.sz := Nat.succ_le_succ (Nat.zero_le _)
theorem ev_mk (e : ByteArray → Int) (x : Lab) (l : List Tm) : evT e (x, mkTF l) = ap x (l.map (·.1)) (l.map (evT e)) e := by
  show ap x (hdF (mkTF l)) (evF e (mkTF l)) e = _
  rw [hdF_tms, evF_tms, tms_mk]
section
variable {e : ByteArray → Int} {x : Lab} {a b c : Tm}
theorem ev_con (k : TF) (h : x.op = 0) : evT e (x, k) = x.n := by show ap x _ _ e = _; rw [ap, if_pos h]
theorem ev_var (k : TF) (h : x.op = 22) : evT e (x, k) = e x.name := by show ap x _ _ e = _; rw [ap, if_neg (by omega), if_pos h]
theorem ev_if (h : x.op = 17) : evT e (x, mkTF [a, b, c]) = if evT e a = 1 then evT e b else evT e c := by
  rw [ev_mk, ap, if_neg (by omega), if_neg (by omega), if_pos h]; rfl
theorem ev_un (h : x.op = 1 ∨ x.op = 2) : evT e (x, mkTF [a]) = uW x.op a.1.w (evT e a) := by
  rw [ev_mk, ap, if_neg (by omega), if_neg (by omega), if_neg (by omega), if_pos h]; rfl
theorem ev_cut (h : x.op = 19) : evT e (x, mkTF [a]) = cW a.1.w (evT e a) x.n x.w := by
  rw [ev_mk, ap, if_neg (by omega), if_neg (by omega), if_neg (by omega), if_neg (by omega), if_pos h]; rfl
theorem ev_wid (h : x.op = 20 ∨ x.op = 21) : evT e (x, mkTF [a]) = wiW a.1.w (evT e a) x.w (decide (x.op = 21)) := by
  rw [ev_mk, ap, if_neg (by omega), if_neg (by omega), if_neg (by omega), if_neg (by omega), if_neg (by omega), if_pos h]; rfl
theorem ev_join (h : x.op = 18) : evT e (x, mkTF [a, b]) = jW a.1.w (evT e a) b.1.w (evT e b) := by
  rw [ev_mk, ap, if_neg (by omega), if_neg (by omega), if_neg (by omega), if_neg (by omega), if_neg (by omega), if_neg (by omega), if_pos h]; rfl
theorem ev_bin (h : 3 ≤ x.op ∧ x.op ≤ 16) : evT e (x, mkTF [a, b]) = bW x.op a.1.w (evT e a) (evT e b) := by
  rw [ev_mk, ap, if_neg (by omega), if_neg (by omega), if_neg (by omega), if_neg (by omega), if_neg (by omega), if_neg (by omega), if_neg (by omega)]; rfl
end
theorem EnvOk.sub {e : ByteArray → Int} {l m : Vs} (h : EnvOk e l) (hs : ∀ p ∈ m, p ∈ l) : EnvOk e m := fun p hp => h p (hs p hp)
theorem vars_kid {x : Lab} {l : List Tm} {a : Tm} (h : a ∈ l) : ∀ p ∈ varsT a, p ∈ varsT (x, mkTF l) := fun p hp => by
  rw [varsT_eq, varsF_mk]
  exact List.mem_append_right _ (List.mem_flatMap.2 ⟨a, h, hp⟩)
/-- The operations that a valid node may have. -/
theorem ops {x : Lab} {l : List Lab} (h : NodeOk x l) : x.op = 0 ∨ x.op = 22 ∨ (x.op = 1 ∨ x.op = 2) ∨ x.op = 19 ∨ (x.op = 20 ∨ x.op = 21) ∨ (3 ≤ x.op ∧ x.op ≤ 13) ∨ (14 ≤ x.op ∧ x.op ≤ 16) ∨ x.op = 18 ∨ x.op = 17 := by
  have := h.op; omega
/-- The word of a valid term. -/
theorem wordT (e : ByteArray → Int) : ∀ (n : Nat) (t : Tm), t.sz ≤ n → OkT t → EnvOk e (varsT t) → wOk t.1.w (evT e t) = true := by
  intro n
  induction n with
  | zero => intro t h; have := sz_pos t; omega
  | succ n ih =>
    rintro ⟨x, k⟩ hs h he
    have hN : NodeOk x (hdF k) := h.1
    have hx := hN.width
    show wOk x.w _ = true
    rcases ops hN with ho | ho | ho | ho | ho | ho | ho | ho | ho
    · rw [ev_con k ho]; exact hN.const ho
    · rw [ev_var k ho]
      exact he (x.name, x.w) (by rw [varsT_eq, if_pos ho]; simp)
    · obtain ⟨a, rfl, ha⟩ := ok_1 h (by omega)
      rw [sz1] at hs
      have hw : a.1.w = x.w := fit_un h.1 ho
      rw [ev_un ho]
      have := ih a (by omega) ha (he.sub (vars_kid (by simp)))
      rw [hw] at this ⊢
      exact unW this ho
    · obtain ⟨a, rfl, ha⟩ := ok_1 h (by omega)
      rw [sz1] at hs
      have hw : 0 ≤ x.n ∧ x.n ≤ a.1.w - x.w := fit_cut h.1 ho
      rw [ev_cut ho]
      refine cuW (ih a (by omega) ha (he.sub (vars_kid (by simp)))) hw.1 hx.1 ?_
      omega
    · obtain ⟨a, rfl, ha⟩ := ok_1 h (by omega)
      rw [sz1] at hs
      have hw : a.1.w ≤ x.w := fit_wid h.1 ho
      rw [ev_wid ho]
      exact wiX (ih a (by omega) ha (he.sub (vars_kid (by simp)))) hw hx.2 _
    · obtain ⟨a, b, rfl, ha, hb⟩ := ok_2 h (by omega)
      rw [sz2] at hs
      have hw : a.1.w = x.w ∧ b.1.w = x.w := fit_bin h.1 ho
      rw [ev_bin (by omega)]
      have h1 := ih a (by omega) ha (he.sub (vars_kid (by simp)))
      have h2 := ih b (by omega) hb (he.sub (vars_kid (by simp)))
      rw [hw.1] at h1 ⊢
      rw [hw.2] at h2
      exact biW h1 h2 ho
    · obtain ⟨a, b, rfl, ha, hb⟩ := ok_2 h (by omega)
      rw [sz2] at hs
      have hw : a.1.w = b.1.w ∧ x.w = 1 := fit_cmp h.1 ho
      rw [ev_bin (by omega)]
      have h1 := ih a (by omega) ha (he.sub (vars_kid (by simp)))
      have h2 := ih b (by omega) hb (he.sub (vars_kid (by simp)))
      rw [← hw.1] at h2
      show wOk x.w _ = true
      rw [hw.2]
      exact cmW h1 h2 ho
    · obtain ⟨a, b, rfl, ha, hb⟩ := ok_2 h (by omega)
      rw [sz2] at hs
      have hw : a.1.w + b.1.w = x.w := fit_join h.1 ho
      rw [ev_join ho]
      show wOk x.w _ = true
      rw [← hw]
      exact joW (ih a (by omega) ha (he.sub (vars_kid (by simp)))) (ih b (by omega) hb (he.sub (vars_kid (by simp)))) (by omega)
    · obtain ⟨a, b, c, rfl, ha, hb, hc⟩ := ok_3 h ho
      rw [sz3] at hs
      have hw : a.1.w = 1 ∧ b.1.w = x.w ∧ c.1.w = x.w := fit_if h.1 ho
      rw [ev_if ho]
      show wOk x.w _ = true
      split
      · rw [← hw.2.1]; exact ih b (by omega) hb (he.sub (vars_kid (by simp)))
      · rw [← hw.2.2]; exact ih c (by omega) hc (he.sub (vars_kid (by simp)))
theorem word_of {e : ByteArray → Int} {t : Tm} (h : OkT t) (he : EnvOk e (varsT t)) : wOk t.1.w (evT e t) = true := wordT e _ t (Nat.le_refl _) h he
/-- What a simpler form keeps. -/
structure Keeps (t u : Tm) : Prop where
  ok : OkT u
  w : u.1.w = t.1.w
  sz : u.sz ≤ t.sz
  vars : ∀ p ∈ varsT u, p ∈ varsT t
  ev : ∀ e, EnvOk e (varsT t) → evT e u = evT e t
theorem Keeps.refl {t : Tm} (h : OkT t) : Keeps t t := ⟨h, rfl, Nat.le_refl _, fun _ h => h, fun _ _ => rfl⟩
theorem Keeps.trans {t u v : Tm} (h : Keeps t u) (k : Keeps u v) : Keeps t v :=
  ⟨k.ok, k.w.trans h.w, Nat.le_trans k.sz h.sz, fun p hp => h.vars p (k.vars p hp), fun e he => (k.ev e (he.sub h.vars)).trans (h.ev e he)⟩
/-- Nothing in a forest can be made simpler. -/
def NfF : TF → Prop
  | .nil => True
  | .cons x k r => (step (x, k) = .inl (x, k) ∧ NfF k) ∧ NfF r
def NfT (t : Tm) : Prop := step t = .inl t ∧ NfF t.2
theorem NfF_mem : ∀ {k : TF}, NfF k → ∀ t ∈ tms k, NfT t := by
  intro k
  induction k with
  | nil => intro _ t h; cases h
  | cons x k r _ ih =>
    rintro ⟨h1, h2⟩ t h
    rcases List.mem_cons.1 h with rfl | h
    · exact h1
    · exact ih h2 t h
theorem NfF_mk : ∀ {l : List Tm}, (∀ t ∈ l, NfT t) → NfF (mkTF l) := by
  intro l
  induction l with
  | nil => intro _; trivial
  | cons t l ih => intro h; exact ⟨h t (by simp), ih fun u hu => h u (by simp [hu])⟩
theorem Nf_kid {l : List Tm} (h : NfF (mkTF l)) {a : Tm} (ha : a ∈ l) : NfT a := NfF_mem h a (by rw [tms_mk]; exact ha)
theorem Nf_con (w n : Int) : NfT (conT w n) := ⟨by unfold step; exact if_pos rfl, trivial⟩
def StepR (t : Tm) : St → Prop
  | .inl u => Keeps t u ∧ (NfF t.2 → u = t ∨ NfT u)
  | .inr u => Keeps t u ∧ ms u < ms t ∧ (NfF t.2 → NfF u.2)
theorem ms_le (t : Tm) : 2 * t.sz ≤ ms t ∧ ms t ≤ 2 * t.sz + 1 := by unfold ms; split <;> omega
theorem ms_of {t u : Tm} (h : u.sz < t.sz) : ms u < ms t := by have := ms_le t; have := ms_le u; omega
theorem kid0 (a : Tm) (l : List Tm) : kid (mkTF (a :: l)) 0 = a := by unfold kid; rw [tms_mk]; rfl
theorem kid1 (a b : Tm) (l : List Tm) : kid (mkTF (a :: b :: l)) 1 = b := by unfold kid; rw [tms_mk]; rfl
theorem kid2 (a b c : Tm) (l : List Tm) : kid (mkTF (a :: b :: c :: l)) 2 = c := by unfold kid; rw [tms_mk]; rfl
/-- One of the kids. -/
theorem keep_kid {x : Lab} {l : List Tm} {a : Tm} (h : a ∈ l) (ok : OkT a) (hw : a.1.w = x.w) (hs : a.sz ≤ Tm.sz (x, mkTF l)) (he : ∀ e, EnvOk e (varsT (x, mkTF l)) → evT e a = evT e (x, mkTF l)) : Keeps (x, mkTF l) a :=
  ⟨ok, hw, hs, vars_kid h, he⟩
theorem keep_con {t : Tm} {w n : Int} (h : wOk w n = true) (hw : w = t.1.w) (he : ∀ e, EnvOk e (varsT t) → n = evT e t) : Keeps t (conT w n) :=
  ⟨ok_con h, hw, sz_pos _, fun p hp => by simp [varsT, varsF, conT, constL] at hp, fun e h' => (ev_con .nil rfl).trans (he e h')⟩
theorem env_kid {e : ByteArray → Int} {x : Lab} {l : List Tm} {a : Tm} (h : EnvOk e (varsT (x, mkTF l))) (ha : a ∈ l) : EnvOk e (varsT a) := h.sub (vars_kid ha)
theorem word_kid {e : ByteArray → Int} {x : Lab} {l : List Tm} {a : Tm} (h : EnvOk e (varsT (x, mkTF l))) (ha : a ∈ l) (ok : OkT a) : wOk a.1.w (evT e a) = true := word_of ok (env_kid h ha)
theorem isC_iff {t : Tm} {n : Int} : isC t n = true ↔ t.1.op = 0 ∧ t.1.n = n := by unfold isC; exact decide_eq_true_iff
theorem isC_not {t : Tm} {n : Int} (h : ¬ isC t n = true) : ¬ (t.1.op = 0 ∧ t.1.n = n) := fun h' => h (isC_iff.2 h')
theorem ev_isC {e : ByteArray → Int} {t : Tm} {n : Int} (h : isC t n = true) : evT e t = n := by rw [show t = (t.1, t.2) from rfl, ev_con t.2 (isC_iff.1 h).1]; exact (isC_iff.1 h).2
theorem ev_op0 {e : ByteArray → Int} {t : Tm} (h : t.1.op = 0) : evT e t = t.1.n := by rw [show t = (t.1, t.2) from rfl, ev_con t.2 h]
theorem mem_sub {l m : List Tm} (h : ∀ a ∈ l, ∃ b ∈ m, ∀ p ∈ varsT a, p ∈ varsT b) : ∀ p ∈ l.flatMap varsT, p ∈ m.flatMap varsT := fun p hp => by
  obtain ⟨a, ha, hp⟩ := List.mem_flatMap.1 hp
  obtain ⟨b, hb, hab⟩ := h a ha
  exact List.mem_flatMap.2 ⟨b, hb, hab p hp⟩
theorem varsF_kids {x : Lab} {l : List Tm} : ∀ p ∈ l.flatMap varsT, p ∈ varsT (x, mkTF l) := fun p hp => by
  rw [varsT_eq, varsF_mk]; exact List.mem_append_right _ hp
theorem lt_kid {x : Lab} {a : Tm} {l : List Tm} (h : a ∈ l) : a.sz < Tm.sz (x, mkTF l) := by
  show a.sz < (mkTF l).size + 1
  rw [size_mk]
  have : a.sz ≤ (l.map Tm.sz).sum := by
    induction l with
    | nil => cases h
    | cons b l ih =>
      rw [List.map_cons, List.sum_cons]
      rcases List.mem_cons.1 h with rfl | h
      · omega
      · have := ih h; omega
  omega
/-- A new node over kids or grandkids. -/
theorem keep_new {t : Tm} {y : Lab} {l : List Tm} (ok : OkT (y, mkTF l)) (h22 : y.op ≠ 22) (hw : y.w = t.1.w) (hs : Tm.sz (y, mkTF l) ≤ t.sz) (hv : ∀ a ∈ l, ∀ p ∈ varsT a, p ∈ varsT t) (he : ∀ e, EnvOk e (varsT t) → evT e (y, mkTF l) = evT e t) : Keeps t (y, mkTF l) :=
  ⟨ok, hw, hs, fun p hp => by
    rw [varsT_mk h22] at hp
    obtain ⟨a, ha, hp⟩ := List.mem_flatMap.1 hp
    exact hv a ha p hp, he⟩
section
variable {x : Lab} {a b c : Tm}
theorem un_good (h : OkT (x, mkTF [a])) (ho : x.op = 1 ∨ x.op = 2) : StepR (x, mkTF [a]) (.inl (if a.1.op = x.op then kid a.2 0 else (x, mkTF [a]))) := by
  have ha : OkT a := h.2.1
  have hw : a.1.w = x.w := fit_un h.1 ho
  split
  · rename_i hop
    obtain ⟨y, k⟩ := a
    obtain ⟨g, rfl, hg⟩ := ok_1 ha (by simp only at hop; omega)
    simp only at hop hw ⊢
    rw [kid0]
    have hgw : g.1.w = y.w := fit_un ha.1 (show y.op = 1 ∨ y.op = 2 by omega)
    refine ⟨⟨hg, hgw.trans hw, ?_, fun p hp => vars_kid (List.mem_singleton.2 rfl) p (vars_kid (List.mem_singleton.2 rfl) p hp), fun e he => ?_⟩, fun hn => .inr (Nf_kid (Nf_kid hn (List.mem_singleton.2 rfl)).2 (List.mem_singleton.2 rfl))⟩
    · rw [sz1, sz1]; omega
    · rw [ev_un ho, ev_un (show y.op = 1 ∨ y.op = 2 by omega), hop]
      show evT e g = uW x.op y.w _
      have := word_kid (env_kid he (List.mem_singleton.2 rfl)) (List.mem_singleton.2 rfl) hg
      rw [hgw] at this ⊢
      exact (unun this ho).symm
  · exact ⟨Keeps.refl h, fun _ => .inl rfl⟩
theorem if_good (h : OkT (x, mkTF [a, b, c])) (ho : x.op = 17) : StepR (x, mkTF [a, b, c]) (stIf (x, mkTF [a, b, c]) a b c) := by
  have ha : OkT a := h.2.1
  have hb : OkT b := h.2.2.1
  have hc : OkT c := h.2.2.2.1
  have hw : a.1.w = 1 ∧ b.1.w = x.w ∧ c.1.w = x.w := fit_if h.1 ho
  have ma : a ∈ [a, b, c] := by simp
  have mb : b ∈ [a, b, c] := by simp
  have mc : c ∈ [a, b, c] := by simp
  have bitA : ∀ e, EnvOk e (varsT (x, mkTF [a, b, c])) → evT e a = 0 ∨ evT e a = 1 := fun e he => by
    have := word_kid he ma ha
    rw [hw.1] at this
    exact bit1 this
  unfold stIf
  split
  · rename_i h1
    exact ⟨keep_kid mb hb hw.2.1 (Nat.le_of_lt (lt_kid mb)) fun e he => by rw [ev_if ho, ev_isC h1, if_pos rfl], fun hn => .inr (Nf_kid hn mb)⟩
  rename_i h1
  split
  · rename_i h2
    exact ⟨keep_kid mc hc hw.2.2 (Nat.le_of_lt (lt_kid mc)) fun e he => by rw [ev_if ho, ev_op0 h2, if_neg fun e => isC_not h1 ⟨h2, e⟩], fun hn => .inr (Nf_kid hn mc)⟩
  split
  · rename_i h3
    have := cmpT_zero.1 h3
    subst this
    exact ⟨keep_kid mb hb hw.2.1 (Nat.le_of_lt (lt_kid mb)) fun e he => by rw [ev_if ho]; split <;> rfl, fun hn => .inr (Nf_kid hn mb)⟩
  split
  · rename_i h4
    obtain ⟨y, k⟩ := a
    obtain ⟨g, rfl, hg⟩ := ok_1 ha (.inl h4)
    simp only at h4 hw ⊢
    rw [kid0]
    have hgw : g.1.w = y.w := fit_un ha.1 (.inl h4)
    have hlt : Tm.sz (mkn 17 x.w 0, mkTF [g, c, b]) < Tm.sz (x, mkTF [(y, mkTF [g]), b, c]) := by rw [sz3, sz3, sz1]; omega
    refine ⟨keep_new (ok_if hg hc hb (hgw.trans hw.1) hw.2.2 hw.2.1) (show (17 : Int) ≠ 22 by decide) rfl (Nat.le_of_lt hlt) (fun u hu p hp => ?_) (fun e he => ?_), ms_of hlt, fun hn => NfF_mk fun u hu => ?_⟩
    · simp only [List.mem_cons, List.not_mem_nil, or_false] at hu
      rcases hu with rfl | rfl | rfl
      · exact vars_kid ma p (vars_kid (List.mem_singleton.2 rfl) p hp)
      · exact vars_kid mc p hp
      · exact vars_kid mb p hp
    · rw [ev_if ho, ev_if rfl]
      have hgk := word_kid (env_kid he ma) (List.mem_singleton.2 rfl) hg
      rw [ev_un (.inl h4), h4]
      rw [hgw, hw.1] at hgk ⊢
      rw [bitN hgk]
      rcases bit1 hgk with h0 | h0 <;> rw [h0] <;> simp
    · simp only [List.mem_cons, List.not_mem_nil, or_false] at hu
      rcases hu with rfl | rfl | rfl
      · exact Nf_kid (Nf_kid hn ma).2 (List.mem_singleton.2 rfl)
      · exact Nf_kid hn mc
      · exact Nf_kid hn mb
  split
  · rename_i h5
    have hwx : x.w = 1 := h5.1
    refine ⟨keep_kid ma ha (by rw [hw.1, hwx]) (Nat.le_of_lt (lt_kid ma)) fun e he => ?_, fun hn => .inr (Nf_kid hn ma)⟩
    rw [ev_if ho, ev_isC h5.2.1, ev_isC h5.2.2]
    rcases bitA e he with h0 | h0 <;> rw [h0] <;> simp
  split
  · rename_i h6
    have hwx : x.w = 1 := h6.1
    have hlt : Tm.sz (mkn 1 1 0, mkTF [a]) < Tm.sz (x, mkTF [a, b, c]) := by rw [sz3, sz1]; have := sz_pos b; omega
    refine ⟨keep_new (ok_un ha (.inl rfl) hw.1) (show (1 : Int) ≠ 22 by decide) hwx.symm (Nat.le_of_lt hlt) (fun u hu p hp => ?_) (fun e he => ?_), ms_of hlt, fun hn => NfF_mk fun u hu => ?_⟩
    · rw [List.mem_singleton.1 hu] at hp; exact vars_kid ma p hp
    · rw [ev_if ho, ev_isC h6.2.1, ev_isC h6.2.2, ev_un (.inl rfl)]
      have hk := word_kid he ma ha
      rw [hw.1] at hk ⊢
      show uW 1 1 _ = _
      rw [bitN hk]
      rcases bit1 hk with h0 | h0 <;> rw [h0] <;> simp
    · rw [List.mem_singleton.1 hu]; exact Nf_kid hn ma
  · exact ⟨Keeps.refl h, fun _ => .inl rfl⟩
theorem cut_good (h : OkT (x, mkTF [a])) (ho : x.op = 19) : StepR (x, mkTF [a]) (stCut (x, mkTF [a]) a) := by
  have ha : OkT a := h.2.1
  have hx : 1 ≤ x.w ∧ x.w ≤ 16 := h.1.width
  have haw := ha.1.width
  have hw : 0 ≤ x.n ∧ x.n ≤ a.1.w - x.w := fit_cut h.1 ho
  have ma : a ∈ [a] := by simp
  unfold stCut
  split
  · rename_i h1
    have h11 : x.n = 0 := h1.1
    have h12 : x.w = a.1.w := h1.2
    refine ⟨keep_kid ma ha h12.symm (Nat.le_of_lt (lt_kid ma)) fun e he => ?_, fun hn => .inr (Nf_kid hn ma)⟩
    rw [ev_cut ho, h11, h12, cuA (word_kid he ma ha)]
  split
  · rename_i h2
    obtain ⟨y, k⟩ := a
    obtain ⟨g, rfl, hg⟩ := ok_1 ha (by simp only at h2; omega)
    simp only at h2 hw haw ⊢
    rw [kid0]
    have hgw : 0 ≤ y.n ∧ y.n ≤ g.1.w - y.w := fit_cut ha.1 h2
    have hlt : Tm.sz (mkn 19 x.w (x.n + y.n), mkTF [g]) < Tm.sz (x, mkTF [(y, mkTF [g])]) := by rw [sz1, sz1, sz1]; omega
    refine ⟨keep_new (ok_cut hg hx.1 (by omega)) (show (19 : Int) ≠ 22 by decide) rfl (Nat.le_of_lt hlt) (fun u hu p hp => ?_) (fun e he => ?_), ms_of hlt, fun hn => NfF_mk fun u hu => ?_⟩
    · rw [List.mem_singleton.1 hu] at hp; exact vars_kid ma p (vars_kid (List.mem_singleton.2 rfl) p hp)
    · rw [ev_cut ho, ev_cut h2, ev_cut rfl]
      show cW g.1.w _ (x.n + y.n) x.w = cW y.w (cW g.1.w _ y.n y.w) x.n x.w
      exact (cuC (word_kid (env_kid he ma) (List.mem_singleton.2 rfl) hg) hgw.1 hw.1 hx.1 (by omega) (by omega)).symm
    · rw [List.mem_singleton.1 hu]; exact Nf_kid (Nf_kid hn ma).2 (List.mem_singleton.2 rfl)
  split
  · rename_i h3
    obtain ⟨y, k⟩ := a
    obtain ⟨g, r, rfl, hg, hr⟩ := ok_2 ha (by simp only at h3; omega)
    simp only at h3 hw haw ⊢
    rw [kid0, kid1]
    have hgw : g.1.w + r.1.w = y.w := fit_join ha.1 h3
    have mg : g ∈ [g, r] := by simp
    have mr : r ∈ [g, r] := by simp
    have hgw' := hg.1.width
    have hrw' := hr.1.width
    split
    · rename_i h4
      have hlt : Tm.sz (mkn 19 x.w x.n, mkTF [r]) < Tm.sz (x, mkTF [(y, mkTF [g, r])]) := by rw [sz1, sz1, sz2]; omega
      refine ⟨keep_new (ok_cut hr hx.1 (by omega)) (show (19 : Int) ≠ 22 by decide) rfl (Nat.le_of_lt hlt) (fun u hu p hp => ?_) (fun e he => ?_), ms_of hlt, fun hn => NfF_mk fun u hu => ?_⟩
      · rw [List.mem_singleton.1 hu] at hp; exact vars_kid ma p (vars_kid mr p hp)
      · rw [ev_cut ho, ev_join h3, ev_cut rfl]
        show _ = cW y.w _ _ _
        rw [← hgw]
        exact (cuL (word_kid (env_kid he ma) mg hg) (word_kid (env_kid he ma) mr hr) (by omega) hw.1 hx.1 h4).symm
      · rw [List.mem_singleton.1 hu]; exact Nf_kid (Nf_kid hn ma).2 mr
    split
    · rename_i h4 h5
      have hlt : Tm.sz (mkn 19 x.w (x.n - r.1.w), mkTF [g]) < Tm.sz (x, mkTF [(y, mkTF [g, r])]) := by rw [sz1, sz1, sz2]; omega
      refine ⟨keep_new (ok_cut hg hx.1 (by omega)) (show (19 : Int) ≠ 22 by decide) rfl (Nat.le_of_lt hlt) (fun u hu p hp => ?_) (fun e he => ?_), ms_of hlt, fun hn => NfF_mk fun u hu => ?_⟩
      · rw [List.mem_singleton.1 hu] at hp; exact vars_kid ma p (vars_kid mg p hp)
      · rw [ev_cut ho, ev_join h3, ev_cut rfl]
        show _ = cW y.w _ _ _
        rw [← hgw]
        exact (cuH (word_kid (env_kid he ma) mg hg) (word_kid (env_kid he ma) mr hr) (by omega) h5 hx.1 (by omega)).symm
      · rw [List.mem_singleton.1 hu]; exact Nf_kid (Nf_kid hn ma).2 mg
    · exact ⟨Keeps.refl h, fun _ => .inl rfl⟩
  split
  · rename_i h4
    obtain ⟨y, k⟩ := a
    obtain ⟨g, rfl, hg⟩ := ok_1 ha (by simp only at h4; omega)
    simp only at h4 hw haw ⊢
    rw [kid0]
    have hgw : g.1.w ≤ y.w := fit_wid ha.1 h4
    split
    · rename_i h5
      have hlt : Tm.sz (mkn 19 x.w x.n, mkTF [g]) < Tm.sz (x, mkTF [(y, mkTF [g])]) := by rw [sz1, sz1, sz1]; omega
      refine ⟨keep_new (ok_cut hg hx.1 (by omega)) (show (19 : Int) ≠ 22 by decide) rfl (Nat.le_of_lt hlt) (fun u hu p hp => ?_) (fun e he => ?_), ms_of hlt, fun hn => NfF_mk fun u hu => ?_⟩
      · rw [List.mem_singleton.1 hu] at hp; exact vars_kid ma p (vars_kid (List.mem_singleton.2 rfl) p hp)
      · rw [ev_cut ho, ev_wid h4, ev_cut rfl]
        exact (cuX (word_kid (env_kid he ma) (List.mem_singleton.2 rfl) hg) hgw haw.2 hw.1 hx.1 h5 _).symm
      · rw [List.mem_singleton.1 hu]; exact Nf_kid (Nf_kid hn ma).2 (List.mem_singleton.2 rfl)
    · exact ⟨Keeps.refl h, fun _ => .inl rfl⟩
  · exact ⟨Keeps.refl h, fun _ => .inl rfl⟩
theorem wid_good (h : OkT (x, mkTF [a])) (ho : x.op = 20 ∨ x.op = 21) : StepR (x, mkTF [a]) (stWid (x, mkTF [a]) a) := by
  have ha : OkT a := h.2.1
  have hx : 1 ≤ x.w ∧ x.w ≤ 16 := h.1.width
  have hw : a.1.w ≤ x.w := fit_wid h.1 ho
  have ma : a ∈ [a] := by simp
  unfold stWid
  split
  · rename_i h1
    have h1 : x.w = a.1.w := h1
    refine ⟨keep_kid ma ha h1.symm (Nat.le_of_lt (lt_kid ma)) fun e he => ?_, fun hn => .inr (Nf_kid hn ma)⟩
    rw [ev_wid ho, h1, wiA (word_kid he ma ha)]
  split
  · rename_i h2
    obtain ⟨y, k⟩ := a
    obtain ⟨g, rfl, hg⟩ := ok_1 ha (by simp only at h2; omega)
    simp only at h2 hw ⊢
    rw [kid0]
    have hgw : g.1.w ≤ y.w := fit_wid ha.1 (show y.op = 20 ∨ y.op = 21 by omega)
    have hlt : Tm.sz (mkn x.op x.w 0, mkTF [g]) < Tm.sz (x, mkTF [(y, mkTF [g])]) := by rw [sz1, sz1, sz1]; omega
    refine ⟨keep_new (ok_wid hg ho hx.2 (by omega)) (show x.op ≠ 22 by omega) rfl (Nat.le_of_lt hlt) (fun u hu p hp => ?_) (fun e he => ?_), ms_of hlt, fun hn => NfF_mk fun u hu => ?_⟩
    · rw [List.mem_singleton.1 hu] at hp; exact vars_kid ma p (vars_kid (List.mem_singleton.2 rfl) p hp)
    · rw [ev_wid ho, ev_wid (show y.op = 20 ∨ y.op = 21 by omega), ev_wid (show (mkn x.op x.w 0).op = 20 ∨ (mkn x.op x.w 0).op = 21 from ho), h2]
      exact (wiwi (word_kid (env_kid he ma) (List.mem_singleton.2 rfl) hg) hgw hw hx.2 _).symm
    · rw [List.mem_singleton.1 hu]; exact Nf_kid (Nf_kid hn ma).2 (List.mem_singleton.2 rfl)
  · exact ⟨Keeps.refl h, fun _ => .inl rfl⟩
theorem join_good (h : OkT (x, mkTF [a, b])) (ho : x.op = 18) : StepR (x, mkTF [a, b]) (stJoin (x, mkTF [a, b]) a b) := by
  have ha : OkT a := h.2.1
  have hb : OkT b := h.2.2.1
  have hx : 1 ≤ x.w ∧ x.w ≤ 16 := h.1.width
  have hw : a.1.w + b.1.w = x.w := fit_join h.1 ho
  have ma : a ∈ [a, b] := by simp
  have mb : b ∈ [a, b] := by simp
  unfold stJoin
  split
  · rename_i h1
    obtain ⟨h1, h2, h3, h4⟩ := h1
    obtain ⟨y, k⟩ := a
    obtain ⟨g, rfl, hg⟩ := ok_1 ha (by simp only at h1; omega)
    obtain ⟨z, l⟩ := b
    obtain ⟨g', rfl, hg'⟩ := ok_1 hb (by simp only at h2; omega)
    simp only at h1 h2 h3 h4 hw ⊢
    rw [kid0, kid0] at h4
    rw [kid0]
    have := cmpT_zero.1 h4
    subst this
    have hgw : 0 ≤ y.n ∧ y.n ≤ g.1.w - y.w := fit_cut ha.1 h1
    have hgw' : 0 ≤ z.n ∧ z.n ≤ g.1.w - z.w := fit_cut hb.1 h2
    have hy : 1 ≤ y.w ∧ y.w ≤ 16 := ha.1.width
    have hz : 1 ≤ z.w ∧ z.w ≤ 16 := hb.1.width
    have hlt : Tm.sz (mkn 19 x.w z.n, mkTF [g]) < Tm.sz (x, mkTF [(y, mkTF [g]), (z, mkTF [g])]) := by rw [sz1, sz2, sz1, sz1]; omega
    refine ⟨keep_new (ok_cut hg hx.1 (by omega)) (show (19 : Int) ≠ 22 by decide) rfl (Nat.le_of_lt hlt) (fun u hu p hp => ?_) (fun e he => ?_), ms_of hlt, fun hn => NfF_mk fun u hu => ?_⟩
    · rw [List.mem_singleton.1 hu] at hp; exact vars_kid ma p (vars_kid (List.mem_singleton.2 rfl) p hp)
    · rw [ev_join ho, ev_cut h1, ev_cut h2, ev_cut rfl, h3]
      show cW g.1.w _ z.n x.w = jW y.w _ z.w _
      rw [← hw]
      exact (joC (word_kid (env_kid he ma) (List.mem_singleton.2 rfl) hg) hgw'.1 hy.1 hz.1 (by omega)).symm
    · rw [List.mem_singleton.1 hu]; exact Nf_kid (Nf_kid hn ma).2 (List.mem_singleton.2 rfl)
  · exact ⟨Keeps.refl h, fun _ => .inl rfl⟩
end
end Go.Proofs.Ytkoaicjcanplaaa
namespace Go.Proofs.Ytkoaicjcanplaaa
open Go Go.Vc Go.RowKit
set_option linter.unusedVariables false
section
variable {x : Lab} {a b : Tm}
/-- The widths of a node with two kids that is no join. -/
structure BinW (x : Lab) (a b : Tm) : Prop where
  op : 3 ≤ x.op ∧ x.op ≤ 16
  aw : a.1.w = b.1.w
  arith : x.op ≤ 13 → a.1.w = x.w
  cmp : 14 ≤ x.op → x.w = 1
theorem bin_w (h : OkT (x, mkTF [a, b])) (ho : 3 ≤ x.op ∧ x.op ≤ 16) : BinW x a b := by
  by_cases hc : x.op ≤ 13
  · have hw : a.1.w = x.w ∧ b.1.w = x.w := fit_bin h.1 ⟨ho.1, hc⟩
    exact ⟨ho, by omega, fun _ => hw.1, fun h => by omega⟩
  · have hw : a.1.w = b.1.w ∧ x.w = 1 := fit_cmp (x := x) h.1 ⟨by omega, ho.2⟩
    exact ⟨ho, hw.1, fun h => absurd h hc, fun _ => hw.2⟩
theorem ones_wok {w a : Int} (h : wOk w a = true) : wOk w (ones w) = true := by obtain ⟨k, rfl⟩ := wnat h; rw [ones_nat']; exact ones_word (wOkN.1 h).1 (wOkN.1 h).2.1
theorem zero_wok {w a : Int} (h : wOk w a = true) : wOk w 0 = true := by obtain ⟨k, rfl⟩ := wnat h; exact zero_word (wOkN.1 h).1 (wOkN.1 h).2.1
/-- A node over the same two kids, or over others, of an operation that is no comparison. -/
theorem con_word {t : Tm} (h : OkT t) (ho : t.1.op = 0) : wOk t.1.w t.1.n = true := h.1.const ho
theorem first_good (h : OkT (x, mkTF [a, b])) (ho : 3 ≤ x.op ∧ x.op ≤ 16) (ha0 : a.1.op = 0) : ∀ s, stFirst x.op x.w a b = some s → StepR (x, mkTF [a, b]) s := by
  have ha : OkT a := h.2.1
  have hb : OkT b := h.2.2.1
  have hW := bin_w h ho
  have ma : a ∈ [a, b] := by simp
  have mb : b ∈ [a, b] := by simp
  have hac := con_word ha ha0
  obtain ⟨k, hk⟩ := wnat hac
  have hea : ∀ e, evT e a = a.1.n := fun e => ev_op0 ha0
  have hbk : ∀ e, EnvOk e (varsT (x, mkTF [a, b])) → wOk (k : Int) (evT e b) = true := fun e he => by
    have := word_kid he mb hb
    rwa [← hW.aw, hk] at this
  have hbin : ∀ e, evT e (x, mkTF [a, b]) = bW x.op (k : Int) a.1.n (evT e b) := fun e => by rw [ev_bin ho, hea, hk]
  intro s hs
  unfold stFirst at hs
  split at hs
  · rename_i h1
    obtain rfl := (Option.some.inj hs).symm
    have hbw : b.1.w = x.w := by
      by_cases hc : x.op ≤ 13
      · rw [← hW.aw]; exact hW.arith hc
      · have := hW.cmp (by omega)
        have : x.op = 14 ∧ a.1.w = 1 := by omega
        rw [← hW.aw]; omega
    refine ⟨keep_kid mb hb hbw (Nat.le_of_lt (lt_kid mb)) fun e he => ?_, fun hn => .inr (Nf_kid hn mb)⟩
    have hbo := hbk e he
    rw [hbin]
    rw [hk, ones_nat'] at h1
    rcases h1 with ⟨p, q⟩ | ⟨p, q⟩ | ⟨p, q⟩ | ⟨p, q⟩ | ⟨p, q⟩ | ⟨p, q, r⟩
    · rw [p, q]; exact (id_add hbo).symm
    · rw [p, q]; exact (id_mul hbo).symm
    · rw [p, q]; exact (id_and hbo).symm
    · rw [p, q]; exact (id_or hbo).symm
    · rw [p, q]; exact (id_xor hbo).symm
    · rw [p, q, r]
      rw [q] at hbo
      exact (bitE1 hbo).symm
  rename_i h1
  split at hs
  · rename_i h2
    obtain rfl := (Option.some.inj hs).symm
    have hxw : x.w = k := by rw [← hW.arith (by omega), hk]
    refine ⟨keep_con (by rw [hxw, ← hk]; exact zero_wok hac) rfl fun e he => ?_, fun _ => .inr (Nf_con _ _)⟩
    rw [hbin]
    rcases h2 with ⟨p, q⟩ | ⟨p, q⟩
    · rw [p, q]; exact (no_mul (hbk e he)).symm
    · rw [p, q]; exact (no_and (hbk e he)).symm
  rename_i h2
  split at hs
  · rename_i h3
    obtain rfl := (Option.some.inj hs).symm
    have hxw : x.w = k := by rw [← hW.arith (by omega), hk]
    refine ⟨keep_con (by rw [hxw, ← hk]; exact ones_wok hac) rfl fun e he => ?_, fun _ => .inr (Nf_con _ _)⟩
    rw [hbin, h3.1, h3.2, hk, ones_nat']; exact (no_or (hbk e he)).symm
  rename_i h3
  split at hs
  · rename_i h4
    obtain rfl := (Option.some.inj hs).symm
    have hbw : b.1.w = x.w := by
      by_cases hc : x.op ≤ 13
      · rw [← hW.aw]; exact hW.arith hc
      · have := hW.cmp (by omega)
        rw [← hW.aw]; omega
    have hlt : Tm.sz (mkn 1 x.w 0, mkTF [b]) < Tm.sz (x, mkTF [a, b]) := by rw [sz1, sz2]; have := sz_pos a; omega
    refine ⟨keep_new (ok_un hb (.inl rfl) hbw) (show (1 : Int) ≠ 22 by decide) rfl (Nat.le_of_lt hlt) (fun u hu p hp => ?_) (fun e he => ?_), ms_of hlt, fun hn => NfF_mk fun u hu => ?_⟩
    · rw [List.mem_singleton.1 hu] at hp; exact vars_kid mb p hp
    · have hbo := hbk e he
      rw [hbin, ev_un (.inl rfl)]
      show uW 1 b.1.w _ = _
      rw [← hW.aw, hk]
      rw [hk, ones_nat'] at h4
      rcases h4 with ⟨p, q⟩ | ⟨p, q, r⟩
      · rw [p, q]; exact (xor_ones hbo).symm
      · rw [p, q, r]
        rw [q] at hbo
        exact (bitE0 hbo).symm
    · rw [List.mem_singleton.1 hu]; exact Nf_kid hn mb
  · cases hs
theorem rest_good (h : OkT (x, mkTF [a, b])) (ho : 3 ≤ x.op ∧ x.op ≤ 16) : StepR (x, mkTF [a, b]) (stRest (x, mkTF [a, b]) a b) := by
  have ha : OkT a := h.2.1
  have hb : OkT b := h.2.2.1
  have hW := bin_w h ho
  have hx : 1 ≤ x.w ∧ x.w ≤ 16 := h.1.width
  have ma : a ∈ [a, b] := by simp
  have mb : b ∈ [a, b] := by simp
  obtain ⟨k, hk⟩ := inat (show 0 ≤ a.1.w by have := ha.1.width; omega)
  have hak : ∀ e, EnvOk e (varsT (x, mkTF [a, b])) → wOk (k : Int) (evT e a) = true := fun e he => by
    have := word_kid he ma ha
    rwa [hk] at this
  have hbk : ∀ e, EnvOk e (varsT (x, mkTF [a, b])) → wOk (k : Int) (evT e b) = true := fun e he => by
    have := word_kid he mb hb
    rwa [← hW.aw, hk] at this
  have hbin : ∀ e, evT e (x, mkTF [a, b]) = bW x.op (k : Int) (evT e a) (evT e b) := fun e => by rw [ev_bin ho, hk]
  unfold stRest
  split
  · rename_i h1
    have h12 : x.op = 4 ∨ x.op = 11 ∨ x.op = 12 ∨ x.op = 13 := h1.2
    refine ⟨keep_kid ma ha (hW.arith (by omega)) (Nat.le_of_lt (lt_kid ma)) fun e he => ?_, fun hn => .inr (Nf_kid hn ma)⟩
    rw [hbin, ev_isC h1.1]; exact (by_zero (hak e he) x.op h12).symm
  split
  · rename_i h1
    have h12 : x.op = 15 := h1.2
    refine ⟨keep_con (by decide) (hW.cmp (by omega)).symm fun e he => ?_, fun _ => .inr (Nf_con _ _)⟩
    rw [hbin, ev_isC h1.1, h12]; exact (less_zero (hak e he)).symm
  split
  · rename_i h1
    have h12 : x.op = 8 ∨ x.op = 9 := h1.2
    have := cmpT_zero.1 h1.1
    subst this
    refine ⟨keep_kid ma ha (hW.arith (by omega)) (Nat.le_of_lt (lt_kid ma)) fun e he => ?_, fun hn => .inr (Nf_kid hn ma)⟩
    rw [hbin]
    rcases h12 with p | p <;> rw [p]
    · exact (same_and (hak e he)).symm
    · exact (same_or (hak e he)).symm
  split
  · rename_i h1
    have h12 : x.op = 4 ∨ x.op = 10 ∨ x.op = 15 ∨ x.op = 16 := h1.2
    have := cmpT_zero.1 h1.1
    subst this
    refine ⟨keep_con (t := (x, mkTF [a, a])) (w := x.w) ?_ rfl fun e he => ?_, fun _ => .inr (Nf_con _ _)⟩
    · obtain ⟨m, hm⟩ := inat (show 0 ≤ x.w by omega)
      rw [hm]; exact zero_word (by omega) (by omega)
    · rw [hbin]; exact (same_no (hak e he) x.op h12).symm
  split
  · rename_i h1
    have h12 : x.op = 14 := h1.2
    have := cmpT_zero.1 h1.1
    subst this
    refine ⟨keep_con (by decide) (hW.cmp (by omega)).symm fun e he => ?_, fun _ => .inr (Nf_con _ _)⟩
    rw [hbin, h12]; exact (same_eq (hak e he)).symm
  split
  · rename_i h1
    obtain ⟨h1, h2, h3, h4, h5⟩ := h1
    have h1 : swp x.op = true := h1
    have h2 : x.op ≠ 14 := h2
    have h4 : b.1.op = x.op := h4
    have hop : x.op = 3 ∨ x.op = 5 ∨ x.op = 8 ∨ x.op = 9 ∨ x.op = 10 := by
      have := of_decide_eq_true h1; omega
    obtain ⟨y, l⟩ := b
    simp only at h4
    obtain ⟨g, r, rfl, hg, hr⟩ := ok_2 hb (by omega)
    simp only at h5 ⊢
    rw [kid0] at h5
    rw [kid0, kid1]
    have hxw := hW.arith (by omega)
    have hyw : y.w = x.w := hW.aw.symm.trans hxw
    have hgw : g.1.w = y.w ∧ r.1.w = y.w := fit_bin hb.1 (show 3 ≤ y.op ∧ y.op ≤ 13 by omega)
    have mg : g ∈ [g, r] := by simp
    have mr : r ∈ [g, r] := by simp
    have hac := con_word ha h3
    have hgc := con_word hg h5
    have hkx : x.w = k := by omega
    rw [hk] at hac
    rw [hgw.1, hyw, hkx] at hgc
    have hcon : OkT (conT x.w (bW x.op x.w a.1.n g.1.n)) := ok_con (by rw [hkx]; exact bW_word hac hgc x.op (by omega))
    have hlt : Tm.sz (mkn x.op x.w 0, mkTF [conT x.w (bW x.op x.w a.1.n g.1.n), r]) < Tm.sz (x, mkTF [a, (y, mkTF [g, r])]) := by
      rw [sz2, sz2, sz2]
      have := sz_pos a
      have := sz_pos g
      show 0 + 1 + r.sz + 1 < _
      omega
    refine ⟨keep_new (ok_bin hcon hr (by omega) rfl (hgw.2.trans hyw)) (show x.op ≠ 22 by omega) rfl (Nat.le_of_lt hlt) (fun u hu p hp => ?_) (fun e he => ?_), ms_of hlt, fun hn => NfF_mk fun u hu => ?_⟩
    · simp only [List.mem_cons, List.not_mem_nil, or_false] at hu
      rcases hu with rfl | rfl
      · simp [varsT, varsF, conT, constL] at hp
      · exact vars_kid mb p (vars_kid mr p hp)
    · have hrk : wOk (k : Int) (evT e r) = true := by
        have := word_kid (env_kid he mb) mr hr
        rwa [hgw.2, hyw, hkx] at this
      rw [hbin, ev_bin (show 3 ≤ (mkn x.op x.w 0).op ∧ (mkn x.op x.w 0).op ≤ 16 from ho), ev_bin (show 3 ≤ y.op ∧ y.op ≤ 16 by omega), ev_op0 h3, ev_op0 h5, h4, hgw.1, hyw]
      show bW x.op x.w (evT e (conT x.w (bW x.op x.w a.1.n g.1.n))) (evT e r) = _
      rw [show evT e (conT x.w (bW x.op x.w a.1.n g.1.n)) = bW x.op x.w a.1.n g.1.n from ev_con .nil rfl, hkx]
      exact bW_assoc hac hgc hrk x.op hop
    · simp only [List.mem_cons, List.not_mem_nil, or_false] at hu
      rcases hu with rfl | rfl
      · exact Nf_con _ _
      · exact Nf_kid (Nf_kid hn mb).2 mr
  · exact ⟨Keeps.refl h, fun _ => .inl rfl⟩
theorem bin_good (h : OkT (x, mkTF [a, b])) (ho : 3 ≤ x.op ∧ x.op ≤ 16) : StepR (x, mkTF [a, b]) (stBin (x, mkTF [a, b]) a b) := by
  have ha : OkT a := h.2.1
  have hb : OkT b := h.2.2.1
  have hW := bin_w h ho
  have ma : a ∈ [a, b] := by simp
  have mb : b ∈ [a, b] := by simp
  unfold stBin
  split
  · rename_i h1
    obtain ⟨h1, h2⟩ := h1
    have h1 : swp x.op = true := h1
    have hsw := of_decide_eq_true h1
    have hsz : Tm.sz (mkn x.op x.w 0, mkTF [b, a]) = Tm.sz (x, mkTF [a, b]) := by rw [sz2, sz2]; omega
    have hok : OkT (mkn x.op x.w 0, mkTF [b, a]) := by
      by_cases hc : x.op ≤ 13
      · exact ok_bin hb ha ⟨ho.1, hc⟩ (by rw [← hW.aw]; exact hW.arith hc) (hW.arith hc)
      · rw [hW.cmp (by omega)]; exact ok_cmp hb ha ⟨by omega, ho.2⟩ hW.aw.symm
    refine ⟨keep_new hok (show x.op ≠ 22 by omega) rfl (Nat.le_of_eq hsz) (fun u hu p hp => ?_) (fun e he => ?_), ?_, fun hn => NfF_mk fun u hu => ?_⟩
    · simp only [List.mem_cons, List.not_mem_nil, or_false] at hu
      rcases hu with rfl | rfl
      · exact vars_kid mb p hp
      · exact vars_kid ma p hp
    · rw [ev_bin (show 3 ≤ (mkn x.op x.w 0).op ∧ (mkn x.op x.w 0).op ≤ 16 from ho), ev_bin ho, ← hW.aw]
      have h2 := word_kid he mb hb
      rw [← hW.aw] at h2
      exact biC h2 (word_kid he ma ha) hsw
    · unfold ms
      rw [hsz]
      simp only [kid0, kid1]
      rw [if_neg (fun h' => by have := cmpT_swap a b; omega), if_pos ⟨h1, h2⟩]
      omega
    · simp only [List.mem_cons, List.not_mem_nil, or_false] at hu
      rcases hu with rfl | rfl
      · exact Nf_kid hn mb
      · exact Nf_kid hn ma
  · cases hf : (if a.1.op = 0 then stFirst x.op x.w a b else none) with
    | some s =>
      simp only
      by_cases h0 : a.1.op = 0
      · rw [if_pos h0] at hf
        exact first_good h ho h0 s hf
      · rw [if_neg h0] at hf; cases hf
    | none =>
      simp only
      exact rest_good h ho
end
theorem allC_iff {l : List Tm} : allC (mkTF l) = true ↔ ∀ a ∈ l, a.1.op = 0 := by
  unfold allC
  rw [hdF_tms, tms_mk, List.all_map, List.all_eq_true]
  simp
/-- One step, whatever the node. -/
theorem step_good (t : Tm) (h : OkT t) : StepR t (step t) := by
  obtain ⟨x, k⟩ := t
  have hN : NodeOk x (hdF k) := h.1
  unfold step
  split
  · exact ⟨Keeps.refl h, fun _ => .inl rfl⟩
  rename_i hnil
  simp only at hnil
  split
  · rename_i hc
    simp only at hc ⊢
    obtain ⟨l, rfl⟩ : ∃ l, k = mkTF l := ⟨tms k, (mk_tms k).symm⟩
    have hop := allC_iff.1 hc
    have hne : ¬ (x.op = 0 ∨ x.op = 22) := fun ho => hnil (ok_nil h ho)
    have hev : ∀ e, ap x (hdF (mkTF l)) ((hdF (mkTF l)).map (·.n)) e0 = evT e (x, mkTF l) := fun e => by
      rw [ev_mk, hdF_tms, tms_mk]
      have e1 : (l.map (·.1)).map (·.n) = l.map (evT e) := by
        rw [List.map_map]
        exact List.map_congr_left fun a ha => (ev_op0 (hop a ha)).symm
      rw [e1]
      unfold ap
      rw [if_neg (fun h => hne (.inl h)), if_neg (fun h => hne (.inr h)), if_neg (fun h => hne (.inl h)), if_neg (fun h => hne (.inr h))]
    have hvars : varsT (x, mkTF l) = [] := by
      rw [varsT_mk (fun h => hne (.inr h))]
      refine List.flatMap_eq_nil_iff.2 fun a ha => ?_
      have hok := OkF_mem h.2 a (by rw [show (x, mkTF l).2 = mkTF l from rfl, tms_mk]; exact ha)
      rw [varsT_eq, if_neg (by rw [hop a ha]; decide), ok_nil (x := a.1) (k := a.2) hok (.inl (hop a ha))]; rfl
    refine ⟨keep_con ?_ rfl fun e _ => hev e, fun _ => .inr (Nf_con _ _)⟩
    rw [hev e0]
    exact word_of h (by rw [hvars]; intro p hp; cases hp)
  rename_i hc
  split
  · rename_i ho
    have ho : x.op = 1 ∨ x.op = 2 := ho
    obtain ⟨a, rfl, ha⟩ := ok_1 h (by omega)
    simp only [kid0]
    exact un_good h ho
  split
  · rename_i ho
    have ho : x.op = 17 := ho
    obtain ⟨a, b, c, rfl, ha, hb, hc⟩ := ok_3 h ho
    simp only [kid0, kid1, kid2]
    exact if_good h ho
  split
  · rename_i ho
    have ho : x.op = 19 := ho
    obtain ⟨a, rfl, ha⟩ := ok_1 h (by omega)
    simp only [kid0]
    exact cut_good h ho
  split
  · rename_i ho
    have ho : x.op = 20 ∨ x.op = 21 := ho
    obtain ⟨a, rfl, ha⟩ := ok_1 h (by omega)
    simp only [kid0]
    exact wid_good h ho
  split
  · rename_i ho
    have ho : x.op = 18 := ho
    obtain ⟨a, b, rfl, ha, hb⟩ := ok_2 h (by omega)
    simp only [kid0, kid1]
    exact join_good h ho
  · rename_i h1 h2 h3 h4 h5
    have hno : ¬ (x.op = 0 ∨ x.op = 22) := fun ho => hnil (ok_nil h ho)
    have ho : 3 ≤ x.op ∧ x.op ≤ 16 := by
      have := hN.op
      simp only at h1 h2 h3 h4 h5
      omega
    obtain ⟨a, b, rfl, ha, hb⟩ := ok_2 h (by omega)
    simp only [kid0, kid1]
    exact bin_good h ho

/-! the simpler form -/
def redF : Nat → Tm → Tm
  | 0, t => t
  | n + 1, t => match step t with
    | .inl u => u
    | .inr u => redF n u
def red (t : Tm) : Tm := redF (ms t + 1) t
theorem redF_eq : ∀ (n m : Nat) (t : Tm), OkT t → ms t < n → ms t < m → redF n t = redF m t := by
  intro n
  induction n with
  | zero => intro m t _ h; omega
  | succ n ih =>
    intro m t hok hn hm
    cases m with
    | zero => omega
    | succ m =>
      have hg := step_good t hok
      simp only [redF]
      cases hs : step t with
      | inl u => rfl
      | inr u =>
        rw [hs] at hg
        have hg : Keeps t u ∧ ms u < ms t ∧ _ := hg
        exact ih m u hg.1.ok (by omega) (by omega)
theorem red_inl {t u : Tm} (h : step t = .inl u) : red t = u := by unfold red; rw [redF, h]
theorem red_inr {t u : Tm} (hok : OkT t) (h : step t = .inr u) : red t = red u := by
  have hg := step_good t hok
  rw [h] at hg
  have hg : Keeps t u ∧ ms u < ms t ∧ _ := hg
  unfold red
  rw [redF, h]
  exact redF_eq _ _ u hg.1.ok (by omega) (by omega)
theorem red_good : ∀ (n : Nat) (t : Tm), ms t < n → OkT t → Keeps t (red t) ∧ (NfF t.2 → NfT (red t)) := by
  intro n
  induction n with
  | zero => intro t h; omega
  | succ n ih =>
    intro t hn hok
    have hg := step_good t hok
    cases hs : step t with
    | inl u =>
      rw [red_inl hs]
      rw [hs] at hg
      have hg : Keeps t u ∧ (NfF t.2 → u = t ∨ NfT u) := hg
      refine ⟨hg.1, fun hnf => (hg.2 hnf).elim (fun e => ?_) id⟩
      subst e
      exact ⟨hs, hnf⟩
    | inr u =>
      rw [red_inr hok hs]
      rw [hs] at hg
      have hg : Keeps t u ∧ ms u < ms t ∧ (NfF t.2 → NfF u.2) := hg
      have := ih u (by omega) hg.1.ok
      exact ⟨hg.1.trans this.1, fun hnf => this.2 (hg.2.2 hnf)⟩
theorem red_keeps {t : Tm} (h : OkT t) : Keeps t (red t) := (red_good _ t (Nat.lt_succ_self _) h).1
theorem red_nf {t : Tm} (h : OkT t) (hn : NfF t.2) : NfT (red t) := (red_good _ t (Nat.lt_succ_self _) h).2 hn
theorem red_same {t : Tm} (h : NfT t) : red t = t := red_inl h.1

/-- All nodes made simpler, from below. -/
def simF : TF → TF
  | .nil => .nil
  | .cons x k r => .cons (red (x, simF k)).1 (red (x, simF k)).2 (simF r)
def sim (t : Tm) : Tm := red (t.1, simF t.2)
/-- Kids by kids: the same widths. -/
def KeepsF (k l : TF) : Prop := (hdF l).map (·.w) = (hdF k).map (·.w) ∧ OkF l ∧ l.size ≤ k.size ∧ (∀ p ∈ varsF l, p ∈ varsF k) ∧ ∀ e, EnvOk e (varsF k) → evF e l = evF e k
theorem kw_map {l m : List Lab} (h : l.map (·.w) = m.map (·.w)) (i : Nat) : kw l i = kw m i := by
  unfold kw
  have h1 : ∀ l : List Lab, (l.getD i zeroL).w = (l.map (·.w)).getD i 0 := fun l => by
    simp only [List.getD_eq_getElem?_getD, List.getElem?_map]
    cases l[i]? <;> rfl
  rw [h1, h1, h]
theorem fit_map {x : Lab} {l m : List Lab} (h : l.map (·.w) = m.map (·.w)) : fit x l = fit x m := by
  unfold fit
  rw [kw_map h 0, kw_map h 1, kw_map h 2]
theorem NodeOk.map {x : Lab} {l m : List Lab} (h : l.map (·.w) = m.map (·.w)) (hk : NodeOk x m) : NodeOk x l where
  width := hk.width
  count := by
    have := congrArg List.length h
    rw [List.length_map, List.length_map] at this
    rw [this]; exact hk.count
  kids := fun y hy => by
    have : y.w ∈ m.map (·.w) := by rw [← h]; exact List.mem_map.2 ⟨y, hy, rfl⟩
    obtain ⟨z, hz, e⟩ := List.mem_map.1 this
    rw [← e]; exact hk.kids z hz
  fits := (fit_map h).trans hk.fits
  const := hk.const
  num := hk.num
  noname := hk.noname
  name := hk.name
theorem ap_map {x : Lab} {l m : List Lab} (h : l.map (·.w) = m.map (·.w)) (v : List Int) (e : ByteArray → Int) : ap x l v e = ap x m v e := by
  unfold ap
  rw [kw_map h 0, kw_map h 1]
theorem keeps_node {x : Lab} {k l : TF} (h : OkT (x, k)) (hk : KeepsF k l) : Keeps (x, k) (x, l) where
  ok := ⟨h.1.map hk.1, hk.2.1⟩
  w := rfl
  sz := Nat.succ_le_succ hk.2.2.1
  vars := fun p hp => by
    rw [varsT_eq, List.mem_append] at hp ⊢
    exact hp.imp id (hk.2.2.2.1 p)
  ev := fun e he => by
    show ap x (hdF l) (evF e l) e = ap x (hdF k) (evF e k) e
    rw [ap_map hk.1, hk.2.2.2.2 e (he.sub fun p hp => by rw [varsT_eq]; exact List.mem_append_right _ hp)]
theorem simF_good : ∀ k : TF, OkF k → KeepsF k (simF k) ∧ NfF (simF k) := by
  intro k
  induction k with
  | nil => intro _; exact ⟨⟨rfl, trivial, Nat.le_refl _, fun _ h => h, fun _ _ => rfl⟩, trivial⟩
  | cons x k r ihk ihr =>
    rintro ⟨hx, hr⟩
    obtain ⟨k1, k2⟩ := ihk hx.2
    obtain ⟨r1, r2⟩ := ihr hr
    have hn := keeps_node (x := x) hx k1
    have hred := red_keeps hn.ok
    have hall := hn.trans hred
    refine ⟨⟨?_, ⟨hred.ok, r1.2.1⟩, ?_, ?_, ?_⟩, red_nf hn.ok k2, r2⟩
    · simp only [simF, hdF, List.map_cons, r1.1]
      rw [hred.w]
    · have h1 := hall.sz
      have h2 := r1.2.2.1
      simp only [Tm.sz] at h1
      simp only [simF, Fo.size]
      omega
    · intro p hp
      simp only [simF, varsF, List.mem_append] at hp ⊢
      rcases hp with hp | hp
      · left
        have := hall.vars p (by rw [varsT_eq, List.mem_append]; exact hp)
        rwa [varsT_eq, List.mem_append] at this
      · right; exact r1.2.2.2.1 p hp
    · intro e he
      have e1 : EnvOk e (varsT (x, k)) := he.sub fun p hp => by
        rw [varsT_eq] at hp
        simp only [varsF, List.append_assoc]
        rw [← List.append_assoc]
        exact List.mem_append_left _ hp
      have e2 : EnvOk e (varsF r) := he.sub fun p hp => by
        simp only [varsF]
        exact List.mem_append_right _ hp
      have h1 := hall.ev e e1
      have h2 := r1.2.2.2.2 e e2
      show evT e (red (x, simF k)) :: evF e (simF r) = evT e (x, k) :: evF e r
      rw [h1, h2]
theorem sim_keeps {t : Tm} (h : OkT t) : Keeps t (sim t) := by
  have hn := keeps_node (x := t.1) (k := t.2) h (simF_good t.2 h.2).1
  exact hn.trans (red_keeps hn.ok)
theorem sim_nf {t : Tm} (h : OkT t) : NfT (sim t) := red_nf (keeps_node (x := t.1) (k := t.2) h (simF_good t.2 h.2).1).ok (simF_good t.2 h.2).2
theorem simF_same : ∀ k : TF, NfF k → simF k = k := by
  intro k
  induction k with
  | nil => intro _; rfl
  | cons x k r ihk ihr =>
    rintro ⟨⟨h1, h2⟩, h3⟩
    rw [simF, ihk h2, ihr h3, red_inl h1]
theorem sim_same {t : Tm} (h : NfT t) : sim t = t := by
  show red (t.1, simF t.2) = t
  rw [simF_same _ h.2]; exact red_same h
end Go.Proofs.Ytkoaicjcanplaaa
