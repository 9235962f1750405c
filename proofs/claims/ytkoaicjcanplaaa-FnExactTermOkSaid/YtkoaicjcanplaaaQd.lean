/- Terms plainly: what they stand for, how they compare, one step towards a simpler form. No program in sight. -/
import Derived.Test.YtkoaicjcanplaaaQa
import Derived.Test.YtkoaicjcanplaaaTw
import Derived.Test.YtkoaicjcanplaaaWe
import Derived.Lib.Bytealg
namespace Go.Proofs.Ytkoaicjcanplaaa
open Go Go.Vc Go.RowKit

abbrev Tm := Lab × TF
def tms : TF → List Tm
  | .nil => []
  | .cons x k r => (x, k) :: tms r
def mkTF : List Tm → TF
  | [] => .nil
  | t :: l => .cons t.1 t.2 (mkTF l)
theorem tms_mk : ∀ l, tms (mkTF l) = l := by
  intro l
  induction l with
  | nil => rfl
  | cons t l ih => simp [mkTF, tms, ih]
theorem mk_tms : ∀ k, mkTF (tms k) = k := by
  intro k
  induction k with
  | nil => rfl
  | cons x k r _ ih => simp [mkTF, tms, ih]
theorem tms_len : ∀ k, (tms k).length = k.len := by
  intro k
  induction k with
  | nil => rfl
  | cons x k r _ ih => simp [tms, Fo.len, ih]
theorem hdF_tms : ∀ k, hdF k = (tms k).map (·.1) := by
  intro k
  induction k with
  | nil => rfl
  | cons x k r _ ih => simp [hdF, tms, ih]
def zeroT : Tm := (zeroL, .nil)
def kid (k : TF) (i : Nat) : Tm := (tms k).getD i zeroT
def Tm.sz (t : Tm) : Nat := t.2.size + 1
def OkT (t : Tm) : Prop := NodeOk t.1 (hdF t.2) ∧ OkF t.2
theorem OkF_mem : ∀ {k : TF}, OkF k → ∀ t ∈ tms k, OkT t := by
  intro k
  induction k with
  | nil => intro _ t h; cases h
  | cons x k r _ ih =>
    rintro ⟨h1, h2⟩ t h
    rcases List.mem_cons.1 h with rfl | h
    · exact h1
    · exact ih h2 t h
theorem OkF_mk : ∀ {l : List Tm}, (∀ t ∈ l, OkT t) → OkF (mkTF l) := by
  intro l
  induction l with
  | nil => intro _; trivial
  | cons t l ih => intro h; exact ⟨h t (by simp), ih fun u hu => h u (by simp [hu])⟩

/-! what a term stands for -/
def ap (x : Lab) (l : List Lab) (v : List Int) (e : ByteArray → Int) : Int :=
  if x.op = 0 then x.n else if x.op = 22 then e x.name else if x.op = 17 then (if v.getD 0 0 = 1 then v.getD 1 0 else v.getD 2 0)
  else if x.op = 1 ∨ x.op = 2 then uW x.op (kw l 0) (v.getD 0 0) else if x.op = 19 then cW (kw l 0) (v.getD 0 0) x.n x.w
  else if x.op = 20 ∨ x.op = 21 then wiW (kw l 0) (v.getD 0 0) x.w (decide (x.op = 21))
  else if x.op = 18 then jW (kw l 0) (v.getD 0 0) (kw l 1) (v.getD 1 0) else bW x.op (kw l 0) (v.getD 0 0) (v.getD 1 0)
def evF (e : ByteArray → Int) : TF → List Int
  | .nil => []
  | .cons x k r => ap x (hdF k) (evF e k) e :: evF e r
def evT (e : ByteArray → Int) (t : Tm) : Int := ap t.1 (hdF t.2) (evF e t.2) e
theorem evF_tms (e : ByteArray → Int) : ∀ k, evF e k = (tms k).map (evT e) := by
  intro k
  induction k with
  | nil => rfl
  | cons x k r _ ih => simp [evF, tms, ih, evT]

/-! comparing -/
def cmpI (a b : Int) : Int := if a < b then -1 else if b < a then 1 else 0
def cmpS (a b : ByteArray) : Int := Lib.compareBytes a.data.toList b.data.toList
def cmpL (x y : Lab) : Int :=
  if cmpI x.op y.op ≠ 0 then cmpI x.op y.op else if cmpI x.w y.w ≠ 0 then cmpI x.w y.w else if cmpI x.n y.n ≠ 0 then cmpI x.n y.n else cmpS x.name y.name
def cmpF : TF → TF → Int
  | .nil, .nil => 0
  | .nil, .cons _ _ _ => -1
  | .cons _ _ _, .nil => 1
  | .cons x k r, .cons y l q => if cmpL x y ≠ 0 then cmpL x y else if cmpF k l ≠ 0 then cmpF k l else cmpF r q
def cmpT (a b : Tm) : Int := if cmpL a.1 b.1 ≠ 0 then cmpL a.1 b.1 else cmpF a.2 b.2
theorem cmpI_zero {a b : Int} : cmpI a b = 0 ↔ a = b := by
  unfold cmpI
  split
  · omega
  · split <;> omega
theorem cmpI_swap (a b : Int) : cmpI b a = - cmpI a b := by
  unfold cmpI
  by_cases h1 : a < b
  · rw [if_neg (by omega), if_pos h1, if_pos h1]; rfl
  · by_cases h2 : b < a
    · rw [if_pos h2, if_neg h1, if_pos h2]
    · rw [if_neg h2, if_neg h1, if_neg h1, if_neg h2]; rfl
theorem cmpI_val (a b : Int) : cmpI a b = -1 ∨ cmpI a b = 0 ∨ cmpI a b = 1 := by
  unfold cmpI
  split
  · exact .inl rfl
  · split
    · exact .inr (.inr rfl)
    · exact .inr (.inl rfl)
theorem cb_zero : ∀ a b : List UInt8, Lib.compareBytes a b = 0 ↔ a = b := by
  intro a
  induction a with
  | nil => intro b; cases b <;> simp [Lib.compareBytes]
  | cons x a ih =>
    intro b
    cases b with
    | nil => simp [Lib.compareBytes]
    | cons y b =>
      simp only [Lib.compareBytes]
      by_cases h1 : x < y
      · rw [if_pos h1]
        simp only [List.cons.injEq, false_iff, show (-1 : Int) ≠ 0 from by decide]
        rintro ⟨rfl, _⟩
        exact absurd h1 (by simp)
      · rw [if_neg h1]
        by_cases h2 : y < x
        · rw [if_pos h2]
          simp only [List.cons.injEq, false_iff, show (1 : Int) ≠ 0 from by decide]
          rintro ⟨rfl, _⟩
          exact absurd h2 (by simp)
        · rw [if_neg h2, ih, List.cons.injEq]
          have : x = y := by
            rw [UInt8.lt_iff_toNat_lt] at h1 h2
            exact UInt8.toNat_inj.1 (by omega)
          simp [this]
theorem cb_swap : ∀ a b : List UInt8, Lib.compareBytes b a = - Lib.compareBytes a b := by
  intro a
  induction a with
  | nil => intro b; cases b <;> rfl
  | cons x a ih =>
    intro b
    cases b with
    | nil => rfl
    | cons y b =>
      simp only [Lib.compareBytes]
      by_cases h1 : x < y
      · rw [if_neg (by rw [UInt8.lt_iff_toNat_lt] at *; omega), if_pos h1, if_pos h1]; rfl
      · by_cases h2 : y < x
        · rw [if_pos h2, if_neg h1, if_pos h2]
        · rw [if_neg h2, if_neg h1, if_neg h1, if_neg h2]; exact ih b
theorem cb_val : ∀ a b : List UInt8, Lib.compareBytes a b = -1 ∨ Lib.compareBytes a b = 0 ∨ Lib.compareBytes a b = 1 := by
  intro a
  induction a with
  | nil => intro b; cases b <;> simp [Lib.compareBytes]
  | cons x a ih =>
    intro b
    cases b with
    | nil => simp [Lib.compareBytes]
    | cons y b =>
      simp only [Lib.compareBytes]
      split
      · simp
      · split
        · simp
        · exact ih b
theorem cb_less : ∀ a b : List UInt8, Op.bytesLess a b = decide (Lib.compareBytes a b = -1) := by
  intro a
  induction a with
  | nil => intro b; cases b <;> simp [Lib.compareBytes, Op.bytesLess]
  | cons x a ih =>
    intro b
    cases b with
    | nil => simp [Lib.compareBytes, Op.bytesLess]
    | cons y b =>
      simp only [Lib.compareBytes, Op.bytesLess]
      by_cases h1 : x < y
      · simp [h1]
      · by_cases h2 : y < x
        · have : ¬ x = y := by rintro rfl; exact absurd h2 (by simp)
          simp [h1, h2, this]
        · have : x = y := by
            rw [UInt8.lt_iff_toNat_lt] at h1 h2
            exact UInt8.toNat_inj.1 (by omega)
          subst this
          simp [h1, ih]
theorem cb_trans : ∀ a b c : List UInt8, Lib.compareBytes a b = -1 → Lib.compareBytes b c = -1 → Lib.compareBytes a c = -1 := by
  intro a
  induction a with
  | nil => intro b c; cases b <;> cases c <;> simp [Lib.compareBytes]
  | cons x a ih =>
    intro b c
    cases b with
    | nil => intro h; simp [Lib.compareBytes] at h
    | cons y b =>
      cases c with
      | nil => intro _ h; simp [Lib.compareBytes] at h
      | cons z c =>
        simp only [Lib.compareBytes, UInt8.lt_iff_toNat_lt]
        intro h1 h2
        by_cases a1 : x.toNat < y.toNat
        · by_cases a2 : y.toNat < z.toNat
          · rw [if_pos (by omega)]
          · rw [if_neg a2] at h2
            by_cases a3 : z.toNat < y.toNat
            · rw [if_pos a3] at h2; cases h2
            · rw [if_pos (by omega)]
        · rw [if_neg a1] at h1
          by_cases a3 : y.toNat < x.toNat
          · rw [if_pos a3] at h1; cases h1
          · rw [if_neg a3] at h1
            by_cases a2 : y.toNat < z.toNat
            · rw [if_pos (by omega)]
            · rw [if_neg a2] at h2
              by_cases a4 : z.toNat < y.toNat
              · rw [if_pos a4] at h2; cases h2
              · rw [if_neg a4] at h2
                rw [if_neg (by omega), if_neg (by omega)]
                exact ih b c h1 h2
theorem bytes_ext {a b : ByteArray} : a.data.toList = b.data.toList ↔ a = b := ⟨fun h => by cases a; cases b; simp only [ByteArray.mk.injEq]; exact Array.toList_inj.1 h, fun h => by rw [h]⟩
theorem cmpS_zero {a b : ByteArray} : cmpS a b = 0 ↔ a = b := (cb_zero _ _).trans bytes_ext
theorem cmpS_swap (a b : ByteArray) : cmpS b a = - cmpS a b := cb_swap _ _
theorem cmpS_val (a b : ByteArray) : cmpS a b = -1 ∨ cmpS a b = 0 ∨ cmpS a b = 1 := cb_val _ _
theorem less_cmp (a b : ByteArray) : less a b = decide (cmpS a b = -1) := by
  unfold less cmpS
  rw [ByteArray.toList_eq, ByteArray.toList_eq]
  exact cb_less _ _
theorem cmpS_trans {a b c : ByteArray} (h1 : cmpS a b = -1) (h2 : cmpS b c = -1) : cmpS a c = -1 := cb_trans _ _ _ h1 h2
theorem cmpL_zero {x y : Lab} : cmpL x y = 0 ↔ x = y := by
  obtain ⟨o, w, n, s⟩ := x
  obtain ⟨o', w', n', s'⟩ := y
  simp only [cmpL, Lab.mk.injEq]
  by_cases h1 : cmpI o o' = 0
  · by_cases h2 : cmpI w w' = 0
    · by_cases h3 : cmpI n n' = 0
      · rw [if_neg (by simp [h1]), if_neg (by simp [h2]), if_neg (by simp [h3]), cmpS_zero]
        simp [cmpI_zero.1 h1, cmpI_zero.1 h2, cmpI_zero.1 h3]
      · have : n ≠ n' := fun e => h3 (cmpI_zero.2 e)
        simp [h1, h2, h3, this]
    · have : w ≠ w' := fun e => h2 (cmpI_zero.2 e)
      simp [h1, h2, this]
  · have : o ≠ o' := fun e => h1 (cmpI_zero.2 e)
    simp [h1, this]
theorem cmpL_swap (x y : Lab) : cmpL y x = - cmpL x y := by
  simp only [cmpL, cmpI_swap x.op y.op, cmpI_swap x.w y.w, cmpI_swap x.n y.n, cmpS_swap x.name y.name]
  by_cases h1 : cmpI x.op y.op = 0 <;> by_cases h2 : cmpI x.w y.w = 0 <;> by_cases h3 : cmpI x.n y.n = 0 <;> simp [h1, h2, h3]
theorem cmpL_val (x y : Lab) : cmpL x y = -1 ∨ cmpL x y = 0 ∨ cmpL x y = 1 := by
  unfold cmpL
  split
  · exact cmpI_val _ _
  · split
    · exact cmpI_val _ _
    · split
      · exact cmpI_val _ _
      · exact cmpS_val _ _
theorem cmpF_zero : ∀ k l : TF, cmpF k l = 0 ↔ k = l := by
  intro k
  induction k with
  | nil => intro l; cases l <;> simp [cmpF]
  | cons x k r ihk ihr =>
    intro l
    cases l with
    | nil => simp [cmpF]
    | cons y l q =>
      simp only [cmpF, Fo.cons.injEq]
      by_cases h1 : cmpL x y = 0
      · by_cases h2 : cmpF k l = 0
        · rw [if_neg (by simp [h1]), if_neg (by simp [h2]), ihr]
          simp [cmpL_zero.1 h1, (ihk l).1 h2]
        · have : k ≠ l := fun e => h2 ((ihk l).2 e)
          simp [h1, h2, this]
      · have : x ≠ y := fun e => h1 (cmpL_zero.2 e)
        simp [h1, this]
theorem cmpF_swap : ∀ k l : TF, cmpF l k = - cmpF k l := by
  intro k
  induction k with
  | nil => intro l; cases l <;> rfl
  | cons x k r ihk ihr =>
    intro l
    cases l with
    | nil => rfl
    | cons y l q =>
      simp only [cmpF, cmpL_swap x y, ihk l, ihr q]
      by_cases h1 : cmpL x y = 0 <;> by_cases h2 : cmpF k l = 0 <;> simp [h1, h2]
theorem cmpF_val : ∀ k l : TF, cmpF k l = -1 ∨ cmpF k l = 0 ∨ cmpF k l = 1 := by
  intro k
  induction k with
  | nil => intro l; cases l <;> simp [cmpF]
  | cons x k r ihk ihr =>
    intro l
    cases l with
    | nil => simp [cmpF]
    | cons y l q =>
      simp only [cmpF]
      split
      · exact cmpL_val _ _
      · split
        · exact ihk _
        · exact ihr _
theorem cmpT_zero {a b : Tm} : cmpT a b = 0 ↔ a = b := by
  obtain ⟨x, k⟩ := a
  obtain ⟨y, l⟩ := b
  simp only [cmpT, Prod.mk.injEq]
  by_cases h1 : cmpL x y = 0
  · rw [if_neg (by simp [h1]), cmpF_zero]
    simp [cmpL_zero.1 h1]
  · have : x ≠ y := fun e => h1 (cmpL_zero.2 e)
    simp [h1, this]
theorem cmpT_swap (a b : Tm) : cmpT b a = - cmpT a b := by
  simp only [cmpT, cmpL_swap a.1 b.1, cmpF_swap a.2 b.2]
  by_cases h1 : cmpL a.1 b.1 = 0 <;> simp [h1]
theorem cmpT_val (a b : Tm) : cmpT a b = -1 ∨ cmpT a b = 0 ∨ cmpT a b = 1 := by
  unfold cmpT
  split
  · exact cmpL_val _ _
  · exact cmpF_val _ _
theorem cmpF_cons (x y : Lab) (k l r q : TF) : cmpF (.cons x k r) (.cons y l q) = if cmpT (x, k) (y, l) ≠ 0 then cmpT (x, k) (y, l) else cmpF r q := by
  simp only [cmpF, cmpT]
  by_cases h1 : cmpL x y = 0 <;> simp [h1]
end Go.Proofs.Ytkoaicjcanplaaa
