/- Terms plainly: which are valid, their variables. No program in sight. -/
import Derived.Test.YtekddgkgeaolnaaCt
namespace Go.Proofs.Ytekddgkgeaolnaa
open Go Go.Vc Go.RowKit

/-- The labels of the first nodes of a forest. -/
def hdF : TF → List Lab
  | .nil => []
  | .cons x _ r => x :: hdF r
theorem hdF_len : ∀ f : TF, (hdF f).length = f.len := by
  intro f
  induction f with
  | nil => rfl
  | cons x k r _ ih => simp [hdF, Fo.len, ih]
theorem hdF_app : ∀ f g : TF, hdF (f.app g) = hdF f ++ hdF g := by
  intro f g
  induction f with
  | nil => rfl
  | cons x k r _ ih => simp [hdF, Fo.app, ih]
def kw (l : List Lab) (i : Nat) : Int := (l.getD i zeroL).w
def kc (op : Int) : Int :=
  if op = 0 ∨ op = 22 then 0 else if op = 1 ∨ op = 2 ∨ op = 19 ∨ op = 20 ∨ op = 21 then 1 else if (3 ≤ op ∧ op ≤ 16) ∨ op = 18 then 2 else if op = 17 then 3 else -1
def fit (x : Lab) (l : List Lab) : Bool :=
  if x.op = 0 ∨ x.op = 22 then true else if x.op = 1 ∨ x.op = 2 then decide (kw l 0 = x.w) else if 3 ≤ x.op ∧ x.op ≤ 13 then decide (kw l 0 = x.w ∧ kw l 1 = x.w)
  else if 14 ≤ x.op ∧ x.op ≤ 16 then decide (kw l 0 = kw l 1 ∧ x.w = 1) else if x.op = 17 then decide (kw l 0 = 1 ∧ kw l 1 = x.w ∧ kw l 2 = x.w)
  else if x.op = 18 then decide (kw l 0 + kw l 1 = x.w) else if x.op = 19 then decide (0 ≤ x.n ∧ x.n ≤ kw l 0 - x.w) else decide (kw l 0 ≤ x.w)
/-- A node that fits to its kids. -/
structure NodeOk (x : Lab) (l : List Lab) : Prop where
  width : 1 ≤ x.w ∧ x.w ≤ 16
  count : (l.length : Int) = kc x.op
  kids : ∀ y ∈ l, 1 ≤ y.w ∧ y.w ≤ 16
  fits : fit x l = true
  const : x.op = 0 → wOk x.w x.n = true
  num : x.op ≠ 0 → x.op ≠ 19 → x.n = 0
  noname : x.op ≠ 22 → x.name = ByteArray.empty
  name : x.op = 22 → isNm x.name = true
noncomputable instance (x : Lab) (l : List Lab) : Decidable (NodeOk x l) := Classical.propDecidable _
/-- All nodes of a forest fit. -/
def OkF : TF → Prop
  | .nil => True
  | .cons x k r => (NodeOk x (hdF k) ∧ OkF k) ∧ OkF r
theorem OkF_app : ∀ f g : TF, OkF (f.app g) ↔ OkF f ∧ OkF g := by
  intro f g
  induction f with
  | nil => simp [Fo.app, OkF]
  | cons x k r _ ih => simp only [Fo.app, OkF, ih, and_assoc]
theorem OkF_one {x : Lab} {k : TF} : OkF (.cons x k .nil) ↔ NodeOk x (hdF k) ∧ OkF k := by simp [OkF]

/-! variables, in the order of the text -/
abbrev Vs := List (ByteArray × Int)
def varsF : TF → Vs
  | .nil => []
  | .cons x k r => (if x.op = 22 then [(x.name, x.w)] else []) ++ varsF k ++ varsF r
theorem varsF_app : ∀ f g : TF, varsF (f.app g) = varsF f ++ varsF g := by
  intro f g
  induction f with
  | nil => rfl
  | cons x k r _ ih => simp only [Fo.app, varsF, ih, List.append_assoc]
/-- The width that came first with a name. -/
def lk (s : ByteArray) : Vs → Option Int
  | [] => none
  | p :: l => if s = p.1 then some p.2 else lk s l
theorem lk_app (s : ByteArray) : ∀ l k : Vs, lk s (l ++ k) = (lk s l).or (lk s k) := by
  intro l k
  induction l with
  | nil => rfl
  | cons p l ih =>
    simp only [List.cons_append, lk]
    split
    · rfl
    · exact ih
theorem lk_mem {s : ByteArray} {n : Int} : ∀ {l : Vs}, lk s l = some n → (s, n) ∈ l := by
  intro l
  induction l with
  | nil => intro h; cases h
  | cons p l ih =>
    intro h
    simp only [lk] at h
    split at h
    · rename_i e
      cases h
      subst e
      exact List.mem_cons_self
    · exact List.mem_cons_of_mem _ (ih h)
theorem lk_none {s : ByteArray} : ∀ {l : Vs}, lk s l = none ↔ ∀ p ∈ l, p.1 ≠ s := by
  intro l
  induction l with
  | nil => simp [lk]
  | cons p l ih =>
    simp only [lk, List.mem_cons, forall_eq_or_imp]
    split
    · rename_i e
      simp [e]
    · rename_i e
      rw [ih]
      exact ⟨fun h => ⟨fun e' => e e'.symm, h⟩, fun h => h.2⟩
/-- Names that come later have the widths that came first. -/
def consB : Vs → Vs → Prop
  | _, [] => True
  | vs, p :: ws => (∀ n, lk p.1 vs = some n → n = p.2) ∧ consB (vs ++ [p]) ws
theorem consB_app : ∀ (ws us vs : Vs), consB vs (ws ++ us) ↔ consB vs ws ∧ consB (vs ++ ws) us := by
  intro ws us
  induction ws with
  | nil => intro vs; simp [consB]
  | cons p ws ih => intro vs; simp only [List.cons_append, consB, ih, and_assoc, List.append_assoc]; rfl
/-- No name has two widths. -/
def Cons (l : Vs) : Prop := ∀ p ∈ l, ∀ q ∈ l, p.1 = q.1 → p.2 = q.2
theorem lk_of_mem {l : Vs} (hc : Cons l) {p : ByteArray × Int} (h : p ∈ l) : lk p.1 l = some p.2 := by
  cases e : lk p.1 l with
  | none => exact absurd rfl (lk_none.1 e p h)
  | some n => exact congrArg some (hc _ (lk_mem e) _ h rfl)
theorem consB_iff : ∀ (ws vs : Vs), Cons vs → (consB vs ws ↔ Cons (vs ++ ws)) := by
  intro ws
  induction ws with
  | nil => intro vs h; simp [consB, h]
  | cons p ws ih =>
    intro vs h
    simp only [consB]
    rw [show vs ++ p :: ws = (vs ++ [p]) ++ ws from by simp]
    constructor
    · rintro ⟨h1, h2⟩
      refine (ih _ ?_).1 h2
      intro a ha b hb e
      rw [List.mem_append, List.mem_singleton] at ha hb
      rcases ha with ha | rfl
      · rcases hb with hb | rfl
        · exact h a ha b hb e
        · exact h1 _ (by rw [← e]; exact lk_of_mem h ha)
      · rcases hb with hb | rfl
        · exact (h1 _ (by rw [e]; exact lk_of_mem h hb)).symm
        · rfl
    · intro h2
      have h3 : Cons (vs ++ [p]) := fun a ha b hb e => h2 a (List.mem_append_left _ ha) b (List.mem_append_left _ hb) e
      refine ⟨fun n hn => h3 (p.1, n) (List.mem_append_left _ (lk_mem hn)) p (by simp) rfl, (ih _ h3).2 h2⟩
theorem consB_nil (ws : Vs) : consB [] ws ↔ Cons ws := by
  have := consB_iff ws [] (fun _ h => by cases h)
  simpa using this

/-- What is asked of a forest behind cnt nodes with variables vs. -/
def Good (cnt : Nat) (vs : Vs) (f : TF) : Prop := cnt + f.size ≤ 240 ∧ OkF f ∧ consB vs (varsF f)
theorem Good_app (cnt : Nat) (vs : Vs) (f g : TF) : Good cnt vs (f.app g) ↔ Good cnt vs f ∧ Good (cnt + f.size) (vs ++ varsF f) g := by
  simp only [Good, OkF_app, varsF_app, consB_app, Fo.size_app]
  constructor
  · rintro ⟨h1, ⟨h2, h3⟩, h4, h5⟩; exact ⟨⟨by omega, h2, h4⟩, by omega, h3, h5⟩
  · rintro ⟨⟨h1, h2, h4⟩, h6, h3, h5⟩; exact ⟨by omega, ⟨h2, h3⟩, h4, h5⟩
theorem Good_cons (cnt : Nat) (vs : Vs) (x : Lab) (k r : TF) : Good cnt vs (.cons x k r) ↔ Good cnt vs (.cons x k .nil) ∧ Good (cnt + (k.size + 1)) (vs ++ varsF (.cons x k .nil)) r := by
  have := Good_app cnt vs (.cons x k .nil) r
  simpa [Fo.app, Fo.size] using this
/-- A valid term. -/
def TOk (x : Lab) (k : TF) : Prop := k.size + 1 ≤ 240 ∧ OkF (.cons x k .nil) ∧ Cons (varsF (.cons x k .nil))
theorem TOk_good (x : Lab) (k : TF) : TOk x k ↔ Good 0 [] (.cons x k .nil) := by
  simp only [TOk, Good, consB_nil, Fo.size]
  constructor <;> rintro ⟨h1, h2⟩ <;> exact ⟨by omega, h2⟩
noncomputable instance (x : Lab) (k : TF) : Decidable (TOk x k) := Classical.propDecidable _
end Go.Proofs.Ytekddgkgeaolnaa
