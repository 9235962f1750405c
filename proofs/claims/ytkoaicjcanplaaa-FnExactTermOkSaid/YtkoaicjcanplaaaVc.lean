/- A calculus of weakest preconditions over the model's code, by structural recursion, with frames as functions; its soundness. No program in sight. The calculus, second part: operations on memory, calls. The calculus, third part: an operation's condition is enough. The calculus, fourth part: code; soundness; a function's contract. The calculus, fifth part: a function's contract; loops and cuts. The calculus, sixth part: a region that draws its order, with calls that make new memory: quiet operations float, the others keep their order. -/
import Derived.WalkKit
import Derived.Deep.Quiet
import Derived.Laws.Cover3
import Derived.WideShapes
import Derived.Deep.LoopGhost
import Derived.Orders
namespace Go.Vc
open Go Go.RowKit

/-- A frame as a function. -/
abbrev Fr := Nat → Value

def upd (ρ : Fr) (d : Option Nat) (v : Value) : Fr :=
  match d with
  | none => ρ
  | some d => fun t => bif Nat.beq t d then v else ρ t

def ev (ρ : Fr) : Operand → Value
  | .tmp t => ρ t
  | .const v => v
  | .global g => .pointer (some ⟨g, 0, none⟩)
  | .func f => .func (.func f) #[] #[]

def evl (ρ : Fr) : List Operand → List Value
  | [] => []
  | x :: l => ev ρ x :: evl ρ l

/-- The truth of a test: it opens where the test is a literal. -/
noncomputable def br (b : Bool) (K : Bool → Prop) : Prop := @Bool.rec (fun _ => Prop) (K false) (K true) b

theorem br_at {b : Bool} {K : Bool → Prop} : br b K ↔ K b := by cases b <;> rfl
theorem br_split {b : Bool} {x y : Prop} (h1 : b = true → x) (h2 : b = false → y) : @Bool.rec (fun _ => Prop) y x b := by
  cases b
  · exact h2 rfl
  · exact h1 rfl
theorem br_dec {p : Prop} {inst : Decidable p} {x y : Prop} (h1 : p → x) (h2 : ¬ p → y) : @Bool.rec (fun _ => Prop) y x (@decide p inst) :=
  br_split (fun h => h1 (of_decide_eq_true h)) (fun h => h2 (of_decide_eq_false h))
theorem br_true {b : Bool} {x y : Prop} (hb : b = true) (h : x) : @Bool.rec (fun _ => Prop) y x b := by subst hb; exact h
theorem br_false {b : Bool} {x y : Prop} (hb : b = false) (h : y) : @Bool.rec (fun _ => Prop) y x b := by subst hb; exact h
theorem br_dec_true {p : Prop} {inst : Decidable p} {x y : Prop} (hp : p) (h1 : x) : @Bool.rec (fun _ => Prop) y x (@decide p inst) :=
  br_true (decide_eq_true hp) h1
theorem br_dec_false {p : Prop} {inst : Decidable p} {x y : Prop} (hp : ¬ p) (h1 : y) : @Bool.rec (fun _ => Prop) y x (@decide p inst) :=
  br_false (decide_eq_false hp) h1
theorem br_not {b : Bool} {x y : Prop} (h1 : b = false → x) (h2 : b = true → y) : @Bool.rec (fun _ => Prop) y x (!b) := by
  cases b
  · exact h1 rfl
  · exact h2 rfl

theorem br_ndec {p : Prop} {inst : Decidable p} {x y : Prop} (h1 : ¬ p → x) (h2 : p → y) : @Bool.rec (fun _ => Prop) y x (!(@decide p inst)) :=
  br_not (fun h => h1 (of_decide_eq_false h)) (fun h => h2 (of_decide_eq_true h))

/-! ### Types: what the calculus wants to know of them -/
structure TRow where
  agg : Bool
  fs : List (Nat × Nat)
  desc : TypeDesc
  size : Nat
  bytes : Nat
  zero : Value
  deriving Inhabited

def keyOf : TypeDesc → Bool × List (Nat × Nat) × TypeDesc
  | .struct fields => (true, fields.toList.map (fun f => (f.offset, f.type)), .invalid)
  | .array n e => (true, [], .array n e)
  | d => (false, [], d)

abbrev Tab := List (Nat × TRow)

def look : Tab → Nat → Option TRow
  | [], _ => none
  | (k, r) :: l, t => bif Nat.beq k t then some r else look l t

def TRow.fits (P : Program) (t : Nat) (r : TRow) : Prop :=
  (P.info? t).map (fun i => (i.size, i.bytes, i.zero)) = some (r.size, r.bytes, some r.zero) ∧
  (P.underlying t).map keyOf = some (r.agg, r.fs, r.desc)

def Ties (P : Program) : Tab → Prop
  | [] => True
  | (t, r) :: l => r.fits P t ∧ Ties P l

theorem ties_look {P : Program} {T : Tab} (h : Ties P T) {t : Nat} {r : TRow} (hl : look T t = some r) : r.fits P t := by
  induction T with
  | nil => cases hl
  | cons x l ih =>
    obtain ⟨k, r'⟩ := x
    simp only [look] at hl
    cases hk : Nat.beq k t with
    | true =>
      rw [hk] at hl
      simp only [cond_true, Option.some.injEq] at hl
      have := Nat.eq_of_beq_eq_true hk
      subst this
      subst hl
      exact h.1
    | false =>
      rw [hk] at hl
      exact ih h.2 hl

section types
variable {P : Program} {t : Nat} {r : TRow}
theorem TRow.fits.info (h : r.fits P t) : ∃ i, P.info? t = some i ∧ i.size = r.size ∧ i.bytes = r.bytes ∧ i.zero = some r.zero := by
  obtain ⟨i, hi, hz⟩ := Option.map_eq_some_iff.1 h.1
  simp only [Prod.mk.injEq] at hz
  exact ⟨i, hi, hz.1, hz.2.1, hz.2.2⟩
theorem TRow.fits.under (h : r.fits P t) : ∃ d, P.underlying t = some d ∧ keyOf d = (r.agg, r.fs, r.desc) := by
  obtain ⟨d, hd, hk⟩ := Option.map_eq_some_iff.1 h.2
  exact ⟨d, hd, hk⟩
theorem TRow.fits.plain (h : r.fits P t) (ha : r.agg = false) : P.underlying t = some r.desc := by
  obtain ⟨d, hd, hk⟩ := h.under
  rw [hd]
  cases d <;> simp_all [keyOf]
theorem TRow.fits.struct (h : r.fits P t) (ha : r.agg = true) (hd : r.desc = .invalid) : ∃ fields, P.underlying t = some (.struct fields) ∧ fields.toList.map (fun f => (f.offset, f.type)) = r.fs := by
  obtain ⟨d, hd', hk⟩ := h.under
  cases d <;> simp_all [keyOf]
theorem TRow.fits.run_size (h : r.fits P t) (w : World) : (sizeOf t).run P w = .ok r.size w := by
  obtain ⟨i, hi, hs, _⟩ := h.info
  simp [sizeOf, typeInfo, hi, hs]
theorem TRow.fits.run_zero (h : r.fits P t) (w : World) : (zeroValue t).run P w = .ok r.zero w := by
  obtain ⟨i, hi, _, _, hz⟩ := h.info
  simp [zeroValue, typeInfo, hi, hz]
theorem TRow.fits.run_agg (h : r.fits P t) (w : World) : (isAgg t).run P w = .ok r.agg w := by
  obtain ⟨d, hd, hk⟩ := h.under
  have e : r.agg = (keyOf d).1 := by rw [hk]
  rw [e]
  cases d <;> simp [isAgg, run_underlying hd, keyOf]
end types

/-! ### Operations that touch no memory -/
def wrapped (k : IntKind) (n : Int) (K : Int → Prop) : Prop := ∃ c, k.wrap n = c ∧ K c

def bitsI (op : BinOp) (k : IntKind) (x y : Int) : Int :=
  let a := BitVec.ofInt k.bits x
  let b := BitVec.ofInt k.bits y
  match op with
  | .and => k.wrap (a &&& b).toNat
  | .or => k.wrap (a ||| b).toNat
  | .xor => k.wrap (a ^^^ b).toNat
  | _ => k.wrap (a &&& ~~~b).toNat

def vcInt (op : BinOp) (k : IntKind) (a b : Int) (K : Value → Prop) : Prop :=
  match op with
  | .add => wrapped k (a + b) fun c => K (.int k c)
  | .sub => wrapped k (a - b) fun c => K (.int k c)
  | .mul => wrapped k (a * b) fun c => K (.int k c)
  | .quo => b ≠ 0 ∧ wrapped k (a.tdiv b) fun c => K (.int k c)
  | .rem => b ≠ 0 ∧ ∃ c, a.tmod b = c ∧ K (.int k c)
  | .and => ∃ c, bitsI .and k a b = c ∧ K (.int k c)
  | .or => ∃ c, bitsI .or k a b = c ∧ K (.int k c)
  | .xor => ∃ c, bitsI .xor k a b = c ∧ K (.int k c)
  | .andNot => ∃ c, bitsI .andNot k a b = c ∧ K (.int k c)
  | .eql => K (.bool (decide (a = b)))
  | .neq => K (.bool (decide (a ≠ b)))
  | .lss => K (.bool (decide (a < b)))
  | .leq => K (.bool (decide (a ≤ b)))
  | .gtr => K (.bool (decide (b < a)))
  | .geq => K (.bool (decide (b ≤ a)))
  | .shl => 0 ≤ b ∧ wrapped k (a * 2 ^ min b.toNat k.bits) fun c => K (.int k c)
  | .shr => 0 ≤ b ∧ ∃ c, a.fdiv (2 ^ min b.toNat k.bits) = c ∧ K (.int k c)

def vcStr (op : BinOp) (x y : ByteArray) (K : Value → Prop) : Prop :=
  match op with
  | .add => x.size + y.size ≤ 9223372036854775807 ∧ K (.string (x ++ y))
  | .eql => K (.bool (decide (x = y)))
  | .neq => K (.bool (decide (x ≠ y)))
  | .lss => K (.bool (Op.bytesLess x.toList y.toList))
  | .geq => K (.bool (!Op.bytesLess x.toList y.toList))
  | .gtr => K (.bool (!(Op.bytesLess x.toList y.toList || decide (x = y))))
  | .leq => K (.bool (Op.bytesLess x.toList y.toList || decide (x = y)))
  | _ => False

def isShift : BinOp → Bool
  | .shl => true
  | .shr => true
  | _ => false

def vcBin (op : BinOp) (x y : Value) (K : Value → Prop) : Prop :=
  match x, y with
  | .int k a, .int k' b => bif decide (k = k') || isShift op then vcInt op k a b K else False
  | .string a, .string b => vcStr op a b K
  | _, _ => False

def asNil : Value → Bool
  | .pointer none => true
  | _ => false

def optEv (ρ : Fr) : Option Operand → Option Value
  | none => none
  | some x => some (ev ρ x)
def isInv : TypeDesc → Bool
  | .invalid => true
  | _ => false
theorem isInv_eq {d : TypeDesc} (h : isInv d = true) : d = .invalid := by cases d <;> simp_all [isInv]
theorem bif_none {α : Type} {b : Bool} {x p : α} (h : (bif b then none else some x) = some p) : b = false ∧ x = p := by cases b <;> simp_all
theorem bif_some {α : Type} {b : Bool} {x p : α} (h : (bif b then some x else none) = some p) : b = true ∧ x = p := by cases b <;> simp_all
/-- A bound of a cut: what stands there, or what goes without saying. -/
def bnd (d : Int) : Option Value → Option Int
  | none => some d
  | some (.int _ n) => some n
  | some _ => none

/-- An operation that looks at no memory. 'none': it is not one of these. -/
noncomputable def vcP (T : Tab) (o : Oper) (ρ : Fr) (K : Value → Prop) : Option Prop :=
  match o.op with
  | .move x => some (K (ev ρ x))
  | .assign x => some (K (ev ρ x))
  | .pick c a b => some (match ev ρ c with
      | .bool t => br t fun t => K (bif t then ev ρ a else ev ρ b)
      | _ => False)
  | .binOp op t x y _ => match ev ρ x, ev ρ y with
      | .int k a, .int k' b => some (vcBin op (.int k a) (.int k' b) K)
      | .string a, .string b => some (vcBin op (.string a) (.string b) K)
      | .bool a, .bool b => match look T t with
          | some r => match r.desc, op with
              | .bool, .eql => some (K (.bool (a == b)))
              | .bool, .neq => some (K (.bool (!(a == b))))
              | _, _ => none
          | none => none
      | .map m, .map none => match look T t with
          | some r => match r.desc, op with
              | .map _ _, .eql => bif r.agg then none else some (K (.bool m.isNone))
              | .map _ _, .neq => bif r.agg then none else some (K (.bool (!m.isNone)))
              | _, _ => none
          | none => none
      | _, _ => none
  | .unOp op _ x => match op, ev ρ x with
      | .not, .bool b => some (K (.bool (!b)))
      | .neg, .int k n => some (wrapped k (0 - n) fun c => K (.int k c))
      | _, _ => none
  | .convert src dst x => match look T src, look T dst, ev ρ x with
      | some _, some r, .int _ n => match r.desc with
          | .int k => bif r.agg then none else some (wrapped k n fun c => K (.int k c))
          | _ => none
      | _, _, _ => none
  | .nilCheck x => match ev ρ x with
      | .pointer (some a) => some (K (.pointer (some a)))
      | _ => none
  | .fieldAddr s x f => match look T s, ev ρ x with
      | some r, .pointer (some ⟨b, o, none⟩) => match r.fs[f]? with
          | some (off, ft) => match look T ft with
              | some q => bif r.agg && isInv r.desc && !Nat.beq q.size 0 then some (K (.pointer (some ⟨b, o + off, none⟩))) else none
              | none => none
          | none => none
      | _, _ => none
  | .indexAddr t x i => match look T t, ev ρ x, ev ρ i with
      | some r, .slice (some ⟨b, o, none⟩) len _, .int _ i => match r.desc with
          | .slice e => match look T e with
              | some q => bif r.agg then none else some ((0 ≤ i ∧ i < len) ∧ K (.pointer (some ⟨b, o + i.toNat * q.size, none⟩)))
              | none => none
          | _ => none
      | _, _, _ => none
  | .extract t i => match ev ρ t with
      | .tuple vs => match vs.toList[i]? with
          | some v => some (K v)
          | none => none
      | _ => none
  | .index t x i => match look T t, ev ρ x, ev ρ i with
      | some r, .string s, .int _ i => match r.desc with
          | .string => bif r.agg then none else some (∃ h : 0 ≤ i ∧ i.toNat < s.size, K (.int .u8 ((s[i.toNat]'h.2).toNat : Int)))
          | _ => none
      | _, _, _ => none
  | .slice t x lo hi mx => match mx, look T t, ev ρ x with
      | none, some r, .string s => match r.desc, bnd 0 (optEv ρ lo), bnd s.size (optEv ρ hi) with
          | .string, some l, some h => bif r.agg then none else some ((0 ≤ l ∧ l ≤ h ∧ h ≤ s.size) ∧ K (.string (s.extract l.toNat h.toNat)))
          | _, _, _ => none
      | none, some r, .slice a len cap => match r.desc, bnd 0 (optEv ρ lo), bnd len (optEv ρ hi) with
          | .slice e, some l, some h => match look T e with
              | some q => bif r.agg then none else some ((0 ≤ l ∧ l ≤ h ∧ h ≤ cap) ∧ K (.slice (if cap = l.toNat then a else a.map (·.add (l.toNat * q.size))) (h.toNat - l.toNat) (cap - l.toNat)))
              | none => none
          | _, _, _ => none
      | _, _, _ => none
  | .call c => match c.callee with
      | .builtin .len => match c.argTypes.toList, c.args.toList with
          | [t], [x] => match look T t, ev ρ x with
              | some r, .string s => match r.desc with
                  | .string => bif r.agg then none else some (K (.int .i64 s.size))
                  | _ => none
              | some r, .slice _ n _ => match r.desc with
                  | .slice _ => bif r.agg then none else some (K (.int .i64 n))
                  | _ => none
              | _, _ => none
          | _, _ => none
      | .builtin .min => match c.args.toList with
          | [x, y] => match ev ρ x, ev ρ y with
              | .int k a, .int _ b => some (K (.int k (if b < a then b else a)))
              | _, _ => none
          | _ => none
      | _ => none
  | _ => none

theorem bits_eq (op : BinOp) (h : op = .and ∨ op = .or ∨ op = .xor ∨ op = .andNot) (k : IntKind) (a b : Int) (P : Program) (w : World) :
    (Op.intBits op k a b).run P w = .ok (.int k (bitsI op k a b)) w := by
  rcases h with h | h | h | h <;> subst h <;> rfl

theorem vcInt_sound {op : BinOp} {k k' : IntKind} {a b : Int} {K : Value → Prop} {P : Program} (hk : k = k' ∨ op = .shl ∨ op = .shr) (h : vcInt op k a b K) :
    ∃ v, K v ∧ ∀ t w, (binOp op t (.int k a) (.int k' b)).run P w = .ok v w := by
  by_cases hs : op = .shl ∨ op = .shr
  · rcases hs with rfl | rfl
    · obtain ⟨h0, c, rfl, h⟩ := h
      exact ⟨_, h, fun t w => by simp [binOp, Op.shift, Int.not_lt.2 h0]⟩
    · obtain ⟨h0, c, rfl, h⟩ := h
      exact ⟨_, h, fun t w => by simp [binOp, Op.shift, Int.not_lt.2 h0]⟩
  · have hk' : k = k' := by
      rcases hk with h | h
      · exact h
      · exact absurd h hs
    subst hk'
    cases op
    case add => obtain ⟨c, rfl, h⟩ := h; exact ⟨_, h, fun t w => by simp [binOp, Op.intArith]⟩
    case sub => obtain ⟨c, rfl, h⟩ := h; exact ⟨_, h, fun t w => by simp [binOp, Op.intArith]⟩
    case mul => obtain ⟨c, rfl, h⟩ := h; exact ⟨_, h, fun t w => by simp [binOp, Op.intArith]⟩
    case quo => obtain ⟨h0, c, rfl, h⟩ := h; exact ⟨_, h, fun t w => by simp [binOp, Op.intDiv, h0]⟩
    case rem => obtain ⟨h0, c, rfl, h⟩ := h; exact ⟨_, h, fun t w => by simp [binOp, Op.intDiv, h0]⟩
    case and => obtain ⟨c, rfl, h⟩ := h; exact ⟨_, h, fun t w => by simp [binOp, bits_eq]⟩
    case or => obtain ⟨c, rfl, h⟩ := h; exact ⟨_, h, fun t w => by simp [binOp, bits_eq]⟩
    case xor => obtain ⟨c, rfl, h⟩ := h; exact ⟨_, h, fun t w => by simp [binOp, bits_eq]⟩
    case andNot => obtain ⟨c, rfl, h⟩ := h; exact ⟨_, h, fun t w => by simp [binOp, bits_eq]⟩
    case shl => exact absurd (.inl rfl) hs
    case shr => exact absurd (.inr rfl) hs
    case eql => exact ⟨_, h, fun t w => by simp [binOp, Op.intCmp]; rfl⟩
    case neq => exact ⟨_, h, fun t w => by simp [binOp, Op.intCmp]; rfl⟩
    case lss => exact ⟨_, h, fun t w => by simp [binOp, Op.intCmp]⟩
    case leq => exact ⟨_, h, fun t w => by simp [binOp, Op.intCmp]⟩
    case gtr => exact ⟨_, h, fun t w => by simp [binOp, Op.intCmp]⟩
    case geq => exact ⟨_, h, fun t w => by simp [binOp, Op.intCmp]⟩

theorem toList_inj {x y : ByteArray} : (x.toList == y.toList) = decide (x = y) := by
  by_cases h : x = y
  · subst h; simp
  · have : x.toList ≠ y.toList := by
      intro e
      rw [ByteArray.toList_eq, ByteArray.toList_eq] at e
      exact h (Go.WideShapes.bytes_inj e)
    simp [h, this]

theorem vcStr_sound {op : BinOp} {a b : ByteArray} {K : Value → Prop} {P : Program} (h : vcStr op a b K) :
    ∃ v, K v ∧ ∀ t w, (binOp op t (.string a) (.string b)).run P w = .ok v w := by
  cases op <;> simp only [vcStr] at h
  case add =>
    obtain ⟨h0, h⟩ := h
    refine ⟨_, h, fun t w => ?_⟩
    have : ¬ (((a.size + b.size : Nat) : Int) > IntKind.i64.max) := by
      have e : IntKind.i64.max = 9223372036854775807 := by decide
      rw [e]; omega
    simp only [binOp, Op.stringOp, if_neg this]
    rfl
  case eql => exact ⟨_, h, fun t w => by simp [binOp, Op.stringOp, toList_inj]⟩
  case neq => exact ⟨_, h, fun t w => by simp [binOp, Op.stringOp, toList_inj]⟩
  case lss => exact ⟨_, h, fun t w => by simp [binOp, Op.stringOp]⟩
  case geq => exact ⟨_, h, fun t w => by simp [binOp, Op.stringOp]⟩
  case gtr => exact ⟨_, h, fun t w => by simp [binOp, Op.stringOp, toList_inj]⟩
  case leq => exact ⟨_, h, fun t w => by simp [binOp, Op.stringOp, toList_inj]⟩
  all_goals exact h.elim

theorem eqGuard_int (op : BinOp) (t : TypeId) (x y : Operand) (k : IntKind) (a : Int) (b : Value) (P : Program) (w : World) : (eqGuard op t x y (.int k a) b).run P w = .ok () w := by
  unfold eqGuard; cases op <;> simp
theorem eqGuard_string (op : BinOp) (t : TypeId) (x y : Operand) (a : ByteArray) (b : Value) (P : Program) (w : World) : (eqGuard op t x y (.string a) b).run P w = .ok () w := by
  unfold eqGuard; cases op <;> simp
theorem eqGuard_bool (op : BinOp) (t : TypeId) (x y : Operand) (a : Bool) (b : Value) (P : Program) (w : World) : (eqGuard op t x y (.bool a) b).run P w = .ok () w := by
  unfold eqGuard; cases op <;> simp

theorem vcBin_sound {op : BinOp} {x y : Value} {K : Value → Prop} {P : Program} (h : vcBin op x y K) (t : TypeId) (X Y : Operand) :
    ∃ v, K v ∧ ∀ w, (do eqGuard op t X Y x y; binOp op t x y : Sem Value).run P w = .ok v w := by
  unfold vcBin at h
  split at h
  · rename_i k a k' b
    have hk : k = k' ∨ op = .shl ∨ op = .shr := by
      cases hb : (decide (k = k') || isShift op) with
      | false => rw [hb] at h; exact h.elim
      | true =>
        simp only [Bool.or_eq_true, decide_eq_true_eq] at hb
        rcases hb with hb | hb
        · exact .inl hb
        · cases op <;> simp_all [isShift]
    have hb : (decide (k = k') || isShift op) = true := by
      simp only [Bool.or_eq_true, decide_eq_true_eq]
      rcases hk with hk | rfl | rfl <;> simp_all [isShift]
    rw [hb] at h
    obtain ⟨v, hv, hr⟩ := vcInt_sound (P := P) hk h
    exact ⟨v, hv, fun w => by simp [eqGuard_int, hr]⟩
  · obtain ⟨v, hv, hr⟩ := vcStr_sound (P := P) h
    exact ⟨v, hv, fun w => by simp [eqGuard_string, hr]⟩
  · exact h.elim

theorem eqGuard_map (op : BinOp) (t : TypeId) (x y : Operand) (a : Option Nat) (b : Value) (P : Program) (w : World) : (eqGuard op t x y (.map a) b).run P w = .ok () w := by
  unfold eqGuard; cases op <;> simp
theorem run_equalIn_bool {P : Program} (w : World) {t : TypeId} (h : P.underlying t = some .bool) (n : Nat) (a b : Bool) : (Op.equalIn (n + 1) t (.bool a) (.bool b)).run P w = .ok (a == b) w := by
  simp [Op.equalIn, run_underlying h]
theorem run_equal_bool {P : Program} (w : World) {t : TypeId} (h : P.underlying t = some .bool) (a b : Bool) : (Op.equal t (.bool a) (.bool b)).run P w = .ok (a == b) w := by
  exact run_equalIn_bool w h 9999 a b

theorem TRow.fits.bool {P : Program} {t : Nat} {r : TRow} (h : r.fits P t) (hd : r.desc = .bool) : P.underlying t = some .bool := by
  obtain ⟨d, h1, h2⟩ := h.under
  rw [h1]; cases d <;> simp_all [keyOf]

theorem run_bound {P : Program} (x : Value) {d n : Int} (y : Nat) (code : BoundsCode) (hx : bnd d (some x) = some n) (h : 0 ≤ n ∧ n ≤ y) (w : World) : (Instr.sliceBound x y code).run P w = .ok n.toNat w := by
  cases x <;> simp [bnd] at hx
  subst hx
  simp [Instr.sliceBound, asIntOf, h]

theorem run_bounds {P : Program} {ρ : Fr} (isS : Bool) (len cap : Nat) (lo hi : Option Operand) {l h : Int} (hl : bnd 0 (optEv ρ lo) = some l) (hh : bnd len (optEv ρ hi) = some h) (hb : 0 ≤ l ∧ l ≤ h ∧ h ≤ cap) (w : World) :
    (Instr.sliceBounds isS len cap (lo.map (ev ρ)) (hi.map (ev ρ)) none).run P w = .ok (l.toNat, h.toNat, cap) w := by
  cases hi with
  | none =>
    simp only [optEv, bnd, Option.some.injEq] at hh
    subst hh
    cases lo with
    | none =>
      simp only [optEv, bnd, Option.some.injEq] at hl
      subst hl
      simp [Instr.sliceBounds]
    | some lx =>
      have := run_bound (P := P) (ev ρ lx) len .sliceB hl ⟨hb.1, by omega⟩ w
      simp [Instr.sliceBounds, this]
  | some hx =>
    have h1 := run_bound (P := P) (ev ρ hx) cap (if isS then .sliceAcap else .sliceAlen) hh ⟨by omega, hb.2.2⟩ w
    cases lo with
    | none =>
      simp only [optEv, bnd, Option.some.injEq] at hl
      subst hl
      simp [Instr.sliceBounds, h1]
    | some lx =>
      have := run_bound (P := P) (ev ρ lx) h.toNat .sliceB hl ⟨hb.1, by omega⟩ w
      simp [Instr.sliceBounds, this, h1]
theorem run_bounds_false {P : Program} {ρ : Fr} (len : Nat) (lo hi : Option Operand) {l h : Int} (hl : bnd 0 (optEv ρ lo) = some l) (hh : bnd len (optEv ρ hi) = some h) (hb : 0 ≤ l ∧ l ≤ h ∧ h ≤ len) (w : World) :
    (Instr.sliceBounds false len len (lo.map (ev ρ)) (hi.map (ev ρ)) none).run P w = .ok (l.toNat, h.toNat, len) w := run_bounds false len len lo hi hl hh hb w
theorem run_bounds_true {P : Program} {ρ : Fr} (len cap : Nat) (lo hi : Option Operand) {l h : Int} (hl : bnd 0 (optEv ρ lo) = some l) (hh : bnd len (optEv ρ hi) = some h) (hb : 0 ≤ l ∧ l ≤ h ∧ h ≤ cap) (w : World) :
    (Instr.sliceBounds true len cap (lo.map (ev ρ)) (hi.map (ev ρ)) none).run P w = .ok (l.toNat, h.toNat, cap) w := run_bounds true len cap lo hi hl hh hb w

theorem vcP_sound {P : Program} {T : Tab} (hT : Ties P T) {o : Oper} {ρ : Fr} {K : Value → Prop} {p : Prop} (h : vcP T o ρ K = some p) (hp : p) :
    ∃ v, K v ∧ ∀ w, (execOp (ev ρ) o).run P w = .ok (.value v) w := by
  unfold vcP at h
  split at h
  case h_1 x ho => cases h; exact ⟨_, hp, fun w => by simp [execOp, ho]⟩
  case h_2 x ho => cases h; exact ⟨_, hp, fun w => by simp [execOp, ho]⟩
  case h_3 c a b ho =>
    cases h
    split at hp
    · rename_i t ht
      rw [br_at] at hp
      refine ⟨_, hp, fun w => ?_⟩
      cases t <;> simp [execOp, ho, ht, asBool]
    · exact hp.elim
  case h_4 op xt x y yt ho =>
    split at h
    · rename_i hx hy
      cases h
      obtain ⟨v, hv, hr⟩ := vcBin_sound (P := P) hp xt x y
      refine ⟨v, hv, fun w => ?_⟩
      have := hr w
      simp only [execOp, ho, hx, hy]
      simp only [Sem.run_bind, this, Result.andThen_ok, Sem.run_pure]
    · rename_i hx hy
      cases h
      obtain ⟨v, hv, hr⟩ := vcBin_sound (P := P) hp xt x y
      refine ⟨v, hv, fun w => ?_⟩
      have := hr w
      simp only [execOp, ho, hx, hy]
      simp only [Sem.run_bind, this, Result.andThen_ok, Sem.run_pure]
    · rename_i hx hy
      split at h
      · rename_i r hr
        have hf := ties_look hT hr
        split at h
        · rename_i hd
          cases h
          exact ⟨_, hp, fun w => by simp [execOp, ho, hx, hy, eqGuard_bool, binOp, run_equal_bool w (hf.bool hd)]⟩
        · rename_i hd
          cases h
          exact ⟨_, hp, fun w => by simp [execOp, ho, hx, hy, eqGuard_bool, binOp, run_equal_bool w (hf.bool hd)]⟩
        · cases h
      · cases h
    · rename_i m hx hy
      split at h
      · rename_i r hr
        have hf := ties_look hT hr
        split at h
        · rename_i hd
          obtain ⟨ha, rfl⟩ := bif_none h
          have hu := (hf.plain ha).trans (congrArg some hd)
          exact ⟨_, hp, fun w => by simp [execOp, ho, hx, hy, eqGuard_map, binOp, run_equal_map_nil w _ _ _ _ hu]⟩
        · rename_i hd
          obtain ⟨ha, rfl⟩ := bif_none h
          have hu := (hf.plain ha).trans (congrArg some hd)
          exact ⟨_, hp, fun w => by simp [execOp, ho, hx, hy, eqGuard_map, binOp, run_equal_map_nil w _ _ _ _ hu]⟩
        · cases h
      · cases h
    · cases h
  case h_5 op xt x ho =>
    split at h
    · rename_i hx; cases h; exact ⟨_, hp, fun w => by simp [execOp, ho, hx, Op.unary]⟩
    · rename_i hx; cases h; obtain ⟨c, rfl, hp⟩ := hp; exact ⟨_, hp, fun w => by simp [execOp, ho, hx, Op.unary, Op.intArith]⟩
    · cases h
  case h_6 src dst x ho =>
    split at h
    · rename_i q r k n hq hr hx
      split at h
      · rename_i k' hd
        obtain ⟨ha, rfl⟩ := bif_none h
        obtain ⟨c, rfl, hp⟩ := hp
        have hf := ties_look hT hr
        have hu := (hf.plain ha).trans (congrArg some hd)
        obtain ⟨d', hu', _⟩ := (ties_look hT hq).under
        refine ⟨_, hp, fun w => ?_⟩
        simp [execOp, ho, hx, convert, run_underlying hu, run_underlying hu', Conv.intToInt]
      · cases h
    · cases h
  case h_7 x ho =>
    split at h
    · rename_i a hx
      cases h
      exact ⟨_, hp, fun w => by simp [execOp, ho, hx]⟩
    · cases h
  case h_8 st x f ho =>
    split at h
    · rename_i r b off hr hx
      split at h
      · rename_i fo ft hfs
        split at h
        · rename_i q hq
          obtain ⟨hg, rfl⟩ := bif_some h
          simp only [Bool.and_eq_true, Bool.not_eq_true'] at hg
          have ha := hg.1.1
          have hd := isInv_eq hg.1.2
          have hz : q.size ≠ 0 := fun e => by have := hg.2; rw [e] at this; cases this
          obtain ⟨fields, hu, hfl⟩ := (ties_look hT hr).struct ha hd
          refine ⟨_, hp, fun w => ?_⟩
          rw [← hfl, List.getElem?_map, Array.getElem?_toList] at hfs
          obtain ⟨fd, hfd, hfe⟩ := Option.map_eq_some_iff.1 hfs
          simp only [Prod.mk.injEq] at hfe
          obtain ⟨rfl, rfl⟩ := hfe
          have hsz := (ties_look hT hq).run_size w
          have hadd : (⟨b, off, none⟩ : Addr).add fd.offset = ⟨b, off + fd.offset, none⟩ := by unfold Addr.add; split <;> simp_all
          simp [execOp, ho, hx, Instr.fieldAt, run_underlying hu, hfd, Instr.sureAddr, fieldPlace, hsz, hz, hadd]
        · cases h
      · cases h
    · cases h
  case h_9 t x i ho =>
    split at h
    · rename_i r b off len cap k i' hr hx hi
      split at h
      · rename_i e hd
        split at h
        · rename_i q hq
          obtain ⟨ha, rfl⟩ := bif_none h
          obtain ⟨hb, hp⟩ := hp
          have hu := ((ties_look hT hr).plain ha).trans (congrArg some hd)
          have hsz := (ties_look hT hq).run_size
          have hadd : (⟨b, off, none⟩ : Addr).add (i'.toNat * q.size) = ⟨b, off + i'.toNat * q.size, none⟩ := by unfold Addr.add; split <;> simp_all
          refine ⟨_, hp, fun w => ?_⟩
          simp [execOp, ho, hx, hi, Instr.indexAt, asIntOf, run_underlying hu, hb, hsz, hadd]
        · cases h
      · cases h
    · cases h
  case h_10 t i ho =>
    split at h
    · rename_i vs hx
      split at h
      · rename_i v hv
        cases h
        refine ⟨_, hp, fun w => ?_⟩
        rw [Array.getElem?_toList] at hv
        simp [execOp, ho, hx, Instr.extract, hv]
      · cases h
    · cases h
  case h_11 t x i ho =>
    split at h
    · rename_i r s k i' hr hx hi
      split at h
      · rename_i hd
        obtain ⟨ha, rfl⟩ := bif_none h
        obtain ⟨hb, hp⟩ := hp
        have hu := ((ties_look hT hr).plain ha).trans (congrArg some hd)
        refine ⟨_, hp, fun w => ?_⟩
        have h1 := hb.1
        have h2 := hb.2
        simp [execOp, ho, hx, hi, Instr.index, asIntOf, run_underlying hu, h1, ByteArray.getElem?_lt' _ _ h2]
      · cases h
    · cases h
  case h_12 t x lo hi mx ho =>
    split at h
    · rename_i r s hr hx
      split at h
      · rename_i l h' hd hl hh
        obtain ⟨ha, rfl⟩ := bif_none h
        obtain ⟨hb, hp⟩ := hp
        have hu := ((ties_look hT hr).plain ha).trans (congrArg some hd)
        refine ⟨_, hp, fun w => ?_⟩
        have := run_bounds_false (P := P) (ρ := ρ) s.size lo hi hl hh hb w
        simp [execOp, ho, hx, Instr.sliceAt, Instr.slice, run_underlying hu, this]
      · cases h
    · rename_i r a len cap hr hx
      split at h
      · rename_i e l h' hd hl hh
        split at h
        · rename_i q hq
          obtain ⟨ha, rfl⟩ := bif_none h
          obtain ⟨hb, hp⟩ := hp
          have hu := ((ties_look hT hr).plain ha).trans (congrArg some hd)
          have hsz := (ties_look hT hq).run_size
          refine ⟨_, hp, fun w => ?_⟩
          have := run_bounds_true (P := P) (ρ := ρ) len cap lo hi hl hh hb w
          simp [execOp, ho, hx, Instr.sliceAt, Instr.slice, run_underlying hu, this, hsz]
        · cases h
      · cases h
    · cases h
  case h_13 c ho =>
    split at h
    · rename_i hc
      split at h
      · rename_i t x hat har
        split at h
        · rename_i r s hr hx
          split at h
          · rename_i hd
            obtain ⟨ha, rfl⟩ := bif_none h
            have hu := ((ties_look hT hr).plain ha).trans (congrArg some hd)
            refine ⟨_, hp, fun w => ?_⟩
            have e1 : c.argTypes = #[t] := by rw [← Array.toList_inj]; exact hat
            have e2 : c.args = #[x] := by rw [← Array.toList_inj]; exact har
            simp [execOp, ho, resolve, hc, e1, e2, hx, invoke, builtin, Builtin.len_, run_underlying hu, goInt]
          · cases h
        · rename_i r a n cap hr hx
          split at h
          · rename_i hd
            obtain ⟨ha, rfl⟩ := bif_none h
            have hu := ((ties_look hT hr).plain ha).trans (congrArg some hd)
            refine ⟨_, hp, fun w => ?_⟩
            have e1 : c.argTypes = #[t] := by rw [← Array.toList_inj]; exact hat
            have e2 : c.args = #[x] := by rw [← Array.toList_inj]; exact har
            simp [execOp, ho, resolve, hc, e1, e2, hx, invoke, builtin, Builtin.len_, run_underlying hu, goInt]
          · cases h
        · cases h
      · cases h
    · rename_i hc
      split at h
      · rename_i x y har
        split at h
        · rename_i k a k' b hx hy
          cases h
          refine ⟨_, hp, fun w => ?_⟩
          have e2 : c.args = #[x, y] := by rw [← Array.toList_inj]; exact har
          simp [execOp, ho, resolve, hc, e2, hx, hy, invoke, builtin, Builtin.min_, Builtin.min2]
        · cases h
      · cases h
    · cases h
  case h_14 => cases h

end Go.Vc
namespace Go.Vc
open Go Go.RowKit

/-- The cells from (b, o) on hold these values. -/
def CellsAt (w : World) (b : Nat) : Nat → List Value → Prop
  | _, [] => True
  | o, v :: vs => w.cell? ⟨b, o, none⟩ = some v ∧ CellsAt w b (o + 1) vs

/-- One cell may be written. -/
def Free (w : World) (a : Addr) : Prop := (∃ u, w.cell? a = some u) ∧ w.frozen? a = false

def oneB : Value → Bool
  | .agg _ => false
  | .tuple _ => false
  | _ => true

def setCells (w : World) (b : Nat) : Nat → List Value → World
  | _, [] => w
  | o, v :: vs => setCells (w.setCell ⟨b, o, none⟩ v) b (o + 1) vs

def FreeAll (w : World) (b : Nat) : Nat → List Value → Prop
  | _, [] => True
  | o, v :: vs => (Free w ⟨b, o, none⟩ ∧ oneB v = true) ∧ FreeAll w b (o + 1) vs

/-- A call that returns. -/
def Enters (P : Program) (g : Nat) : Prop := ∃ fn, P.funcs[g]? = some fn ∧ fn.body.isSome = true ∧ (fn.name == "runtime.NumGoroutine") = false
def Ret (P : Program) (g : Nat) (args : Array Value) (w : World) (R : Value → World → Prop) : Prop :=
  Enters P g ∧ Calls P g args w (fun e w' => ∃ v, e = .returned v ∧ R v w')
theorem Ret.mono {P : Program} {g : Nat} {args : Array Value} {w : World} {R R' : Value → World → Prop} (h : Ret P g args w R) (hr : ∀ v w', R v w' → R' v w') : Ret P g args w R' :=
  ⟨h.1, h.2.mono fun _ _ ⟨v, he, h⟩ => ⟨v, he, hr _ _ h⟩⟩
theorem Ret.calls {P : Program} {g : Nat} {args : Array Value} {w : World} {R : Value → World → Prop} (h : Ret P g args w R) : Calls P g args w (fun e w' => ∃ v, e = .returned v ∧ R v w') := h.2

def nv : Next → Option Value
  | .value v => some v
  | .skip => some undef
  | _ => none

def Raw (P : Program) (o : Oper) (ρ : Fr) (w : World) (K : Value → World → Prop) : Prop :=
  ∃ n v w', (execOp (ev ρ) o).run P w = .ok n w' ∧ nv n = some v ∧ K v w'

/-- Parts of a struct laid into its cells. -/
def setL (cells : List Value) (off : Nat) : List Value → List Value
  | [] => cells
  | v :: vs => setL (cells.set off v) (off + 1) vs

def partsOf (ρ : Fr) : List (Nat × Operand) → List (Nat × Value)
  | [] => []
  | (i, x) :: l => (i, ev ρ x) :: partsOf ρ l

/-- Parts laid at their places; 'pl': a part's place, its number of cells, is it an aggregate. -/
def fillL (pl : Nat → Option (Nat × Nat × Bool)) (cells : List Value) : List (Nat × Value) → Option (List Value)
  | [] => some cells
  | (i, v) :: rest => match pl i with
    | none => none
    | some (off, sz, agg) =>
      bif agg then (match v with
        | .agg cs => bif Nat.beq cs.toList.length sz && Nat.ble (off + sz) cells.length then fillL pl (setL cells off cs.toList) rest else none
        | _ => none)
      else bif oneB v && Nat.beq sz 1 && Nat.ble (off + 1) cells.length then fillL pl (cells.set off v) rest else none

/-- Parts that are given one after the other, from the k-th on: their cells. -/
def valsFrom (q : TRow) : Nat → List (Nat × Value) → Option (List Value)
  | _, [] => some []
  | k, (i, v) :: rest =>
    match valsFrom q (k + 1) rest with
    | none => none
    | some l =>
      bif Nat.beq i k then
        bif q.agg then (match v with
          | .agg cs => bif Nat.beq cs.toList.length q.size then some (cs.toList ++ l) else none
          | _ => none)
        else bif oneB v && Nat.beq q.size 1 then some (v :: l) else none
      else none

def placeOf (T : Tab) (fs : List (Nat × Nat)) (i : Nat) : Option (Nat × Nat × Bool) :=
  match fs[i]? with
  | some (off, ft) => match look T ft with
    | some q => some (off, q.size, q.agg)
    | none => none
  | none => none

def allIn (T : Tab) : List (Nat × Nat) → Bool
  | [] => true
  | (_, t) :: l => (match look T t with | some _ => true | none => false) && allIn T l

/-- n times the cells of the zero value. -/
def zs : Nat → List Value → List Value
  | 0, _ => []
  | n + 1, z => z ++ zs n z

def vcOp (P : Program) (T : Tab) (o : Oper) (ρ : Fr) (w : World) (K : Value → World → Prop) : Prop :=
  match vcP T o ρ (fun v => K v w) with
  | some p => p
  | none =>
    match o.op with
    | .load t a => match look T t, ev ρ a with
        | some r, .pointer (some ⟨b, off, none⟩) =>
          bif r.agg then ∃ vs, vs.length = r.size ∧ CellsAt w b off vs ∧ K (.agg vs.toArray) w
          else ∃ v, w.cell? ⟨b, off, none⟩ = some v ∧ K v w
        | _, _ => False
    | .store t a x => match look T t, ev ρ a with
        | some r, .pointer (some ⟨b, off, none⟩) =>
          bif r.agg then (match ev ρ x with
            | .agg cs => bif Nat.beq cs.toList.length r.size then FreeAll w b off cs.toList ∧ K undef (setCells w b off cs.toList) else False
            | _ => False)
          else bif Nat.beq r.size 1 && oneB (ev ρ x) then Free w ⟨b, off, none⟩ ∧ K undef (w.setCell ⟨b, off, none⟩ (ev ρ x)) else False
        | _, _ => False
    | .box t x => K (.pointer (some ⟨w.heap.size, 0, none⟩)) (w.alloc (.cells (ev ρ x).cells t))
    | .alloc t => match look T t with
        | some r => K (.pointer (some ⟨w.heap.size, 0, none⟩)) (w.alloc (.cells r.zero.cells t))
        | none => False
    | .build t parts => match look T t with
        | some r => match fillL (placeOf T r.fs) r.zero.cells.toList (partsOf ρ parts.toList) with
            | some cells => bif r.agg && isInv r.desc && allIn T r.fs then K (.agg cells.toArray) w else False
            | none => False
        | none => Raw P o ρ w K
    | .buildSlice t len parts => match look T t with
        | some r => match r.desc with
            | .slice e => match look T e with
                | some q => match valsFrom q 0 (partsOf ρ parts.toList) with
                    | some cells => bif !r.agg && Nat.ble (len * q.size) 16777216 && Nat.beq q.zero.cells.toList.length q.size && Nat.beq parts.toList.length len then K (.slice (some ⟨w.heap.size, 0, none⟩) len len) (w.alloc (.cells cells.toArray e)) else False
                    | none => False
                | none => False
            | _ => False
        | none => False
    | .makeSlice t l c => match look T t, ev ρ l, ev ρ c with
        | some r, .int _ l, .int _ c => match r.desc with
            | .slice e => match look T e with
                | some q => (0 ≤ l ∧ l ≤ c ∧ c ≤ 9223372036854775807 ∧ q.bytes * c ≤ 281474976710656) ∧
                    bif !r.agg && Nat.beq q.zero.cells.toList.length q.size then K (.slice (some ⟨w.heap.size, 0, none⟩) l.toNat c.toNat) (w.alloc (.cells (zs c.toNat q.zero.cells.toList).toArray e)) else False
                | none => False
            | _ => False
        | _, _, _ => False
    | .makeMap _ r => match r with
        | none => K (.map (some w.heap.size)) (w.alloc (.map #[] 0))
        | some _ => Raw P o ρ w K
    | .call c => match c.callee with
        | .value f => match ev ρ f with
            | .func (.func g) first captured => Ret P g (first.toList ++ evl ρ c.args.toList ++ captured.toList).toArray w K ∨ Raw P o ρ w K
            | _ => False
        | _ => Raw P o ρ w K
    | _ => Raw P o ρ w K

/-- What an operation may come to. -/
def Step (P : Program) (o : Oper) (ρ : Fr) (w : World) (K : Value → World → Prop) : Prop :=
  Raw P o ρ w K ∨ ∃ g args, (execOp (ev ρ) o).run P w = .ok (.enter g args) w ∧ Calls P g args w (fun e w' => ∃ v, e = .returned v ∧ K v w')

theorem raw_value {P : Program} {o : Oper} {ρ : Fr} {w w' : World} {K : Value → World → Prop} {v : Value} (h : (execOp (ev ρ) o).run P w = .ok (.value v) w') (hk : K v w') : Step P o ρ w K :=
  .inl ⟨_, v, w', h, rfl, hk⟩
theorem raw_skip {P : Program} {o : Oper} {ρ : Fr} {w w' : World} {K : Value → World → Prop} (h : (execOp (ev ρ) o).run P w = .ok .skip w') (hk : K undef w') : Step P o ρ w K :=
  .inl ⟨_, undef, w', h, rfl, hk⟩

theorem evl_map (ρ : Fr) (l : List Operand) : evl ρ l = l.map (ev ρ) := by
  induction l with
  | nil => rfl
  | cons x l ih => simp [evl, ih]

theorem run_cells {P : Program} {w : World} {b : Nat} {vs : List Value} {o : Nat} (h : CellsAt w b o vs) : (loadCells ⟨b, o, none⟩ vs.length).run P w = .ok vs.toArray w := by
  have key : ∀ (l : List Value) (o : Nat), CellsAt w b o l → ∀ j v, l[j]? = some v → w.cell? ⟨b, o + j, none⟩ = some v := by
    intro l
    induction l with
    | nil => intro o _ j v h; simp at h
    | cons x l ih =>
      intro o h j v hj
      cases j with
      | zero => simp at hj; subst hj; exact h.1
      | succ j =>
        have := ih (o + 1) h.2 j v (by simpa using hj)
        rwa [show o + (j + 1) = o + 1 + j from by omega]
  exact run_loadCells_list w ⟨b, o, none⟩ vs (fun j v hj => by
    have := key vs o h j v hj
    have e : (⟨b, o, none⟩ : Addr).add j = ⟨b, o + j, none⟩ := by unfold Addr.add; split <;> simp_all
    rw [e]; exact this)

theorem oneB_cells {v : Value} (h : oneB v = true) : v.cells = #[v] := by cases v <;> simp_all [oneB, Value.cells]

theorem run_store_one {P : Program} {w : World} {a : Addr} {v : Value} (h : Free w a) (hv : oneB v = true) : (store a v).run P w = .ok () (w.setCell a v) := by
  obtain ⟨⟨u, hu⟩, hf⟩ := h
  cases v <;> simp_all [store, oneB, Sem.run]

theorem Free.setCell {w : World} {a p : Addr} {u : Value} (h : Free w a) : Free (w.setCell p u) a := by
  obtain ⟨⟨x, hx⟩, hf⟩ := h
  refine ⟨?_, ?_⟩
  · by_cases e : p = a
    · subst e; exact ⟨u, World.cell?_setCell_same w p u hx⟩
    · exact ⟨x, (World.cell?_setCell_other w p a u e).trans hx⟩
  · rw [World.frozen?_setCell]; exact hf

theorem FreeAll.setCell {b : Nat} {p : Addr} {u : Value} : ∀ (vs : List Value) (w : World) (o : Nat), FreeAll w b o vs → FreeAll (w.setCell p u) b o vs := by
  intro vs
  induction vs with
  | nil => intro _ _ _; trivial
  | cons v vs ih => intro w o h; exact ⟨⟨h.1.1.setCell, h.1.2⟩, ih _ _ h.2⟩

theorem run_stores {P : Program} {b : Nat} : ∀ (vs : List Value) (w : World) (o i : Nat), FreeAll w b (o + i) vs →
    (storeCells ⟨b, o, none⟩ vs i).run P w = .ok () (setCells w b (o + i) vs) := by
  intro vs
  induction vs with
  | nil => intro w o i _; simp [storeCells, setCells]
  | cons v vs ih =>
    intro w o i h
    have e : (⟨b, o, none⟩ : Addr).add i = ⟨b, o + i, none⟩ := by unfold Addr.add; split <;> simp_all
    have h1 := run_store_one (P := P) h.1.1 h.1.2
    have := ih (w.setCell ⟨b, o + i, none⟩ v) o (i + 1) (FreeAll.setCell _ _ _ h.2)
    simp [storeCells, e, h1, this, setCells]
    rfl

theorem fold_setL (off : Nat) : ∀ (vs : List Value) (k : Nat) (cs : List Value),
    (vs.zipIdx k).foldl (fun (cs : Array Value) (x : Value × Nat) => cs.setIfInBounds (off + x.2) x.1) cs.toArray = (setL cs (off + k) vs).toArray := by
  intro vs
  induction vs with
  | nil => intro k cs; rfl
  | cons v vs ih =>
    intro k cs
    simp only [List.zipIdx_cons, List.foldl_cons, setL]
    rw [List.setIfInBounds_toArray, ih]
    rfl

theorem fold_cells (off : Nat) (cs : Array Value) (cells : List Value) :
    cs.zipIdx.foldl (fun (a : Array Value) (x : Value × Nat) => a.setIfInBounds (off + x.2) x.1) cells.toArray = (setL cells off cs.toList).toArray := by
  rw [← Array.foldl_toList, Array.toList_zipIdx]
  exact fold_setL off cs.toList 0 cells

theorem setL_length (vs : List Value) : ∀ (cells : List Value) (off : Nat), (setL cells off vs).length = cells.length := by
  induction vs with
  | nil => intro _ _; rfl
  | cons v vs ih => intro cells off; simp [setL, ih]

theorem fill_cons (pl' : Nat → Option (Nat × Nat)) (cells : Array Value) (i : Nat) (v : Value) (rest : List (Nat × Value)) (off : Nat) (hp : pl' i = some (off, v.cells.size)) (h2 : off + v.cells.size ≤ cells.size) :
    Instr.fill pl' cells ((i, v) :: rest) = Instr.fill pl' (v.cells.zipIdx.foldl (fun (a : Array Value) (x : Value × Nat) => a.setIfInBounds (off + x.2) x.1) cells) rest := by
  have h3 : ¬ off + v.cells.size > cells.size := by omega
  simp [Instr.fill, hp, h3]

theorem fill_of (pl : Nat → Option (Nat × Nat × Bool)) (pl' : Nat → Option (Nat × Nat)) (hpl : ∀ i x, pl i = some x → pl' i = some (x.1, x.2.1)) : ∀ (parts : List (Nat × Value)) (cells out : List Value), fillL pl cells parts = some out →
    Instr.fill pl' cells.toArray parts = some out.toArray := by
  intro parts
  induction parts with
  | nil => intro cells out h; simp [fillL] at h; subst h; simp [Instr.fill]
  | cons p parts ih =>
    intro cells out h
    obtain ⟨i, v⟩ := p
    simp only [fillL] at h
    cases hp : pl i with
    | none => simp [hp] at h
    | some x =>
      obtain ⟨off, sz, agg⟩ := x
      have hp' := hpl i _ hp
      simp only [hp] at h
      cases agg with
      | true =>
        simp only [cond_true] at h
        split at h
        · rename_i cs
          cases hc : (Nat.beq cs.toList.length sz && Nat.ble (off + sz) cells.length) with
          | false => rw [hc] at h; cases h
          | true =>
            rw [hc] at h
            simp only [Bool.and_eq_true, Nat.beq_eq, Nat.ble_eq] at hc
            simp only [cond_true] at h
            have e1 : (Value.agg cs).cells.size = sz := by simpa [Value.cells] using hc.1
            rw [fill_cons pl' _ i (.agg cs) parts off (by rw [hp', e1]) (by rw [e1]; simpa using hc.2)]
            rw [fold_cells]
            exact ih _ _ h
        · cases h
      | false =>
        simp only [cond_false] at h
        cases hc : (oneB v && Nat.beq sz 1 && Nat.ble (off + 1) cells.length) with
        | false => rw [hc] at h; cases h
        | true =>
          rw [hc] at h
          simp only [Bool.and_eq_true, Nat.beq_eq, Nat.ble_eq] at hc
          simp only [cond_true] at h
          have e1 : v.cells.size = 1 := by rw [oneB_cells hc.1.1]; rfl
          rw [fill_cons pl' _ i v parts off (by rw [hp', e1, hc.1.2]) (by rw [e1]; simpa using hc.2)]
          rw [fold_cells, oneB_cells hc.1.1]
          exact ih _ _ h

theorem zs_length (z : List Value) : ∀ n, (zs n z).length = n * z.length := by
  intro n
  induction n with
  | zero => simp [zs]
  | succ n ih => simp [zs, ih, Nat.succ_mul]; omega

theorem zs_get (z : List Value) : ∀ (n i : Nat), i < n * z.length → (zs n z)[i]? = z[i % z.length]? := by
  intro n
  induction n with
  | zero => intro i h; simp at h
  | succ n ih =>
    intro i h
    simp only [zs]
    by_cases hi : i < z.length
    · rw [List.getElem?_append_left hi, Nat.mod_eq_of_lt hi]
    · rw [List.getElem?_append_right (by omega), ih (i - z.length) (by rw [Nat.succ_mul] at h; omega)]
      rw [Nat.mod_eq_sub_mod (a := i) (by omega)]

theorem zs_made (z : Array Value) (n : Nat) : (Array.range (n * z.size)).map (z[· % z.size]!) = (zs n z.toList).toArray := by
  by_cases hz : z.size = 0
  · have : z = #[] := Array.eq_empty_of_size_eq_zero hz
    subst this
    have : ∀ n, zs n [] = [] := by
      intro n
      induction n with
      | zero => rfl
      | succ n ih => simp [zs, ih]
    simp [this]
  · apply Array.ext_getElem?
    intro i
    by_cases hi : i < n * z.size
    · have hm : i % z.size < z.size := Nat.mod_lt _ (by omega)
      have h1 := zs_get z.toList n i (by simpa using hi)
      simp only [Array.length_toList, Array.getElem?_toList] at h1
      simp [h1, hi, hm]
    · have h1 : (zs n z.toList)[i]? = none := by
        rw [List.getElem?_eq_none_iff, zs_length]; simp; omega
      simp [h1]
      omega

theorem setL_mid (done rest : List Value) : ∀ (cs z : List Value), cs.length = z.length → setL (done ++ (z ++ rest)) done.length cs = done ++ (cs ++ rest) := by
  intro cs
  induction cs generalizing done with
  | nil => intro z h; have : z = [] := List.eq_nil_of_length_eq_zero h.symm; subst this; rfl
  | cons c cs ih =>
    intro z h
    cases z with
    | nil => simp at h
    | cons z0 z =>
      simp only [setL]
      have e : (done ++ ((z0 :: z) ++ rest)).set done.length c = (done ++ [c]) ++ (z ++ rest) := by simp
      rw [e]
      have := ih (done ++ [c]) z (by simpa using h)
      simp only [List.length_append, List.length_singleton] at this
      rw [this]
      simp

theorem fill_vals (q : TRow) (z : List Value) (hz : z.length = q.size) : ∀ (parts : List (Nat × Value)) (k : Nat) (done cells : List Value), valsFrom q k parts = some cells → done.length = k * q.size →
    fillL (fun i => some (i * q.size, q.size, q.agg)) (done ++ zs parts.length z) parts = some (done ++ cells) := by
  intro parts
  induction parts with
  | nil => intro k done cells h _; simp [valsFrom] at h; subst h; simp [fillL, zs]
  | cons p parts ih =>
    intro k done cells h hd
    obtain ⟨i, v⟩ := p
    simp only [valsFrom] at h
    cases hl : valsFrom q (k + 1) parts with
    | none => simp [hl] at h
    | some l =>
      simp only [hl] at h
      cases hi : Nat.beq i k with
      | false => rw [hi] at h; cases h
      | true =>
        have := Nat.eq_of_beq_eq_true hi
        subst this
        rw [hi] at h
        simp only [cond_true] at h
        simp only [fillL, List.length_cons, zs]
        cases hg : q.agg with
        | true =>
          rw [hg] at h
          simp only [cond_true] at h
          split at h
          · rename_i cs
            cases hc : Nat.beq cs.toList.length q.size with
            | false => rw [hc] at h; cases h
            | true =>
              have hc' := Nat.eq_of_beq_eq_true hc
              rw [hc] at h
              simp only [cond_true, Option.some.injEq] at h
              subst h
              have hb : Nat.ble (i * q.size + q.size) (done ++ (z ++ zs parts.length z)).length = true := by
                rw [Nat.ble_eq]; simp [hd, hz]
              simp only [hb, Bool.and_true, cond_true]
              rw [← hd, setL_mid done _ cs.toList z (by rw [hc', hz])]
              have := ih (i + 1) (done ++ cs.toList) l hl (by simp only [List.length_append, hd, hc', Nat.succ_mul])
              simp only [List.append_assoc] at this
              rw [hg] at this
              exact this
          · cases h
        | false =>
          rw [hg] at h
          simp only [cond_false] at h
          cases hc : (oneB v && Nat.beq q.size 1) with
          | false => rw [hc] at h; cases h
          | true =>
            rw [hc] at h
            simp only [Bool.and_eq_true, Nat.beq_eq] at hc
            simp only [cond_true, Option.some.injEq] at h
            subst h
            have hb : Nat.ble (i * q.size + 1) (done ++ (z ++ zs parts.length z)).length = true := by
              rw [Nat.ble_eq]; simp [hd, hz, hc.2]
            have hq : Nat.beq q.size 1 = true := by rw [hc.2]; rfl
            simp only [cond_false, hb, Bool.and_true, cond_true]
            have hz1 : ∃ z0, z = [z0] := by
              have hzl : z.length = 1 := by rw [hz, hc.2]
              match z, hzl with
              | [z0], _ => exact ⟨z0, rfl⟩
            obtain ⟨z0, rfl⟩ := hz1
            have e : (done ++ ([z0] ++ zs parts.length [z0])).set (i * q.size) v = (done ++ [v]) ++ zs parts.length [z0] := by
              rw [← hd]; simp
            rw [e]
            have := ih (i + 1) (done ++ [v]) l hl (by simp only [List.length_append, hd, List.length_singleton, Nat.succ_mul, hc.2])
            rw [hg] at this
            rw [this]
            simp

end Go.Vc
namespace Go.Vc
open Go Go.RowKit

theorem partsOf_map (ρ : Fr) (l : List (Nat × Operand)) : partsOf ρ l = l.map (fun x => (x.1, ev ρ x.2)) := by
  induction l with
  | nil => rfl
  | cons x l ih => simp [partsOf, ih]

theorem parts_eq (ρ : Fr) (parts : Array (Nat × Operand)) : (parts.map fun (i, x) => (i, ev ρ x)) = (partsOf ρ parts.toList).toArray := by
  apply Array.toList_inj.1
  rw [Array.toList_map, partsOf_map]

theorem places_of {P : Program} {T : Tab} (hT : Ties P T) : ∀ (l : List Field), allIn T (l.map (fun f => (f.offset, f.type))) = true →
    ∃ places, l.mapM (fun f => (P.info? f.type).map fun i => (f.offset, i.size)) = some places ∧
      ∀ i x, placeOf T (l.map (fun f => (f.offset, f.type))) i = some x → places[i]? = some (x.1, x.2.1) := by
  intro l
  induction l with
  | nil => intro _; exact ⟨[], rfl, fun i x h => by simp [placeOf] at h⟩
  | cons f l ih =>
    intro h
    simp only [List.map_cons, allIn, Bool.and_eq_true] at h
    obtain ⟨h1, h2⟩ := h
    obtain ⟨places, hp, hq⟩ := ih h2
    cases hl : look T f.type with
    | none => simp [hl] at h1
    | some q =>
      obtain ⟨i, hi, hs, _⟩ := (ties_look hT hl).info
      refine ⟨(f.offset, i.size) :: places, by simp [hi, hp], ?_⟩
      intro j x hx
      cases j with
      | zero =>
        simp [placeOf, hl] at hx
        subst hx
        simp [hs]
      | succ j =>
        have := hq j x (by simpa [placeOf] using hx)
        simpa using this

theorem run_build_of {P : Program} {T : Tab} (hT : Ties P T) {t : Nat} {r : TRow} (hr : look T t = some r) (ha : r.agg = true ∧ r.desc = .invalid) (hin : allIn T r.fs = true) {parts : List (Nat × Value)} {cells : List Value}
    (hf : fillL (placeOf T r.fs) r.zero.cells.toList parts = some cells) (w : World) : (Instr.build t parts.toArray).run P w = .ok (.agg cells.toArray) w := by
  have hfit := ties_look hT hr
  obtain ⟨fields, hu, hfl⟩ := hfit.struct ha.1 ha.2
  obtain ⟨it, hit, _, _, hz⟩ := hfit.info
  obtain ⟨places, hp, hq⟩ := places_of hT fields.toList (by rw [hfl]; exact hin)
  apply run_build
  unfold Program.built
  simp only [hit, hu, hz, hp]
  rw [hfl] at hq
  have := fill_of (placeOf T r.fs) (fun i => places.toArray[i]?) (fun i x hx => by simpa using hq i x hx) parts r.zero.cells.toList cells hf
  simpa using this

theorem run_buildSlice_of {P : Program} {T : Tab} (hT : Ties P T) {t e len : Nat} {r q : TRow} (hr : look T t = some r) (hd : r.desc = .slice e) (ha : r.agg = false) (hq : look T e = some q)
    (hl : len * q.size ≤ 16777216) (hz : q.zero.cells.toList.length = q.size) {parts : List (Nat × Value)} {cells : List Value}
    (hv : valsFrom q 0 parts = some cells) (hpl : parts.length = len) (w : World) :
    (Instr.buildSlice t len parts.toArray).run P w = .ok (.slice (some ⟨w.heap.size, 0, none⟩) len len) (w.alloc (.cells cells.toArray e)) := by
  have hu := ((ties_look hT hr).plain ha).trans (congrArg some hd)
  have hs := (ties_look hT hq).run_size w
  have hzr := (ties_look hT hq).run_zero w
  have h1 : ¬ (16777216 < len * q.size) := by omega
  have hz' : q.zero.cells.size = q.size := by simpa using hz
  have hf := fill_vals q q.zero.cells.toList hz parts 0 [] cells hv (by simp)
  rw [hpl] at hf
  simp only [List.nil_append] at hf
  have key := fill_of (fun i => some (i * q.size, q.size, q.agg)) (fun i => some (i * q.size, q.size)) (fun i x hx => by simp at hx; subst hx; rfl) parts _ cells hf
  by_cases hn : len * q.size = 0
  · have e0 : zs len q.zero.cells.toList = [] := by
      apply List.eq_nil_of_length_eq_zero
      rw [zs_length, hz, hn]
    rw [e0] at key
    have e1 : (Array.map (fun i => (#[] : Array Value)[i % 0]!) (Array.range 0)) = [].toArray := by simp [Array.range_zero']
    simp [Instr.buildSlice, run_underlying hu, hs, hn, newRow]
    rw [Array.range_zero'] 
    simp [key]
  · have e1 : (Array.map (fun i => q.zero.cells[i % q.zero.cells.size]!) (Array.range (len * q.size))) = (zs len q.zero.cells.toList).toArray := by
      rw [← hz']; exact zs_made _ _
    simp only [Instr.buildSlice, Sem.run_bind, run_underlying hu, hs, Result.andThen_ok]
    simp only [show (2 : Nat) ^ 24 = 16777216 from rfl, if_neg h1, if_neg hn, Sem.run_bind, Sem.run_pure, hzr, Result.andThen_ok, e1, key]
    simp [newRow]

theorem vcOp_sound {P : Program} {T : Tab} (hT : Ties P T) {o : Oper} {ρ : Fr} {w : World} {K : Value → World → Prop} (h : vcOp P T o ρ w K) : Step P o ρ w K := by
  unfold vcOp at h
  split at h
  · rename_i p hp
    obtain ⟨v, hk, hr⟩ := vcP_sound hT hp h
    exact raw_value (hr w) hk
  · split at h
    case h_1 t a ho =>
      split at h
      · rename_i r b off hr ha
        have hf := ties_look hT hr
        cases hg : r.agg with
        | true =>
          rw [hg] at h
          obtain ⟨vs, hl, hc, hk⟩ := h
          refine raw_value (w' := w) ?_ hk
          have h1 := hf.run_agg w
          have h2 := hf.run_size w
          have h3 := run_cells (P := P) hc
          rw [hl] at h3
          rw [hg] at h1
          simp [execOp, ho, ha, Instr.loadAt, Instr.sureAddr, loadVar, h1, h2, h3]
        | false =>
          rw [hg] at h
          obtain ⟨v, hc, hk⟩ := h
          refine raw_value (w' := w) ?_ hk
          have h1 := hf.run_agg w
          rw [hg] at h1
          simp [execOp, ho, ha, Instr.loadAt, Instr.sureAddr, loadVar, h1, load, Sem.run, hc]
      · exact h.elim
    case h_2 t a x ho =>
      split at h
      · rename_i r b off hr ha
        have hf := ties_look hT hr
        have h2 := hf.run_size w
        cases hg : r.agg with
        | true =>
          rw [hg] at h
          simp only [cond_true] at h
          split at h
          · rename_i cs hx
            cases hb : Nat.beq cs.toList.length r.size with
            | false => rw [hb] at h; exact h.elim
            | true =>
            rw [hb] at h
            obtain ⟨hfree, hk⟩ := h
            have hl := Nat.eq_of_beq_eq_true hb
            refine raw_skip (w' := setCells w b off cs.toList) ?_ hk
            have h3 := run_stores (P := P) cs.toList w off 0 hfree
            have hl' : cs.size = r.size := by simpa using hl
            simp [execOp, ho, ha, hx, Instr.storeAt, Instr.sureAddr, storeVar, h2, Value.cells, hl', h3]
          · exact h.elim
        | false =>
          rw [hg] at h
          simp only [cond_false] at h
          cases hb : (Nat.beq r.size 1 && oneB (ev ρ x)) with
          | false => rw [hb] at h; exact h.elim
          | true =>
          rw [hb] at h
          simp only [Bool.and_eq_true, Nat.beq_eq] at hb
          obtain ⟨hs, h1⟩ := hb
          obtain ⟨hfree, hk⟩ := h
          refine raw_skip (w' := w.setCell ⟨b, off, none⟩ (ev ρ x)) ?_ hk
          have h3 := run_store_one (P := P) hfree h1
          have e0 : (⟨b, off, none⟩ : Addr).add 0 = ⟨b, off, none⟩ := rfl
          simp [execOp, ho, ha, Instr.storeAt, Instr.sureAddr, storeVar, h2, oneB_cells h1, hs, storeCells, e0, h3]
      · exact h.elim
    case h_3 t x ho =>
      refine raw_value (w' := w.alloc (.cells (ev ρ x).cells t)) ?_ h
      simp [execOp, ho, Instr.box, newVar, newRow, newObj, Sem.run]
    case h_4 t ho =>
      split at h
      · rename_i r hr
        have hz := (ties_look hT hr).run_zero w
        refine raw_value (w' := w.alloc (.cells r.zero.cells t)) ?_ h
        simp [execOp, ho, Instr.alloc, hz, newVar, newRow, newObj, Sem.run]
      · exact h.elim
    case h_5 t parts ho =>
      split at h
      · rename_i r hr
        split at h
        · rename_i cells hf
          cases hb : (r.agg && isInv r.desc && allIn T r.fs) with
          | false => rw [hb] at h; exact h.elim
          | true =>
          rw [hb] at h
          simp only [Bool.and_eq_true] at hb
          have hrun := run_build_of hT hr ⟨hb.1.1, isInv_eq hb.1.2⟩ hb.2 hf w
          refine raw_value (w' := w) ?_ h
          rw [← parts_eq] at hrun
          simp only [execOp, ho]
          simp only [Sem.run_bind, hrun, Result.andThen_ok, Sem.run_pure]
        · exact h.elim
      · exact .inl h
    case h_6 t len parts ho =>
      split at h
      · rename_i r hr
        split at h
        · rename_i e hd
          split at h
          · rename_i q hq
            split at h
            · rename_i cells hf
              cases hb : (!r.agg && Nat.ble (len * q.size) 16777216 && Nat.beq q.zero.cells.toList.length q.size && Nat.beq parts.toList.length len) with
              | false => rw [hb] at h; exact h.elim
              | true =>
              rw [hb] at h
              simp only [Bool.and_eq_true, Nat.ble_eq, Nat.beq_eq, Bool.not_eq_true'] at hb
              have hrun := run_buildSlice_of hT hr hd hb.1.1.1 hq hb.1.1.2 hb.1.2 hf (by rw [partsOf_map, List.length_map]; exact hb.2) w
              refine raw_value (w' := w.alloc (.cells cells.toArray e)) ?_ h
              rw [← parts_eq] at hrun
              simp only [execOp, ho]
              simp only [Sem.run_bind, hrun, Result.andThen_ok, Sem.run_pure]
            · exact h.elim
          · exact h.elim
        · exact h.elim
      · exact h.elim
    case h_7 t l c ho =>
      split at h
      · rename_i r k l' k' c' hr hl hc
        split at h
        · rename_i e hd
          split at h
          · rename_i q hq
            obtain ⟨hbd, h⟩ := h
            cases hb : (!r.agg && Nat.beq q.zero.cells.toList.length q.size) with
            | false => rw [hb] at h; exact h.elim
            | true =>
            rw [hb] at h
            simp only [Bool.and_eq_true, Nat.beq_eq, Bool.not_eq_true'] at hb
            have hu := ((ties_look hT hr).plain hb.1).trans (congrArg some hd)
            obtain ⟨i, hi, hs, hby, hz⟩ := (ties_look hT hq).info
            have hrun := run_make w t e i q.zero hu hi hz k k' l' c' hbd.1 hbd.2.1 (by rw [hby]; exact hbd.2.2.2) hbd.2.2.1
            refine raw_value (w' := w.alloc (.cells (zs c'.toNat q.zero.cells.toList).toArray e)) ?_ h
            have e1 : madeCells q.zero.cells (c'.toNat * i.size) = (zs c'.toNat q.zero.cells.toList).toArray := by
              rw [hs, ← hb.2, Array.length_toList]; exact zs_made _ _
            rw [e1] at hrun
            simp [execOp, ho, hl, hc, hrun]
          · exact h.elim
        · exact h.elim
      · exact h.elim
    case h_8 t r ho =>
      split at h
      · refine raw_value (w' := w.alloc (.map #[] 0)) ?_ h
        simp [execOp, ho, Instr.makeMap, newObj, Sem.run]
      · exact .inl h
    case h_9 c ho =>
      split at h
      · rename_i f hc
        split at h
        · rename_i g fi ca hf
          rcases h with ⟨⟨fn, hfn, hbody, hname⟩, hcalls⟩ | h
          · refine .inr ⟨g, _, ?_, hcalls⟩
            have hb : ¬ fn.body = none := by cases hx : fn.body <;> simp_all
            have hname' : ¬ fn.name = "runtime.NumGoroutine" := by simpa using hname
            have e : (fi.toList ++ evl ρ c.args.toList ++ ca.toList).toArray = fi ++ c.args.map (ev ρ) ++ ca := by
              rw [evl_map]; simp
            rw [e]
            simp [execOp, ho, resolve, hc, hf, Deferred.ofValue, invoke, callFunc, hfn, hb, hname', program, Sem.run]
          · exact .inl h
        · exact h.elim
      · exact .inl h
    case h_10 => exact .inl h

end Go.Vc
namespace Go.Vc
open Go Go.RowKit

/-- All that was there is as it was; more may be there. -/
abbrev Ext (w w' : World) : Prop := Below w.heap.size w w'
theorem Ext.refl (w : World) : Ext w w := Below.refl _ _
theorem Ext.trans {a b c : World} (h : Ext a b) (k : Ext b c) : Ext a c := Below.trans h (Below.mono k h.size)
theorem Ext.alloc {a w : World} (h : Ext a w) (o : Obj) : Ext a (w.alloc o) := Below.alloc h h.size o
theorem Ext.new (w : World) (o : Obj) : Ext w (w.alloc o) := (Ext.refl w).alloc o
theorem Ext.cell {w w' : World} (h : Ext w w') {a : Addr} {v : Value} (hc : w.cell? a = some v) : w'.cell? a = some v :=
  (Below.cell h (World.block_lt_of_cell? w a hc)).trans hc
theorem CellsAt.ext {w w' : World} (h : Ext w w') {b : Nat} : ∀ {vs : List Value} {o : Nat}, CellsAt w b o vs → CellsAt w' b o vs
  | [], _, _ => trivial
  | _ :: _, _, hc => ⟨h.cell hc.1, CellsAt.ext h hc.2⟩

abbrev Post := Exit → Fr → World → Prop

def nthO : List Oper → Nat → Option Oper
  | [], _ => none
  | o :: _, 0 => some o
  | _ :: l, n + 1 => nthO l n

def dstOf (all : List Oper) (j : Nat) : Option Nat :=
  match nthO all j with
  | some o => o.dst
  | none => none

/-- An operation under its guard. -/
def vcG (P : Program) (T : Tab) (all : List Oper) (o : Oper) (ρ : Fr) (w : World) (K : Fr → World → Prop) : Prop :=
  match o.guard with
  | none => vcOp P T o ρ w (fun v w' => K (upd ρ o.dst v) w')
  | some (j, want) =>
    match dstOf all j with
    | none => K (upd ρ o.dst undef) w
    | some d =>
      match ρ d with
      | .bool b => br b fun t => bif xor t want then K (upd (upd ρ (some d) (.bool t)) o.dst undef) w
          else vcOp P T o (upd ρ (some d) (.bool t)) w (fun v w' => K (upd (upd ρ (some d) (.bool t)) o.dst v) w')
      | _ => K (upd ρ o.dst undef) w

def vcOps (P : Program) (T : Tab) (all : List Oper) : List Oper → Post → Fr → World → Prop
  | [], Q, ρ, w => Q .normal ρ w
  | o :: rest, Q, ρ, w => vcG P T all o ρ w (fun ρ' w' => vcOps P T all rest Q ρ' w')

def vcIdx (P : Program) (T : Tab) (all : List Oper) : List Nat → Post → Fr → World → Prop
  | [], Q, ρ, w => Q .normal ρ w
  | i :: rest, Q, ρ, w => match nthO all i with
    | none => vcIdx P T all rest Q ρ w
    | some o => vcG P T all o ρ w (fun ρ' w' => vcIdx P T all rest Q ρ' w')

/-- A quiet operation: one value in every later world. -/
def vcOpQ (P : Program) (T : Tab) (w : World) (o : Oper) (ρ : Fr) (K : Value → Prop) : Prop :=
  match vcP T o ρ K with
  | some p => p
  | none =>
    match o.op with
    | .load t a => match look T t, ev ρ a with
        | some r, .pointer (some ⟨b, off, none⟩) =>
          bif r.agg then ∃ vs, vs.length = r.size ∧ CellsAt w b off vs ∧ K (.agg vs.toArray)
          else ∃ v, w.cell? ⟨b, off, none⟩ = some v ∧ K v
        | _, _ => False
    | .call c => match c.callee with
        | .value f => match ev ρ f with
            | .func (.func g) first captured => ∃ v, (∀ w', Ext w w' → Ret P g (first.toList ++ evl ρ c.args.toList ++ captured.toList).toArray w' (fun v' w'' => v' = v ∧ Ext w' w'')) ∧ K v
            | _ => False
        | _ => ∃ v, (∀ w', Ext w w' → (execOp (ev ρ) o).run P w' = .ok (.value v) w') ∧ K v
    | _ => ∃ v, (∀ w', Ext w w' → (execOp (ev ρ) o).run P w' = .ok (.value v) w') ∧ K v

def vcQG (P : Program) (T : Tab) (w : World) (all : List Oper) (o : Oper) (ρ : Fr) (K : Fr → Prop) : Prop :=
  match o.guard with
  | none => vcOpQ P T w o ρ (fun v => K (upd ρ o.dst v))
  | some (j, want) =>
    match dstOf all j with
    | none => K (upd ρ o.dst undef)
    | some d =>
      match ρ d with
      | .bool b => br b fun t => bif xor t want then K (upd (upd ρ (some d) (.bool t)) o.dst undef)
          else vcOpQ P T w o (upd ρ (some d) (.bool t)) (fun v => K (upd (upd ρ (some d) (.bool t)) o.dst v))
      | _ => K (upd ρ o.dst undef)

def vcQ (P : Program) (T : Tab) (w : World) (all : List Oper) : List Oper → (Fr → Prop) → Fr → Prop
  | [], Q, ρ => Q ρ
  | o :: rest, Q, ρ => vcQG P T w all o ρ (fun ρ' => vcQ P T w all rest Q ρ')

def fr (a : Act) : Fr := fun t => a.tmps.getD t undef
def opFits (n : Nat) (o : Oper) : Bool :=
  match o.dst with
  | none => true
  | some d => Nat.blt d n
def Lift (n : Nat) (Q : Post) : Exit → Act → World → Prop := fun e a w => a.tmps.size = n ∧ a.defers = [] ∧ Q e (fr a) w
/-- A region that draws its order, in the model's own words. -/
def DrawRaw (P : Program) (ops : Array Oper) (Q : Post) (ρ : Fr) (w : World) : Prop :=
  ∀ (id n : Nat) (a : Act), ops.toList.all (opFits n) = true → a.tmps.size = n → a.defers = [] → fr a = ρ → (Code.region id ops true).wp P (Lift n Q) a w

/-- A region that draws its order: quiet in the order of the text; or in every order. -/
def vcDraw (P : Program) (T : Tab) (ops : Array Oper) (Q : Post) (ρ : Fr) (w : World) : Prop :=
  (Region.lexB .any ops = true ∧ vcQ P T w ops.toList ops.toList (fun ρ' => ∀ w', Ext w w' → Q .normal ρ' w') ρ) ∨
  (∀ t, vcIdx P T ops.toList (Region.schedule true ops t) Q ρ { w with drawn := w.drawn + 1 }) ∨ DrawRaw P ops Q ρ w

def seqP (next : Fr → World → Prop) (Q : Post) : Post := fun e ρ w =>
  match e with
  | .normal => next ρ w
  | e => Q e ρ w
def blockP (id : Nat) (Q : Post) : Post := fun e ρ w =>
  match e with
  | .exit j => bif Nat.beq j id then Q .normal ρ w else Q (.exit j) ρ w
  | e => Q e ρ w

def LoopVc (body : Post → Fr → World → Prop) (Q : Post) (ρ : Fr) (w : World) : Prop :=
  ∃ (I : Nat → Fr → World → Prop) (n₀ : Nat), I n₀ ρ w ∧ ∀ n ρ w, I n ρ w → body (seqP (fun ρ' w' => ∃ k, k < n ∧ I k ρ' w') Q) ρ w

def vc (P : Program) (T : Tab) : Code → Post → Fr → World → Prop
  | .skip, Q, ρ, w => Q .normal ρ w
  | .label _, Q, ρ, w => Q .normal ρ w
  | .ret, Q, ρ, w => Q .ret ρ w
  | .exit id, Q, ρ, w => Q (.exit id) ρ w
  | .seq a b, Q, ρ, w => vc P T a (seqP (fun ρ w => vc P T b Q ρ w) Q) ρ w
  | .cond c x y, Q, ρ, w => match ev ρ c with
    | .bool t => br t fun t => bif t then vc P T x Q ρ w else vc P T y Q ρ w
    | _ => False
  | .block id c, Q, ρ, w => vc P T c (blockP id Q) ρ w
  | .loop c, Q, ρ, w => LoopVc (fun Q ρ w => vc P T c Q ρ w) Q ρ w
  | .region _ ops draw, Q, ρ, w => bif draw then vcDraw P T ops Q ρ w else vcOps P T ops.toList ops.toList Q ρ w
  | _, _, _, _ => False

/-! ### Soundness -/
def codeFits (n : Nat) : Code → Bool
  | .region _ ops _ => ops.toList.all (opFits n)
  | .seq a b => codeFits n a && codeFits n b
  | .cond _ a b => codeFits n a && codeFits n b
  | .block _ b => codeFits n b
  | .loop b => codeFits n b
  | _ => true

theorem eval_fr (a : Act) : a.eval = ev (fr a) := by funext x; cases x <;> rfl

theorem put_size (a : Act) (d : Option Nat) (v : Value) : (a.put d v).tmps.size = a.tmps.size := by cases d <;> simp [Act.put]
theorem put_defers (a : Act) (d : Option Nat) (v : Value) : (a.put d v).defers = a.defers := by cases d <;> rfl
theorem fr_put {a : Act} {o : Oper} {n : Nat} (hn : a.tmps.size = n) (ho : opFits n o = true) (v : Value) : fr (a.put o.dst v) = upd (fr a) o.dst v := by
  cases hd : o.dst with
  | none => rfl
  | some d =>
    simp only [opFits, hd, Nat.blt_eq] at ho
    funext t
    simp only [fr, Act.put, upd]
    by_cases e : t = d
    · subst e
      simp [hn, ho]
    · have : Nat.beq t d = false := by
        cases hb : Nat.beq t d with
        | false => rfl
        | true => exact absurd (Nat.eq_of_beq_eq_true hb) e
      rw [this]
      simp [Array.getD_eq_getD_getElem?, Array.getElem?_setIfInBounds_ne (Ne.symm e)]

theorem upd_same {ρ : Fr} {d : Nat} {v : Value} (h : ρ d = v) : upd ρ (some d) v = ρ := by
  funext t
  simp only [upd]
  cases hb : Nat.beq t d with
  | true => have := Nat.eq_of_beq_eq_true hb; subst this; exact h.symm
  | false => rfl

theorem nthO_eq (l : List Oper) : ∀ i, nthO l i = l[i]? := by
  induction l with
  | nil => intro i; rfl
  | cons o l ih => intro i; cases i with
    | zero => rfl
    | succ i => simpa [nthO] using ih i

theorem wp_of_step {P : Program} {o : Oper} {a : Act} {w : World} {n : Nat} (hn : a.tmps.size = n) (hd : a.defers = []) (ho : opFits n o = true)
    {K : Fr → World → Prop} {next : Act → World → Prop} {Q : Exit → Act → World → Prop}
    (hK : ∀ a w, a.tmps.size = n → a.defers = [] → K (fr a) w → next a w)
    (h : Step P o (fr a) w (fun v w' => K (upd (fr a) o.dst v) w')) : o.wp P a w next Q := by
  have put : ∀ v w', K (upd (fr a) o.dst v) w' → next (a.put o.dst v) w' := fun v w' hk =>
    hK _ _ (by rw [put_size, hn]) (by rw [put_defers, hd]) (by rw [fr_put hn ho]; exact hk)
  unfold Oper.wp
  rw [eval_fr]
  rcases h with ⟨nx, v, w', hr, hv, hk⟩ | ⟨g, args, hr, hc⟩
  · rw [hr]
    cases nx <;> simp [nv] at hv
    · subst hv; exact put _ _ hk
    · subst hv; exact put _ _ hk
  · rw [hr, Oper.upon_enter]
    exact hc.mono fun e w' ⟨v, he, hk⟩ => by subst he; exact put _ _ hk

theorem yielded_fr (ops : Array Oper) (a : Act) (j : Nat) : yielded ops a.tmps j = match dstOf ops.toList j with
    | none => none
    | some d => (match fr a d with | .bool b => some b | _ => none) := by
  unfold yielded dstOf
  rw [nthO_eq, Array.getElem?_toList]
  cases ho : ops[j]? with
  | none => rfl
  | some o =>
    cases hd : o.dst with
    | none => simp [hd]
    | some d =>
      simp only [Option.bind_some, hd]
      simp only [fr, Array.getD_eq_getD_getElem?]
      cases ht : a.tmps[d]? with
      | none => rfl
      | some v => cases v <;> rfl

/-- An operation under its guard, in the model's own words. -/
theorem guarded_sound {P : Program} {T : Tab} (hT : Ties P T) {ops : Array Oper} {o : Oper} {a : Act} {w : World} {n : Nat} (hn : a.tmps.size = n) (hd : a.defers = []) (ho : opFits n o = true)
    {K : Fr → World → Prop} {next : Act → World → Prop} {Q : Exit → Act → World → Prop}
    (hK : ∀ a w, a.tmps.size = n → a.defers = [] → K (fr a) w → next a w)
    (h : vcG P T ops.toList o (fr a) w K) :
    if Region.wanted o (yielded ops a.tmps) then o.wp P a w next Q else next (a.put o.dst undef) w := by
  have skip : K (upd (fr a) o.dst undef) w → next (a.put o.dst undef) w := fun hk =>
    hK _ _ (by rw [put_size, hn]) (by rw [put_defers, hd]) (by rw [fr_put hn ho]; exact hk)
  unfold vcG at h
  cases hg : o.guard with
  | none =>
    simp only [hg] at h
    rw [if_pos (by simp [Region.wanted, hg])]
    exact wp_of_step hn hd ho hK (vcOp_sound hT h)
  | some g =>
    obtain ⟨j, want⟩ := g
    simp only [hg] at h
    have hy := yielded_fr ops a j
    cases hj : dstOf ops.toList j with
    | none =>
      simp only [hj] at h hy
      rw [if_neg (by simp [Region.wanted, hg, hy])]
      exact skip h
    | some d =>
      simp only [hj] at h hy
      cases hv : fr a d with
      | bool b =>
        simp only [hv] at h hy
        rw [br_at, upd_same hv] at h
        cases hx : xor b want with
        | true =>
          rw [hx] at h
          rw [if_neg (by cases b <;> cases want <;> simp_all [Region.wanted])]
          exact skip h
        | false =>
          rw [hx] at h
          rw [if_pos (by cases b <;> cases want <;> simp_all [Region.wanted])]
          exact wp_of_step hn hd ho hK (vcOp_sound hT h)
      | _ =>
        simp only [hv] at h hy
        rw [if_neg (by simp [Region.wanted, hg, hy])]
        exact skip h

theorem ops_sound {P : Program} {T : Tab} (hT : Ties P T) {ops : Array Oper} {n : Nat} {Q : Post} : ∀ (l : List Oper), l.all (opFits n) = true → ∀ (a : Act) (w : World), a.tmps.size = n → a.defers = [] →
    vcOps P T ops.toList l Q (fr a) w → wpList P ops (Lift n Q) l a w := by
  intro l
  induction l with
  | nil => intro _ a w hn hd h; exact ⟨hn, hd, h⟩
  | cons o l ih =>
    intro hf a w hn hd h
    simp only [List.all_cons, Bool.and_eq_true] at hf
    refine wpList_step fun K hK => ?_
    exact guarded_sound hT hn hd hf.1 (fun a w hn hd hk => hK _ _ (ih hf.2 a w hn hd hk)) h

theorem idx_sound {P : Program} {T : Tab} (hT : Ties P T) {ops : Array Oper} {n : Nat} (hf : ops.toList.all (opFits n) = true) {Q : Post} : ∀ (l : List Nat) (a : Act) (w : World), a.tmps.size = n → a.defers = [] →
    vcIdx P T ops.toList l Q (fr a) w → wpOps P ops (Lift n Q) l a w := by
  intro l
  induction l with
  | nil => intro a w hn hd h; exact ⟨hn, hd, h⟩
  | cons i l ih =>
    intro a w hn hd h
    simp only [vcIdx, nthO_eq, Array.getElem?_toList] at h
    simp only [wpOps]
    cases ho : ops[i]? with
    | none =>
      simp only [ho] at h
      exact ih a w hn hd h
    | some o =>
      simp only [ho] at h
      have hfo : opFits n o = true := by
        have := List.all_eq_true.1 hf o
        exact this (by
          rw [Array.mem_toList_iff]
          exact Array.mem_of_getElem? ho)
      have := guarded_sound (Q := Lift n Q) (next := wpOps P ops (Lift n Q) l) hT hn hd hfo (fun a w hn hd hk => ih a w hn hd hk) h
      dsimp only
      split
      · rename_i hw; rw [if_pos hw] at this; exact .inl this
      · rename_i hw; rw [if_neg hw] at this; exact this

theorem quiet_sound {P : Program} {T : Tab} (hT : Ties P T) {o : Oper} {a : Act} {w : World} {K : Value → Prop} (h : vcOpQ P T w o (fr a) K) :
    ∃ v, (∀ w', Ext w w' → o.quietAt P a (Ext w) w' v) ∧ K v := by
  unfold vcOpQ at h
  split at h
  · rename_i p hp
    obtain ⟨v, hk, hr⟩ := vcP_sound hT hp h
    refine ⟨v, fun w' _ => ?_, hk⟩
    unfold Oper.quietAt
    rw [eval_fr, hr w']
    exact ⟨rfl, rfl⟩
  · split at h
    case h_1 t ad ho =>
      split at h
      · rename_i r b off hr ha
        have hf := ties_look hT hr
        cases hg : r.agg with
        | true =>
          rw [hg] at h
          obtain ⟨vs, hl, hc, hk⟩ := h
          refine ⟨_, fun w' hx => ?_, hk⟩
          have h1 := hf.run_agg w'
          have h2 := hf.run_size w'
          have h3 := run_cells (P := P) (CellsAt.ext hx hc)
          rw [hl] at h3
          rw [hg] at h1
          unfold Oper.quietAt
          rw [eval_fr]
          simp [execOp, ho, ha, Instr.loadAt, Instr.sureAddr, loadVar, h1, h2, h3, Oper.quietUpon]
        | false =>
          rw [hg] at h
          obtain ⟨v, hc, hk⟩ := h
          refine ⟨_, fun w' hx => ?_, hk⟩
          have h1 := hf.run_agg w'
          rw [hg] at h1
          have hc' := hx.cell hc
          unfold Oper.quietAt
          rw [eval_fr]
          simp [execOp, ho, ha, Instr.loadAt, Instr.sureAddr, loadVar, h1, load, Sem.run, hc', Oper.quietUpon]
      · exact h.elim
    case h_2 c ho =>
      split at h
      · rename_i f hc
        split at h
        · rename_i g fi ca hf
          obtain ⟨v, hcalls, hk⟩ := h
          refine ⟨v, fun w' hx => ?_, hk⟩
          obtain ⟨⟨fn, hfn, hbody, hname⟩, hcall⟩ := hcalls w' hx
          have hb : ¬ fn.body = none := by cases hx : fn.body <;> simp_all
          have hname' : ¬ fn.name = "runtime.NumGoroutine" := by simpa using hname
          have e : (fi.toList ++ evl (fr a) c.args.toList ++ ca.toList).toArray = fi ++ (c.args.map (ev (fr a)) ++ ca) := by
            rw [evl_map]; simp
          rw [e] at hcall
          unfold Oper.quietAt
          rw [eval_fr]
          have hr : (execOp (ev (fr a)) o).run P w' = .ok (.enter g (fi ++ (c.args.map (ev (fr a)) ++ ca))) w' := by
            simp [execOp, ho, resolve, hc, hf, Deferred.ofValue, invoke, callFunc, hfn, hb, hname', program, Sem.run]
          rw [hr]
          refine ⟨rfl, hcall.mono ?_⟩
          rintro e w'' ⟨v', rfl, rfl, hx'⟩
          exact ⟨rfl, hx.trans hx'⟩
        · exact h.elim
      · obtain ⟨v, hr, hk⟩ := h
        refine ⟨v, fun w' hx => ?_, hk⟩
        unfold Oper.quietAt
        rw [eval_fr, hr w' hx]
        exact ⟨rfl, rfl⟩
    case h_3 =>
      obtain ⟨v, hr, hk⟩ := h
      refine ⟨v, fun w' hx => ?_, hk⟩
      unfold Oper.quietAt
      rw [eval_fr, hr w' hx]
      exact ⟨rfl, rfl⟩

theorem opsQ_sound {P : Program} {T : Tab} (hT : Ties P T) {ops : Array Oper} {n : Nat} {w : World} {Q : Fr → Prop} : ∀ (l : List Oper), l.all (opFits n) = true → ∀ (a : Act), a.tmps.size = n → a.defers = [] →
    vcQ P T w ops.toList l Q (fr a) → wpQuiet P ops (Ext w) (fun a => a.tmps.size = n ∧ a.defers = [] ∧ Q (fr a)) l a := by
  intro l
  induction l with
  | nil => intro _ a hn hd h; exact ⟨hn, hd, h⟩
  | cons o l ih =>
    intro hf a hn hd h
    simp only [List.all_cons, Bool.and_eq_true] at hf
    have ho := hf.1
    have put : ∀ v, vcQ P T w ops.toList l Q (upd (fr a) o.dst v) → wpQuiet P ops (Ext w) (fun a => a.tmps.size = n ∧ a.defers = [] ∧ Q (fr a)) l (a.put o.dst v) := fun v hk =>
      ih hf.2 _ (by rw [put_size, hn]) (by rw [put_defers, hd]) (by rw [fr_put hn ho]; exact hk)
    have run : vcOpQ P T w o (fr a) (fun v => vcQ P T w ops.toList l Q (upd (fr a) o.dst v)) → o.quiet P a (Ext w) (wpQuiet P ops (Ext w) (fun a => a.tmps.size = n ∧ a.defers = [] ∧ Q (fr a)) l) := fun hk => by
      obtain ⟨v, h1, h2⟩ := quiet_sound hT hk
      exact ⟨v, h1, put v h2⟩
    show if Region.wanted o (yielded ops a.tmps) then _ else _
    simp only [vcQ, vcQG] at h
    cases hg : o.guard with
    | none =>
      simp only [hg] at h
      rw [if_pos (by simp [Region.wanted, hg])]
      exact run h
    | some g =>
      obtain ⟨j, want⟩ := g
      simp only [hg] at h
      have hy := yielded_fr ops a j
      cases hj : dstOf ops.toList j with
      | none =>
        simp only [hj] at h hy
        rw [if_neg (by simp [Region.wanted, hg, hy])]
        exact put _ h
      | some d =>
        simp only [hj] at h hy
        cases hv : fr a d with
        | bool b =>
          simp only [hv] at h hy
          rw [br_at, upd_same hv] at h
          cases hx : xor b want with
          | true =>
            rw [hx] at h
            rw [if_neg (by cases b <;> cases want <;> simp_all [Region.wanted])]
            exact put _ h
          | false =>
            rw [hx] at h
            rw [if_pos (by cases b <;> cases want <;> simp_all [Region.wanted])]
            exact run h
        | _ =>
          simp only [hv] at h hy
          rw [if_neg (by simp [Region.wanted, hg, hy])]
          exact put _ h

theorem wpQuiet_mono {P : Program} {ops : Array Oper} {C : World → Prop} {Q Q' : Act → Prop} (h : ∀ a, Q a → Q' a) : ∀ (l : List Oper) (a : Act), wpQuiet P ops C Q l a → wpQuiet P ops C Q' l a
  | [], a, hh => h a hh
  | o :: l, a, hh => by
    simp only [wpQuiet] at *
    split
    · rename_i hw; rw [if_pos hw] at hh; exact Oper.quiet_mono (fun a => wpQuiet_mono h l a) hh
    · rename_i hw; rw [if_neg hw] at hh; exact wpQuiet_mono h l _ hh

theorem vc_sound {P : Program} {T : Tab} (hT : Ties P T) (hm : P.follows .mixedOrders = true) {n : Nat} : ∀ (c : Code), codeFits n c = true → ∀ (Q : Post) (a : Act) (w : World), a.tmps.size = n → a.defers = [] →
    vc P T c Q (fr a) w → c.wp P (Lift n Q) a w := by
  intro c
  induction c with
  | skip => intro _ Q a w hn hd h; exact wp_skip ⟨hn, hd, h⟩
  | label l => intro _ Q a w hn hd h; exact wp_label ⟨hn, hd, h⟩
  | ret => intro _ Q a w hn hd h; exact wp_ret ⟨hn, hd, h⟩
  | exit id => intro _ Q a w hn hd h; exact wp_exit ⟨hn, hd, h⟩
  | goto l => intro _ Q a w hn hd h; exact h.elim
  | refuse s => intro _ Q a w hn hd h; exact h.elim
  | scope b ih => intro _ Q a w hn hd h; exact h.elim
  | rangeFunc f ps x y ihx ihy => intro _ Q a w hn hd h; exact h.elim
  | seq x y ihx ihy =>
    intro hf Q a w hn hd h
    simp only [codeFits, Bool.and_eq_true] at hf
    refine wp_seq (Code.wp_mono ?_ (ihx hf.1 _ a w hn hd h))
    rintro e a w ⟨hn, hd, hq⟩
    cases e with
    | normal => exact ihy hf.2 Q a w hn hd hq
    | _ => exact ⟨hn, hd, hq⟩
  | cond c x y ihx ihy =>
    intro hf Q a w hn hd h
    simp only [codeFits, Bool.and_eq_true] at hf
    simp only [vc] at h
    split at h
    · rename_i t ht
      rw [br_at] at h
      refine wp_cond (t := t) (by rw [eval_fr]; exact ht) ?_
      cases t with
      | true => exact ihx hf.1 Q a w hn hd h
      | false => exact ihy hf.2 Q a w hn hd h
    · exact h.elim
  | block id c ih =>
    intro hf Q a w hn hd h
    refine wp_block (Code.wp_mono ?_ (ih hf _ a w hn hd h))
    rintro e a w ⟨hn, hd, hq⟩
    cases e with
    | exit j =>
      simp only [blockP] at hq
      show if j = id then _ else _
      cases hb : Nat.beq j id with
      | true => rw [if_pos (Nat.eq_of_beq_eq_true hb)]; rw [hb] at hq; exact ⟨hn, hd, hq⟩
      | false => rw [if_neg (Nat.ne_of_beq_eq_false hb)]; rw [hb] at hq; exact ⟨hn, hd, hq⟩
    | _ => exact ⟨hn, hd, hq⟩
  | loop c ih =>
    intro hf Q a w hn hd h
    obtain ⟨I, n0, h0, hr⟩ := h
    refine wp_loop_ghost (fun k a w => a.tmps.size = n ∧ a.defers = [] ∧ I k (fr a) w) n0 ⟨hn, hd, h0⟩ ?_
    rintro k a w ⟨hn, hd, hI⟩
    refine Code.wp_mono ?_ (ih hf _ a w hn hd (hr _ _ _ hI))
    rintro e a w ⟨hn, hd, hq⟩
    cases e with
    | normal => obtain ⟨m, hm, hq⟩ := hq; exact ⟨m, hm, hn, hd, hq⟩
    | _ => exact ⟨hn, hd, hq⟩
  | region id ops draw =>
    intro hf Q a w hn hd h
    cases draw with
    | false => exact wp_region_list (ops_sound hT _ hf a w hn hd h)
    | true =>
      rcases h with ⟨hB, h⟩ | h | h
      · refine wp_region_quiet (C := Ext w) hm hB ⟨rfl, rfl, rfl, Nat.le_refl _, fun _ _ => rfl⟩ ?_
        have := opsQ_sound hT ops.toList hf a hn hd h
        refine wpQuiet_mono ?_ _ _ this
        rintro a ⟨hn, hd, hq⟩ w' hx
        exact ⟨hn, hd, hq w' hx⟩
      · refine wp_region_draw fun t => ?_
        rw [hm]
        exact idx_sound hT hf _ a _ hn hd (h t)
      · exact h id n a hf hn hd rfl

end Go.Vc
namespace Go.Vc
open Go Go.RowKit

def vcRes (T : Tab) : List ResultVar → Fr → World → (List Value → Prop) → Prop
  | [], _, _, K => K []
  | .tmp t :: l, ρ, w, K => vcRes T l ρ w (fun vs => K (ρ t :: vs))
  | .cell a t :: l, ρ, w, K => match look T t, ρ a with
    | some r, .pointer (some ⟨b, off, none⟩) =>
      bif r.agg then ∃ vs, vs.length = r.size ∧ CellsAt w b off vs ∧ vcRes T l ρ w (fun vs' => K (.agg vs.toArray :: vs'))
      else ∃ v, w.cell? ⟨b, off, none⟩ = some v ∧ vcRes T l ρ w (fun vs' => K (v :: vs'))
    | _, _ => False

def one : List Value → Value
  | [v] => v
  | vs => .tuple vs.toArray

def retP (T : Tab) (rs : List ResultVar) (R : Value → World → Prop) : Post := fun e ρ w =>
  match e with
  | .normal => vcRes T rs ρ w (fun vs => R (one vs) w)
  | .ret => vcRes T rs ρ w (fun vs => R (one vs) w)
  | _ => False

def ini (args : List Value) : Fr := fun t => args.getD t undef

def resOne (tmps : Array Value) (r : ResultVar) : Sem Value :=
  match r with
  | .tmp t => pure (tmps.getD t undef)
  | .cell a t => do loadVar t (← asAddr (tmps.getD a undef))

theorem results_eq (fn : Func) (tmps : Array Value) : results fn tmps = (do
    let vs ← fn.results.mapM (resOne tmps)
    pure (if h : vs.size = 1 then vs[0] else .tuple vs)) := rfl

theorem resOne_cell {P : Program} {tmps : Array Value} {ad t b off : Nat} {w : World} (ha : tmps.getD ad undef = .pointer (some ⟨b, off, none⟩)) :
    (resOne tmps (.cell ad t)).run P w = (loadVar t ⟨b, off, none⟩).run P w := by
  simp only [resOne, ha, asAddr, Sem.run_bind, Sem.run_pure, Result.andThen_ok]

theorem run_mapM_cons {P : Program} {α β : Type} (f : α → Sem β) (x : α) (l : List α) (w : World) {v : β} {vs : List β} (h1 : (f x).run P w = .ok v w) (h2 : (l.mapM f).run P w = .ok vs w) :
    ((x :: l).mapM f).run P w = .ok (v :: vs) w := by
  simp only [List.mapM_cons, Sem.run_bind, h1, Result.andThen_ok, h2, Sem.run_pure]

theorem res_sound {P : Program} {T : Tab} (hT : Ties P T) (a : Act) (w : World) : ∀ (l : List ResultVar) (K : List Value → Prop), vcRes T l (fr a) w K →
    ∃ vs, K vs ∧ (l.mapM (resOne a.tmps)).run P w = .ok vs w := by
  intro l
  induction l with
  | nil => intro K h; exact ⟨[], h, by simp⟩
  | cons r l ih =>
    intro K h
    cases r with
    | tmp t =>
      obtain ⟨vs, hk, hr⟩ := ih _ h
      exact ⟨_, hk, run_mapM_cons _ _ _ _ (by simp only [resOne, Sem.run_pure]; rfl) hr⟩
    | cell ad t =>
      simp only [vcRes] at h
      split at h
      · rename_i r b off hr ha
        have hf := ties_look hT hr
        have ha' : a.tmps.getD ad undef = .pointer (some ⟨b, off, none⟩) := ha
        cases hg : r.agg with
        | true =>
          rw [hg] at h
          obtain ⟨vs, hl, hc, h⟩ := h
          obtain ⟨vs', hk, hr'⟩ := ih _ h
          have h1 := hf.run_agg w
          have h2 := hf.run_size w
          have h3 := run_cells (P := P) hc
          rw [hl] at h3
          rw [hg] at h1
          refine ⟨_, hk, run_mapM_cons _ _ _ _ ?_ hr'⟩
          rw [resOne_cell ha']
          simp [loadVar, h1, h2, h3]
        | false =>
          rw [hg] at h
          obtain ⟨v, hc, h⟩ := h
          obtain ⟨vs', hk, hr'⟩ := ih _ h
          have h1 := hf.run_agg w
          rw [hg] at h1
          refine ⟨_, hk, run_mapM_cons _ _ _ _ ?_ hr'⟩
          rw [resOne_cell ha']
          simp [loadVar, h1, hc]
      · exact h.elim

theorem one_eq (vs : List Value) : (if h : vs.toArray.size = 1 then vs.toArray[0] else Value.tuple vs.toArray) = one vs := by
  match vs with
  | [] => rfl
  | [v] => rfl
  | _ :: _ :: _ => rfl

theorem ret_of_vc {P : Program} {T : Tab} (hT : Ties P T) (hm : P.follows .mixedOrders = true) {g : Nat} {fn : Func} {c : Code} {args : List Value} {w : World} {R : Value → World → Prop}
    (hf : P.funcs[g]? = some fn) (hb : fn.body = some c) (hname : (fn.name == "runtime.NumGoroutine") = false) (hfit : codeFits fn.ntmps c = true) (hsz : Nat.ble args.length fn.ntmps = true)
    (h : vc P T c (retP T fn.results.toList R) (ini args) w) : Ret P g args.toArray w R := by
  refine ⟨⟨fn, hf, by simp [hb], hname⟩, calls_of_wp hf hb ?_⟩
  have hsz' := Nat.le_of_ble_eq_true hsz
  refine Code.wp_mono ?_ (vc_sound hT hm c hfit (retP T fn.results.toList R) _ w (by simp; omega) rfl ?_)
  · rintro e a w ⟨hn, hd, hq⟩
    have fin : vcRes T fn.results.toList (fr a) w (fun vs => R (one vs) w) → a.defers = [] ∧ ∃ v, (results fn a.tmps).run P w = .ok v w ∧ ∃ v', Ending.returned v = .returned v' ∧ R v' w := by
      intro hres
      obtain ⟨vs, hk, hr⟩ := res_sound hT a w _ _ hres
      refine ⟨hd, one vs, ?_, _, rfl, hk⟩
      rw [results_eq]
      have hr' : (fn.results.mapM (resOne a.tmps)).run P w = .ok vs.toArray w := by
        rw [Array.mapM_eq_mapM_toList]
        simp [hr]
      simp only [Sem.run_bind, hr', Result.andThen_ok, Sem.run_pure, one_eq]
    cases e with
    | normal => exact fin hq
    | ret => exact fin hq
    | _ => exact hq.elim
  · have : fr { tmps := args.toArray ++ Array.replicate (fn.ntmps - args.toArray.size) undef, defers := [] } = ini args := by
      funext t
      simp only [fr, ini, Array.getD_eq_getD_getElem?, List.getD_eq_getElem?_getD, Array.getElem?_append]
      by_cases ht : t < args.length
      · simp [ht]
      · simp [ht, Array.getElem?_replicate]
        split <;> simp_all
    rw [this]
    exact h

/-! ### Loops and cuts: named slots, a range of scratch slots -/
def evs (ρ : Fr) : List Nat → List Value
  | [] => []
  | t :: l => ρ t :: evs ρ l

def over : List Nat → List Value → Fr → Fr
  | d :: ds, v :: vs, ρ => fun t => bif Nat.beq t d then v else over ds vs ρ t
  | _, _, ρ => ρ

def hav (lo hi : Nat) (junk ρ : Fr) : Fr := fun t => bif Nat.ble lo t && Nat.blt t hi then junk t else ρ t

def inSlots (slots : List Nat) (lo hi t : Nat) : Bool := slots.contains t || (Nat.ble lo t && Nat.blt t hi)

/-- The frame differs at these slots alone. -/
def Only (slots : List Nat) (lo hi : Nat) (ρ ρ' : Fr) : Prop := ∀ t, inSlots slots lo hi t = false → ρ' t = ρ t
theorem Only.refl {slots : List Nat} {lo hi : Nat} {ρ : Fr} : Only slots lo hi ρ ρ := fun _ _ => rfl
theorem Only.upd {slots : List Nat} {lo hi : Nat} {ρ ρ' : Fr} {d : Nat} {v : Value} (hd : inSlots slots lo hi d = true) (h : Only slots lo hi ρ ρ') : Only slots lo hi ρ (upd ρ' (some d) v) := by
  intro t ht
  simp only [Vc.upd]
  cases hb : Nat.beq t d with
  | true => have := Nat.eq_of_beq_eq_true hb; subst this; rw [hd] at ht; cases ht
  | false => exact h t ht
theorem Only.skip {slots : List Nat} {lo hi : Nat} {ρ ρ' : Fr} {v : Value} (h : Only slots lo hi ρ ρ') : Only slots lo hi ρ (Vc.upd ρ' none v) := h
theorem Only.over {slots slots' : List Nat} {lo hi : Nat} {ρ ρ' : Fr} (hs : slots'.all (inSlots slots lo hi) = true) (h : Only slots lo hi ρ ρ') : ∀ vs, Only slots lo hi ρ (over slots' vs ρ') := by
  induction slots' with
  | nil => intro vs; cases vs <;> exact h
  | cons d ds ih =>
    intro vs
    simp only [List.all_cons, Bool.and_eq_true] at hs
    cases vs with
    | nil => exact h
    | cons v vs =>
      intro t ht
      simp only [Vc.over]
      cases hb : Nat.beq t d with
      | true => have := Nat.eq_of_beq_eq_true hb; subst this; rw [hs.1] at ht; cases ht
      | false => exact ih hs.2 vs t ht
theorem Only.hav {slots : List Nat} {lo hi lo' hi' : Nat} {ρ ρ' junk : Fr} (hl : Nat.ble lo lo' = true) (hh : Nat.ble hi' hi = true) (h : Only slots lo hi ρ ρ') : Only slots lo hi ρ (hav lo' hi' junk ρ') := by
  intro t ht
  simp only [Vc.hav]
  cases hb : (Nat.ble lo' t && Nat.blt t hi') with
  | false => exact h t ht
  | true =>
    simp only [Bool.and_eq_true, Nat.ble_eq, Nat.blt_eq] at hb hl hh
    simp only [inSlots, Bool.or_eq_false_iff, Bool.and_eq_false_iff] at ht
    rcases ht.2 with h | h
    · have : Nat.ble lo t = true := by rw [Nat.ble_eq]; omega
      rw [this] at h; cases h
    · have : Nat.blt t hi = true := by rw [Nat.blt_eq]; omega
      rw [this] at h; cases h

theorem over_evs (slots : List Nat) (ρ ρ' : Fr) (t : Nat) : over slots (evs ρ slots) ρ' t = if slots.contains t then ρ t else ρ' t := by
  induction slots with
  | nil => rfl
  | cons d ds ih =>
    simp only [Vc.over, evs, List.contains_cons]
    cases hb : Nat.beq t d with
    | true => have := Nat.eq_of_beq_eq_true hb; subst this; simp
    | false =>
      have hne : (t == d) = false := by simpa using Nat.ne_of_beq_eq_false hb
      rw [cond_false, ih]
      simp [hne]

theorem only_eq {slots : List Nat} {lo hi : Nat} {ρ ρ' : Fr} (h : Only slots lo hi ρ ρ') : ρ' = over slots (evs ρ' slots) (hav lo hi ρ' ρ) := by
  funext t
  rw [over_evs]
  split
  · rfl
  · rename_i hs
    simp only [Vc.hav]
    cases hb : (Nat.ble lo t && Nat.blt t hi) with
    | true => rfl
    | false => exact h t (by simp only [inSlots, hb, Bool.or_false]; simpa using hs)

theorem loop_rule {P : Program} {T : Tab} {c : Code} {Q : Post} {ρ : Fr} {w : World} {σ : Type} (slots : List Nat) (lo hi : Nat) (head : σ → List Value) (J : σ → World → Prop) (μ : σ → Nat) (s0 : σ)
    (h0 : evs ρ slots = head s0) (hJ : J s0 w)
    (round : ∀ s w junk, J s w → ∀ K : Fr → World → Prop, (∀ s' ρ' w', evs ρ' slots = head s' → J s' w' → μ s' < μ s → Only slots lo hi ρ ρ' → K ρ' w') →
      vc P T c (seqP K Q) (over slots (head s) (hav lo hi junk ρ)) w) :
    vc P T (.loop c) Q ρ w := by
  refine ⟨fun n ρ' w' => ∃ s junk, μ s = n ∧ ρ' = over slots (head s) (hav lo hi junk ρ) ∧ J s w', μ s0, ⟨s0, ρ, rfl, ?_, hJ⟩, ?_⟩
  · rw [← h0]; exact only_eq Only.refl
  · rintro n ρ' w' ⟨s, junk, rfl, rfl, hj⟩
    refine round s w' junk hj _ ?_
    intro s' ρ' w'' h1 h2 h3 h4
    exact ⟨μ s', h3, s', ρ', rfl, by rw [← h1]; exact only_eq h4, h2⟩

/-- What follows is walked once, whatever way led there. -/
theorem seq_cut {P : Program} {T : Tab} {x y : Code} {Q : Post} {ρ : Fr} {w : World} {σ : Type} (slots : List Nat) (lo hi : Nat) (head : σ → List Value) (J : σ → World → Prop)
    (hx : ∀ K : Fr → World → Prop, (∀ s ρ' w', evs ρ' slots = head s → J s w' → Only slots lo hi ρ ρ' → K ρ' w') → vc P T x (seqP K Q) ρ w)
    (hy : ∀ s w' junk, J s w' → vc P T y Q (over slots (head s) (hav lo hi junk ρ)) w') : vc P T (.seq x y) Q ρ w :=
  hx _ fun s ρ' w' h1 h2 h3 => by
    have := hy s w' ρ' h2
    rw [← h1, ← only_eq h3] at this
    exact this

/-- The first part alone, the rest behind a name. -/
theorem seq_k {P : Program} {T : Tab} {x y : Code} {Q : Post} {ρ : Fr} {w : World} (h : ∀ K : Fr → World → Prop, (∀ ρ w, vc P T y Q ρ w → K ρ w) → vc P T x (seqP K Q) ρ w) : vc P T (.seq x y) Q ρ w :=
  h _ fun _ _ h => h

theorem vbool {a b : Bool} (h : a = b) : Value.bool a = Value.bool b := by rw [h]
theorem vint {k : IntKind} {a b : Int} (h : a = b) : Value.int k a = Value.int k b := by rw [h]
theorem vstr {a b : ByteArray} (h : a = b) : Value.string a = Value.string b := by rw [h]

/-- An index that is in range. -/
theorem ix {p q : Prop} {K : p ∧ q → Prop} (h : p ∧ q) (k : K h) : ∃ h : p ∧ q, K h := ⟨h, k⟩
theorem vs1 {a b : Value} (h : a = b) : [a] = [b] := by rw [h]
theorem vs2 {a b c d : Value} (h : a = b) (h' : c = d) : [a, c] = [b, d] := by rw [h, h']
theorem vs3 {a b c d e f : Value} (h : a = b) (h' : c = d) (h'' : e = f) : [a, c, e] = [b, d, f] := by rw [h, h', h'']
theorem vs4 {a b c d e f g k : Value} (h : a = b) (h' : c = d) (h'' : e = f) (h3 : g = k) : [a, c, e, g] = [b, d, f, k] := by rw [h, h', h'', h3]

end Go.Vc
namespace Go.Vc
open Go Go.RowKit

inductive Kd
  | quiet
  | loud
  | wild
  deriving DecidableEq
abbrev Ord := List (Nat × Kd)

def wantedF (all : List Oper) (o : Oper) (ρ : Fr) : Bool :=
  match o.guard with
  | none => true
  | some (j, want) => match dstOf all j with
    | none => false
    | some d => match ρ d with
      | .bool b => b == want
      | _ => false

/-- An operation under its guard, by its value. -/
def SG (P : Program) (all : List Oper) (o : Oper) (ρ : Fr) (w : World) (K : Value → World → Prop) : Prop :=
  if wantedF all o ρ = true then Step P o ρ w K else K undef w

theorem Step.mono {P : Program} {o : Oper} {ρ : Fr} {w : World} {K K' : Value → World → Prop} (hk : ∀ v w', K v w' → K' v w') (h : Step P o ρ w K) : Step P o ρ w K' := by
  rcases h with ⟨n, v, w', h1, h2, h3⟩ | ⟨g, args, h1, h2⟩
  · exact .inl ⟨n, v, w', h1, h2, hk _ _ h3⟩
  · exact .inr ⟨g, args, h1, h2.mono fun e w' ⟨v, he, h⟩ => ⟨v, he, hk _ _ h⟩⟩
theorem SG.mono {P : Program} {all : List Oper} {o : Oper} {ρ : Fr} {w : World} {K K' : Value → World → Prop} (hk : ∀ v w', K v w' → K' v w') (h : SG P all o ρ w K) : SG P all o ρ w K' := by
  unfold SG at *
  split
  · rename_i hw; rw [if_pos hw] at h; exact h.mono hk
  · rename_i hw; rw [if_neg hw] at h; exact hk _ _ h

def Hyb (P : Program) (all : List Oper) (Q : Fr → World → Prop) : Ord → Fr → World → Prop
  | [], ρ, w0 => ∀ w, Ext w0 w → Q ρ w
  | (i, k) :: L, ρ, w0 => match nthO all i with
    | none => False
    | some o => match k with
      | .quiet => ∃ v, (∀ w, Ext w0 w → SG P all o ρ w (fun v' w' => v' = v ∧ Ext w w')) ∧ Hyb P all Q L (upd ρ o.dst v) w0
      | .loud => ∀ w, Ext w0 w → SG P all o ρ w (fun v w' => Ext w w' ∧ Hyb P all Q L (upd ρ o.dst v) w')
      | .wild => ∀ w, Ext w0 w → SG P all o ρ w (fun v w' => Hyb P all Q L (upd ρ o.dst v) w')

def vcHyb (P : Program) (T : Tab) (all : List Oper) (Q : Post) : Ord → Fr → World → Prop
  | [], ρ, w0 => ∀ w, Ext w0 w → Q .normal ρ w
  | (i, k) :: L, ρ, w0 => match nthO all i with
    | none => False
    | some o => match k with
      | .quiet => vcQG P T w0 all o ρ (fun ρ' => vcHyb P T all Q L ρ' w0)
      | .loud => ∀ w, Ext w0 w → vcG P T all o ρ w (fun ρ' w' => Ext w w' ∧ vcHyb P T all Q L ρ' w')
      | .wild => ∀ w, Ext w0 w → vcG P T all o ρ w (fun ρ' w' => vcHyb P T all Q L ρ' w')

theorem vcG_SG {P : Program} {T : Tab} (hT : Ties P T) {all : List Oper} {o : Oper} {ρ : Fr} {w : World} {K : Fr → World → Prop} (h : vcG P T all o ρ w K) :
    SG P all o ρ w (fun v w' => K (upd ρ o.dst v) w') := by
  unfold vcG at h
  unfold SG wantedF
  cases hg : o.guard with
  | none => simp only [hg] at h; rw [if_pos rfl]; exact vcOp_sound hT h
  | some g =>
    obtain ⟨j, want⟩ := g
    simp only [hg] at h
    cases hj : dstOf all j with
    | none => simp only [hj] at h ⊢; rw [if_neg (by simp)]; exact h
    | some d =>
      simp only [hj] at h ⊢
      cases hv : ρ d with
      | bool b =>
        simp only [hv] at h ⊢
        rw [br_at, upd_same hv] at h
        cases hx : xor b want with
        | true => rw [hx] at h; rw [if_neg (by cases b <;> cases want <;> simp_all)]; exact h
        | false => rw [hx] at h; rw [if_pos (by cases b <;> cases want <;> simp_all)]; exact vcOp_sound hT h
      | _ => simp only [hv] at h ⊢; rw [if_neg (by simp)]; exact h

theorem vcOpQ_step {P : Program} {T : Tab} (hT : Ties P T) {w : World} {o : Oper} {ρ : Fr} {K : Value → Prop} (h : vcOpQ P T w o ρ K) :
    ∃ v, (∀ w', Ext w w' → Step P o ρ w' (fun v' w'' => v' = v ∧ Ext w' w'')) ∧ K v := by
  unfold vcOpQ at h
  split at h
  · rename_i p hp
    obtain ⟨v, hk, hr⟩ := vcP_sound hT hp h
    exact ⟨v, fun w' _ => raw_value (hr w') ⟨rfl, Ext.refl _⟩, hk⟩
  · rename_i hp
    split at h
    case h_1 t ad ho =>
      split at h
      · rename_i r b off hr ha
        have hf := ties_look hT hr
        cases hg : r.agg with
        | true =>
          rw [hg] at h
          obtain ⟨vs, hl, hc, hk⟩ := h
          refine ⟨_, fun w' hx => raw_value (w' := w') (v := .agg vs.toArray) ?_ ⟨rfl, Ext.refl _⟩, hk⟩
          have h1 := hf.run_agg w'
          have h2 := hf.run_size w'
          have h3 := run_cells (P := P) (CellsAt.ext hx hc)
          rw [hl] at h3
          rw [hg] at h1
          simp [execOp, ho, ha, Instr.loadAt, Instr.sureAddr, loadVar, h1, h2, h3]
        | false =>
          rw [hg] at h
          obtain ⟨v, hc, hk⟩ := h
          refine ⟨_, fun w' hx => raw_value (w' := w') (v := v) ?_ ⟨rfl, Ext.refl _⟩, hk⟩
          have h1 := hf.run_agg w'
          rw [hg] at h1
          have hc' := hx.cell hc
          simp [execOp, ho, ha, Instr.loadAt, Instr.sureAddr, loadVar, h1, load, Sem.run, hc']
      · exact h.elim
    case h_2 c ho =>
      split at h
      · rename_i f hc
        split at h
        · rename_i g fi ca hf
          obtain ⟨v, hcalls, hk⟩ := h
          refine ⟨v, fun w' hx => ?_, hk⟩
          obtain ⟨⟨fn, hfn, hbody, hname⟩, hcall⟩ := hcalls w' hx
          refine .inr ⟨g, _, ?_, hcall.mono fun e w'' ⟨v', he, h⟩ => ⟨v', he, h⟩⟩
          have hb : ¬ fn.body = none := by cases hx : fn.body <;> simp_all
          have hname' : ¬ fn.name = "runtime.NumGoroutine" := by simpa using hname
          have e : (fi.toList ++ evl ρ c.args.toList ++ ca.toList).toArray = fi ++ c.args.map (ev ρ) ++ ca := by
            rw [evl_map]; simp
          rw [e]
          simp [execOp, ho, resolve, hc, hf, Deferred.ofValue, invoke, callFunc, hfn, hb, hname', program, Sem.run]
        · exact h.elim
      · obtain ⟨v, hr, hk⟩ := h
        exact ⟨v, fun w' hx => raw_value (hr w' hx) ⟨rfl, Ext.refl _⟩, hk⟩
    case h_3 =>
      obtain ⟨v, hr, hk⟩ := h
      exact ⟨v, fun w' hx => raw_value (hr w' hx) ⟨rfl, Ext.refl _⟩, hk⟩

theorem vcQG_SG {P : Program} {T : Tab} (hT : Ties P T) {all : List Oper} {o : Oper} {ρ : Fr} {w : World} {K : Fr → Prop} (h : vcQG P T w all o ρ K) :
    ∃ v, (∀ w', Ext w w' → SG P all o ρ w' (fun v' w'' => v' = v ∧ Ext w' w'')) ∧ K (upd ρ o.dst v) := by
  unfold vcQG at h
  have skip : wantedF all o ρ = false → K (upd ρ o.dst undef) → ∃ v, (∀ w', Ext w w' → SG P all o ρ w' (fun v' w'' => v' = v ∧ Ext w' w'')) ∧ K (upd ρ o.dst v) := fun hw hk =>
    ⟨undef, fun w' _ => by unfold SG; rw [if_neg (by simp [hw])]; exact ⟨rfl, Ext.refl _⟩, hk⟩
  have run : wantedF all o ρ = true → vcOpQ P T w o ρ (fun v => K (upd ρ o.dst v)) → ∃ v, (∀ w', Ext w w' → SG P all o ρ w' (fun v' w'' => v' = v ∧ Ext w' w'')) ∧ K (upd ρ o.dst v) := fun hw h => by
    obtain ⟨v, h1, h2⟩ := vcOpQ_step hT h
    exact ⟨v, fun w' hx => by unfold SG; rw [if_pos hw]; exact h1 w' hx, h2⟩
  cases hg : o.guard with
  | none => simp only [hg] at h; exact run (by simp [wantedF, hg]) h
  | some g =>
    obtain ⟨j, want⟩ := g
    simp only [hg] at h
    cases hj : dstOf all j with
    | none => simp only [hj] at h; exact skip (by simp [wantedF, hg, hj]) h
    | some d =>
      simp only [hj] at h
      cases hv : ρ d with
      | bool b =>
        simp only [hv] at h
        rw [br_at, upd_same hv] at h
        cases hx : xor b want with
        | true => rw [hx] at h; exact skip (by simp only [wantedF, hg, hj, hv]; cases b <;> cases want <;> simp_all) h
        | false => rw [hx] at h; exact run (by simp only [wantedF, hg, hj, hv]; cases b <;> cases want <;> simp_all) h
      | _ => simp only [hv] at h; exact skip (by simp [wantedF, hg, hj, hv]) h

theorem vcHyb_Hyb {P : Program} {T : Tab} (hT : Ties P T) {all : List Oper} {Q : Post} : ∀ (L : Ord) (ρ : Fr) (w : World), vcHyb P T all Q L ρ w → Hyb P all (fun ρ w => Q .normal ρ w) L ρ w := by
  intro L
  induction L with
  | nil => intro ρ w h; exact h
  | cons x L ih =>
    obtain ⟨i, k⟩ := x
    intro ρ w h
    simp only [vcHyb, Hyb] at *
    cases ho : nthO all i with
    | none => simp only [ho] at h
    | some o =>
      simp only [ho] at h ⊢
      cases k with
      | quiet =>
        obtain ⟨v, h1, h2⟩ := vcQG_SG hT h
        exact ⟨v, h1, ih _ _ h2⟩
      | loud => exact fun w' hx => (vcG_SG hT (h w' hx)).mono fun v w'' h => ⟨h.1, ih _ _ h.2⟩
      | wild => exact fun w' hx => (vcG_SG hT (h w' hx)).mono fun v w'' h => ih _ _ h

theorem Hyb.ext {P : Program} {all : List Oper} {Q : Fr → World → Prop} : ∀ {L : Ord} {ρ : Fr} {w w' : World}, Hyb P all Q L ρ w → Ext w w' → Hyb P all Q L ρ w' := by
  intro L
  induction L with
  | nil => intro ρ w w' h hx w'' hx'; exact h w'' (hx.trans hx')
  | cons x L ih =>
    obtain ⟨i, k⟩ := x
    intro ρ w w' h hx
    simp only [Hyb] at *
    cases ho : nthO all i with
    | none => simp only [ho] at h
    | some o =>
      simp only [ho] at h ⊢
      cases k with
      | quiet => obtain ⟨v, h1, h2⟩ := h; exact ⟨v, fun w'' hx' => h1 w'' (hx.trans hx'), ih h2 hx⟩
      | loud => exact fun w'' hx' => h w'' (hx.trans hx')
      | wild => exact fun w'' hx' => h w'' (hx.trans hx')

theorem upd_ne {ρ : Fr} {dst : Option Nat} {v : Value} {t : Nat} (h : ∀ d, dst = some d → d ≠ t) : upd ρ dst v t = ρ t := by
  cases dst with
  | none => rfl
  | some d =>
    simp only [upd]
    cases hb : Nat.beq t d with
    | false => rfl
    | true => exact absurd (Nat.eq_of_beq_eq_true hb).symm (h d rfl)

theorem upd_comm {ρ : Fr} {x y : Option Nat} {v u : Value} (h : ∀ d, x = some d → y ≠ some d) : upd (upd ρ x v) y u = upd (upd ρ y u) x v := by
  cases x with
  | none => rfl
  | some d =>
    cases y with
    | none => rfl
    | some e =>
      have hne : d ≠ e := fun he => h d rfl (he ▸ rfl)
      funext t
      simp only [upd]
      cases h1 : Nat.beq t e with
      | true =>
        have := Nat.eq_of_beq_eq_true h1
        cases h2 : Nat.beq t d with
        | true => exact absurd ((Nat.eq_of_beq_eq_true h2).symm.trans this) hne
        | false => rfl
      | false => rfl

theorem SG.congr {P : Program} {ops : Array Oper} {o : Oper} (hs : ∀ cs b, o.op ≠ .select cs b) {ρ ρ' : Fr} (h : ∀ t ∈ o.looksAt ops, ρ t = ρ' t) {w : World} {K : Value → World → Prop}
    (hh : SG P ops.toList o ρ w K) : SG P ops.toList o ρ' w K := by
  have he : execOp (ev ρ) o = execOp (ev ρ') o := execOp_congr o hs fun x hx => by
    cases x with
    | tmp t => exact h t (List.mem_append_left _ (List.mem_filterMap.2 ⟨.tmp t, by simpa using hx, rfl⟩))
    | _ => rfl
  have hw : wantedF ops.toList o ρ = wantedF ops.toList o ρ' := by
    unfold wantedF
    cases hg : o.guard with
    | none => rfl
    | some g =>
      obtain ⟨j, want⟩ := g
      dsimp only
      cases hj : dstOf ops.toList j with
      | none => rfl
      | some d =>
        dsimp only
        have : d ∈ o.looksAt ops := by
          unfold Oper.looksAt
          rw [hg]
          refine List.mem_append_right _ ?_
          unfold dstOf at hj
          rw [nthO_eq, Array.getElem?_toList] at hj
          cases hh : ops[j]? with
          | none => rw [hh] at hj; cases hj
          | some oj => rw [hh] at hj; simp at hj; simp [hh, hj]
        rw [h d this]
  unfold SG Step Raw at *
  rw [← hw, ← he]
  exact hh

theorem SG.upd {P : Program} {ops : Array Oper} {o : Oper} (hs : ∀ cs b, o.op ≠ .select cs b) {ρ : Fr} {dst : Option Nat} {v : Value} (h : ∀ d, dst = some d → d ∉ o.looksAt ops) {w : World} {K : Value → World → Prop} :
    SG P ops.toList o (upd ρ dst v) w K ↔ SG P ops.toList o ρ w K := by
  have key : ∀ t ∈ o.looksAt ops, Vc.upd ρ dst v t = ρ t := fun t ht => upd_ne fun d hd e => h d hd (e ▸ ht)
  exact ⟨SG.congr hs key, SG.congr hs fun t ht => (key t ht).symm⟩

theorem hyb_take {P : Program} {ops : Array Oper} {Q : Fr → World → Prop} (hsel : ∀ (j : Nat) (o : Oper), nthO ops.toList j = some o → ∀ cs b, o.op ≠ .select cs b) {i : Nat} {k : Kd} {oi : Oper} (hi : nthO ops.toList i = some oi) (hk : k ≠ .wild) (Y : Ord) :
    ∀ (X : Ord), (∀ x ∈ X, x.2 = .quiet ∧ ∀ oj, nthO ops.toList x.1 = some oj → oi.apart ops oj = true) → ∀ (ρ : Fr) (w0 : World), Hyb P ops.toList Q (X ++ (i, k) :: Y) ρ w0 →
      ∀ w, Ext w0 w → SG P ops.toList oi ρ w (fun v w' => Ext w w' ∧ Hyb P ops.toList Q (X ++ Y) (upd ρ oi.dst v) w') := by
  intro X
  induction X with
  | nil =>
    intro _ ρ w0 h w hx
    simp only [List.nil_append, Hyb, hi] at h
    cases k with
    | quiet =>
      obtain ⟨v, h1, h2⟩ := h
      refine (h1 w hx).mono ?_
      rintro v' w' ⟨rfl, hx'⟩
      exact ⟨hx', h2.ext (hx.trans hx')⟩
    | loud => exact h w hx
    | wild => exact absurd rfl hk
  | cons x X ih =>
    obtain ⟨j, kj⟩ := x
    intro hX ρ w0 h w hx
    obtain ⟨hq, hap⟩ := hX _ (List.mem_cons_self ..)
    simp only at hq hap
    subst hq
    simp only [List.cons_append, Hyb] at h
    cases hj : nthO ops.toList j with
    | none => simp only [hj] at h
    | some oj =>
      simp only [hj] at h
      obtain ⟨vj, h1, h2⟩ := h
      obtain ⟨a1, a2, a3⟩ := Oper.apart_spec (hap _ hj)
      have := ih (fun x hx => hX x (List.mem_cons_of_mem _ hx)) _ _ h2 w hx
      rw [SG.upd (hsel _ _ hi) a3] at this
      refine this.mono ?_
      rintro v w' ⟨hx', h⟩
      refine ⟨hx', ?_⟩
      simp only [List.cons_append, Hyb, hj]
      refine ⟨vj, fun w'' hx'' => ?_, ?_⟩
      · rw [SG.upd (hsel _ _ hj) a1]
        exact h1 w'' ((hx.trans hx').trans hx'')
      · rw [upd_comm a2]; exact h

def direct (ops : Array Oper) (i j : Nat) : Bool :=
  match nthO ops.toList i with
  | some o => o.after.toList.any fun e => Region.binds .any e && Nat.beq e.on j
  | none => false

def apartB (ops : Array Oper) (i j : Nat) : Bool :=
  match nthO ops.toList i, nthO ops.toList j with
  | some x, some y => x.apart ops y
  | _, _ => false

def pairB (ops : Array Oper) (x y : Nat × Kd) : Bool :=
  !direct ops x.1 y.1 && !Nat.beq x.1 y.1 && (direct ops y.1 x.1 || match x.2, y.2 with
    | .quiet, .wild => false
    | .quiet, _ => apartB ops y.1 x.1
    | _, _ => true)

def isQuiet : Kd → Bool
  | .quiet => true
  | _ => false
theorem isQuiet_eq {k : Kd} (h : isQuiet k = true) : k = .quiet := by cases k <;> simp_all [isQuiet]

def ordB (ops : Array Oper) : Ord → Bool
  | [] => true
  | x :: Y => !direct ops x.1 x.1 && Nat.blt x.1 ops.size && Y.all (pairB ops x) && (isQuiet x.2 || Y.all fun y => (x :: Y).any fun e => direct ops y.1 e.1) && ordB ops Y

def aftB (ops : Array Oper) : Bool := ops.toList.all fun o => o.after.toList.all fun e => Nat.blt e.on ops.size

def hybB (ops : Array Oper) (L : Ord) : Bool :=
  Region.noSelect ops && aftB ops && (List.range ops.size).all (fun j => L.any fun x => Nat.beq x.1 j) && Nat.beq L.length ops.size && ordB ops L

theorem ordB_drop {ops : Array Oper} {i : Nat × Kd} {Y : Ord} : ∀ {X : Ord}, (∀ x ∈ X, x.2 = .quiet) → ordB ops (X ++ i :: Y) = true → ordB ops (X ++ Y) = true := by
  intro X
  induction X with
  | nil => intro _ h; simp only [List.nil_append, ordB, Bool.and_eq_true] at h ⊢; exact h.2
  | cons x X ih =>
    intro hX h
    simp only [List.cons_append, ordB, Bool.and_eq_true, List.all_append, List.all_cons] at h ⊢
    refine ⟨⟨⟨h.1.1.1, h.1.1.2.1, h.1.1.2.2.2⟩, ?_⟩, ih (fun y hy => hX y (List.mem_cons_of_mem _ hy)) h.2⟩
    rw [hX x (List.mem_cons_self ..)]
    rfl

theorem ordB_before {ops : Array Oper} {i : Nat × Kd} {Y : Ord} : ∀ {X : Ord}, ordB ops (X ++ i :: Y) = true → (∀ e ∈ X ++ i :: Y, direct ops i.1 e.1 = false) →
    ∀ x ∈ X, x.2 = .quiet ∧ pairB ops x i = true := by
  intro X
  induction X with
  | nil => intro _ _ x hx; cases hx
  | cons x X ih =>
    intro h hd y hy
    simp only [List.cons_append, ordB, Bool.and_eq_true] at h
    rcases List.mem_cons.1 hy with rfl | hy
    · refine ⟨?_, List.all_eq_true.1 h.1.1.2 i (by simp)⟩
      cases hq : isQuiet y.2 with
      | true => exact isQuiet_eq hq
      | false =>
        have := h.1.2
        rw [hq, Bool.false_or] at this
        have := List.all_eq_true.1 this i (by simp)
        obtain ⟨e, he, hde⟩ := List.any_eq_true.1 this
        rw [hd e (by simpa using he)] at hde
        cases hde
    · exact ih h.2 (fun e he => hd e (by simp only [List.cons_append]; exact List.mem_cons_of_mem _ he)) y hy

theorem ordB_mem {ops : Array Oper} : ∀ {L : Ord}, ordB ops L = true → ∀ x ∈ L, x.1 < ops.size ∧ direct ops x.1 x.1 = false := by
  intro L
  induction L with
  | nil => intro _ x hx; cases hx
  | cons y L ih =>
    intro h x hx
    simp only [ordB, Bool.and_eq_true, Bool.not_eq_true', Nat.blt_eq] at h
    rcases List.mem_cons.1 hx with rfl | hx
    · exact ⟨h.1.1.1.2, h.1.1.1.1⟩
    · exact ih h.2 x hx

theorem ordB_tail {ops : Array Oper} {Y : Ord} : ∀ {X : Ord}, ordB ops (X ++ Y) = true → ordB ops Y = true := by
  intro X
  induction X with
  | nil => exact id
  | cons x X ih => intro h; simp only [List.cons_append, ordB, Bool.and_eq_true] at h; exact ih h.2

theorem direct_of {ops : Array Oper} {i : Nat} {o : Oper} (ho : ops[i]? = some o) {e : Edge} (he : e ∈ o.after) (hb : Region.binds .any e = true) : direct ops i e.on = true := by
  unfold direct
  rw [nthO_eq, Array.getElem?_toList, ho]
  exact List.any_eq_true.2 ⟨e, by simpa using he, by simp [hb]⟩

theorem direct_is {ops : Array Oper} {i j : Nat} {o : Oper} (ho : ops[i]? = some o) (h : direct ops i j = true) : ∃ e ∈ o.after, Region.binds .any e = true ∧ e.on = j := by
  unfold direct at h
  rw [nthO_eq, Array.getElem?_toList, ho] at h
  obtain ⟨e, he, hb⟩ := List.any_eq_true.1 h
  simp only [Bool.and_eq_true, Nat.beq_eq] at hb
  exact ⟨e, by simpa using he, hb.1, hb.2⟩

theorem any_sound {P : Program} {ops : Array Oper} {n : Nat} {Q : Post} (hfit : ops.toList.all (opFits n) = true) (hs : Region.noSelect ops = true) (haft : aftB ops = true) :
    ∀ (fuel : Nat) (L : Ord) (listed : Array Bool) (a : Act) (w : World), L.length = fuel → listed.size = ops.size → ordB ops L = true →
      (∀ j, j < ops.size → (listed.getD j true = false ↔ ∃ x ∈ L, x.1 = j)) → a.tmps.size = n → a.defers = [] → Hyb P ops.toList (fun ρ w => Q .normal ρ w) L (fr a) w →
      wpAny P .any ops (Lift n Q) fuel listed a w := by
  intro fuel
  induction fuel with
  | zero =>
    intro L listed a w hl hsz hord hlisted hn hd h
    have : L = [] := List.eq_nil_of_length_eq_zero hl
    subst this
    refine ⟨?_, hn, hd, h w (Ext.refl _)⟩
    unfold Region.ready
    rw [List.filter_eq_nil_iff]
    intro j hj
    have := hlisted j (List.mem_range.1 hj)
    simp only [List.not_mem_nil, false_and, exists_false, iff_false] at this
    simp_all
  | succ fuel ih =>
    intro L listed a w hl hsz hord hlisted hn hd h
    have sel : ∀ (j : Nat) (o : Oper), nthO ops.toList j = some o → ∀ cs b, o.op ≠ .select cs b := fun j o ho cs b => by
      rw [nthO_eq, Array.getElem?_toList] at ho
      exact Region.noSelect_spec hs j o cs b ho
    have mark : ∀ j, j < ops.size → (¬ ∃ x ∈ L, x.1 = j) → listed.getD j false = true := fun j hj hno => by
      have := mt (hlisted j hj).1 hno
      have hj' : j < listed.size := by omega
      simp only [Array.getD_eq_getD_getElem?, Array.getElem?_eq_getElem hj', Option.getD_some] at this ⊢
      simpa using this
    constructor
    · intro hr
      exfalso
      match L, hl with
      | x :: Y, _ =>
        have hx := ordB_mem hord x (List.mem_cons_self ..)
        have hmem : x.1 ∈ Region.ready .any ops listed := by
          rw [mem_ready]
          refine ⟨(hlisted x.1 hx.1).2 ⟨x, List.mem_cons_self .., rfl⟩, ops[x.1]'hx.1, by simp [hx.1], ?_⟩
          intro e he hb
          have hdir : direct ops x.1 e.on = true := direct_of (Array.getElem?_eq_getElem hx.1) he hb
          have hlt : e.on < ops.size := by
            have h1 := List.all_eq_true.1 haft (ops[x.1]'hx.1) (by simp)
            have h2 := List.all_eq_true.1 h1 e (by simpa using he)
            simpa using h2
          refine mark _ hlt ?_
          rintro ⟨y, hy, hye⟩
          rcases List.mem_cons.1 hy with rfl | hy
          · have := hx.2; rw [hye] at this hdir; rw [hdir] at this; cases this
          · simp only [ordB, Bool.and_eq_true] at hord
            have := List.all_eq_true.1 hord.1.1.2 y hy
            simp only [pairB, Bool.and_eq_true, hye, hdir] at this
            exact absurd this.1.1 (by simp)
        rw [hr] at hmem
        cases hmem
    · intro i hi
      obtain ⟨hun, o, ho, hall⟩ := mem_ready.1 hi
      have hlt : i < ops.size := (Array.getElem?_eq_some_iff.1 ho).1
      obtain ⟨⟨i', k⟩, hxL, rfl⟩ := (hlisted i hlt).1 hun
      obtain ⟨X, Y, rfl⟩ := List.append_of_mem hxL
      simp only at ho hall hun hlt hi
      have nodir : ∀ e ∈ X ++ (i', k) :: Y, direct ops i' e.1 = false := fun e he => by
        cases hd : direct ops i' e.1 with
        | false => rfl
        | true =>
          obtain ⟨g, hg, hb, hge⟩ := direct_is ho hd
          have h1 := hall g hg hb
          have h2 := (ordB_mem hord e he).1
          have h3 := (hlisted e.1 h2).2 ⟨e, he, rfl⟩
          have hj' : e.1 < listed.size := by omega
          rw [hge] at h1
          simp only [Array.getD_eq_getD_getElem?, Array.getElem?_eq_getElem hj', Option.getD_some] at h1 h3
          rw [h1] at h3
          cases h3
      have before := ordB_before hord nodir
      have hno : nthO ops.toList i' = some o := by rw [nthO_eq, Array.getElem?_toList]; exact ho
      have pb : ∀ x ∈ X, x.2 = .quiet ∧ (k = .wild → False) ∧ apartB ops i' x.1 = true := fun x hx => by
        obtain ⟨h1, h2⟩ := before x hx
        have h3 := nodir x (List.mem_append_left _ hx)
        simp only [pairB, h1, h3, Bool.and_eq_true, Bool.false_or] at h2
        cases k with
        | wild => exact absurd h2.2 (by simp)
        | quiet => exact ⟨h1, by simp, h2.2⟩
        | loud => exact ⟨h1, by simp, h2.2⟩
      have step : SG P ops.toList o (fr a) w (fun v w' => Hyb P ops.toList (fun ρ w => Q .normal ρ w) (X ++ Y) (upd (fr a) o.dst v) w') := by
        by_cases hk : k = .wild
        · subst hk
          have hX : X = [] := by
            cases X with
            | nil => rfl
            | cons x X => exact ((pb x (List.mem_cons_self ..)).2.1 rfl).elim
          subst hX
          simp only [List.nil_append, Hyb, hno] at h
          exact h w (Ext.refl _)
        · refine (hyb_take sel hno hk Y X (fun x hx => ⟨(pb x hx).1, fun oj hoj => ?_⟩) (fr a) w h w (Ext.refl _)).mono fun v w' h => h.2
          have := (pb x hx).2.2
          simp only [apartB, hno, hoj] at this
          exact this
      have nd : ∀ x ∈ X ++ Y, x.1 ≠ i' := by
        intro x hx e
        rcases List.mem_append.1 hx with hx | hx
        · have := (before x hx).2
          simp only [pairB, Bool.and_eq_true] at this
          exact absurd this.1.2 (by simp [e])
        · have h1 : ordB ops ((i', k) :: Y) = true := by
            exact ordB_tail hord
          simp only [ordB, Bool.and_eq_true] at h1
          have := List.all_eq_true.1 h1.1.1.2 x hx
          simp only [pairB, Bool.and_eq_true] at this
          exact absurd this.1.2 (by simp [e])
      have next : ∀ a w, a.tmps.size = n → a.defers = [] → Hyb P ops.toList (fun ρ w => Q .normal ρ w) (X ++ Y) (fr a) w → wpAny P .any ops (Lift n Q) fuel (listed.setIfInBounds i' true) a w := fun a w hn hd h => by
        refine ih (X ++ Y) _ a w ?_ (by simpa using hsz) (ordB_drop (fun x hx => (before x hx).1) hord) ?_ hn hd h
        · simp only [List.length_append, List.length_cons] at hl ⊢; omega
        · intro j hj
          by_cases e : j = i'
          · subst e
            constructor
            · intro h; exact absurd h (by simp [hsz, hlt])
            · rintro ⟨x, hx, he⟩; exact absurd he (nd x hx)
          · rw [getD_set_ne true (Ne.symm e), hlisted j hj]
            constructor
            · rintro ⟨x, hx, rfl⟩
              refine ⟨x, ?_, rfl⟩
              rcases List.mem_append.1 hx with hx | hx
              · exact List.mem_append_left _ hx
              · rcases List.mem_cons.1 hx with rfl | hx
                · exact absurd rfl e
                · exact List.mem_append_right _ hx
            · rintro ⟨x, hx, rfl⟩
              refine ⟨x, ?_, rfl⟩
              rcases List.mem_append.1 hx with hx | hx
              · exact List.mem_append_left _ hx
              · exact List.mem_append_right _ (List.mem_cons_of_mem _ hx)
      have hfo : opFits n o = true := List.all_eq_true.1 hfit o (by rw [Array.mem_toList_iff]; exact Array.mem_of_getElem? ho)
      unfold wpOp
      simp only [ho]
      have hy : Region.wanted o (yielded ops a.tmps) = wantedF ops.toList o (fr a) := by
        unfold Region.wanted wantedF
        cases hg : o.guard with
        | none => rfl
        | some g =>
          obtain ⟨j, want⟩ := g
          have := yielded_fr ops a j
          dsimp only
          rw [this]
          cases hj : dstOf ops.toList j with
          | none => rfl
          | some d =>
            dsimp only
            cases hv : fr a d <;> simp
      rw [hy]
      unfold SG at step
      split
      · rename_i hw
        rw [if_pos hw] at step
        exact .inl (wp_of_step hn hd hfo next step)
      · rename_i hw
        rw [if_neg hw] at step
        exact next _ _ (by rw [put_size, hn]) (by rw [put_defers, hd]) (by rw [fr_put hn hfo]; exact step)

/-- The rule: an order in which the quiet ones come as early as they can. -/
theorem hyb_rule {P : Program} {T : Tab} (hT : Ties P T) (hm : P.follows .mixedOrders = true) {ops : Array Oper} {Q : Post} {ρ : Fr} {w : World} (L : Ord) (hB : hybB ops L = true)
    (h : vcHyb P T ops.toList Q L ρ w) : DrawRaw P ops Q ρ w := by
  intro id n a hfit hn hd hfr
  simp only [hybB, Bool.and_eq_true, Nat.beq_eq] at hB
  refine wp_region_any hm ?_
  refine any_sound hfit hB.1.1.1.1 hB.1.1.1.2 ops.size L _ a _ hB.1.2 (by simp) hB.2 ?_ hn hd ?_
  · intro j hj
    have := List.all_eq_true.1 hB.1.1.2 j (List.mem_range.2 hj)
    obtain ⟨x, hx, hxj⟩ := List.any_eq_true.1 this
    constructor
    · intro _; exact ⟨x, hx, by simpa using hxj⟩
    · intro _; simp [hj]
  · subst hfr
    exact (vcHyb_Hyb hT L _ _ h).ext ⟨rfl, rfl, rfl, Nat.le_refl _, fun _ _ => rfl⟩

end Go.Vc
