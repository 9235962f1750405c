/- A calculus of weakest preconditions over the model's code, by structural recursion, with frames as functions; its soundness. No program in sight. -/
import Derived.WalkKit
import Derived.Deep.Quiet
import Derived.Laws.Cover3
import Derived.WideShapes
namespace Go.Vc
open Go Go.RowKit

/-- A frame as a function. -/
abbrev Fr := Nat → Value

def upd (ρ : Fr) (d : Option Nat) (v : Value) : Fr :=
  match d with
  | none => ρ
  | some d => fun t => bif Nat.beq t d then v else ρ t

def ev (ρ : Fr) : Operand → Value
  | .tmp t => ρ t
  | .const v => v
  | .global g => .pointer (some ⟨g, 0, none⟩)
  | .func f => .func (.func f) #[] #[]

def evl (ρ : Fr) : List Operand → List Value
  | [] => []
  | x :: l => ev ρ x :: evl ρ l

/-- The truth of a test: it opens where the test is a literal. -/
noncomputable def br (b : Bool) (K : Bool → Prop) : Prop := @Bool.rec (fun _ => Prop) (K false) (K true) b

theorem br_at {b : Bool} {K : Bool → Prop} : br b K ↔ K b := by cases b <;> rfl
theorem br_split {b : Bool} {x y : Prop} (h1 : b = true → x) (h2 : b = false → y) : @Bool.rec (fun _ => Prop) y x b := by
  cases b
  · exact h2 rfl
  · exact h1 rfl
theorem br_dec {p : Prop} {inst : Decidable p} {x y : Prop} (h1 : p → x) (h2 : ¬ p → y) : @Bool.rec (fun _ => Prop) y x (@decide p inst) :=
  br_split (fun h => h1 (of_decide_eq_true h)) (fun h => h2 (of_decide_eq_false h))
theorem br_true {b : Bool} {x y : Prop} (hb : b = true) (h : x) : @Bool.rec (fun _ => Prop) y x b := by subst hb; exact h
theorem br_false {b : Bool} {x y : Prop} (hb : b = false) (h : y) : @Bool.rec (fun _ => Prop) y x b := by subst hb; exact h
theorem br_dec_true {p : Prop} {inst : Decidable p} {x y : Prop} (hp : p) (h1 : x) : @Bool.rec (fun _ => Prop) y x (@decide p inst) :=
  br_true (decide_eq_true hp) h1
theorem br_dec_false {p : Prop} {inst : Decidable p} {x y : Prop} (hp : ¬ p) (h1 : y) : @Bool.rec (fun _ => Prop) y x (@decide p inst) :=
  br_false (decide_eq_false hp) h1
theorem br_not {b : Bool} {x y : Prop} (h1 : b = false → x) (h2 : b = true → y) : @Bool.rec (fun _ => Prop) y x (!b) := by
  cases b
  · exact h1 rfl
  · exact h2 rfl

theorem br_ndec {p : Prop} {inst : Decidable p} {x y : Prop} (h1 : ¬ p → x) (h2 : p → y) : @Bool.rec (fun _ => Prop) y x (!(@decide p inst)) :=
  br_not (fun h => h1 (of_decide_eq_false h)) (fun h => h2 (of_decide_eq_true h))

/-! ### Types: what the calculus wants to know of them -/
structure TRow where
  agg : Bool
  fs : List (Nat × Nat)
  desc : TypeDesc
  size : Nat
  bytes : Nat
  zero : Value
  deriving Inhabited

def keyOf : TypeDesc → Bool × List (Nat × Nat) × TypeDesc
  | .struct fields => (true, fields.toList.map (fun f => (f.offset, f.type)), .invalid)
  | .array n e => (true, [], .array n e)
  | d => (false, [], d)

abbrev Tab := List (Nat × TRow)

def look : Tab → Nat → Option TRow
  | [], _ => none
  | (k, r) :: l, t => bif Nat.beq k t then some r else look l t

def TRow.fits (P : Program) (t : Nat) (r : TRow) : Prop :=
  (P.info? t).map (fun i => (i.size, i.bytes, i.zero)) = some (r.size, r.bytes, some r.zero) ∧
  (P.underlying t).map keyOf = some (r.agg, r.fs, r.desc)

def Ties (P : Program) : Tab → Prop
  | [] => True
  | (t, r) :: l => r.fits P t ∧ Ties P l

theorem ties_look {P : Program} {T : Tab} (h : Ties P T) {t : Nat} {r : TRow} (hl : look T t = some r) : r.fits P t := by
  induction T with
  | nil => cases hl
  | cons x l ih =>
    obtain ⟨k, r'⟩ := x
    simp only [look] at hl
    cases hk : Nat.beq k t with
    | true =>
      rw [hk] at hl
      simp only [cond_true, Option.some.injEq] at hl
      have := Nat.eq_of_beq_eq_true hk
      subst this
      subst hl
      exact h.1
    | false =>
      rw [hk] at hl
      exact ih h.2 hl

section types
variable {P : Program} {t : Nat} {r : TRow}
theorem TRow.fits.info (h : r.fits P t) : ∃ i, P.info? t = some i ∧ i.size = r.size ∧ i.bytes = r.bytes ∧ i.zero = some r.zero := by
  obtain ⟨i, hi, hz⟩ := Option.map_eq_some_iff.1 h.1
  simp only [Prod.mk.injEq] at hz
  exact ⟨i, hi, hz.1, hz.2.1, hz.2.2⟩
theorem TRow.fits.under (h : r.fits P t) : ∃ d, P.underlying t = some d ∧ keyOf d = (r.agg, r.fs, r.desc) := by
  obtain ⟨d, hd, hk⟩ := Option.map_eq_some_iff.1 h.2
  exact ⟨d, hd, hk⟩
theorem TRow.fits.plain (h : r.fits P t) (ha : r.agg = false) : P.underlying t = some r.desc := by
  obtain ⟨d, hd, hk⟩ := h.under
  rw [hd]
  cases d <;> simp_all [keyOf]
theorem TRow.fits.struct (h : r.fits P t) (ha : r.agg = true) (hd : r.desc = .invalid) : ∃ fields, P.underlying t = some (.struct fields) ∧ fields.toList.map (fun f => (f.offset, f.type)) = r.fs := by
  obtain ⟨d, hd', hk⟩ := h.under
  cases d <;> simp_all [keyOf]
theorem TRow.fits.run_size (h : r.fits P t) (w : World) : (sizeOf t).run P w = .ok r.size w := by
  obtain ⟨i, hi, hs, _⟩ := h.info
  simp [sizeOf, typeInfo, hi, hs]
theorem TRow.fits.run_zero (h : r.fits P t) (w : World) : (zeroValue t).run P w = .ok r.zero w := by
  obtain ⟨i, hi, _, _, hz⟩ := h.info
  simp [zeroValue, typeInfo, hi, hz]
theorem TRow.fits.run_agg (h : r.fits P t) (w : World) : (isAgg t).run P w = .ok r.agg w := by
  obtain ⟨d, hd, hk⟩ := h.under
  have e : r.agg = (keyOf d).1 := by rw [hk]
  rw [e]
  cases d <;> simp [isAgg, run_underlying hd, keyOf]
end types

/-! ### Operations that touch no memory -/
def wrapped (k : IntKind) (n : Int) (K : Int → Prop) : Prop := ∃ c, k.wrap n = c ∧ K c

def bitsI (op : BinOp) (k : IntKind) (x y : Int) : Int :=
  let a := BitVec.ofInt k.bits x
  let b := BitVec.ofInt k.bits y
  match op with
  | .and => k.wrap (a &&& b).toNat
  | .or => k.wrap (a ||| b).toNat
  | .xor => k.wrap (a ^^^ b).toNat
  | _ => k.wrap (a &&& ~~~b).toNat

def vcInt (op : BinOp) (k : IntKind) (a b : Int) (K : Value → Prop) : Prop :=
  match op with
  | .add => wrapped k (a + b) fun c => K (.int k c)
  | .sub => wrapped k (a - b) fun c => K (.int k c)
  | .mul => wrapped k (a * b) fun c => K (.int k c)
  | .quo => b ≠ 0 ∧ wrapped k (a.tdiv b) fun c => K (.int k c)
  | .rem => b ≠ 0 ∧ ∃ c, a.tmod b = c ∧ K (.int k c)
  | .and => ∃ c, bitsI .and k a b = c ∧ K (.int k c)
  | .or => ∃ c, bitsI .or k a b = c ∧ K (.int k c)
  | .xor => ∃ c, bitsI .xor k a b = c ∧ K (.int k c)
  | .andNot => ∃ c, bitsI .andNot k a b = c ∧ K (.int k c)
  | .eql => K (.bool (decide (a = b)))
  | .neq => K (.bool (decide (a ≠ b)))
  | .lss => K (.bool (decide (a < b)))
  | .leq => K (.bool (decide (a ≤ b)))
  | .gtr => K (.bool (decide (b < a)))
  | .geq => K (.bool (decide (b ≤ a)))
  | .shl => 0 ≤ b ∧ wrapped k (a * 2 ^ min b.toNat k.bits) fun c => K (.int k c)
  | .shr => 0 ≤ b ∧ ∃ c, a.fdiv (2 ^ min b.toNat k.bits) = c ∧ K (.int k c)

def vcStr (op : BinOp) (x y : ByteArray) (K : Value → Prop) : Prop :=
  match op with
  | .add => x.size + y.size ≤ 9223372036854775807 ∧ K (.string (x ++ y))
  | .eql => K (.bool (decide (x = y)))
  | .neq => K (.bool (decide (x ≠ y)))
  | .lss => K (.bool (Op.bytesLess x.toList y.toList))
  | .geq => K (.bool (!Op.bytesLess x.toList y.toList))
  | .gtr => K (.bool (!(Op.bytesLess x.toList y.toList || decide (x = y))))
  | .leq => K (.bool (Op.bytesLess x.toList y.toList || decide (x = y)))
  | _ => False

def isShift : BinOp → Bool
  | .shl => true
  | .shr => true
  | _ => false

def vcBin (op : BinOp) (x y : Value) (K : Value → Prop) : Prop :=
  match x, y with
  | .int k a, .int k' b => bif decide (k = k') || isShift op then vcInt op k a b K else False
  | .string a, .string b => vcStr op a b K
  | _, _ => False

def asNil : Value → Bool
  | .pointer none => true
  | _ => false

def optEv (ρ : Fr) : Option Operand → Option Value
  | none => none
  | some x => some (ev ρ x)
def isInv : TypeDesc → Bool
  | .invalid => true
  | _ => false
theorem isInv_eq {d : TypeDesc} (h : isInv d = true) : d = .invalid := by cases d <;> simp_all [isInv]
theorem bif_none {α : Type} {b : Bool} {x p : α} (h : (bif b then none else some x) = some p) : b = false ∧ x = p := by cases b <;> simp_all
theorem bif_some {α : Type} {b : Bool} {x p : α} (h : (bif b then some x else none) = some p) : b = true ∧ x = p := by cases b <;> simp_all
/-- A bound of a cut: what stands there, or what goes without saying. -/
def bnd (d : Int) : Option Value → Option Int
  | none => some d
  | some (.int _ n) => some n
  | some _ => none

/-- An operation that looks at no memory. 'none': it is not one of these. -/
noncomputable def vcP (T : Tab) (o : Oper) (ρ : Fr) (K : Value → Prop) : Option Prop :=
  match o.op with
  | .move x => some (K (ev ρ x))
  | .assign x => some (K (ev ρ x))
  | .pick c a b => some (match ev ρ c with
      | .bool t => br t fun t => K (bif t then ev ρ a else ev ρ b)
      | _ => False)
  | .binOp op t x y _ => match ev ρ x, ev ρ y with
      | .int k a, .int k' b => some (vcBin op (.int k a) (.int k' b) K)
      | .string a, .string b => some (vcBin op (.string a) (.string b) K)
      | .bool a, .bool b => match look T t with
          | some r => match r.desc, op with
              | .bool, .eql => some (K (.bool (a == b)))
              | .bool, .neq => some (K (.bool (!(a == b))))
              | _, _ => none
          | none => none
      | .map m, .map none => match look T t with
          | some r => match r.desc, op with
              | .map _ _, .eql => bif r.agg then none else some (K (.bool m.isNone))
              | .map _ _, .neq => bif r.agg then none else some (K (.bool (!m.isNone)))
              | _, _ => none
          | none => none
      | _, _ => none
  | .unOp op _ x => match op, ev ρ x with
      | .not, .bool b => some (K (.bool (!b)))
      | .neg, .int k n => some (wrapped k (0 - n) fun c => K (.int k c))
      | _, _ => none
  | .convert src dst x => match look T src, look T dst, ev ρ x with
      | some _, some r, .int _ n => match r.desc with
          | .int k => bif r.agg then none else some (wrapped k n fun c => K (.int k c))
          | _ => none
      | _, _, _ => none
  | .nilCheck x => match ev ρ x with
      | .pointer (some a) => some (K (.pointer (some a)))
      | _ => none
  | .fieldAddr s x f => match look T s, ev ρ x with
      | some r, .pointer (some ⟨b, o, none⟩) => match r.fs[f]? with
          | some (off, ft) => match look T ft with
              | some q => bif r.agg && isInv r.desc && !Nat.beq q.size 0 then some (K (.pointer (some ⟨b, o + off, none⟩))) else none
              | none => none
          | none => none
      | _, _ => none
  | .indexAddr t x i => match look T t, ev ρ x, ev ρ i with
      | some r, .slice (some ⟨b, o, none⟩) len _, .int _ i => match r.desc with
          | .slice e => match look T e with
              | some q => bif r.agg then none else some ((0 ≤ i ∧ i < len) ∧ K (.pointer (some ⟨b, o + i.toNat * q.size, none⟩)))
              | none => none
          | _ => none
      | _, _, _ => none
  | .extract t i => match ev ρ t with
      | .tuple vs => match vs.toList[i]? with
          | some v => some (K v)
          | none => none
      | _ => none
  | .index t x i => match look T t, ev ρ x, ev ρ i with
      | some r, .string s, .int _ i => match r.desc with
          | .string => bif r.agg then none else some (∃ h : 0 ≤ i ∧ i.toNat < s.size, K (.int .u8 ((s[i.toNat]'h.2).toNat : Int)))
          | _ => none
      | _, _, _ => none
  | .slice t x lo hi mx => match mx, look T t, ev ρ x with
      | none, some r, .string s => match r.desc, bnd 0 (optEv ρ lo), bnd s.size (optEv ρ hi) with
          | .string, some l, some h => bif r.agg then none else some ((0 ≤ l ∧ l ≤ h ∧ h ≤ s.size) ∧ K (.string (s.extract l.toNat h.toNat)))
          | _, _, _ => none
      | none, some r, .slice a len cap => match r.desc, bnd 0 (optEv ρ lo), bnd len (optEv ρ hi) with
          | .slice e, some l, some h => match look T e with
              | some q => bif r.agg then none else some ((0 ≤ l ∧ l ≤ h ∧ h ≤ cap) ∧ K (.slice (if cap = l.toNat then a else a.map (·.add (l.toNat * q.size))) (h.toNat - l.toNat) (cap - l.toNat)))
              | none => none
          | _, _, _ => none
      | _, _, _ => none
  | .call c => match c.callee with
      | .builtin .len => match c.argTypes.toList, c.args.toList with
          | [t], [x] => match look T t, ev ρ x with
              | some r, .string s => match r.desc with
                  | .string => bif r.agg then none else some (K (.int .i64 s.size))
                  | _ => none
              | some r, .slice _ n _ => match r.desc with
                  | .slice _ => bif r.agg then none else some (K (.int .i64 n))
                  | _ => none
              | _, _ => none
          | _, _ => none
      | .builtin .min => match c.args.toList with
          | [x, y] => match ev ρ x, ev ρ y with
              | .int k a, .int _ b => some (K (.int k (if b < a then b else a)))
              | _, _ => none
          | _ => none
      | _ => none
  | _ => none

theorem bits_eq (op : BinOp) (h : op = .and ∨ op = .or ∨ op = .xor ∨ op = .andNot) (k : IntKind) (a b : Int) (P : Program) (w : World) :
    (Op.intBits op k a b).run P w = .ok (.int k (bitsI op k a b)) w := by
  rcases h with h | h | h | h <;> subst h <;> rfl

theorem vcInt_sound {op : BinOp} {k k' : IntKind} {a b : Int} {K : Value → Prop} {P : Program} (hk : k = k' ∨ op = .shl ∨ op = .shr) (h : vcInt op k a b K) :
    ∃ v, K v ∧ ∀ t w, (binOp op t (.int k a) (.int k' b)).run P w = .ok v w := by
  by_cases hs : op = .shl ∨ op = .shr
  · rcases hs with rfl | rfl
    · obtain ⟨h0, c, rfl, h⟩ := h
      exact ⟨_, h, fun t w => by simp [binOp, Op.shift, Int.not_lt.2 h0]⟩
    · obtain ⟨h0, c, rfl, h⟩ := h
      exact ⟨_, h, fun t w => by simp [binOp, Op.shift, Int.not_lt.2 h0]⟩
  · have hk' : k = k' := by
      rcases hk with h | h
      · exact h
      · exact absurd h hs
    subst hk'
    cases op
    case add => obtain ⟨c, rfl, h⟩ := h; exact ⟨_, h, fun t w => by simp [binOp, Op.intArith]⟩
    case sub => obtain ⟨c, rfl, h⟩ := h; exact ⟨_, h, fun t w => by simp [binOp, Op.intArith]⟩
    case mul => obtain ⟨c, rfl, h⟩ := h; exact ⟨_, h, fun t w => by simp [binOp, Op.intArith]⟩
    case quo => obtain ⟨h0, c, rfl, h⟩ := h; exact ⟨_, h, fun t w => by simp [binOp, Op.intDiv, h0]⟩
    case rem => obtain ⟨h0, c, rfl, h⟩ := h; exact ⟨_, h, fun t w => by simp [binOp, Op.intDiv, h0]⟩
    case and => obtain ⟨c, rfl, h⟩ := h; exact ⟨_, h, fun t w => by simp [binOp, bits_eq]⟩
    case or => obtain ⟨c, rfl, h⟩ := h; exact ⟨_, h, fun t w => by simp [binOp, bits_eq]⟩
    case xor => obtain ⟨c, rfl, h⟩ := h; exact ⟨_, h, fun t w => by simp [binOp, bits_eq]⟩
    case andNot => obtain ⟨c, rfl, h⟩ := h; exact ⟨_, h, fun t w => by simp [binOp, bits_eq]⟩
    case shl => exact absurd (.inl rfl) hs
    case shr => exact absurd (.inr rfl) hs
    case eql => exact ⟨_, h, fun t w => by simp [binOp, Op.intCmp]; rfl⟩
    case neq => exact ⟨_, h, fun t w => by simp [binOp, Op.intCmp]; rfl⟩
    case lss => exact ⟨_, h, fun t w => by simp [binOp, Op.intCmp]⟩
    case leq => exact ⟨_, h, fun t w => by simp [binOp, Op.intCmp]⟩
    case gtr => exact ⟨_, h, fun t w => by simp [binOp, Op.intCmp]⟩
    case geq => exact ⟨_, h, fun t w => by simp [binOp, Op.intCmp]⟩

theorem toList_inj {x y : ByteArray} : (x.toList == y.toList) = decide (x = y) := by
  by_cases h : x = y
  · subst h; simp
  · have : x.toList ≠ y.toList := by
      intro e
      rw [ByteArray.toList_eq, ByteArray.toList_eq] at e
      exact h (Go.WideShapes.bytes_inj e)
    simp [h, this]

theorem vcStr_sound {op : BinOp} {a b : ByteArray} {K : Value → Prop} {P : Program} (h : vcStr op a b K) :
    ∃ v, K v ∧ ∀ t w, (binOp op t (.string a) (.string b)).run P w = .ok v w := by
  cases op <;> simp only [vcStr] at h
  case add =>
    obtain ⟨h0, h⟩ := h
    refine ⟨_, h, fun t w => ?_⟩
    have : ¬ (((a.size + b.size : Nat) : Int) > IntKind.i64.max) := by
      have e : IntKind.i64.max = 9223372036854775807 := by decide
      rw [e]; omega
    simp only [binOp, Op.stringOp, if_neg this]
    rfl
  case eql => exact ⟨_, h, fun t w => by simp [binOp, Op.stringOp, toList_inj]⟩
  case neq => exact ⟨_, h, fun t w => by simp [binOp, Op.stringOp, toList_inj]⟩
  case lss => exact ⟨_, h, fun t w => by simp [binOp, Op.stringOp]⟩
  case geq => exact ⟨_, h, fun t w => by simp [binOp, Op.stringOp]⟩
  case gtr => exact ⟨_, h, fun t w => by simp [binOp, Op.stringOp, toList_inj]⟩
  case leq => exact ⟨_, h, fun t w => by simp [binOp, Op.stringOp, toList_inj]⟩
  all_goals exact h.elim

theorem eqGuard_int (op : BinOp) (t : TypeId) (x y : Operand) (k : IntKind) (a : Int) (b : Value) (P : Program) (w : World) : (eqGuard op t x y (.int k a) b).run P w = .ok () w := by
  unfold eqGuard; cases op <;> simp
theorem eqGuard_string (op : BinOp) (t : TypeId) (x y : Operand) (a : ByteArray) (b : Value) (P : Program) (w : World) : (eqGuard op t x y (.string a) b).run P w = .ok () w := by
  unfold eqGuard; cases op <;> simp
theorem eqGuard_bool (op : BinOp) (t : TypeId) (x y : Operand) (a : Bool) (b : Value) (P : Program) (w : World) : (eqGuard op t x y (.bool a) b).run P w = .ok () w := by
  unfold eqGuard; cases op <;> simp

theorem vcBin_sound {op : BinOp} {x y : Value} {K : Value → Prop} {P : Program} (h : vcBin op x y K) (t : TypeId) (X Y : Operand) :
    ∃ v, K v ∧ ∀ w, (do eqGuard op t X Y x y; binOp op t x y : Sem Value).run P w = .ok v w := by
  unfold vcBin at h
  split at h
  · rename_i k a k' b
    have hk : k = k' ∨ op = .shl ∨ op = .shr := by
      cases hb : (decide (k = k') || isShift op) with
      | false => rw [hb] at h; exact h.elim
      | true =>
        simp only [Bool.or_eq_true, decide_eq_true_eq] at hb
        rcases hb with hb | hb
        · exact .inl hb
        · cases op <;> simp_all [isShift]
    have hb : (decide (k = k') || isShift op) = true := by
      simp only [Bool.or_eq_true, decide_eq_true_eq]
      rcases hk with hk | rfl | rfl <;> simp_all [isShift]
    rw [hb] at h
    obtain ⟨v, hv, hr⟩ := vcInt_sound (P := P) hk h
    exact ⟨v, hv, fun w => by simp [eqGuard_int, hr]⟩
  · obtain ⟨v, hv, hr⟩ := vcStr_sound (P := P) h
    exact ⟨v, hv, fun w => by simp [eqGuard_string, hr]⟩
  · exact h.elim

theorem eqGuard_map (op : BinOp) (t : TypeId) (x y : Operand) (a : Option Nat) (b : Value) (P : Program) (w : World) : (eqGuard op t x y (.map a) b).run P w = .ok () w := by
  unfold eqGuard; cases op <;> simp
theorem run_equalIn_bool {P : Program} (w : World) {t : TypeId} (h : P.underlying t = some .bool) (n : Nat) (a b : Bool) : (Op.equalIn (n + 1) t (.bool a) (.bool b)).run P w = .ok (a == b) w := by
  simp [Op.equalIn, run_underlying h]
theorem run_equal_bool {P : Program} (w : World) {t : TypeId} (h : P.underlying t = some .bool) (a b : Bool) : (Op.equal t (.bool a) (.bool b)).run P w = .ok (a == b) w := by
  exact run_equalIn_bool w h 9999 a b

theorem TRow.fits.bool {P : Program} {t : Nat} {r : TRow} (h : r.fits P t) (hd : r.desc = .bool) : P.underlying t = some .bool := by
  obtain ⟨d, h1, h2⟩ := h.under
  rw [h1]; cases d <;> simp_all [keyOf]

theorem run_bound {P : Program} (x : Value) {d n : Int} (y : Nat) (code : BoundsCode) (hx : bnd d (some x) = some n) (h : 0 ≤ n ∧ n ≤ y) (w : World) : (Instr.sliceBound x y code).run P w = .ok n.toNat w := by
  cases x <;> simp [bnd] at hx
  subst hx
  simp [Instr.sliceBound, asIntOf, h]

theorem run_bounds {P : Program} {ρ : Fr} (isS : Bool) (len cap : Nat) (lo hi : Option Operand) {l h : Int} (hl : bnd 0 (optEv ρ lo) = some l) (hh : bnd len (optEv ρ hi) = some h) (hb : 0 ≤ l ∧ l ≤ h ∧ h ≤ cap) (w : World) :
    (Instr.sliceBounds isS len cap (lo.map (ev ρ)) (hi.map (ev ρ)) none).run P w = .ok (l.toNat, h.toNat, cap) w := by
  cases hi with
  | none =>
    simp only [optEv, bnd, Option.some.injEq] at hh
    subst hh
    cases lo with
    | none =>
      simp only [optEv, bnd, Option.some.injEq] at hl
      subst hl
      simp [Instr.sliceBounds]
    | some lx =>
      have := run_bound (P := P) (ev ρ lx) len .sliceB hl ⟨hb.1, by omega⟩ w
      simp [Instr.sliceBounds, this]
  | some hx =>
    have h1 := run_bound (P := P) (ev ρ hx) cap (if isS then .sliceAcap else .sliceAlen) hh ⟨by omega, hb.2.2⟩ w
    cases lo with
    | none =>
      simp only [optEv, bnd, Option.some.injEq] at hl
      subst hl
      simp [Instr.sliceBounds, h1]
    | some lx =>
      have := run_bound (P := P) (ev ρ lx) h.toNat .sliceB hl ⟨hb.1, by omega⟩ w
      simp [Instr.sliceBounds, this, h1]
theorem run_bounds_false {P : Program} {ρ : Fr} (len : Nat) (lo hi : Option Operand) {l h : Int} (hl : bnd 0 (optEv ρ lo) = some l) (hh : bnd len (optEv ρ hi) = some h) (hb : 0 ≤ l ∧ l ≤ h ∧ h ≤ len) (w : World) :
    (Instr.sliceBounds false len len (lo.map (ev ρ)) (hi.map (ev ρ)) none).run P w = .ok (l.toNat, h.toNat, len) w := run_bounds false len len lo hi hl hh hb w
theorem run_bounds_true {P : Program} {ρ : Fr} (len cap : Nat) (lo hi : Option Operand) {l h : Int} (hl : bnd 0 (optEv ρ lo) = some l) (hh : bnd len (optEv ρ hi) = some h) (hb : 0 ≤ l ∧ l ≤ h ∧ h ≤ cap) (w : World) :
    (Instr.sliceBounds true len cap (lo.map (ev ρ)) (hi.map (ev ρ)) none).run P w = .ok (l.toNat, h.toNat, cap) w := run_bounds true len cap lo hi hl hh hb w

theorem vcP_sound {P : Program} {T : Tab} (hT : Ties P T) {o : Oper} {ρ : Fr} {K : Value → Prop} {p : Prop} (h : vcP T o ρ K = some p) (hp : p) :
    ∃ v, K v ∧ ∀ w, (execOp (ev ρ) o).run P w = .ok (.value v) w := by
  unfold vcP at h
  split at h
  case h_1 x ho => cases h; exact ⟨_, hp, fun w => by simp [execOp, ho]⟩
  case h_2 x ho => cases h; exact ⟨_, hp, fun w => by simp [execOp, ho]⟩
  case h_3 c a b ho =>
    cases h
    split at hp
    · rename_i t ht
      rw [br_at] at hp
      refine ⟨_, hp, fun w => ?_⟩
      cases t <;> simp [execOp, ho, ht, asBool]
    · exact hp.elim
  case h_4 op xt x y yt ho =>
    split at h
    · rename_i hx hy
      cases h
      obtain ⟨v, hv, hr⟩ := vcBin_sound (P := P) hp xt x y
      refine ⟨v, hv, fun w => ?_⟩
      have := hr w
      simp only [execOp, ho, hx, hy]
      simp only [Sem.run_bind, this, Result.andThen_ok, Sem.run_pure]
    · rename_i hx hy
      cases h
      obtain ⟨v, hv, hr⟩ := vcBin_sound (P := P) hp xt x y
      refine ⟨v, hv, fun w => ?_⟩
      have := hr w
      simp only [execOp, ho, hx, hy]
      simp only [Sem.run_bind, this, Result.andThen_ok, Sem.run_pure]
    · rename_i hx hy
      split at h
      · rename_i r hr
        have hf := ties_look hT hr
        split at h
        · rename_i hd
          cases h
          exact ⟨_, hp, fun w => by simp [execOp, ho, hx, hy, eqGuard_bool, binOp, run_equal_bool w (hf.bool hd)]⟩
        · rename_i hd
          cases h
          exact ⟨_, hp, fun w => by simp [execOp, ho, hx, hy, eqGuard_bool, binOp, run_equal_bool w (hf.bool hd)]⟩
        · cases h
      · cases h
    · rename_i m hx hy
      split at h
      · rename_i r hr
        have hf := ties_look hT hr
        split at h
        · rename_i hd
          obtain ⟨ha, rfl⟩ := bif_none h
          have hu := (hf.plain ha).trans (congrArg some hd)
          exact ⟨_, hp, fun w => by simp [execOp, ho, hx, hy, eqGuard_map, binOp, run_equal_map_nil w _ _ _ _ hu]⟩
        · rename_i hd
          obtain ⟨ha, rfl⟩ := bif_none h
          have hu := (hf.plain ha).trans (congrArg some hd)
          exact ⟨_, hp, fun w => by simp [execOp, ho, hx, hy, eqGuard_map, binOp, run_equal_map_nil w _ _ _ _ hu]⟩
        · cases h
      · cases h
    · cases h
  case h_5 op xt x ho =>
    split at h
    · rename_i hx; cases h; exact ⟨_, hp, fun w => by simp [execOp, ho, hx, Op.unary]⟩
    · rename_i hx; cases h; obtain ⟨c, rfl, hp⟩ := hp; exact ⟨_, hp, fun w => by simp [execOp, ho, hx, Op.unary, Op.intArith]⟩
    · cases h
  case h_6 src dst x ho =>
    split at h
    · rename_i q r k n hq hr hx
      split at h
      · rename_i k' hd
        obtain ⟨ha, rfl⟩ := bif_none h
        obtain ⟨c, rfl, hp⟩ := hp
        have hf := ties_look hT hr
        have hu := (hf.plain ha).trans (congrArg some hd)
        obtain ⟨d', hu', _⟩ := (ties_look hT hq).under
        refine ⟨_, hp, fun w => ?_⟩
        simp [execOp, ho, hx, convert, run_underlying hu, run_underlying hu', Conv.intToInt]
      · cases h
    · cases h
  case h_7 x ho =>
    split at h
    · rename_i a hx
      cases h
      exact ⟨_, hp, fun w => by simp [execOp, ho, hx]⟩
    · cases h
  case h_8 st x f ho =>
    split at h
    · rename_i r b off hr hx
      split at h
      · rename_i fo ft hfs
        split at h
        · rename_i q hq
          obtain ⟨hg, rfl⟩ := bif_some h
          simp only [Bool.and_eq_true, Bool.not_eq_true'] at hg
          have ha := hg.1.1
          have hd := isInv_eq hg.1.2
          have hz : q.size ≠ 0 := fun e => by have := hg.2; rw [e] at this; cases this
          obtain ⟨fields, hu, hfl⟩ := (ties_look hT hr).struct ha hd
          refine ⟨_, hp, fun w => ?_⟩
          rw [← hfl, List.getElem?_map, Array.getElem?_toList] at hfs
          obtain ⟨fd, hfd, hfe⟩ := Option.map_eq_some_iff.1 hfs
          simp only [Prod.mk.injEq] at hfe
          obtain ⟨rfl, rfl⟩ := hfe
          have hsz := (ties_look hT hq).run_size w
          have hadd : (⟨b, off, none⟩ : Addr).add fd.offset = ⟨b, off + fd.offset, none⟩ := by unfold Addr.add; split <;> simp_all
          simp [execOp, ho, hx, Instr.fieldAt, run_underlying hu, hfd, Instr.sureAddr, fieldPlace, hsz, hz, hadd]
        · cases h
      · cases h
    · cases h
  case h_9 t x i ho =>
    split at h
    · rename_i r b off len cap k i' hr hx hi
      split at h
      · rename_i e hd
        split at h
        · rename_i q hq
          obtain ⟨ha, rfl⟩ := bif_none h
          obtain ⟨hb, hp⟩ := hp
          have hu := ((ties_look hT hr).plain ha).trans (congrArg some hd)
          have hsz := (ties_look hT hq).run_size
          have hadd : (⟨b, off, none⟩ : Addr).add (i'.toNat * q.size) = ⟨b, off + i'.toNat * q.size, none⟩ := by unfold Addr.add; split <;> simp_all
          refine ⟨_, hp, fun w => ?_⟩
          simp [execOp, ho, hx, hi, Instr.indexAt, asIntOf, run_underlying hu, hb, hsz, hadd]
        · cases h
      · cases h
    · cases h
  case h_10 t i ho =>
    split at h
    · rename_i vs hx
      split at h
      · rename_i v hv
        cases h
        refine ⟨_, hp, fun w => ?_⟩
        rw [Array.getElem?_toList] at hv
        simp [execOp, ho, hx, Instr.extract, hv]
      · cases h
    · cases h
  case h_11 t x i ho =>
    split at h
    · rename_i r s k i' hr hx hi
      split at h
      · rename_i hd
        obtain ⟨ha, rfl⟩ := bif_none h
        obtain ⟨hb, hp⟩ := hp
        have hu := ((ties_look hT hr).plain ha).trans (congrArg some hd)
        refine ⟨_, hp, fun w => ?_⟩
        have h1 := hb.1
        have h2 := hb.2
        simp [execOp, ho, hx, hi, Instr.index, asIntOf, run_underlying hu, h1, ByteArray.getElem?_lt' _ _ h2]
      · cases h
    · cases h
  case h_12 t x lo hi mx ho =>
    split at h
    · rename_i r s hr hx
      split at h
      · rename_i l h' hd hl hh
        obtain ⟨ha, rfl⟩ := bif_none h
        obtain ⟨hb, hp⟩ := hp
        have hu := ((ties_look hT hr).plain ha).trans (congrArg some hd)
        refine ⟨_, hp, fun w => ?_⟩
        have := run_bounds_false (P := P) (ρ := ρ) s.size lo hi hl hh hb w
        simp [execOp, ho, hx, Instr.sliceAt, Instr.slice, run_underlying hu, this]
      · cases h
    · rename_i r a len cap hr hx
      split at h
      · rename_i e l h' hd hl hh
        split at h
        · rename_i q hq
          obtain ⟨ha, rfl⟩ := bif_none h
          obtain ⟨hb, hp⟩ := hp
          have hu := ((ties_look hT hr).plain ha).trans (congrArg some hd)
          have hsz := (ties_look hT hq).run_size
          refine ⟨_, hp, fun w => ?_⟩
          have := run_bounds_true (P := P) (ρ := ρ) len cap lo hi hl hh hb w
          simp [execOp, ho, hx, Instr.sliceAt, Instr.slice, run_underlying hu, this, hsz]
        · cases h
      · cases h
    · cases h
  case h_13 c ho =>
    split at h
    · rename_i hc
      split at h
      · rename_i t x hat har
        split at h
        · rename_i r s hr hx
          split at h
          · rename_i hd
            obtain ⟨ha, rfl⟩ := bif_none h
            have hu := ((ties_look hT hr).plain ha).trans (congrArg some hd)
            refine ⟨_, hp, fun w => ?_⟩
            have e1 : c.argTypes = #[t] := by rw [← Array.toList_inj]; exact hat
            have e2 : c.args = #[x] := by rw [← Array.toList_inj]; exact har
            simp [execOp, ho, resolve, hc, e1, e2, hx, invoke, builtin, Builtin.len_, run_underlying hu, goInt]
          · cases h
        · rename_i r a n cap hr hx
          split at h
          · rename_i hd
            obtain ⟨ha, rfl⟩ := bif_none h
            have hu := ((ties_look hT hr).plain ha).trans (congrArg some hd)
            refine ⟨_, hp, fun w => ?_⟩
            have e1 : c.argTypes = #[t] := by rw [← Array.toList_inj]; exact hat
            have e2 : c.args = #[x] := by rw [← Array.toList_inj]; exact har
            simp [execOp, ho, resolve, hc, e1, e2, hx, invoke, builtin, Builtin.len_, run_underlying hu, goInt]
          · cases h
        · cases h
      · cases h
    · rename_i hc
      split at h
      · rename_i x y har
        split at h
        · rename_i k a k' b hx hy
          cases h
          refine ⟨_, hp, fun w => ?_⟩
          have e2 : c.args = #[x, y] := by rw [← Array.toList_inj]; exact har
          simp [execOp, ho, resolve, hc, e2, hx, hy, invoke, builtin, Builtin.min_, Builtin.min2]
        · cases h
      · cases h
    · cases h
  case h_14 => cases h

end Go.Vc
