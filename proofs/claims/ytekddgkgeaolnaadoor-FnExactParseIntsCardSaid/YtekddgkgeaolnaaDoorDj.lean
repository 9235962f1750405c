/- Texts that are parted at one byte, plainly. No program in sight. -/
import Derived.Lib.Split
import Derived.Lib.SplitLaws
import Derived.Test.YtekddgkgeaolnaaDoorRw
namespace Go.Vc
open Go

def splitL (c : UInt8) : List UInt8 → List (List UInt8)
  | [] => [[]]
  | b :: r => if b = c then [] :: splitL c r else match splitL c r with
    | [] => [[b]]
    | h :: t => (b :: h) :: t
theorem splitL_ne (c : UInt8) : ∀ l, splitL c l ≠ [] := by
  intro l
  cases l with
  | nil => simp [splitL]
  | cons b r =>
    simp only [splitL]
    split
    · simp
    · split <;> simp
theorem splitL_skip {c : UInt8} : ∀ {p r : List UInt8}, (∀ b ∈ p, b ≠ c) → splitL c (p ++ c :: r) = p :: splitL c r := by
  intro p
  induction p with
  | nil => intro r _; simp [splitL]
  | cons b p ih =>
    intro r h
    rw [List.cons_append, splitL, if_neg (h b (by simp)), ih (fun x hx => h x (by simp [hx]))]
theorem splitL_last {c : UInt8} : ∀ {p : List UInt8}, (∀ b ∈ p, b ≠ c) → splitL c p = [p] := by
  intro p
  induction p with
  | nil => intro _; rfl
  | cons b p ih =>
    intro h
    rw [splitL, if_neg (h b (by simp)), ih (fun x hx => h x (by simp [hx]))]
theorem splitK_one (c : UInt8) : ∀ s : List UInt8, Lib.splitK [c] 0 (s.count c) s = splitL c s := by
  intro s
  induction s with
  | nil => rfl
  | cons b l ih =>
    by_cases h : b = c
    · subst h
      have hix : Lib.index (b :: l) [b] = 0 := by simp [Lib.index, List.isPrefixOf]
      rw [List.count_cons_self, Lib.splitK, hix, if_neg (by decide)]
      rw [splitL, if_pos rfl]
      simpa using ih
    · have hp : ([c] : List UInt8).isPrefixOf (b :: l) = false := by simp [List.isPrefixOf, Ne.symm h]
      have hix : Lib.index (b :: l) [c] = if Lib.index l [c] == -1 then -1 else Lib.index l [c] + 1 := by rw [Lib.index, hp]; simp
      rw [List.count_cons_of_ne (by simpa using h), splitL, if_neg h, ← ih]
      cases hk : l.count c with
      | zero => simp [Lib.splitK]
      | succ k =>
        by_cases hm : Lib.index l [c] = -1
        · simp [Lib.splitK, hix, hm]
        · have hge := Lib.index_ge l [c]
          obtain ⟨j, hj⟩ : ∃ j : Nat, Lib.index l [c] = j := ⟨(Lib.index l [c]).toNat, by omega⟩
          have h1 : ¬ ((Lib.index l [c] == -1) = true) := by simp [hm]
          have h2 : Lib.index (b :: l) [c] = ((j + 1 : Nat) : Int) := by rw [hix, if_neg h1, hj]; omega
          have h3 : ¬ ((((j + 1 : Nat) : Int) == -1) = true) := by simp only [beq_iff_eq]; omega
          have h4 : ¬ (((j : Int) == -1) = true) := by simp only [beq_iff_eq]; omega
          rw [Lib.splitK, Lib.splitK, h2, if_neg h3, hj, if_neg h4]
          simp
/-- The pieces of a text, as texts. -/
def byS (l : List UInt8) : ByteArray := ⟨l.toArray⟩
theorem bytes_toList (s : ByteArray) : byS s.data.toList = s := by simp [byS]
theorem toList_bytes (l : List UInt8) : (byS l).data.toList = l := by simp [byS]
def splitS (c : UInt8) (s : ByteArray) : List ByteArray := (splitL c s.data.toList).map byS
theorem splitB_one (c : UInt8) (s : ByteArray) : Lib.splitB ⟨#[c]⟩ 0 (Lib.countB s ⟨#[c]⟩) s = splitS c s := by
  have h := Lib.splitB_data ⟨#[c]⟩ 0 (Lib.countB s ⟨#[c]⟩) s
  have hc : Lib.countB s ⟨#[c]⟩ = s.data.toList.count c := Lib.count_one c _
  rw [hc] at h ⊢
  rw [show (⟨#[c]⟩ : ByteArray).data.toList = [c] from rfl, splitK_one] at h
  unfold splitS
  rw [← h, List.map_map]
  exact (List.map_id'' (fun x => bytes_toList x) _).symm
theorem splitL_size {c : UInt8} : ∀ (l : List UInt8), (splitL c l).length ≤ l.length + 1 := by
  intro l
  induction l with
  | nil => simp [splitL]
  | cons b r ih =>
    simp only [splitL]
    split
    · simp only [List.length_cons]; omega
    · split
      · simp
      · rename_i h t e
        rw [e] at ih
        simp only [List.length_cons] at ih ⊢
        omega

/-! lines and words -/
def linesL (l : List UInt8) : List (List UInt8) := if (splitL 10 l).getLast? = some [] then (splitL 10 l).dropLast else splitL 10 l
theorem lines_mid {l : List UInt8} {D : List (List UInt8)} {i j : Nat} (h : splitL 10 l = D ++ splitL 10 (l.drop i)) (hi : i ≤ j) (hj : j < l.length) (hr : ∀ b ∈ (l.drop i).take (j - i), b ≠ 10) (he : l[j]'hj = 10) :
    splitL 10 l = (D ++ [(l.drop i).take (j - i)]) ++ splitL 10 (l.drop (j + 1)) := by
  have e : l.drop i = (l.drop i).take (j - i) ++ l[j]'hj :: l.drop (j + 1) := by
    conv => lhs; rw [← List.take_append_drop (j - i) (l.drop i)]
    rw [List.drop_drop, show i + (j - i) = j from by omega, List.drop_eq_getElem_cons hj]
  rw [h]
  conv => lhs; rw [e, he, splitL_skip hr]
  simp
theorem lines_end {l : List UInt8} {D : List (List UInt8)} {i : Nat} (h : splitL 10 l = D ++ splitL 10 (l.drop i)) (hi : i < l.length) (hr : ∀ b ∈ l.drop i, b ≠ 10) : linesL l = D ++ [l.drop i] := by
  rw [splitL_last hr] at h
  have hne : l.drop i ≠ [] := fun e => by
    have := congrArg List.length e
    rw [List.length_drop, List.length_nil] at this
    omega
  unfold linesL
  rw [h, List.getLast?_concat, if_neg (fun e => hne (Option.some.inj e))]
theorem lines_none {l : List UInt8} {D : List (List UInt8)} {i : Nat} (h : splitL 10 l = D ++ splitL 10 (l.drop i)) (hi : l.length ≤ i) : linesL l = D := by
  rw [List.drop_eq_nil_of_le hi] at h
  unfold linesL
  rw [h, show splitL 10 [] = [[]] from rfl, List.getLast?_concat, if_pos rfl, List.dropLast_concat]
theorem lines_nil : linesL [] = [] := rfl
def linesS (s : ByteArray) : List ByteArray := (linesL s.data.toList).map byS
theorem linesS_split (s : ByteArray) : linesS s = if (splitS 10 s).getLast? = some ⟨#[]⟩ then (splitS 10 s).dropLast else splitS 10 s := by
  unfold linesS linesL splitS
  rw [List.getLast?_map]
  have hb : ∀ l : List UInt8, byS l = ⟨#[]⟩ ↔ l = [] := fun l => by
    constructor
    · intro h
      have := congrArg (fun x : ByteArray => x.data.toList) h
      simpa [byS] using this
    · intro h; rw [h]; rfl
  cases h : (splitL 10 s.data.toList).getLast? with
  | none => rfl
  | some x =>
    by_cases hx : x = []
    · subst hx
      rw [if_pos rfl, Option.map_some, if_pos (show some (byS []) = some ⟨#[]⟩ from rfl), List.map_dropLast]
    · rw [if_neg (fun e => hx (Option.some.inj e)), Option.map_some, if_neg (fun e => hx ((hb x).1 (Option.some.inj e)))]
def wordsL (l : List UInt8) : List (List UInt8) := (splitL 32 l).filter fun p => decide (p ≠ [])
theorem wordsL_gap (r : List UInt8) : wordsL (32 :: r) = wordsL r := by simp [wordsL, splitL]
theorem wordsL_skip {p r : List UInt8} (h : ∀ b ∈ p, b ≠ 32) (hp : p ≠ []) : wordsL (p ++ 32 :: r) = p :: wordsL r := by
  rw [wordsL, splitL_skip h, List.filter_cons_of_pos (by simpa using hp)]; rfl
theorem wordsL_last {p : List UInt8} (h : ∀ b ∈ p, b ≠ 32) (hp : p ≠ []) : wordsL p = [p] := by
  rw [wordsL, splitL_last h, List.filter_cons_of_pos (by simpa using hp)]; rfl
theorem wordsL_nil : wordsL [] = [] := by simp [wordsL, splitL]
theorem extract_toList (s : ByteArray) (i j : Nat) : (s.extract i j).data.toList = (s.data.toList.drop i).take (j - i) := by
  simp [ByteArray.data_extract, List.take_drop]
def wordsS (s : ByteArray) : List ByteArray := (wordsL s.data.toList).map byS
theorem bytes_nil (l : List UInt8) : byS l = ⟨#[]⟩ ↔ l = [] := by
  constructor
  · intro h
    have := congrArg (fun x : ByteArray => x.data.toList) h
    simpa [byS] using this
  · intro h; rw [h]; rfl
theorem wordsS_split (s : ByteArray) : wordsS s = (splitS 32 s).filter fun p => decide (p ≠ ⟨#[]⟩) := by
  unfold wordsS wordsL splitS
  rw [List.filter_map]
  congr 1
  apply List.filter_congr
  intro x _
  show decide (x ≠ []) = decide (byS x ≠ ⟨#[]⟩)
  rw [decide_eq_decide]
  exact not_congr (bytes_nil x).symm
/-- Bytes from one place to another, none of them c. -/
def Run (c : UInt8) (l : List UInt8) (i j : Nat) : Prop := ∀ k, i ≤ k → k < j → ∀ b, l[k]? = some b → b ≠ c
theorem Run.mem {c : UInt8} {l : List UInt8} {i j : Nat} (h : Run c l i j) : ∀ b ∈ (l.drop i).take (j - i), b ≠ c := by
  intro b hb
  obtain ⟨n, hn⟩ := List.mem_iff_getElem?.1 hb
  rw [List.getElem?_take] at hn
  split at hn
  · rename_i hlt
    rw [List.getElem?_drop] at hn
    exact h (i + n) (by omega) (by omega) b hn
  · cases hn
theorem drop_part {l : List UInt8} {i j : Nat} (hi : i ≤ j) (hj : j < l.length) : l.drop i = (l.drop i).take (j - i) ++ l[j]'hj :: l.drop (j + 1) := by
  conv => lhs; rw [← List.take_append_drop (j - i) (l.drop i)]
  rw [List.drop_drop, show i + (j - i) = j from by omega, List.drop_eq_getElem_cons hj]
theorem words_mid {l : List UInt8} {D : List (List UInt8)} {i j : Nat} (h : wordsL l = D ++ wordsL (l.drop i)) (hi : i < j) (hj : j < l.length) (hr : ∀ b ∈ (l.drop i).take (j - i), b ≠ 32) (he : l[j]'hj = 32) :
    wordsL l = (D ++ [(l.drop i).take (j - i)]) ++ wordsL (l.drop (j + 1)) := by
  have hne : (l.drop i).take (j - i) ≠ [] := fun e => by
    have := congrArg List.length e
    rw [List.length_take, List.length_drop, List.length_nil] at this
    omega
  have e := drop_part (l := l) (Nat.le_of_lt hi) hj
  rw [h]
  conv => lhs; rw [e, he, wordsL_skip hr hne]
  simp
theorem words_end {l : List UInt8} {D : List (List UInt8)} {i : Nat} (h : wordsL l = D ++ wordsL (l.drop i)) (hi : i < l.length) (hr : ∀ b ∈ l.drop i, b ≠ 32) : wordsL l = D ++ [l.drop i] := by
  have hne : l.drop i ≠ [] := fun e => by
    have := congrArg List.length e
    rw [List.length_drop, List.length_nil] at this
    omega
  rw [wordsL_last hr hne] at h
  exact h
theorem words_none {l : List UInt8} {D : List (List UInt8)} {i : Nat} (h : wordsL l = D ++ wordsL (l.drop i)) (hi : l.length ≤ i) : wordsL l = D := by
  rw [List.drop_eq_nil_of_le hi, wordsL_nil, List.append_nil] at h
  exact h
theorem words_gap {l : List UInt8} {D : List (List UInt8)} {i : Nat} (h : wordsL l = D ++ wordsL (l.drop i)) (hi : i < l.length) (he : l[i]'hi = 32) : wordsL l = D ++ wordsL (l.drop (i + 1)) := by
  rw [h]
  conv => lhs; rw [List.drop_eq_getElem_cons hi, he, wordsL_gap]
end Go.Vc
