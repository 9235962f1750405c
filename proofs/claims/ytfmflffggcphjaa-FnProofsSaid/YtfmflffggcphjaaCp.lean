/- Cores, plainly: clauses that are kept, which search decides each step. No program in sight. -/
import Derived.Test.YtfmflffggcphjaaPq
namespace Go.Sat
open Go.Vc
def filt : Cnf → List Bool → Cnf
  | c :: F, b :: o => if b then filt F o else c :: filt F o
  | _, _ => []
def cnt : List Bool → Nat → Nat
  | b :: o, i + 1 => (if b then 0 else 1) + cnt o i
  | _, _ => 0
def keepK (o : List Bool) : Nat → List Int
  | 0 => []
  | k + 1 => keepK o k ++ (if o.getD k true then [] else [(k : Int)])
open Classical in
noncomputable def seaF (n : Int) (F : Cnf) (limit : Int) : Int := if h : ∃ r, SeaO n F [] limit r then h.choose.code else 0
theorem seaF_eq {n : Int} {F : Cnf} {limit : Int} {r : Res} (h : SeaO n F [] limit r) : seaF n F limit = r.code := by
  unfold seaF
  have h' : ∃ r, SeaO n F [] limit r := ⟨r, h⟩
  rw [dif_pos h', SeaO.unique h'.choose_spec h]
noncomputable def corF (n : Int) (F : Cnf) (limit : Int) : Nat → Option (List Bool)
  | 0 => some (List.replicate F.length false)
  | i + 1 => match corF n F limit i with
    | none => none
    | some out => if seaF n (filt F (out.set i true)) limit = 3 then none else some (if seaF n (filt F (out.set i true)) limit = 2 then out.set i true else out)
/-- What 'CoreOf' computes. -/
noncomputable def corO (n : Int) (F : Cnf) (limit : Int) : Option (List Int) := if seaF n F limit = 2 then (corF n F limit F.length).map (fun o => keepK o F.length) else none
theorem corF_none {n : Int} {F : Cnf} {limit : Int} {i : Nat} (h : corF n F limit i = none) : ∀ j, i ≤ j → corF n F limit j = none := by
  intro j hj
  induction j with
  | zero => rwa [show i = 0 by omega] at h
  | succ j ih =>
    by_cases e : i = j + 1
    · rw [← e]; exact h
    · rw [corF, ih (by omega)]
theorem filt_len : ∀ (F : Cnf) (o : List Bool), (filt F o).length ≤ F.length
  | [], _ => by simp [filt]
  | c :: F, [] => by simp [filt]
  | c :: F, b :: o => by
    have := filt_len F o
    simp only [filt]
    split
    · simp only [List.length_cons]; omega
    · simp only [List.length_cons]; omega
theorem filt_mem : ∀ (F : Cnf) (o : List Bool) (c : Cl), c ∈ filt F o → c ∈ F
  | [], _, _, h => by simp [filt] at h
  | d :: F, [], _, h => by simp [filt] at h
  | d :: F, b :: o, c, h => by
    simp only [filt] at h
    split at h
    · exact List.mem_cons_of_mem _ (filt_mem F o c h)
    · rcases List.mem_cons.1 h with rfl | h
      · exact List.mem_cons_self ..
      · exact List.mem_cons_of_mem _ (filt_mem F o c h)
theorem filt_ok {n : Int} {F : Cnf} (h : fOk n F = true) (o : List Bool) : fOk n (filt F o) = true := by
  have := filt_len F o
  simp only [fOk, Bool.and_eq_true, decide_eq_true_eq, List.all_eq_true] at h ⊢
  exact ⟨by omega, fun c hc => h.2 c (filt_mem F o c hc)⟩
theorem filt_none : ∀ F : Cnf, filt F (List.replicate F.length false) = F
  | [] => rfl
  | c :: F => by simp only [List.length_cons, List.replicate_succ, filt]; rw [filt_none F]; rfl
theorem filt_app : ∀ (F G : Cnf) (o q : List Bool), F.length = o.length → filt (F ++ G) (o ++ q) = filt F o ++ filt G q
  | [], G, [], q, _ => by simp [filt]
  | c :: F, G, b :: o, q, h => by
    simp only [List.cons_append, filt]
    rw [filt_app F G o q (by simpa using h)]
    split <;> rfl
  | [], _, _ :: _, _, h => by simp at h
  | _ :: _, _, [], _, h => by simp at h
theorem filt_take {F : Cnf} {o : List Bool} (hl : o.length = F.length) {k : Nat} (hk : k < F.length) : filt (F.take (k + 1)) (o.take (k + 1)) = filt (F.take k) (o.take k) ++ (if o.getD k true then [] else [F.getD k []]) := by
  rw [List.take_succ_eq_append_getElem hk, List.take_succ_eq_append_getElem (show k < o.length by omega), filt_app _ _ _ _ (by simp; omega)]
  congr 1
  rw [List.getD_eq_getElem?_getD, List.getD_eq_getElem?_getD, List.getElem?_eq_getElem hk, List.getElem?_eq_getElem (show k < o.length by omega)]
  simp only [filt, Option.getD_some]
theorem cnt_succ : ∀ (o : List Bool) (k : Nat), cnt o (k + 1) = cnt o k + (if o.getD k true then 0 else 1)
  | [], k => by cases k <;> simp [cnt]
  | b :: o, 0 => by simp [cnt]
  | b :: o, k + 1 => by
    have := cnt_succ o k
    rw [cnt, this, cnt, List.getD_cons_succ]
    omega
theorem keepK_len (o : List Bool) : ∀ k, (keepK o k).length = cnt o k
  | 0 => by cases o <;> simp [keepK, cnt]
  | k + 1 => by
    rw [keepK, List.length_append, keepK_len o k, cnt_succ]
    split <;> rfl
theorem keepK_le (o : List Bool) : ∀ k, (keepK o k).length ≤ k
  | 0 => Nat.le_refl _
  | k + 1 => by
    have := keepK_le o k
    rw [keepK, List.length_append]
    split <;> simp <;> omega
theorem keepK_set {o : List Bool} {i : Nat} {b : Bool} : ∀ k, k ≤ i → keepK (o.set i b) k = keepK o k
  | 0, _ => rfl
  | k + 1, h => by
    rw [keepK, keepK, keepK_set k (by omega)]
    congr 1
    rw [List.getD_eq_getElem?_getD, List.getD_eq_getElem?_getD, List.getElem?_set_ne (by omega)]
theorem keepK_drop {o : List Bool} {i : Nat} (h : i < o.length) : keepK (o.set i true) (i + 1) = keepK o i := by
  rw [keepK, keepK_set i (Nat.le_refl _), List.getD_eq_getElem?_getD, List.getElem?_set_self h]
  simp
theorem keepK_keep {o : List Bool} {i : Nat} (h : o[i]? = some false) : keepK o (i + 1) = keepK o i ++ [(i : Int)] := by
  rw [keepK, List.getD_eq_getElem?_getD, h]
  rfl
theorem cnt_drop {o : List Bool} {i : Nat} (h : i < o.length) : cnt (o.set i true) (i + 1) = cnt o i := by rw [← keepK_len, keepK_drop h, keepK_len]
theorem cnt_keep {o : List Bool} {i : Nat} (h : o[i]? = some false) : cnt o (i + 1) = cnt o i + 1 := by rw [← keepK_len, keepK_keep h, List.length_append, keepK_len]; rfl
theorem filt_set : ∀ (F : Cnf) (o : List Bool) (i : Nat), o.length = F.length → o[i]? = some false → (filt F o).take (cnt o i) ++ (filt F o).drop (cnt o i + 1) = filt F (o.set i true) ∧ cnt o i < (filt F o).length
  | [], [], i, _, h => by simp at h
  | c :: F, b :: o, 0, hl, h => by
    simp only [List.getElem?_cons_zero, Option.some.injEq] at h
    subst h
    simp [filt, cnt]
  | c :: F, b :: o, i + 1, hl, h => by
    have ih := filt_set F o i (by simpa using hl) (by simpa using h)
    cases b with
    | true => simpa [filt, cnt] using ih
    | false =>
      have e : (if false = true then 0 else 1) + cnt o i = cnt o i + 1 := by simp; omega
      simp only [filt, cnt, List.set_cons_succ, e]
      exact ⟨by simpa using ih.1, by simpa using ih.2⟩
  | [], _ :: _, _, h, _ => by simp at h
  | _ :: _, [], _, h, _ => by simp at h
/-- What is known of a state. -/
theorem corF_inv {n : Int} {F : Cnf} {limit : Int} : ∀ (i : Nat) (o : List Bool), corF n F limit i = some o → o.length = F.length ∧ ∀ j, i ≤ j → j < F.length → o[j]? = some false := by
  intro i
  induction i with
  | zero =>
    intro o h
    cases h
    exact ⟨by simp, fun j _ hj => by simp [hj]⟩
  | succ i ih =>
    intro o h
    rw [corF] at h
    split at h
    · cases h
    · rename_i out ho
      obtain ⟨h1, h2⟩ := ih out ho
      split at h
      · cases h
      · cases h
        split
        · exact ⟨by simpa using h1, fun j hj hl => by rw [List.getElem?_set_ne (by omega)]; exact h2 j (by omega) hl⟩
        · exact ⟨h1, fun j hj hl => h2 j (by omega) hl⟩
theorem corO_len {n : Int} {F : Cnf} {limit : Int} : ((corO n F limit).getD []).length ≤ F.length := by
  unfold corO
  split
  · cases corF n F limit F.length with
    | none => simp
    | some o => simpa using keepK_le o F.length
  · simp
theorem seaF_two {n : Int} {F : Cnf} {limit : Int} (h : seaF n F limit = 2) : fOk n F = true ∧ 0 ≤ limit ∧ limit ≤ 3000 := by
  unfold seaF at h
  split at h
  · rename_i hc
    have hs := hc.choose_spec
    by_cases hcond : fOk n F = true ∧ litsOk n [] = true ∧ 0 ≤ limit ∧ limit ≤ 3000
    · exact ⟨hcond.1, hcond.2.2⟩
    · unfold SeaO at hs
      rw [if_neg hcond] at hs
      exact absurd ((congrArg Res.code hs).symm.trans h) (by decide)
  · cases h
end Go.Sat
