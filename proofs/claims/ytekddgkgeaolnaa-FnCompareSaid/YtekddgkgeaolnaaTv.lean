/- Values (a name, a width, a number): contracts of szValueS, toValueS, eqValueS. (OPTIONAL) Contracts of ValuesOk. (OPTIONAL) -/
import Derived.Test.YtekddgkgeaolnaaTt
import Derived.Test.YtekddgkgeaolnaaFa
import Derived.Test.YtekddgkgeaolnaaTa
import Derived.Test.YtekddgkgeaolnaaWd
namespace Go.Proofs.Ytekddgkgeaolnaa
open Go Go.Vc Go.RowKit

structure VLab where
  name : ByteArray
  w : Int
  n : Int
  deriving DecidableEq
def vlc (x : VLab) : List Value := [.string x.name, .int .i64 x.w, .int .i64 x.n]

theorem vlc_len (x : VLab) : (vlc x).length = 3 := rfl
def okV (x : VLab) : Prop := x.name.size ≤ maxLen ∧ inI x.w ∧ inI x.n
abbrev VSl (ok : Nat → Prop) (w : World) (s : Value) (l : List VLab) : Prop := LsSl vlc 3 ok w s l
def vwt : List VLab → Nat
  | [] => 0
  | x :: l => vwt l + 1 + x.name.size

theorem len_vwt : ∀ l : List VLab, l.length ≤ vwt l := by
  intro l
  induction l with
  | nil => exact Nat.le_refl _
  | cons x l ih => simp only [vwt, List.length_cons]; omega

end Go.Proofs.Ytekddgkgeaolnaa
namespace Go.Proofs.Ytekddgkgeaolnaa
open Go Go.Vc Go.RowKit

def less (a b : ByteArray) : Bool := Op.bytesLess a.toList b.toList
def vAt (l : List VLab) (i : Nat) : Bool :=
  match l[i]? with
  | none => true
  | some x => isNm x.name && wOk x.w x.n && (decide (i = 0) || match l[i - 1]? with
    | some y => less y.name x.name
    | none => true)
def vOk (l : List VLab) : Bool := decide (l.length ≤ 30) && (List.range l.length).all (vAt l)

theorem vOk_no {l : List VLab} {i : Nat} (hi : i < l.length) (h : vAt l i = false) : vOk l = false := by
  cases hv : vOk l with
  | false => rfl
  | true =>
    simp only [vOk, Bool.and_eq_true, List.all_eq_true, List.mem_range] at hv
    rw [hv.2 i hi] at h
    cases h

theorem vOk_all {l : List VLab} (h : ∀ i, i < l.length → vAt l i = true) : vOk l = decide (l.length ≤ 30) := by
  have : (List.range l.length).all (vAt l) = true := by
    rw [List.all_eq_true]
    exact fun i hi => h i (List.mem_range.1 hi)
  rw [vOk, this, Bool.and_true]

theorem impl_ValuesOk (l : List VLab) (s : Value) (W : World) (hs : VSl anyB W s l) (hp : ∀ x ∈ l, okV x) :
    Ret Try.prog 35 #[s] W (fun v w' => v = .bool (vOk l) ∧ Ext W w') := by
  obtain ⟨a, c, rfl, hl, hc, hat⟩ := hs
  have hlm : (maxLen : Int) ≤ 9223372036854775807 := by decide
  refine ret_of_vc ties mixed Try.func35 rfl (by kernel_rfl) rfl rfl ?_
  refine br_dec (fun h => ?_) (fun h => ?_)
  · exact ⟨vbool (by simp only [vOk]; rw [decide_eq_false (by omega)]; rfl), Ext.refl _⟩
  refine loop_rule (σ := Nat × Value × Value) [3, 4, 10] 11 41 (fun q => [q.2.1, q.2.2, .int .i64 q.1])
    (fun q w' => Ext W w' ∧ q.1 ≤ l.length ∧ ∀ i, i < q.1 → vAt l i = true) (fun q => l.length - q.1) (0, undef, undef) rfl ⟨Ext.refl _, Nat.zero_le _, fun i hi => absurd hi (Nat.not_lt_zero i)⟩ ?_
  rintro ⟨k, x1, x2⟩ w junk ⟨hx, hk, hall⟩ K hK
  simp only at hk hall
  refine br_dec (fun h3 => ?_) (fun h3 => ?_)
  · have hkl : k < l.length := by omega
    obtain ⟨b, o, rfl, _, hat'⟩ := hat.resolve_left (by omega)
    have hcx := (hat'.get (List.getElem?_eq_getElem hkl)).ext hx
    have hpx := hp _ (List.getElem_mem hkl)
    refine ⟨⟨by omega, by omega⟩, vlc (l[k]'hkl), rfl, by simpa using hcx, ?_⟩
    have r1 := Rmy.new w [.string ByteArray.empty, .int .i64 0, .int .i64 0] 47
    refine ⟨r1.all (vlc (l[k]'hkl)) 0 (Nat.le_refl 3) rfl, ?_⟩
    have c1 := setCells_at (vlc (l[k]'hkl)) _ 0 3 r1 (Nat.le_refl 3)
    have x2 : Ext w (setCells (w.alloc (.cells #[.string ByteArray.empty, .int .i64 0, .int .i64 0] 47)) w.heap.size 0 (vlc (l[k]'hkl))) := Ext.setCells _ (Ext.new _ _) (Nat.le_refl _)
    refine ⟨.string (l[k]'hkl).name, c1.1, ?_⟩
    refine Or.inl ((impl_IsName _ (by have := hpx.1; omega) _).mono ?_)
    rintro _ _ ⟨rfl, rfl⟩
    have no : vAt l k = false → vOk l = false := vOk_no hkl
    have hvk : vAt l k = (isNm (l[k]'hkl).name && wOk (l[k]'hkl).w (l[k]'hkl).n && (decide (k = 0) || match l[k - 1]? with | some y => less y.name (l[k]'hkl).name | none => true)) := by
      unfold vAt
      rw [List.getElem?_eq_getElem hkl]
    refine br_not (fun h4 => ?_) (fun h4 => ?_)
    · exact ⟨vbool (no (by rw [hvk, h4]; rfl)).symm, hx.trans x2⟩
    · refine ⟨.int .i64 (l[k]'hkl).w, c1.2.1, .int .i64 (l[k]'hkl).n, c1.2.2.1, ?_⟩
      refine Or.inl ((impl_WordOk _ _ _).mono ?_)
      rintro _ _ ⟨rfl, rfl⟩
      refine br_not (fun h5 => ?_) (fun h5 => ?_)
      · exact ⟨vbool (no (by rw [hvk, h4, h5]; rfl)).symm, hx.trans x2⟩
      · refine .inl ⟨by kernel_rfl, ?_⟩
        refine br_dec (fun h6 => ?_) (fun h6 => ?_)
        · have hk1 : k - 1 < l.length := by omega
          have hcy := ((hat'.get (List.getElem?_eq_getElem hk1)).ext hx).ext x2
          refine ⟨_, IntWalk.i64_in _ (by omega), ⟨by omega, by omega⟩, .string (l[k - 1]'hk1).name, ?_, .string (l[k]'hkl).name, c1.1, ?_⟩
          · have := hcy.1
            rwa [show ((k : Int) - 1).toNat = k - 1 from by omega]
          · intro w4 hx4
            have he : vAt l k = less (l[k - 1]'hk1).name (l[k]'hkl).name := by
              rw [hvk, h4, h5, List.getElem?_eq_getElem hk1, decide_eq_false (by omega)]
              simp
            refine br_not (fun h7 => ?_) (fun h7 => ?_)
            · exact ⟨vbool (no (he.trans h7)).symm, (hx.trans x2).trans hx4⟩
            · have ht := he.trans h7
              refine ⟨_, IntWalk.i64_in _ (by omega), ?_⟩
              refine hK (k + 1, _, _) _ _ (vs3 rfl rfl (vint (by show (k : Int) + 1 = ((k + 1 : Nat) : Int); omega))) ⟨(hx.trans x2).trans hx4, by show k + 1 ≤ l.length; omega, fun i hi => ?_⟩ (by show l.length - (k + 1) < l.length - k; omega) ?_
              · by_cases e : i = k
                · subst e; exact ht
                · exact hall i (by have : i < k + 1 := hi; omega)
              · ((repeat (first | (with_reducible exact Only.refl) | (with_reducible refine Only.skip ?_) | ((with_reducible refine Only.upd ?_ ?_); rfl) | ((with_reducible refine Only.over ?_ ?_ _); rfl) | ((with_reducible refine Only.hav ?_ ?_ ?_); rfl; rfl))))
        · intro w4 hx4
          have he : vAt l k = true := by
            rw [hvk, h4, h5, decide_eq_true (by omega : k = 0)]
            rfl
          refine ⟨_, IntWalk.i64_in _ (by omega), ?_⟩
          refine hK (k + 1, _, _) _ _ (vs3 rfl rfl (vint (by show (k : Int) + 1 = ((k + 1 : Nat) : Int); omega))) ⟨(hx.trans x2).trans hx4, by show k + 1 ≤ l.length; omega, fun i hi => ?_⟩ (by show l.length - (k + 1) < l.length - k; omega) ?_
          · by_cases e : i = k
            · subst e; exact he
            · exact hall i (by have : i < k + 1 := hi; omega)
          · ((repeat (first | (with_reducible exact Only.refl) | (with_reducible refine Only.skip ?_) | ((with_reducible refine Only.upd ?_ ?_); rfl) | ((with_reducible refine Only.over ?_ ?_ _); rfl) | ((with_reducible refine Only.hav ?_ ?_ ?_); rfl; rfl))))
  · exact ⟨vbool (by rw [vOk_all (fun i hi => hall i (by omega))]; exact (decide_eq_true (by omega)).symm), hx⟩

theorem spec_ValuesOk (l : List VLab) (s : Value) (W : World) (hs : VSl anyB W s l) (hp : ∀ x ∈ l, okV x) :
    Ret Try.prog 47 #[s] W (fun v w' => v = .bool (vOk l) ∧ Ext W w') := by
  obtain ⟨a, c, rfl, hl, hc, hat⟩ := hs
  have hlm : (maxLen : Int) ≤ 9223372036854775807 := by decide
  refine ret_of_vc ties mixed Try.func47 rfl (by kernel_rfl) rfl rfl ?_
  refine loop_rule (σ := Nat × Value × Value) [3, 4, 7] 8 40 (fun q => [q.2.1, q.2.2, .int .i64 q.1])
    (fun q w' => Ext W w' ∧ q.1 ≤ l.length ∧ ∀ i, i < q.1 → vAt l i = true) (fun q => l.length - q.1) (0, undef, undef) rfl ⟨Ext.refl _, Nat.zero_le _, fun i hi => absurd hi (Nat.not_lt_zero i)⟩ ?_
  rintro ⟨k, y1, y2⟩ w junk ⟨hx, hk, hall⟩ K hK
  simp only at hk hall
  refine br_dec (fun h3 => ?_) (fun h3 => ?_)
  · have hkl : k < l.length := by omega
    obtain ⟨b, o, rfl, _, hat'⟩ := hat.resolve_left (by omega)
    have hcx := (hat'.get (List.getElem?_eq_getElem hkl)).ext hx
    have hpx := hp _ (List.getElem_mem hkl)
    refine ⟨⟨by omega, by omega⟩, vlc (l[k]'hkl), rfl, by simpa using hcx, ?_⟩
    have r1 := Rmy.new w [.string ByteArray.empty, .int .i64 0, .int .i64 0] 47
    refine ⟨r1.all (vlc (l[k]'hkl)) 0 (Nat.le_refl 3) rfl, ?_⟩
    have c1 := setCells_at (vlc (l[k]'hkl)) _ 0 3 r1 (Nat.le_refl 3)
    have x2 : Ext w (setCells (w.alloc (.cells #[.string ByteArray.empty, .int .i64 0, .int .i64 0] 47)) w.heap.size 0 (vlc (l[k]'hkl))) := Ext.setCells _ (Ext.new _ _) (Nat.le_refl _)
    have no : vAt l k = false → vOk l = false := vOk_no hkl
    have hvk : vAt l k = (isNm (l[k]'hkl).name && wOk (l[k]'hkl).w (l[k]'hkl).n && (decide (k = 0) || match l[k - 1]? with | some y => less y.name (l[k]'hkl).name | none => true)) := by
      unfold vAt
      rw [List.getElem?_eq_getElem hkl]
    refine .inl ⟨by kernel_rfl, .string (l[k]'hkl).name, c1.1, .bool (isNm (l[k]'hkl).name), fun w' _ => (spec_IsName _ (by have := hpx.1; omega) w').mono ?_, ?_⟩
    · rintro _ _ ⟨rfl, rfl⟩
      exact ⟨rfl, Ext.refl _⟩
    refine br_not (fun h4 => ?_) (fun h4 => ?_)
    · intro w4 hx4
      exact ⟨vbool (no (by rw [hvk, h4]; rfl)).symm, (hx.trans x2).trans hx4⟩
    · refine ⟨.int .i64 (l[k]'hkl).w, c1.2.1, .int .i64 (l[k]'hkl).n, c1.2.2.1, .bool (wOk (l[k]'hkl).w (l[k]'hkl).n), fun w' _ => (spec_WordOk _ _ w').mono ?_, ?_⟩
      · rintro _ _ ⟨rfl, rfl⟩
        exact ⟨rfl, Ext.refl _⟩
      refine br_not (fun h5 => ?_) (fun h5 => ?_)
      · intro w4 hx4
        exact ⟨vbool (no (by rw [hvk, h4, h5]; rfl)).symm, (hx.trans x2).trans hx4⟩
      · refine br_dec (fun h6 => ?_) (fun h6 => ?_)
        · have hk1 : k - 1 < l.length := by omega
          have hcy := ((hat'.get (List.getElem?_eq_getElem hk1)).ext hx).ext x2
          refine ⟨_, IntWalk.i64_in _ (by omega), ⟨by omega, by omega⟩, .string (l[k - 1]'hk1).name, ?_, .string (l[k]'hkl).name, c1.1, ?_⟩
          · have := hcy.1
            rwa [show ((k : Int) - 1).toNat = k - 1 from by omega]
          · intro w4 hx4
            have he : vAt l k = less (l[k - 1]'hk1).name (l[k]'hkl).name := by
              rw [hvk, h4, h5, List.getElem?_eq_getElem hk1, decide_eq_false (by omega)]
              simp
            refine br_not (fun h7 => ?_) (fun h7 => ?_)
            · exact ⟨vbool (no (he.trans h7)).symm, (hx.trans x2).trans hx4⟩
            · have ht := he.trans h7
              refine ⟨_, IntWalk.i64_in _ (by omega), ?_⟩
              refine hK (k + 1, _, _) _ _ (vs3 rfl rfl (vint (by show (k : Int) + 1 = ((k + 1 : Nat) : Int); omega))) ⟨(hx.trans x2).trans hx4, by show k + 1 ≤ l.length; omega, fun i hi => ?_⟩ (by show l.length - (k + 1) < l.length - k; omega) ?_
              · by_cases e : i = k
                · subst e; exact ht
                · exact hall i (by have : i < k + 1 := hi; omega)
              · ((repeat (first | (with_reducible exact Only.refl) | (with_reducible refine Only.skip ?_) | ((with_reducible refine Only.upd ?_ ?_); rfl) | ((with_reducible refine Only.over ?_ ?_ _); rfl) | ((with_reducible refine Only.hav ?_ ?_ ?_); rfl; rfl))))
        · intro w4 hx4
          have he : vAt l k = true := by
            rw [hvk, h4, h5, decide_eq_true (by omega : k = 0)]
            rfl
          refine ⟨_, IntWalk.i64_in _ (by omega), ?_⟩
          refine hK (k + 1, _, _) _ _ (vs3 rfl rfl (vint (by show (k : Int) + 1 = ((k + 1 : Nat) : Int); omega))) ⟨(hx.trans x2).trans hx4, by show k + 1 ≤ l.length; omega, fun i hi => ?_⟩ (by show l.length - (k + 1) < l.length - k; omega) ?_
          · by_cases e : i = k
            · subst e; exact he
            · exact hall i (by have : i < k + 1 := hi; omega)
          · ((repeat (first | (with_reducible exact Only.refl) | (with_reducible refine Only.skip ?_) | ((with_reducible refine Only.upd ?_ ?_); rfl) | ((with_reducible refine Only.over ?_ ?_ _); rfl) | ((with_reducible refine Only.hav ?_ ?_ ?_); rfl; rfl))))
  · refine ⟨vbool ?_, hx⟩
    rw [vOk_all (fun i hi => hall i (by omega))]
    exact decide_eq_decide.2 (by omega)

end Go.Proofs.Ytekddgkgeaolnaa
