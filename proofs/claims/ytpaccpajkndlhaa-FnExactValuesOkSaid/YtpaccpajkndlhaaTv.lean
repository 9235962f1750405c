/- Values (a name, a width, a number): contracts of szValueS, toValueS, eqValueS. (OPTIONAL) Contracts of ValuesOk. (OPTIONAL) -/
import Derived.Test.YtpaccpajkndlhaaTt
import Derived.Test.YtpaccpajkndlhaaFa
import Derived.Test.YtpaccpajkndlhaaTa
import Derived.Test.YtpaccpajkndlhaaWd
namespace Go.Proofs.Ytpaccpajkndlhaa
open Go Go.Vc Go.RowKit

structure VLab where
  name : ByteArray
  w : Int
  n : Int
  deriving DecidableEq
def vlc (x : VLab) : List Value := [.string x.name, .int .i64 x.w, .int .i64 x.n]

theorem vlc_len (x : VLab) : (vlc x).length = 3 := rfl
def okV (x : VLab) : Prop := x.name.size ≤ maxLen ∧ inI x.w ∧ inI x.n
abbrev VSl (ok : Nat → Prop) (w : World) (s : Value) (l : List VLab) : Prop := LsSl vlc 3 ok w s l
def vwt : List VLab → Nat
  | [] => 0
  | x :: l => vwt l + 1 + x.name.size

theorem len_vwt : ∀ l : List VLab, l.length ≤ vwt l := by
  intro l
  induction l with
  | nil => exact Nat.le_refl _
  | cons x l ih => simp only [vwt, List.length_cons]; omega

theorem szValue_ret (v : VLab) (left : Int) (W : World) (hv : okV v) (h0 : 0 ≤ left) (h1 : left ≤ 1048576) :
    Ret Try.prog 42 #[.agg #[.string v.name, .int .i64 v.w, .int .i64 v.n], .int .i64 left] W (SzR v.name.size left W) := by
  have hlm : (maxLen : Int) ≤ 9223372036854775807 := by decide
  have hn := hv.1
  refine ret_of_vc ties mixed Try.func42 rfl (by kernel_rfl) rfl rfl ?_
  refine ⟨.string v.name, boxed _ _ _ _ _ rfl, _, IntWalk.i64_in _ (by omega), ?_⟩
  refine br_dec (fun h2 => ?_) (fun h2 => ?_)
  · exact ⟨Ext.new _ _, .inl rfl⟩
  · exact ⟨Ext.new _ _, .inr ⟨by omega, rfl⟩⟩

theorem szValueS_ret (l : List VLab) (s : Value) (left : Int) (W : World) (hs : VSl anyB W s l) (hp : ∀ x ∈ l, okV x) (h0 : 0 ≤ left) (h1 : left ≤ 1048576) :
    Ret Try.prog 14 #[s, .int .i64 left] W (SzR (vwt l) left W) := by
  obtain ⟨a, c, rfl, hl, hc, hat⟩ := hs
  have hlm : (maxLen : Int) ≤ 9223372036854775807 := by decide
  have hlw := len_vwt l
  refine ret_of_vc ties mixed Try.func14 rfl (by kernel_rfl) rfl rfl ?_
  refine ⟨_, IntWalk.i64_in _ (by omega), ?_⟩
  refine br_dec (fun h2 => ?_) (fun h2 => ?_)
  · exact ⟨Ext.refl _, .inl rfl⟩
  refine loop_rule (σ := Nat × Int × List VLab) [1, 5] 12 27 (fun q => [.int .i64 q.2.1, .int .i64 q.1])
    (fun q w' => Ext W w' ∧ q.1 + q.2.2.length = l.length ∧ (∀ x ∈ q.2.2, okV x) ∧ q.2.1 + vwt l = left + vwt q.2.2 - q.2.2.length ∧ 0 ≤ q.2.1 ∧ q.2.1 ≤ left ∧ (q.2.2.length = 0 ∨ ∃ b o, a = some ⟨b, o, none⟩ ∧ LsAt vlc 3 W q.2.2 b (o + q.1 * 3)))
    (fun q => q.2.2.length) (0, left - l.length, l) rfl ⟨Ext.refl _, by simp, hp, by simp only; omega, by simp only; omega, by simp only; omega, ?_⟩ ?_
  · rcases hat with hat | ⟨b, o, ha, _, hat⟩
    · exact .inl hat
    · exact .inr ⟨b, o, ha, by simpa using hat⟩
  · rintro ⟨k, f, g⟩ w junk ⟨hx, hk, hgp, hle, hl0, hl1, hga⟩ K hK
    simp only at hk hgp hle hl0 hl1 hga
    refine br_dec (fun h3 => ?_) (fun h3 => ?_)
    · match g with
      | [] => simp only [List.length_nil] at hk; omega
      | x :: r =>
        obtain ⟨b, o, rfl, hga'⟩ := hga.resolve_left (by simp)
        obtain ⟨hc', hr⟩ := hga'
        simp only [List.length_cons, vwt] at hk hle
        refine ⟨⟨by omega, by omega⟩, vlc x, rfl, ?_, ?_⟩
        · simp only [Int.toNat_natCast]; exact hc'.ext hx
        refine Or.inl ((szValue_ret x f _ (hgp x (by simp)) hl0 (by omega)).mono ?_)
        rintro _ w' ⟨hx', rfl | ⟨h4, rfl⟩⟩
        · exact ⟨hx.trans hx', .inl rfl⟩
        · refine br_dec_false (by omega) ?_
          refine ⟨_, IntWalk.i64_in _ (by omega), ?_⟩
          refine hK (k + 1, f - x.name.size, r) _ _ (vs2 rfl (vint (by show (k : Int) + 1 = ((k + 1 : Nat) : Int); omega)))
            ⟨hx.trans hx', by show k + 1 + r.length = l.length; omega, fun y hy => hgp y (by simp [hy]), by show f - x.name.size + vwt l = left + vwt r - r.length; omega, by show 0 ≤ f - x.name.size; omega, by show f - x.name.size ≤ left; omega, ?_⟩ (by show r.length < r.length + 1; omega) ?_
          · right
            refine ⟨b, o, rfl, ?_⟩
            show LsAt vlc 3 W r b (o + (k + 1) * 3)
            rw [show o + (k + 1) * 3 = o + k * 3 + 3 from by omega]
            exact hr
          · ((repeat (first | (with_reducible exact Only.refl) | (with_reducible refine Only.skip ?_) | ((with_reducible refine Only.upd ?_ ?_); rfl) | ((with_reducible refine Only.over ?_ ?_ _); rfl) | ((with_reducible refine Only.hav ?_ ?_ ?_); rfl; rfl))))
    · have : g = [] := List.eq_nil_of_length_eq_zero (by omega)
      subst this
      have hle' : f + vwt l = left := by simpa [vwt] using hle
      exact ⟨hx, .inr ⟨by omega, vint (by show f = left - vwt l; omega)⟩⟩

theorem eqValue_ret (v u : VLab) (W : World) :
    Ret Try.prog 48 #[.agg #[.string v.name, .int .i64 v.w, .int .i64 v.n], .agg #[.string u.name, .int .i64 u.w, .int .i64 u.n]] W (fun x w' => x = .bool (decide (v = u)) ∧ Ext W w') := by
  refine ret_of_vc ties mixed Try.func48 rfl (by kernel_rfl) rfl rfl ?_
  have hx := (Ext.new W (.cells #[.string v.name, .int .i64 v.w, .int .i64 v.n] 65)).alloc (.cells #[.string u.name, .int .i64 u.w, .int .i64 u.n] 65)
  refine ⟨_, (Ext.new _ _).cell (boxed _ _ _ _ _ rfl), _, boxed _ _ _ _ _ rfl, ?_⟩
  refine br_dec (fun h => ?_) (fun h0 => ?_)
  · exact ⟨vbool (decide_eq_false (fun e => h (by rw [e]))).symm, hx⟩
  refine ⟨_, (Ext.new _ _).cell (boxed _ _ _ _ _ rfl), _, boxed _ _ _ _ _ rfl, ?_⟩
  refine br_dec (fun h => ?_) (fun h1 => ?_)
  · exact ⟨vbool (decide_eq_false (fun e => h (by rw [e]))).symm, hx⟩
  refine ⟨_, (Ext.new _ _).cell (boxed _ _ _ _ _ rfl), _, boxed _ _ _ _ _ rfl, ?_⟩
  refine br_dec (fun h => ?_) (fun h2 => ?_)
  · exact ⟨vbool (decide_eq_false (fun e => h (by rw [e]))).symm, hx⟩
  refine ⟨vbool (decide_eq_true ?_).symm, hx⟩
  cases v
  cases u
  simp_all

theorem eqValueS_ret (f g : List VLab) (s t : Value) (W : World) (hs : VSl anyB W s f) (ht : VSl anyB W t g) :
    Ret Try.prog 18 #[s, t] W (fun v w' => v = .bool (decide (f = g)) ∧ Ext W w') := by
  obtain ⟨a, c, rfl, hl, hc, hat⟩ := hs
  obtain ⟨a', c', rfl, hl', hc', hat'⟩ := ht
  have hlm : (maxLen : Int) ≤ 9223372036854775807 := by decide
  refine ret_of_vc ties mixed Try.func18 rfl (by kernel_rfl) rfl rfl ?_
  refine br_dec (fun h => ?_) (fun h => ?_)
  · exact ⟨vbool (decide_eq_false (fun e => h (by rw [e]))).symm, Ext.refl _⟩
  have h := Classical.not_not.1 h
  refine loop_rule (σ := Nat × List VLab × List VLab) [5] 11 27 (fun q => [.int .i64 q.1])
    (fun q w' => Ext W w' ∧ q.1 + q.2.1.length = f.length ∧ q.2.1.length = q.2.2.length ∧ (f = g ↔ q.2.1 = q.2.2) ∧
      (q.2.1.length = 0 ∨ ∃ b o, a = some ⟨b, o, none⟩ ∧ LsAt vlc 3 W q.2.1 b (o + q.1 * 3)) ∧ (q.2.2.length = 0 ∨ ∃ b o, a' = some ⟨b, o, none⟩ ∧ LsAt vlc 3 W q.2.2 b (o + q.1 * 3)))
    (fun q => q.2.1.length) (0, f, g) rfl ⟨Ext.refl _, by simp, by simp only; omega, Iff.rfl, ?_, ?_⟩ ?_
  · rcases hat with hat | ⟨b, o, ha, _, hat⟩
    · exact .inl hat
    · exact .inr ⟨b, o, ha, by simpa using hat⟩
  · rcases hat' with hat | ⟨b, o, ha, _, hat⟩
    · exact .inl hat
    · exact .inr ⟨b, o, ha, by simpa using hat⟩
  · rintro ⟨k, p, q⟩ w junk ⟨hx, hk, hpq, hiff, hpa, hqa⟩ K hK
    simp only at hk hpq hiff hpa hqa
    refine br_dec (fun h3 => ?_) (fun h3 => ?_)
    · match p, q with
      | [], _ => simp only [List.length_nil] at hk; omega
      | x :: r, [] => simp at hpq
      | x :: r, y :: r' =>
        obtain ⟨b, o, rfl, hx1, hr⟩ := hpa.resolve_left (by simp)
        obtain ⟨b', o', rfl, hy1, hr'⟩ := hqa.resolve_left (by simp)
        simp only [List.length_cons] at hk hpq
        refine .inl ⟨by kernel_rfl, ⟨by omega, by omega⟩, vlc x, rfl, ?_, ⟨by omega, by omega⟩, vlc y, rfl, ?_, .bool (decide (x = y)), fun w1 _ => eqValue_ret x y w1, ?_⟩
        · simp only [Int.toNat_natCast]; exact hx1.ext hx
        · simp only [Int.toNat_natCast]; exact hy1.ext hx
        intro w1 hx2
        refine br_ndec (fun h4 => ?_) (fun h4 => ?_)
        · refine ⟨vbool (decide_eq_false (fun e => ?_)).symm, hx.trans hx2⟩
          have := hiff.1 e
          simp only [List.cons.injEq] at this
          exact h4 this.1
        · refine ⟨_, IntWalk.i64_in _ (by omega), ?_⟩
          refine hK (k + 1, r, r') _ _ (vs1 (vint (by show (k : Int) + 1 = ((k + 1 : Nat) : Int); omega))) ⟨hx.trans hx2, by show k + 1 + r.length = f.length; omega, by show r.length = r'.length; omega, ?_, ?_, ?_⟩ (by show r.length < r.length + 1; omega) ?_
          · rw [hiff]; simp only [List.cons.injEq, h4, true_and]
          · right
            refine ⟨b, o, rfl, ?_⟩
            show LsAt vlc 3 W r b (o + (k + 1) * 3)
            rw [show o + (k + 1) * 3 = o + k * 3 + 3 from by omega]
            exact hr
          · right
            refine ⟨b', o', rfl, ?_⟩
            show LsAt vlc 3 W r' b' (o' + (k + 1) * 3)
            rw [show o' + (k + 1) * 3 = o' + k * 3 + 3 from by omega]
            exact hr'
          · ((repeat (first | (with_reducible exact Only.refl) | (with_reducible refine Only.skip ?_) | ((with_reducible refine Only.upd ?_ ?_); rfl) | ((with_reducible refine Only.over ?_ ?_ _); rfl) | ((with_reducible refine Only.hav ?_ ?_ ?_); rfl; rfl))))
    · have h5 : p = [] := List.eq_nil_of_length_eq_zero (by omega)
      have h6 : q = [] := List.eq_nil_of_length_eq_zero (by rw [h5] at hpq; exact hpq.symm)
      exact ⟨vbool (decide_eq_true (hiff.2 (h5.trans h6.symm))).symm, hx⟩

theorem toValue_ret (v : VLab) (W : World) :
    Ret Try.prog 45 #[.agg #[.string v.name, .int .i64 v.w, .int .i64 v.n]] W (fun u w' => Ext W w' ∧ u = .agg #[.string v.name, .int .i64 v.w, .int .i64 v.n]) := by
  refine ret_of_vc ties mixed Try.func45 rfl (by kernel_rfl) rfl rfl ?_
  have x3 : ∀ (o o' o'' : Obj) , Ext (W.alloc o) (((W.alloc o).alloc o').alloc o'') := fun o o' o'' => (Ext.new _ _).trans (Ext.new _ _)
  refine ⟨.string v.name, (x3 _ _ _).cell (boxed _ _ _ _ _ rfl), (Rmy.new _ [.string ByteArray.empty, .int .i64 0, .int .i64 0] _) 0 (by decide), ?_⟩
  refine ⟨.int .i64 v.w, ((x3 _ _ _).set (by simp) _).cell (boxed _ _ _ _ _ rfl), (Rmy.new _ [.string ByteArray.empty, .int .i64 0, .int .i64 0] _).setCell 1 (by decide), ?_⟩
  refine ⟨.int .i64 v.n, (((x3 _ _ _).set (by simp) _).set (by simp) _).cell (boxed _ _ _ _ _ rfl), (Rmy.new _ [.string ByteArray.empty, .int .i64 0, .int .i64 0] _).setCell.setCell 2 (by decide), ?_⟩
  have r3 := Rmy.new ((W.alloc (.cells #[.string v.name, .int .i64 v.w, .int .i64 v.n] 64)).alloc (.cells #[.string ByteArray.empty, .int .i64 0, .int .i64 0] 65)) [.string ByteArray.empty, .int .i64 0, .int .i64 0] 65
  have hc := setCells_at (vlc v) _ 0 3 r3 (Nat.le_refl 3)
  simp only [vlc, setCells] at hc
  refine ⟨vlc v, rfl, hc, ?_⟩
  have r2 := Rmy.setCells (b := ((W.alloc (.cells #[.string v.name, .int .i64 v.w, .int .i64 v.n] 64)).alloc (.cells #[.string ByteArray.empty, .int .i64 0, .int .i64 0] 65)).heap.size) (o := 0) (vlc v) ((Rmy.new (W.alloc (.cells #[.string v.name, .int .i64 v.w, .int .i64 v.n] 64)) [.string ByteArray.empty, .int .i64 0, .int .i64 0] 65).ext (Ext.new _ (.cells #[.string ByteArray.empty, .int .i64 0, .int .i64 0] 65)))
  refine ⟨r2.all _ 0 (Nat.le_refl 3) rfl, ?_⟩
  refine ⟨_, rfl, setCells_at _ _ 0 3 r2 (Nat.le_refl 3), ?_⟩
  exact ⟨Ext.setCells _ (Ext.setCells (o := 0) (vlc v) (((Ext.new _ _).trans (Ext.new _ _)).trans (Ext.new _ _)) (by simp; omega)) (by simp), rfl⟩

theorem toValueS_ret (f : List VLab) (s : Value) (W : World) (hs : VSl anyB W s f) (hsz : f.length ≤ 1048576) :
    Ret Try.prog 16 #[s] W (fun v w' => Ext W w' ∧ VSl (freshB W) w' v f ∧ ∃ a, v = .slice a f.length f.length) := by
  obtain ⟨a, c, rfl, hl, hc, hat⟩ := hs
  have hlm : (maxLen : Int) ≤ 9223372036854775807 := by decide
  refine ret_of_vc ties mixed Try.func16 rfl (by kernel_rfl) rfl rfl ?_
  refine ⟨⟨by omega, by omega, by omega, by show (32 : Int) * (f.length : Int) ≤ _; omega⟩, ?_⟩
  have room : Rmy (W.alloc (.cells (zs f.length [.string ByteArray.empty, .int .i64 0, .int .i64 0]).toArray 65)) W.heap.size (f.length * 3) := by
    have := Rmy.new W (zs f.length [.string ByteArray.empty, .int .i64 0, .int .i64 0]) 65
    rwa [zs_length] at this
  refine loop_rule (σ := Nat × List VLab × List VLab) [4] 8 23 (fun q => [.int .i64 q.1])
    (fun q w' => Ext W w' ∧ W.heap.size < w'.heap.size ∧ Rmy w' W.heap.size (f.length * 3) ∧ q.1 + q.2.2.length = f.length ∧ q.2.1.length = q.1 ∧ q.2.1 ++ q.2.2 = f ∧
      LsAt vlc 3 w' q.2.1 W.heap.size 0 ∧ (q.2.2.length = 0 ∨ ∃ b o, a = some ⟨b, o, none⟩ ∧ LsAt vlc 3 W q.2.2 b (o + q.1 * 3)))
    (fun q => q.2.2.length) (0, [], f) rfl ⟨Ext.new _ _, by simp, room, by simp, rfl, rfl, trivial, ?_⟩ ?_
  · rcases hat with hat | ⟨b, o, ha, _, hat⟩
    · exact .inl hat
    · exact .inr ⟨b, o, ha, by simpa using hat⟩
  · rintro ⟨k, d, g⟩ w junk ⟨hx, hB, hroom, hk, hd, happ, hda, hga⟩ K hK
    simp only at hk hd happ hda hga
    refine br_dec (fun h3 => ?_) (fun h3 => ?_)
    · match g with
      | [] => simp only [List.length_nil] at hk; omega
      | x :: r =>
        obtain ⟨b, o, rfl, hcx, hr⟩ := hga.resolve_left (by simp)
        simp only [List.length_cons] at hk
        refine ⟨⟨by omega, by omega⟩, vlc x, rfl, ?_, ?_⟩
        · simp only [Int.toNat_natCast]; exact hcx.ext hx
        refine Or.inl ((toValue_ret x _).mono ?_)
        rintro _ w5 ⟨hx5, rfl⟩
        refine ⟨⟨by omega, by omega⟩, ?_⟩
        have hr5 := hroom.ext hx5
        have hroomk : 0 + (k : Int).toNat * 3 + 3 ≤ f.length * 3 := by omega
        refine ⟨hr5.all _ _ hroomk rfl, ?_⟩
        refine ⟨_, IntWalk.i64_in _ (by omega), ?_⟩
        have hkeep : ∀ b i, b ≠ W.heap.size ∨ i < 0 + k * 3 → (setCells w5 W.heap.size (0 + (k : Int).toNat * 3) (vlc x)).cell? ⟨b, i, none⟩ = w5.cell? ⟨b, i, none⟩ := fun b i hb =>
          setCells_other _ _ _ _ fun e => by simp only at e ⊢; omega
        refine hK (k + 1, d ++ [x], r) _ _ (vs1 (vint (by show (k : Int) + 1 = ((k + 1 : Nat) : Int); omega)))
          ⟨Ext.setCells _ (hx.trans hx5) (Nat.le_refl _), by rw [setCells_size]; exact Nat.lt_of_lt_of_le hB hx5.size, Rmy.setCells _ hr5, by show k + 1 + r.length = f.length; omega, ?_, ?_, ?_, ?_⟩ (by show r.length < r.length + 1; omega) ?_
        · show (d ++ [x]).length = k + 1
          simp [hd]
        · show (d ++ [x]) ++ r = f
          simpa using happ
        · refine LsAt.app (LsAt.keep vlc_len hkeep (.inr (by omega)) (hda.ext hx5)) ⟨?_, trivial⟩
          have := setCells_at (vlc x) w5 (0 + (k : Int).toNat * 3) _ hr5 hroomk
          rw [hd]
          rwa [show 0 + 3 * k = 0 + (k : Int).toNat * 3 from by omega]
        · right
          refine ⟨b, o, rfl, ?_⟩
          show LsAt vlc 3 W r b (o + (k + 1) * 3)
          rw [show o + (k + 1) * 3 = o + k * 3 + 3 from by omega]
          exact hr
        · ((repeat (first | (with_reducible exact Only.refl) | (with_reducible refine Only.skip ?_) | ((with_reducible refine Only.upd ?_ ?_); rfl) | ((with_reducible refine Only.over ?_ ?_ _); rfl) | ((with_reducible refine Only.hav ?_ ?_ ?_); rfl; rfl))))
    · have h5 : g = [] := List.eq_nil_of_length_eq_zero (by omega)
      subst h5
      rw [List.append_nil] at happ
      subst happ
      exact ⟨hx, ⟨_, _, rfl, Nat.le_refl _, Nat.le_trans hl hc, .inr ⟨_, _, rfl, Nat.le_refl _, hda⟩⟩, _, rfl⟩

end Go.Proofs.Ytpaccpajkndlhaa
namespace Go.Proofs.Ytpaccpajkndlhaa
open Go Go.Vc Go.RowKit

def less (a b : ByteArray) : Bool := Op.bytesLess a.toList b.toList
def vAt (l : List VLab) (i : Nat) : Bool :=
  match l[i]? with
  | none => true
  | some x => isNm x.name && wOk x.w x.n && (decide (i = 0) || match l[i - 1]? with
    | some y => less y.name x.name
    | none => true)
def vOk (l : List VLab) : Bool := decide (l.length ≤ 30) && (List.range l.length).all (vAt l)

theorem vOk_no {l : List VLab} {i : Nat} (hi : i < l.length) (h : vAt l i = false) : vOk l = false := by
  cases hv : vOk l with
  | false => rfl
  | true =>
    simp only [vOk, Bool.and_eq_true, List.all_eq_true, List.mem_range] at hv
    rw [hv.2 i hi] at h
    cases h

theorem vOk_all {l : List VLab} (h : ∀ i, i < l.length → vAt l i = true) : vOk l = decide (l.length ≤ 30) := by
  have : (List.range l.length).all (vAt l) = true := by
    rw [List.all_eq_true]
    exact fun i hi => h i (List.mem_range.1 hi)
  rw [vOk, this, Bool.and_true]

theorem impl_ValuesOk (l : List VLab) (s : Value) (W : World) (hs : VSl anyB W s l) (hp : ∀ x ∈ l, okV x) :
    Ret Try.prog 17 #[s] W (fun v w' => v = .bool (vOk l) ∧ Ext W w') := by
  obtain ⟨a, c, rfl, hl, hc, hat⟩ := hs
  have hlm : (maxLen : Int) ≤ 9223372036854775807 := by decide
  refine ret_of_vc ties mixed Try.func17 rfl (by kernel_rfl) rfl rfl ?_
  refine br_dec (fun h => ?_) (fun h => ?_)
  · exact ⟨vbool (by simp only [vOk]; rw [decide_eq_false (by omega)]; rfl), Ext.refl _⟩
  refine loop_rule (σ := Nat × Value × Value) [3, 4, 10] 11 41 (fun q => [q.2.1, q.2.2, .int .i64 q.1])
    (fun q w' => Ext W w' ∧ q.1 ≤ l.length ∧ ∀ i, i < q.1 → vAt l i = true) (fun q => l.length - q.1) (0, undef, undef) rfl ⟨Ext.refl _, Nat.zero_le _, fun i hi => absurd hi (Nat.not_lt_zero i)⟩ ?_
  rintro ⟨k, x1, x2⟩ w junk ⟨hx, hk, hall⟩ K hK
  simp only at hk hall
  refine br_dec (fun h3 => ?_) (fun h3 => ?_)
  · have hkl : k < l.length := by omega
    obtain ⟨b, o, rfl, _, hat'⟩ := hat.resolve_left (by omega)
    have hcx := (hat'.get (List.getElem?_eq_getElem hkl)).ext hx
    have hpx := hp _ (List.getElem_mem hkl)
    refine ⟨⟨by omega, by omega⟩, vlc (l[k]'hkl), rfl, by simpa using hcx, ?_⟩
    have r1 := Rmy.new w [.string ByteArray.empty, .int .i64 0, .int .i64 0] 65
    refine ⟨r1.all (vlc (l[k]'hkl)) 0 (Nat.le_refl 3) rfl, ?_⟩
    have c1 := setCells_at (vlc (l[k]'hkl)) _ 0 3 r1 (Nat.le_refl 3)
    have x2 : Ext w (setCells (w.alloc (.cells #[.string ByteArray.empty, .int .i64 0, .int .i64 0] 65)) w.heap.size 0 (vlc (l[k]'hkl))) := Ext.setCells _ (Ext.new _ _) (Nat.le_refl _)
    refine ⟨.string (l[k]'hkl).name, c1.1, ?_⟩
    refine Or.inl ((impl_IsName _ (by have := hpx.1; omega) _).mono ?_)
    rintro _ _ ⟨rfl, rfl⟩
    have no : vAt l k = false → vOk l = false := vOk_no hkl
    have hvk : vAt l k = (isNm (l[k]'hkl).name && wOk (l[k]'hkl).w (l[k]'hkl).n && (decide (k = 0) || match l[k - 1]? with | some y => less y.name (l[k]'hkl).name | none => true)) := by
      unfold vAt
      rw [List.getElem?_eq_getElem hkl]
    refine br_not (fun h4 => ?_) (fun h4 => ?_)
    · exact ⟨vbool (no (by rw [hvk, h4]; rfl)).symm, hx.trans x2⟩
    · refine ⟨.int .i64 (l[k]'hkl).w, c1.2.1, .int .i64 (l[k]'hkl).n, c1.2.2.1, ?_⟩
      refine Or.inl ((impl_WordOk _ _ _).mono ?_)
      rintro _ _ ⟨rfl, rfl⟩
      refine br_not (fun h5 => ?_) (fun h5 => ?_)
      · exact ⟨vbool (no (by rw [hvk, h4, h5]; rfl)).symm, hx.trans x2⟩
      · refine .inl ⟨by kernel_rfl, ?_⟩
        refine br_dec (fun h6 => ?_) (fun h6 => ?_)
        · have hk1 : k - 1 < l.length := by omega
          have hcy := ((hat'.get (List.getElem?_eq_getElem hk1)).ext hx).ext x2
          refine ⟨_, IntWalk.i64_in _ (by omega), ⟨by omega, by omega⟩, .string (l[k - 1]'hk1).name, ?_, .string (l[k]'hkl).name, c1.1, ?_⟩
          · have := hcy.1
            rwa [show ((k : Int) - 1).toNat = k - 1 from by omega]
          · intro w4 hx4
            have he : vAt l k = less (l[k - 1]'hk1).name (l[k]'hkl).name := by
              rw [hvk, h4, h5, List.getElem?_eq_getElem hk1, decide_eq_false (by omega)]
              simp
            refine br_not (fun h7 => ?_) (fun h7 => ?_)
            · exact ⟨vbool (no (he.trans h7)).symm, (hx.trans x2).trans hx4⟩
            · have ht := he.trans h7
              refine ⟨_, IntWalk.i64_in _ (by omega), ?_⟩
              refine hK (k + 1, _, _) _ _ (vs3 rfl rfl (vint (by show (k : Int) + 1 = ((k + 1 : Nat) : Int); omega))) ⟨(hx.trans x2).trans hx4, by show k + 1 ≤ l.length; omega, fun i hi => ?_⟩ (by show l.length - (k + 1) < l.length - k; omega) ?_
              · by_cases e : i = k
                · subst e; exact ht
                · exact hall i (by have : i < k + 1 := hi; omega)
              · ((repeat (first | (with_reducible exact Only.refl) | (with_reducible refine Only.skip ?_) | ((with_reducible refine Only.upd ?_ ?_); rfl) | ((with_reducible refine Only.over ?_ ?_ _); rfl) | ((with_reducible refine Only.hav ?_ ?_ ?_); rfl; rfl))))
        · intro w4 hx4
          have he : vAt l k = true := by
            rw [hvk, h4, h5, decide_eq_true (by omega : k = 0)]
            rfl
          refine ⟨_, IntWalk.i64_in _ (by omega), ?_⟩
          refine hK (k + 1, _, _) _ _ (vs3 rfl rfl (vint (by show (k : Int) + 1 = ((k + 1 : Nat) : Int); omega))) ⟨(hx.trans x2).trans hx4, by show k + 1 ≤ l.length; omega, fun i hi => ?_⟩ (by show l.length - (k + 1) < l.length - k; omega) ?_
          · by_cases e : i = k
            · subst e; exact he
            · exact hall i (by have : i < k + 1 := hi; omega)
          · ((repeat (first | (with_reducible exact Only.refl) | (with_reducible refine Only.skip ?_) | ((with_reducible refine Only.upd ?_ ?_); rfl) | ((with_reducible refine Only.over ?_ ?_ _); rfl) | ((with_reducible refine Only.hav ?_ ?_ ?_); rfl; rfl))))
  · exact ⟨vbool (by rw [vOk_all (fun i hi => hall i (by omega))]; exact (decide_eq_true (by omega)).symm), hx⟩

theorem spec_ValuesOk (l : List VLab) (s : Value) (W : World) (hs : VSl anyB W s l) (hp : ∀ x ∈ l, okV x) :
    Ret Try.prog 15 #[s] W (fun v w' => v = .bool (vOk l) ∧ Ext W w') := by
  obtain ⟨a, c, rfl, hl, hc, hat⟩ := hs
  have hlm : (maxLen : Int) ≤ 9223372036854775807 := by decide
  refine ret_of_vc ties mixed Try.func15 rfl (by kernel_rfl) rfl rfl ?_
  refine loop_rule (σ := Nat × Value × Value) [3, 4, 7] 8 40 (fun q => [q.2.1, q.2.2, .int .i64 q.1])
    (fun q w' => Ext W w' ∧ q.1 ≤ l.length ∧ ∀ i, i < q.1 → vAt l i = true) (fun q => l.length - q.1) (0, undef, undef) rfl ⟨Ext.refl _, Nat.zero_le _, fun i hi => absurd hi (Nat.not_lt_zero i)⟩ ?_
  rintro ⟨k, y1, y2⟩ w junk ⟨hx, hk, hall⟩ K hK
  simp only at hk hall
  refine br_dec (fun h3 => ?_) (fun h3 => ?_)
  · have hkl : k < l.length := by omega
    obtain ⟨b, o, rfl, _, hat'⟩ := hat.resolve_left (by omega)
    have hcx := (hat'.get (List.getElem?_eq_getElem hkl)).ext hx
    have hpx := hp _ (List.getElem_mem hkl)
    refine ⟨⟨by omega, by omega⟩, vlc (l[k]'hkl), rfl, by simpa using hcx, ?_⟩
    have r1 := Rmy.new w [.string ByteArray.empty, .int .i64 0, .int .i64 0] 65
    refine ⟨r1.all (vlc (l[k]'hkl)) 0 (Nat.le_refl 3) rfl, ?_⟩
    have c1 := setCells_at (vlc (l[k]'hkl)) _ 0 3 r1 (Nat.le_refl 3)
    have x2 : Ext w (setCells (w.alloc (.cells #[.string ByteArray.empty, .int .i64 0, .int .i64 0] 65)) w.heap.size 0 (vlc (l[k]'hkl))) := Ext.setCells _ (Ext.new _ _) (Nat.le_refl _)
    have no : vAt l k = false → vOk l = false := vOk_no hkl
    have hvk : vAt l k = (isNm (l[k]'hkl).name && wOk (l[k]'hkl).w (l[k]'hkl).n && (decide (k = 0) || match l[k - 1]? with | some y => less y.name (l[k]'hkl).name | none => true)) := by
      unfold vAt
      rw [List.getElem?_eq_getElem hkl]
    refine .inl ⟨by kernel_rfl, .string (l[k]'hkl).name, c1.1, .bool (isNm (l[k]'hkl).name), fun w' _ => (spec_IsName _ (by have := hpx.1; omega) w').mono ?_, ?_⟩
    · rintro _ _ ⟨rfl, rfl⟩
      exact ⟨rfl, Ext.refl _⟩
    refine br_not (fun h4 => ?_) (fun h4 => ?_)
    · intro w4 hx4
      exact ⟨vbool (no (by rw [hvk, h4]; rfl)).symm, (hx.trans x2).trans hx4⟩
    · refine ⟨.int .i64 (l[k]'hkl).w, c1.2.1, .int .i64 (l[k]'hkl).n, c1.2.2.1, .bool (wOk (l[k]'hkl).w (l[k]'hkl).n), fun w' _ => (spec_WordOk _ _ w').mono ?_, ?_⟩
      · rintro _ _ ⟨rfl, rfl⟩
        exact ⟨rfl, Ext.refl _⟩
      refine br_not (fun h5 => ?_) (fun h5 => ?_)
      · intro w4 hx4
        exact ⟨vbool (no (by rw [hvk, h4, h5]; rfl)).symm, (hx.trans x2).trans hx4⟩
      · refine br_dec (fun h6 => ?_) (fun h6 => ?_)
        · have hk1 : k - 1 < l.length := by omega
          have hcy := ((hat'.get (List.getElem?_eq_getElem hk1)).ext hx).ext x2
          refine ⟨_, IntWalk.i64_in _ (by omega), ⟨by omega, by omega⟩, .string (l[k - 1]'hk1).name, ?_, .string (l[k]'hkl).name, c1.1, ?_⟩
          · have := hcy.1
            rwa [show ((k : Int) - 1).toNat = k - 1 from by omega]
          · intro w4 hx4
            have he : vAt l k = less (l[k - 1]'hk1).name (l[k]'hkl).name := by
              rw [hvk, h4, h5, List.getElem?_eq_getElem hk1, decide_eq_false (by omega)]
              simp
            refine br_not (fun h7 => ?_) (fun h7 => ?_)
            · exact ⟨vbool (no (he.trans h7)).symm, (hx.trans x2).trans hx4⟩
            · have ht := he.trans h7
              refine ⟨_, IntWalk.i64_in _ (by omega), ?_⟩
              refine hK (k + 1, _, _) _ _ (vs3 rfl rfl (vint (by show (k : Int) + 1 = ((k + 1 : Nat) : Int); omega))) ⟨(hx.trans x2).trans hx4, by show k + 1 ≤ l.length; omega, fun i hi => ?_⟩ (by show l.length - (k + 1) < l.length - k; omega) ?_
              · by_cases e : i = k
                · subst e; exact ht
                · exact hall i (by have : i < k + 1 := hi; omega)
              · ((repeat (first | (with_reducible exact Only.refl) | (with_reducible refine Only.skip ?_) | ((with_reducible refine Only.upd ?_ ?_); rfl) | ((with_reducible refine Only.over ?_ ?_ _); rfl) | ((with_reducible refine Only.hav ?_ ?_ ?_); rfl; rfl))))
        · intro w4 hx4
          have he : vAt l k = true := by
            rw [hvk, h4, h5, decide_eq_true (by omega : k = 0)]
            rfl
          refine ⟨_, IntWalk.i64_in _ (by omega), ?_⟩
          refine hK (k + 1, _, _) _ _ (vs3 rfl rfl (vint (by show (k : Int) + 1 = ((k + 1 : Nat) : Int); omega))) ⟨(hx.trans x2).trans hx4, by show k + 1 ≤ l.length; omega, fun i hi => ?_⟩ (by show l.length - (k + 1) < l.length - k; omega) ?_
          · by_cases e : i = k
            · subst e; exact he
            · exact hall i (by have : i < k + 1 := hi; omega)
          · ((repeat (first | (with_reducible exact Only.refl) | (with_reducible refine Only.skip ?_) | ((with_reducible refine Only.upd ?_ ?_); rfl) | ((with_reducible refine Only.over ?_ ?_ _); rfl) | ((with_reducible refine Only.hav ?_ ?_ ?_); rfl; rfl))))
  · refine ⟨vbool ?_, hx⟩
    rw [vOk_all (fun i hi => hall i (by omega))]
    exact decide_eq_decide.2 (by omega)

end Go.Proofs.Ytpaccpajkndlhaa
