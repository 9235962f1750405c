/- Terms: the types that are met; contracts of szTerm, toTerm, eqTerm. -/
import Derived.Test.YtpaccpajkndlhaaTt
import Derived.Test.YtpaccpajkndlhaaFa
import Derived.Test.YtpaccpajkndlhaaIa
namespace Go.Proofs.Ytpaccpajkndlhaa
open Go Go.Vc Go.RowKit

/-- A node of a term without its kids. -/
structure Lab where
  op : Int
  w : Int
  n : Int
  name : ByteArray
  deriving DecidableEq
abbrev TF := Fo Lab
def tlc (v : Lab) : List Value := [.int .i64 v.op, .int .i64 v.w, .int .i64 v.n, .string v.name]
abbrev TSl (ok : Nat → Prop) (w : World) (s : Value) (f : TF) : Prop := Fo.Sl tlc 5 ok w s f
abbrev TAt (ok : Nat → Prop) (w : World) (f : TF) (b o : Nat) : Prop := Fo.At tlc 5 ok w f b o
def anyB : Nat → Prop := fun _ => True

def okL (x : Lab) : Prop := inI x.op ∧ inI x.w ∧ inI x.n ∧ x.name.size ≤ maxLen

/-! the size of an argument -/
def wt : TF → Nat
  | .nil => 0
  | .cons x k r => wt k + wt r + 1 + x.name.size
theorem size_wt : ∀ f : TF, f.size ≤ wt f := by
  intro f
  induction f with
  | nil => exact Nat.le_refl _
  | cons x k r ihk ihr => simp only [wt, Fo.size]; omega
def SzR (n : Nat) (left : Int) (W : World) (v : Value) (w' : World) : Prop := Ext W w' ∧ (v = .int .i64 (-1) ∨ ((n : Int) ≤ left ∧ v = .int .i64 (left - n)))
def SzS (f : TF) : Prop := ∀ (s : Value) (left : Int) (W : World), TSl anyB W s f → f.All okL → 0 ≤ left → left ≤ 1048576 → Ret Try.prog 39 #[s, .int .i64 left] W (SzR (wt f) left W)

theorem szTerm_of {k : TF} (hk : SzS k) (v : Lab) (s : Value) (left : Int) (W : World) (hs : TSl anyB W s k) (hv : okL v) (hp : k.All okL) (h0 : 0 ≤ left) (h1 : left ≤ 1048576) :
    Ret Try.prog 9 #[.agg #[.int .i64 v.op, .int .i64 v.w, .int .i64 v.n, .string v.name, s], .int .i64 left] W (SzR (v.name.size + wt k) left W) := by
  have hlm : (maxLen : Int) ≤ 9223372036854775807 := by decide
  have hn := hv.2.2.2
  refine ret_of_vc ties mixed Try.func9 rfl (by kernel_rfl) rfl rfl ?_
  refine ⟨.string v.name, boxed _ _ _ _ _ rfl, _, IntWalk.i64_in _ (by omega), ?_⟩
  refine br_dec (fun h2 => ?_) (fun h2 => ?_)
  · exact ⟨Ext.new _ _, .inl rfl⟩
  refine ⟨s, boxed _ _ _ _ _ rfl, ?_⟩
  refine Or.inl ((hk s (left - v.name.size) _ (hs.ext (Ext.new _ _)) hp (by omega) (by omega)).mono ?_)
  rintro _ w' ⟨hx, rfl | ⟨h3, rfl⟩⟩
  · exact ⟨(Ext.new _ _).trans hx, .inl rfl⟩
  · refine br_dec_false (by omega) ?_
    exact ⟨(Ext.new _ _).trans hx, .inr ⟨by omega, vint (by omega)⟩⟩

theorem szTermS_all : ∀ (n : Nat) (f : TF), f.size < n → SzS f := by
  intro n
  induction n with
  | zero => intro f hf; omega
  | succ n ih =>
    intro f hf s left W hs hp h0 h1
    obtain ⟨a, c, rfl, hl, hat⟩ := hs
    have hlm : (maxLen : Int) ≤ 9223372036854775807 := by decide
    have hfl := f.len_le
    have hfw := size_wt f
    refine ret_of_vc ties mixed Try.func39 rfl (by kernel_rfl) rfl rfl ?_
    refine ⟨_, IntWalk.i64_in _ (by omega), ?_⟩
    refine br_dec (fun h2 => ?_) (fun h2 => ?_)
    · exact ⟨Ext.refl _, .inl rfl⟩
    refine loop_rule (σ := Nat × Int × TF) [1, 5] 12 27 (fun q => [.int .i64 q.2.1, .int .i64 q.1])
      (fun q w' => Ext W w' ∧ q.1 + q.2.2.len = f.len ∧ q.2.2.size ≤ f.size ∧ q.2.2.All okL ∧ q.2.1 + wt f = left + wt q.2.2 - q.2.2.len ∧ 0 ≤ q.2.1 ∧ q.2.1 ≤ left ∧ (q.2.2.len = 0 ∨ ∃ b o, a = some ⟨b, o, none⟩ ∧ TAt anyB W q.2.2 b (o + q.1 * 5)))
      (fun q => q.2.2.len) (0, left - f.len, f) rfl ⟨Ext.refl _, by simp, Nat.le_refl _, hp, by simp only; omega, by simp only; omega, by simp only; omega, ?_⟩ ?_
    · rcases hat with hat | ⟨b, o, ha, _, hat⟩
      · exact .inl hat
      · exact .inr ⟨b, o, ha, by simpa using hat⟩
    · rintro ⟨k, l, g⟩ w junk ⟨hx, hk, hg, hgp, hle, hl0, hl1, hga⟩ K hK
      simp only at hk hg hgp hle hl0 hl1 hga
      refine br_dec (fun h3 => ?_) (fun h3 => ?_)
      · match g with
        | .nil => simp only [Fo.len] at hk; omega
        | .cons x kk r =>
          obtain ⟨b, o, rfl, hga'⟩ := hga.resolve_left (by simp [Fo.len])
          obtain ⟨⟨s', hc, hs'⟩, hr⟩ := hga'.sl
          obtain ⟨hpx, hpk, hpr⟩ := hgp
          simp only [Fo.size, Fo.len, wt] at hk hg hle
          refine ⟨⟨by omega, by omega⟩, [.int .i64 x.op, .int .i64 x.w, .int .i64 x.n, .string x.name, s'], rfl, ?_, ?_⟩
          · simp only [Int.toNat_natCast]; exact hc.ext hx
          refine Or.inl ((szTerm_of (ih kk (by omega)) x s' l _ (hs'.ext hx) hpx hpk hl0 (by omega)).mono ?_)
          rintro _ w' ⟨hx', rfl | ⟨h4, rfl⟩⟩
          · exact ⟨hx.trans hx', .inl rfl⟩
          · refine br_dec_false (by omega) ?_
            refine ⟨_, IntWalk.i64_in _ (by omega), ?_⟩
            refine hK (k + 1, l - (x.name.size + wt kk : Nat), r) _ _ (vs2 rfl (vint (by show (k : Int) + 1 = ((k + 1 : Nat) : Int); omega)))
              ⟨hx.trans hx', by show k + 1 + r.len = f.len; omega, by show r.size ≤ f.size; omega, hpr, by show l - (x.name.size + wt kk : Nat) + wt f = left + wt r - r.len; omega, by show 0 ≤ l - (x.name.size + wt kk : Nat); omega, by show l - (x.name.size + wt kk : Nat) ≤ left; omega, ?_⟩ (by show r.len < r.len + 1; omega) ?_
            · right
              refine ⟨b, o, rfl, ?_⟩
              show TAt anyB W r b (o + (k + 1) * 5)
              rw [show o + (k + 1) * 5 = o + k * 5 + 5 from by omega]
              exact hr
            · ((repeat (first | (with_reducible exact Only.refl) | (with_reducible refine Only.skip ?_) | ((with_reducible refine Only.upd ?_ ?_); rfl) | ((with_reducible refine Only.over ?_ ?_ _); rfl) | ((with_reducible refine Only.hav ?_ ?_ ?_); rfl; rfl))))
      · have := Fo.len_zero (f := g) (by omega)
        subst this
        have hle' : l + wt f = left := by simpa [wt, Fo.len] using hle
        exact ⟨hx, .inr ⟨by omega, vint (by show l = left - wt f; omega)⟩⟩

theorem szTerm_ret (k : TF) (v : Lab) (s : Value) (left : Int) (W : World) (hs : TSl anyB W s k) (hv : okL v) (hp : k.All okL) (h0 : 0 ≤ left) (h1 : left ≤ 1048576) :
    Ret Try.prog 9 #[.agg #[.int .i64 v.op, .int .i64 v.w, .int .i64 v.n, .string v.name, s], .int .i64 left] W (SzR (v.name.size + wt k) left W) := szTerm_of (szTermS_all _ k (Nat.lt_succ_self _)) v s left W hs hv hp h0 h1

/-! a copy -/
def freshB (W : World) : Nat → Prop := fun b => W.heap.size ≤ b
def ToS (f : TF) : Prop := ∀ (s : Value) (W : World), TSl anyB W s f → f.size ≤ 1048576 → Ret Try.prog 40 #[s] W (fun v w' => Ext W w' ∧ TSl (freshB W) w' v f)

theorem freshB_le {W w : World} (h : Ext W w) : ∀ b, freshB w b → freshB W b := fun _ hb => Nat.le_trans h.size hb

theorem tlc_len (x : Lab) : (tlc x).length + 1 = 5 := rfl
theorem copyLab {W3 w5 : World} {B : Nat} {v : Lab} {s' : Value} (r3 : Rmy W3 B 5) (hx5 : Ext (setCells W3 B 0 (tlc v)) w5) : CellsAt (setCells w5 B 4 [s']) B 0 (tlc v ++ [s']) :=
  CellsAt.append (((setCells_at (tlc v) W3 0 5 r3 (by simp [tlc])).ext hx5).keep fun i _ h2 => setCells_other _ _ _ _ fun _ => .inl (by simpa [tlc] using h2)) (setCells_at [s'] w5 4 5 ((Rmy.setCells _ r3).ext hx5) (Nat.le_refl 5))

theorem toTerm_of {k : TF} (hk : ToS k) (v : Lab) (s : Value) (W : World) (hs : TSl anyB W s k) (hsz : k.size ≤ 1048576) :
    Ret Try.prog 11 #[.agg #[.int .i64 v.op, .int .i64 v.w, .int .i64 v.n, .string v.name, s]] W (fun u w' => Ext W w' ∧ ∃ s', u = .agg #[.int .i64 v.op, .int .i64 v.w, .int .i64 v.n, .string v.name, s'] ∧ TSl (freshB W) w' s' k) := by
  refine ret_of_vc ties mixed Try.func11 rfl (by kernel_rfl) rfl rfl ?_
  have x3 : ∀ (o o' o'' : Obj) , Ext (W.alloc o) (((W.alloc o).alloc o').alloc o'') := fun o o' o'' => (Ext.new _ _).trans (Ext.new _ _)
  refine ⟨.int .i64 v.op, (x3 _ _ _).cell (boxed _ _ _ _ _ rfl), (Rmy.new _ [.int .i64 0, .int .i64 0, .int .i64 0, .string ByteArray.empty, .slice none 0 0] _) 0 (by decide), ?_⟩
  refine ⟨.int .i64 v.w, ((x3 _ _ _).set (by simp) _).cell (boxed _ _ _ _ _ rfl), (Rmy.new _ [.int .i64 0, .int .i64 0, .int .i64 0, .string ByteArray.empty, .slice none 0 0] _).setCell 1 (by decide), ?_⟩
  refine ⟨.int .i64 v.n, (((x3 _ _ _).set (by simp) _).set (by simp) _).cell (boxed _ _ _ _ _ rfl), (Rmy.new _ [.int .i64 0, .int .i64 0, .int .i64 0, .string ByteArray.empty, .slice none 0 0] _).setCell.setCell 2 (by decide), ?_⟩
  refine ⟨.string v.name, ((((x3 _ _ _).set (by simp) _).set (by simp) _).set (by simp) _).cell (boxed _ _ _ _ _ rfl), (Rmy.new _ [.int .i64 0, .int .i64 0, .int .i64 0, .string ByteArray.empty, .slice none 0 0] _).setCell.setCell.setCell 3 (by decide), ?_⟩
  refine ⟨s, (((((x3 _ _ _).set (by simp) _).set (by simp) _).set (by simp) _).set (by simp) _).cell (boxed _ _ _ _ _ rfl), ?_⟩
  have hx4 : Ext W (setCells (((W.alloc (.cells #[.int .i64 v.op, .int .i64 v.w, .int .i64 v.n, .string v.name, s] 24)).alloc (.cells #[.int .i64 0, .int .i64 0, .int .i64 0, .string ByteArray.empty, .slice none 0 0] 29)).alloc (.cells #[.int .i64 0, .int .i64 0, .int .i64 0, .string ByteArray.empty, .slice none 0 0] 29)) ((W.alloc (.cells #[.int .i64 v.op, .int .i64 v.w, .int .i64 v.n, .string v.name, s] 24)).alloc (.cells #[.int .i64 0, .int .i64 0, .int .i64 0, .string ByteArray.empty, .slice none 0 0] 29)).heap.size 0 (tlc v)) :=
    Ext.setCells _ (((Ext.new _ _).trans (Ext.new _ _)).trans (Ext.new _ _)) (by simp; omega)
  refine Or.inl ((hk s _ (hs.ext hx4) hsz).mono ?_)
  rintro _ w5 ⟨hx5, a, c, rfl, hl, hat⟩
  have hs5 : TSl _ w5 (.slice a k.len c) k := ⟨a, c, rfl, hl, hat⟩
  have r3 := Rmy.new ((W.alloc (.cells #[.int .i64 v.op, .int .i64 v.w, .int .i64 v.n, .string v.name, s] 24)).alloc (.cells #[.int .i64 0, .int .i64 0, .int .i64 0, .string ByteArray.empty, .slice none 0 0] 29)) [.int .i64 0, .int .i64 0, .int .i64 0, .string ByteArray.empty, .slice none 0 0] 29
  refine ⟨((Rmy.setCells _ r3).ext hx5) 4 (by decide), ?_⟩
  have hc5 := copyLab (v := v) (s' := .slice a k.len c) r3 hx5
  simp only [setCells] at hc5
  refine ⟨tlc v ++ [.slice a k.len c], rfl, ?_, ?_⟩
  · exact hc5
  have r2 := Rmy.setCells (b := ((W.alloc (.cells #[.int .i64 v.op, .int .i64 v.w, .int .i64 v.n, .string v.name, s] 24)).alloc (.cells #[.int .i64 0, .int .i64 0, .int .i64 0, .string ByteArray.empty, .slice none 0 0] 29)).heap.size) (o := 4) [.slice a k.len c] ((Rmy.setCells (tlc v) ((Rmy.new (W.alloc (.cells #[.int .i64 v.op, .int .i64 v.w, .int .i64 v.n, .string v.name, s] 24)) [.int .i64 0, .int .i64 0, .int .i64 0, .string ByteArray.empty, .slice none 0 0] 29).ext (Ext.new _ (.cells #[.int .i64 0, .int .i64 0, .int .i64 0, .string ByteArray.empty, .slice none 0 0] 29)))).ext hx5)
  refine ⟨r2.all _ 0 (Nat.le_refl 5) rfl, ?_⟩
  refine ⟨_, rfl, setCells_at _ _ 0 5 r2 (Nat.le_refl 5), ?_⟩
  refine ⟨Ext.setCells _ (Ext.setCells (o := 4) [.slice a k.len c] (hx4.trans hx5) (by simp; omega)) (by simp), _, rfl, ?_⟩
  refine (Fo.Sl.keepOld tlc_len ?_ (Fo.Sl.keepOld (vs := [.slice a k.len c]) (o := 4) tlc_len ?_ hs5)).mono (freshB_le hx4)
  · rw [setCells_size]; simp
  · rw [setCells_size]; simp

theorem toTermS_all : ∀ (n : Nat) (f : TF), f.size < n → ToS f := by
  intro n
  induction n with
  | zero => intro f hf; omega
  | succ n ih =>
    intro f hf s W hs hsz
    obtain ⟨a, c, rfl, hl, hat⟩ := hs
    have hfl := f.len_le
    have hlm : (maxLen : Int) ≤ 9223372036854775807 := by decide
    refine ret_of_vc ties mixed Try.func40 rfl (by kernel_rfl) rfl rfl ?_
    refine ⟨⟨by omega, by omega, by omega, by show (64 : Int) * (f.len : Int) ≤ _; omega⟩, ?_⟩
    have room : Rmy (W.alloc (.cells (zs f.len [.int .i64 0, .int .i64 0, .int .i64 0, .string ByteArray.empty, .slice none 0 0]).toArray 29)) W.heap.size (f.len * 5) := by
      have := Rmy.new W (zs f.len [.int .i64 0, .int .i64 0, .int .i64 0, .string ByteArray.empty, .slice none 0 0]) 29
      rwa [zs_length] at this
    refine loop_rule (σ := Nat × TF × TF) [4] 8 23 (fun q => [.int .i64 q.1])
      (fun q w' => Ext W w' ∧ W.heap.size < w'.heap.size ∧ Rmy w' W.heap.size (f.len * 5) ∧ q.1 + q.2.2.len = f.len ∧ q.2.1.len = q.1 ∧ q.2.1.app q.2.2 = f ∧ q.2.2.size ≤ f.size ∧
        TAt (fun b => W.heap.size < b) w' q.2.1 W.heap.size 0 ∧ (q.2.2.len = 0 ∨ ∃ b o, a = some ⟨b, o, none⟩ ∧ TAt anyB W q.2.2 b (o + q.1 * 5)))
      (fun q => q.2.2.len) (0, .nil, f) rfl ⟨Ext.new _ _, by simp, room, by simp, rfl, rfl, Nat.le_refl _, trivial, ?_⟩ ?_
    · rcases hat with hat | ⟨b, o, ha, _, hat⟩
      · exact .inl hat
      · exact .inr ⟨b, o, ha, by simpa using hat⟩
    · rintro ⟨k, d, g⟩ w junk ⟨hx, hB, hroom, hk, hd, happ, hg, hda, hga⟩ K hK
      simp only at hk hd happ hg hda hga
      refine br_dec (fun h3 => ?_) (fun h3 => ?_)
      · match g with
        | .nil => simp only [Fo.len] at hk; omega
        | .cons x kk r =>
          obtain ⟨b, o, rfl, hga'⟩ := hga.resolve_left (by simp [Fo.len])
          obtain ⟨⟨s', hc, hs'⟩, hr⟩ := hga'.sl
          simp only [Fo.size, Fo.len] at hk hg
          refine ⟨⟨by omega, by omega⟩, [.int .i64 x.op, .int .i64 x.w, .int .i64 x.n, .string x.name, s'], rfl, ?_, ?_⟩
          · simp only [Int.toNat_natCast]; exact hc.ext hx
          refine Or.inl ((toTerm_of (ih kk (by omega)) x s' _ (hs'.ext hx) (by omega)).mono ?_)
          rintro _ w5 ⟨hx5, _, rfl, a', c', rfl, hl', hat'⟩
          have hs5 : TSl (freshB w) w5 (.slice a' kk.len c') kk := ⟨a', c', rfl, hl', hat'⟩
          refine ⟨⟨by omega, by omega⟩, ?_⟩
          have hr5 := hroom.ext hx5
          have hroomk : 0 + (k : Int).toNat * 5 + 5 ≤ f.len * 5 := by omega
          refine ⟨hr5.all _ _ hroomk rfl, ?_⟩
          refine ⟨_, IntWalk.i64_in _ (by omega), ?_⟩
          have hkeep : ∀ b i, b ≠ W.heap.size ∨ i < 0 + k * 5 → (setCells w5 W.heap.size (0 + (k : Int).toNat * 5) [.int .i64 x.op, .int .i64 x.w, .int .i64 x.n, .string x.name, .slice a' kk.len c']).cell? ⟨b, i, none⟩ = w5.cell? ⟨b, i, none⟩ := fun b i hb =>
            setCells_other _ _ _ _ fun e => by simp only at e ⊢; omega
          refine hK (k + 1, d.app (.cons x kk .nil), r) _ _ (vs1 (vint (by show (k : Int) + 1 = ((k + 1 : Nat) : Int); omega)))
            ⟨Ext.setCells _ (hx.trans hx5) (Nat.le_refl _), by rw [setCells_size]; exact Nat.lt_of_lt_of_le hB hx5.size, Rmy.setCells _ hr5, by show k + 1 + r.len = f.len; omega, ?_, ?_, by show r.size ≤ f.size; omega, ?_, ?_⟩ (by show r.len < r.len + 1; omega) ?_
          · show (d.app (.cons x kk .nil)).len = k + 1
            rw [Fo.len_app, hd]; rfl
          · show (d.app (.cons x kk .nil)).app r = f
            rw [Fo.app_assoc]; exact happ
          · refine Fo.At.app (Fo.At.keep tlc_len hkeep (fun b hb => by omega) (.inr (by omega)) (hda.ext hx5)) ?_
            rw [hd]
            refine Fo.At.one (s := .slice a' kk.len c') ?_ ?_
            · have := setCells_at [.int .i64 x.op, .int .i64 x.w, .int .i64 x.n, .string x.name, .slice a' kk.len c'] w5 (0 + (k : Int).toNat * 5) _ hr5 hroomk
              rwa [show 0 + 5 * k = 0 + (k : Int).toNat * 5 from by omega]
            · exact (Fo.Sl.keepOld tlc_len hB hs5).mono fun b hb => Nat.lt_of_lt_of_le hB hb
          · right
            refine ⟨b, o, rfl, ?_⟩
            show TAt anyB W r b (o + (k + 1) * 5)
            rw [show o + (k + 1) * 5 = o + k * 5 + 5 from by omega]
            exact hr
          · ((repeat (first | (with_reducible exact Only.refl) | (with_reducible refine Only.skip ?_) | ((with_reducible refine Only.upd ?_ ?_); rfl) | ((with_reducible refine Only.over ?_ ?_ _); rfl) | ((with_reducible refine Only.hav ?_ ?_ ?_); rfl; rfl))))
      · have h5 : g.len = 0 := by omega
        have h6 := Fo.len_zero h5
        subst h6
        rw [Fo.app_nil] at happ
        subst happ
        refine ⟨hx, _, _, rfl, hl, .inr ⟨_, _, rfl, Nat.le_refl _, hda.mono fun b hb => Nat.le_of_lt hb⟩⟩

theorem toTerm_ret (k : TF) (v : Lab) (s : Value) (W : World) (hs : TSl anyB W s k) (hsz : k.size ≤ 1048576) :
    Ret Try.prog 11 #[.agg #[.int .i64 v.op, .int .i64 v.w, .int .i64 v.n, .string v.name, s]] W (fun u w' => Ext W w' ∧ ∃ s', u = .agg #[.int .i64 v.op, .int .i64 v.w, .int .i64 v.n, .string v.name, s'] ∧ TSl (freshB W) w' s' k) := toTerm_of (toTermS_all _ k (Nat.lt_succ_self _)) v s W hs hsz

/-! equality -/
def EqS (f g : TF) : Prop := ∀ (s t : Value) (W : World), TSl anyB W s f → TSl anyB W t g → Ret Try.prog 41 #[s, t] W (fun v w' => v = .bool (decide (f = g)) ∧ Ext W w')

theorem eqTerm_of {k l : TF} (hk : EqS k l) (v u : Lab) (s t : Value) (W : World) (hs : TSl anyB W s k) (ht : TSl anyB W t l) :
    Ret Try.prog 13 #[.agg #[.int .i64 v.op, .int .i64 v.w, .int .i64 v.n, .string v.name, s], .agg #[.int .i64 u.op, .int .i64 u.w, .int .i64 u.n, .string u.name, t]] W (fun x w' => x = .bool (decide (v = u ∧ k = l)) ∧ Ext W w') := by
  refine ret_of_vc ties mixed Try.func13 rfl (by kernel_rfl) rfl rfl ?_
  have hx := (Ext.new W (.cells #[.int .i64 v.op, .int .i64 v.w, .int .i64 v.n, .string v.name, s] 29)).alloc (.cells #[.int .i64 u.op, .int .i64 u.w, .int .i64 u.n, .string u.name, t] 29)
  refine ⟨_, (Ext.new _ _).cell (boxed _ _ _ _ _ rfl), _, boxed _ _ _ _ _ rfl, ?_⟩
  refine br_dec (fun h => ?_) (fun h0 => ?_)
  · exact ⟨vbool (decide_eq_false (fun e => h (by rw [e.1]))).symm, hx⟩
  refine ⟨_, (Ext.new _ _).cell (boxed _ _ _ _ _ rfl), _, boxed _ _ _ _ _ rfl, ?_⟩
  refine br_dec (fun h => ?_) (fun h1 => ?_)
  · exact ⟨vbool (decide_eq_false (fun e => h (by rw [e.1]))).symm, hx⟩
  refine ⟨_, (Ext.new _ _).cell (boxed _ _ _ _ _ rfl), _, boxed _ _ _ _ _ rfl, ?_⟩
  refine br_dec (fun h => ?_) (fun h2 => ?_)
  · exact ⟨vbool (decide_eq_false (fun e => h (by rw [e.1]))).symm, hx⟩
  refine ⟨_, (Ext.new _ _).cell (boxed _ _ _ _ _ rfl), _, boxed _ _ _ _ _ rfl, ?_⟩
  refine br_dec (fun h => ?_) (fun h3 => ?_)
  · exact ⟨vbool (decide_eq_false (fun e => h (by rw [e.1]))).symm, hx⟩
  refine ⟨_, (Ext.new _ _).cell (boxed _ _ _ _ _ rfl), _, boxed _ _ _ _ _ rfl, ?_⟩
  refine Or.inl ((hk s t _ (hs.ext hx) (ht.ext hx)).mono ?_)
  rintro _ w' ⟨rfl, hx'⟩
  refine br_ndec (fun h4 => ?_) (fun h4 => ?_)
  · exact ⟨vbool (decide_eq_false (fun e => h4 e.2)).symm, hx.trans hx'⟩
  · refine ⟨vbool (decide_eq_true ⟨?_, h4⟩).symm, hx.trans hx'⟩
    cases v
    cases u
    simp_all

theorem eqTermS_all : ∀ (n : Nat) (f g : TF), f.size < n → EqS f g := by
  intro n
  induction n with
  | zero => intro f g hf; omega
  | succ n ih =>
    intro f g hf s t W hs ht
    obtain ⟨a, c, rfl, hl, hat⟩ := hs
    obtain ⟨a', c', rfl, hl', hat'⟩ := ht
    have hlm : (maxLen : Int) ≤ 9223372036854775807 := by decide
    refine ret_of_vc ties mixed Try.func41 rfl (by kernel_rfl) rfl rfl ?_
    refine br_dec (fun h => ?_) (fun h => ?_)
    · exact ⟨vbool (decide_eq_false (fun e => h (by rw [e]))).symm, Ext.refl _⟩
    have h := Classical.not_not.1 h
    refine loop_rule (σ := Nat × TF × TF) [5] 11 27 (fun q => [.int .i64 q.1])
      (fun q w' => Ext W w' ∧ q.1 + q.2.1.len = f.len ∧ q.2.1.len = q.2.2.len ∧ q.2.1.size ≤ f.size ∧ (f = g ↔ q.2.1 = q.2.2) ∧
        (q.2.1.len = 0 ∨ ∃ b o, a = some ⟨b, o, none⟩ ∧ TAt anyB W q.2.1 b (o + q.1 * 5)) ∧ (q.2.2.len = 0 ∨ ∃ b o, a' = some ⟨b, o, none⟩ ∧ TAt anyB W q.2.2 b (o + q.1 * 5)))
      (fun q => q.2.1.len) (0, f, g) rfl ⟨Ext.refl _, by simp, by simp only; omega, Nat.le_refl _, Iff.rfl, ?_, ?_⟩ ?_
    · rcases hat with hat | ⟨b, o, ha, _, hat⟩
      · exact .inl hat
      · exact .inr ⟨b, o, ha, by simpa using hat⟩
    · rcases hat' with hat | ⟨b, o, ha, _, hat⟩
      · exact .inl hat
      · exact .inr ⟨b, o, ha, by simpa using hat⟩
    · rintro ⟨k, p, q⟩ w junk ⟨hx, hk, hpq, hp, hiff, hpa, hqa⟩ K hK
      simp only at hk hpq hp hiff hpa hqa
      refine br_dec (fun h3 => ?_) (fun h3 => ?_)
      · match p, q with
        | .nil, _ => simp only [Fo.len] at hk; omega
        | .cons x kk r, .nil => simp only [Fo.len] at hpq; omega
        | .cons x kk r, .cons y ll r' =>
          obtain ⟨b, o, rfl, hpa'⟩ := hpa.resolve_left (by simp [Fo.len])
          obtain ⟨b', o', rfl, hqa'⟩ := hqa.resolve_left (by simp [Fo.len])
          obtain ⟨⟨s', hc, hs'⟩, hr⟩ := hpa'.sl
          obtain ⟨⟨t', hc', ht'⟩, hr'⟩ := hqa'.sl
          simp only [Fo.size, Fo.len] at hk hpq hp
          refine .inl ⟨by kernel_rfl, ⟨by omega, by omega⟩, [.int .i64 x.op, .int .i64 x.w, .int .i64 x.n, .string x.name, s'], rfl, ?_, ⟨by omega, by omega⟩, [.int .i64 y.op, .int .i64 y.w, .int .i64 y.n, .string y.name, t'], rfl, ?_, .bool (decide (x = y ∧ kk = ll)), ?_, ?_⟩
          · simp only [Int.toNat_natCast]; exact hc.ext hx
          · simp only [Int.toNat_natCast]; exact hc'.ext hx
          · intro w1 hx1
            exact eqTerm_of (ih kk ll (by omega)) x y s' t' w1 (hs'.ext (hx.trans hx1)) (ht'.ext (hx.trans hx1))
          intro w1 hx1
          refine br_ndec (fun h4 => ?_) (fun h4 => ?_)
          · refine ⟨vbool (decide_eq_false (fun e => ?_)).symm, hx.trans hx1⟩
            have := hiff.1 e
            simp only [Fo.cons.injEq] at this
            exact h4 ⟨this.1, this.2.1⟩
          · refine ⟨_, IntWalk.i64_in _ (by omega), ?_⟩
            refine hK (k + 1, r, r') _ _ (vs1 (vint (by show (k : Int) + 1 = ((k + 1 : Nat) : Int); omega))) ⟨hx.trans hx1, by show k + 1 + r.len = f.len; omega, by show r.len = r'.len; omega, by show r.size ≤ f.size; omega, ?_, ?_, ?_⟩ (by show r.len < r.len + 1; omega) ?_
            · rw [hiff]; simp only [Fo.cons.injEq, h4.1, h4.2, true_and]
            · right
              refine ⟨b, o, rfl, ?_⟩
              show TAt anyB W r b (o + (k + 1) * 5)
              rw [show o + (k + 1) * 5 = o + k * 5 + 5 from by omega]
              exact hr
            · right
              refine ⟨b', o', rfl, ?_⟩
              show TAt anyB W r' b' (o' + (k + 1) * 5)
              rw [show o' + (k + 1) * 5 = o' + k * 5 + 5 from by omega]
              exact hr'
            · ((repeat (first | (with_reducible exact Only.refl) | (with_reducible refine Only.skip ?_) | ((with_reducible refine Only.upd ?_ ?_); rfl) | ((with_reducible refine Only.over ?_ ?_ _); rfl) | ((with_reducible refine Only.hav ?_ ?_ ?_); rfl; rfl))))
      · have h5 : p.len = 0 := by omega
        have h6 := Fo.len_zero h5
        have h7 : q = .nil := Fo.len_zero (by omega)
        exact ⟨vbool (decide_eq_true (hiff.2 (h6.trans h7.symm))).symm, hx⟩

theorem eqTerm_ret (k l : TF) (v u : Lab) (s t : Value) (W : World) (hs : TSl anyB W s k) (ht : TSl anyB W t l) :
    Ret Try.prog 13 #[.agg #[.int .i64 v.op, .int .i64 v.w, .int .i64 v.n, .string v.name, s], .agg #[.int .i64 u.op, .int .i64 u.w, .int .i64 u.n, .string u.name, t]] W (fun x w' => x = .bool (decide (v = u ∧ k = l)) ∧ Ext W w') := eqTerm_of (eqTermS_all _ k l (Nat.lt_succ_self _)) v u s t W hs ht

end Go.Proofs.Ytpaccpajkndlhaa
