/- Proofs (trees of l03): the types that are met; contracts of szProof, toProof, eqProof. -/
import Derived.Test.YtfmflffggcphjaaIb
namespace Go.Proofs.Ytfmflffggcphjaa
open Go Go.Vc Go.RowKit

abbrev PF := Fo Int
def plc (v : Int) : List Value := [.int .i64 v]
abbrev PSl (ok : Nat → Prop) (w : World) (s : Value) (f : PF) : Prop := Fo.Sl plc 2 ok w s f
abbrev PAt (ok : Nat → Prop) (w : World) (f : PF) (b o : Nat) : Prop := Fo.At plc 2 ok w f b o
def anyB : Nat → Prop := fun _ => True

/-! the size of an argument -/
def SzS (f : PF) : Prop := ∀ (s : Value) (left : Int) (W : World), PSl anyB W s f → 0 ≤ left → left ≤ 1048576 → Ret Try.prog 75 #[s, .int .i64 left] W (SzR f.size left W)

theorem szProof_of {k : PF} (hk : SzS k) (v : Int) (s : Value) (left : Int) (W : World) (hs : PSl anyB W s k) (h0 : 0 ≤ left) (h1 : left ≤ 1048576) :
    Ret Try.prog 24 #[.agg #[.int .i64 v, s], .int .i64 left] W (SzR k.size left W) := by
  refine ret_of_vc ties mixed Try.func24 rfl (by kernel_rfl) rfl rfl ?_
  refine ⟨s, boxed _ _ _ _ _ rfl, ?_⟩
  refine Or.inl ((hk s left _ (hs.ext (Ext.new _ _)) h0 h1).mono ?_)
  rintro _ w' ⟨hx, rfl | ⟨h2, rfl⟩⟩
  · exact ⟨(Ext.new _ _).trans hx, .inl rfl⟩
  · refine br_dec_false (by omega) ?_
    exact ⟨(Ext.new _ _).trans hx, .inr ⟨h2, rfl⟩⟩

theorem szProofS_all : ∀ (n : Nat) (f : PF), f.size < n → SzS f := by
  intro n
  induction n with
  | zero => intro f hf; omega
  | succ n ih =>
    intro f hf s left W hs h0 h1
    obtain ⟨a, c, rfl, hl, hat⟩ := hs
    have hlm : (maxLen : Int) ≤ 9223372036854775807 := by decide
    have hfl := f.len_le
    refine ret_of_vc ties mixed Try.func75 rfl (by kernel_rfl) rfl rfl ?_
    refine ⟨_, IntWalk.i64_in _ (by omega), ?_⟩
    refine br_dec (fun h2 => ?_) (fun h2 => ?_)
    · exact ⟨Ext.refl _, .inl rfl⟩
    refine loop_rule (σ := Nat × Int × PF) [1, 5] 12 27 (fun q => [.int .i64 q.2.1, .int .i64 q.1])
      (fun q w' => Ext W w' ∧ q.1 + q.2.2.len = f.len ∧ q.2.2.size ≤ f.size ∧ q.2.1 + f.size = left + q.2.2.size - q.2.2.len ∧ 0 ≤ q.2.1 ∧ (q.2.2.len = 0 ∨ ∃ b o, a = some ⟨b, o, none⟩ ∧ PAt anyB W q.2.2 b (o + q.1 * 2)))
      (fun q => q.2.2.len) (0, left - f.len, f) rfl ⟨Ext.refl _, by simp, Nat.le_refl _, by simp only; omega, by simp only; omega, ?_⟩ ?_
    · rcases hat with hat | ⟨b, o, ha, _, hat⟩
      · exact .inl hat
      · exact .inr ⟨b, o, ha, by simpa using hat⟩
    · rintro ⟨k, l, g⟩ w junk ⟨hx, hk, hg, hle, hl0, hga⟩ K hK
      simp only at hk hg hle hl0 hga
      refine br_dec (fun h3 => ?_) (fun h3 => ?_)
      · cases g with
        | nil => simp only [Fo.len] at hk; omega
        | cons x kk r =>
          obtain ⟨b, o, rfl, hga'⟩ := hga.resolve_left (by simp [Fo.len])
          obtain ⟨⟨s', hc, hs'⟩, hr⟩ := hga'.sl
          simp only [Fo.size, Fo.len] at hk hg hle
          have hrl := r.len_le
          refine ⟨⟨by omega, by omega⟩, [.int .i64 x, s'], rfl, ?_, ?_⟩
          · simp only [Int.toNat_natCast]; exact hc.ext hx
          refine Or.inl ((szProof_of (ih kk (by omega)) x s' l _ (hs'.ext hx) hl0 (by omega)).mono ?_)
          rintro _ w' ⟨hx', rfl | ⟨h4, rfl⟩⟩
          · exact ⟨hx.trans hx', .inl rfl⟩
          · refine br_dec_false (by omega) ?_
            refine ⟨_, IntWalk.i64_in _ (by omega), ?_⟩
            refine hK (k + 1, l - kk.size, r) _ _ (vs2 rfl (vint (by show (k : Int) + 1 = ((k + 1 : Nat) : Int); omega))) ⟨hx.trans hx', by show k + 1 + r.len = f.len; omega, by show r.size ≤ f.size; omega, by show l - kk.size + f.size = left + r.size - r.len; omega, by show 0 ≤ l - kk.size; omega, ?_⟩ (by show r.len < r.len + 1; omega) ?_
            · right
              refine ⟨b, o, rfl, ?_⟩
              show PAt anyB W r b (o + (k + 1) * 2)
              rw [show o + (k + 1) * 2 = o + k * 2 + 2 from by omega]
              exact hr
            · ((repeat (first | (with_reducible exact Only.refl) | (with_reducible refine Only.skip ?_) | ((with_reducible refine Only.upd ?_ ?_); rfl) | ((with_reducible refine Only.over ?_ ?_ _); rfl) | ((with_reducible refine Only.hav ?_ ?_ ?_); rfl; rfl))))
      · have : g.len = 0 := by omega
        have := Fo.len_zero this
        subst this
        have hle' : l + f.size = left := by simpa [Fo.size, Fo.len] using hle
        exact ⟨hx, .inr ⟨by omega, vint (by show l = left - f.size; omega)⟩⟩

theorem szProof_ret (k : PF) (v : Int) (s : Value) (left : Int) (W : World) (hs : PSl anyB W s k) (h0 : 0 ≤ left) (h1 : left ≤ 1048576) :
    Ret Try.prog 24 #[.agg #[.int .i64 v, s], .int .i64 left] W (SzR k.size left W) := szProof_of (szProofS_all _ k (Nat.lt_succ_self _)) v s left W hs h0 h1

/-! a copy -/
def freshB (W : World) : Nat → Prop := fun b => W.heap.size ≤ b
def ToS (f : PF) : Prop := ∀ (s : Value) (W : World), PSl anyB W s f → f.size ≤ 1048576 → Ret Try.prog 76 #[s] W (fun v w' => Ext W w' ∧ PSl (freshB W) w' v f)

theorem freshB_le {W w : World} (h : Ext W w) : ∀ b, freshB w b → freshB W b := fun _ hb => Nat.le_trans h.size hb

theorem plc_len (x : Int) : (plc x).length + 1 = 2 := rfl
theorem toProof_of {k : PF} (hk : ToS k) (v : Int) (s : Value) (W : World) (hs : PSl anyB W s k) (hsz : k.size ≤ 1048576) :
    Ret Try.prog 26 #[.agg #[.int .i64 v, s]] W (fun u w' => Ext W w' ∧ ∃ s', u = .agg #[.int .i64 v, s'] ∧ PSl (freshB W) w' s' k) := by
  refine ret_of_vc ties mixed Try.func26 rfl (by kernel_rfl) rfl rfl ?_
  refine ⟨_, ((Ext.new _ _).trans (Ext.new _ _)).cell (boxed _ _ _ _ _ rfl), (Rmy.new _ [.int .i64 0, .slice none 0 0] _) 0 (by decide), ?_⟩
  refine ⟨_, (((Ext.new _ _).trans (Ext.new _ _)).set (by simp) _).cell (boxed _ _ _ _ _ rfl), ?_⟩
  have hx4 : ∀ o o' o'' v, Ext W ((((W.alloc o).alloc o').alloc o'').setCell ⟨((W.alloc o).alloc o').heap.size, 0, none⟩ v) := fun o o' o'' v => Below.setCell (((Ext.new _ _).trans (Ext.new _ _)).trans (Ext.new _ _)) (by simp; omega) _
  refine Or.inl ((hk s _ (hs.ext (hx4 _ _ _ _)) hsz).mono ?_)
  rintro _ w5 ⟨hx5, a, c, rfl, hl, hat⟩
  have hs5 : PSl _ w5 (.slice a k.len c) k := ⟨a, c, rfl, hl, hat⟩
  refine ⟨((Rmy.new _ [.int .i64 0, .slice none 0 0] _).setCell.ext hx5) 1 (by decide), ?_⟩
  refine ⟨[.int .i64 v, .slice a k.len c], rfl, ⟨(World.cell?_setCell_other _ _ _ _ (by simp)).trans (hx5.cell (World.cell?_setCell_same _ _ _ (boxed _ _ _ _ _ rfl))), World.cell?_setCell_same _ _ _ (hx5.cell ((World.cell?_setCell_other _ _ _ _ (by simp)).trans (boxed _ _ _ _ _ rfl))), trivial⟩, ?_⟩
  have r2 := (((Rmy.new (W.alloc (.cells #[.int .i64 v, s] 34)) [.int .i64 0, .slice none 0 0] 39).ext (Ext.new _ (.cells #[.int .i64 0, .slice none 0 0] 39))).setCell.ext hx5).setCell
    (p := ⟨((W.alloc (.cells #[.int .i64 v, s] 34)).alloc (.cells #[.int .i64 0, .slice none 0 0] 39)).heap.size, 1, none⟩) (u := .slice a k.len c)
  refine ⟨r2.all _ 0 (Nat.le_refl 2) rfl, ?_⟩
  refine ⟨_, rfl, setCells_at _ _ 0 2 r2 (Nat.le_refl 2), ?_⟩
  have hx5' := (hx4 _ _ _ _).trans hx5
  refine ⟨Ext.setCells _ (Below.setCell hx5' (by simp; omega) _) (by simp), _, rfl, ?_⟩
  refine (Fo.Sl.keepOld plc_len ?_ (Fo.Sl.keepOld (vs := [.slice a k.len c]) (o := 1) plc_len ?_ hs5)).mono (freshB_le (hx4 _ _ _ _))
  · simp [World.setCell]
  · simp [World.setCell]

theorem toProofS_all : ∀ (n : Nat) (f : PF), f.size < n → ToS f := by
  intro n
  induction n with
  | zero => intro f hf; omega
  | succ n ih =>
    intro f hf s W hs hsz
    obtain ⟨a, c, rfl, hl, hat⟩ := hs
    have hfl := f.len_le
    have hlm : (maxLen : Int) ≤ 9223372036854775807 := by decide
    refine ret_of_vc ties mixed Try.func76 rfl (by kernel_rfl) rfl rfl ?_
    refine ⟨⟨by omega, by omega, by omega, by show (32 : Int) * (f.len : Int) ≤ _; omega⟩, ?_⟩
    have room : Rmy (W.alloc (.cells (zs f.len [.int .i64 0, .slice none 0 0]).toArray 39)) W.heap.size (f.len * 2) := by
      have := Rmy.new W (zs f.len [.int .i64 0, .slice none 0 0]) 39
      rwa [zs_length] at this
    refine loop_rule (σ := Nat × PF × PF) [4] 8 23 (fun q => [.int .i64 q.1])
      (fun q w' => Ext W w' ∧ W.heap.size < w'.heap.size ∧ Rmy w' W.heap.size (f.len * 2) ∧ q.1 + q.2.2.len = f.len ∧ q.2.1.len = q.1 ∧ q.2.1.app q.2.2 = f ∧ q.2.2.size ≤ f.size ∧
        PAt (fun b => W.heap.size < b) w' q.2.1 W.heap.size 0 ∧ (q.2.2.len = 0 ∨ ∃ b o, a = some ⟨b, o, none⟩ ∧ PAt anyB W q.2.2 b (o + q.1 * 2)))
      (fun q => q.2.2.len) (0, .nil, f) rfl ⟨Ext.new _ _, by simp, room, by simp, rfl, rfl, Nat.le_refl _, trivial, ?_⟩ ?_
    · rcases hat with hat | ⟨b, o, ha, _, hat⟩
      · exact .inl hat
      · exact .inr ⟨b, o, ha, by simpa using hat⟩
    · rintro ⟨k, d, g⟩ w junk ⟨hx, hB, hroom, hk, hd, happ, hg, hda, hga⟩ K hK
      simp only at hk hd happ hg hda hga
      refine br_dec (fun h3 => ?_) (fun h3 => ?_)
      · match g with
        | .nil => simp only [Fo.len] at hk; omega
        | .cons x kk r =>
          obtain ⟨b, o, rfl, hga'⟩ := hga.resolve_left (by simp [Fo.len])
          obtain ⟨⟨s', hc, hs'⟩, hr⟩ := hga'.sl
          simp only [Fo.size, Fo.len] at hk hg
          refine ⟨⟨by omega, by omega⟩, [.int .i64 x, s'], rfl, ?_, ?_⟩
          · simp only [Int.toNat_natCast]; exact hc.ext hx
          refine Or.inl ((toProof_of (ih kk (by omega)) x s' _ (hs'.ext hx) (by omega)).mono ?_)
          rintro _ w5 ⟨hx5, _, rfl, a', c', rfl, hl', hat'⟩
          have hs5 : PSl (freshB w) w5 (.slice a' kk.len c') kk := ⟨a', c', rfl, hl', hat'⟩
          refine ⟨⟨by omega, by omega⟩, ?_⟩
          have hr5 := hroom.ext hx5
          have hroomk : 0 + (k : Int).toNat * 2 + 2 ≤ f.len * 2 := by omega
          refine ⟨hr5.all _ _ hroomk rfl, ?_⟩
          refine ⟨_, IntWalk.i64_in _ (by omega), ?_⟩
          have hkeep : ∀ b i, b ≠ W.heap.size ∨ i < 0 + k * 2 → (setCells w5 W.heap.size (0 + (k : Int).toNat * 2) [.int .i64 x, .slice a' kk.len c']).cell? ⟨b, i, none⟩ = w5.cell? ⟨b, i, none⟩ := fun b i hb =>
            setCells_other _ _ _ _ fun e => by simp only at e ⊢; omega
          refine hK (k + 1, d.app (.cons x kk .nil), r) _ _ (vs1 (vint (by show (k : Int) + 1 = ((k + 1 : Nat) : Int); omega)))
            ⟨Ext.setCells _ (hx.trans hx5) (Nat.le_refl _), by rw [setCells_size]; exact Nat.lt_of_lt_of_le hB hx5.size, Rmy.setCells _ hr5, by show k + 1 + r.len = f.len; omega, ?_, ?_, by show r.size ≤ f.size; omega, ?_, ?_⟩ (by show r.len < r.len + 1; omega) ?_
          · show (d.app (.cons x kk .nil)).len = k + 1
            rw [Fo.len_app, hd]; rfl
          · show (d.app (.cons x kk .nil)).app r = f
            rw [Fo.app_assoc]; exact happ
          · refine Fo.At.app (Fo.At.keep plc_len hkeep (fun b hb => by omega) (.inr (by omega)) (hda.ext hx5)) ?_
            rw [hd]
            refine Fo.At.one (s := .slice a' kk.len c') ?_ ?_
            · have := setCells_at [.int .i64 x, .slice a' kk.len c'] w5 (0 + (k : Int).toNat * 2) _ hr5 hroomk
              rwa [show 0 + 2 * k = 0 + (k : Int).toNat * 2 from by omega]
            · exact (Fo.Sl.keepOld plc_len hB hs5).mono fun b hb => Nat.lt_of_lt_of_le hB hb
          · right
            refine ⟨b, o, rfl, ?_⟩
            show PAt anyB W r b (o + (k + 1) * 2)
            rw [show o + (k + 1) * 2 = o + k * 2 + 2 from by omega]
            exact hr
          · ((repeat (first | (with_reducible exact Only.refl) | (with_reducible refine Only.skip ?_) | ((with_reducible refine Only.upd ?_ ?_); rfl) | ((with_reducible refine Only.over ?_ ?_ _); rfl) | ((with_reducible refine Only.hav ?_ ?_ ?_); rfl; rfl))))
      · have h5 : g.len = 0 := by omega
        have h6 := Fo.len_zero h5
        subst h6
        rw [Fo.app_nil] at happ
        subst happ
        refine ⟨hx, _, _, rfl, hl, .inr ⟨_, _, rfl, Nat.le_refl _, hda.mono fun b hb => Nat.le_of_lt hb⟩⟩

theorem toProof_ret (k : PF) (v : Int) (s : Value) (W : World) (hs : PSl anyB W s k) (hsz : k.size ≤ 1048576) :
    Ret Try.prog 26 #[.agg #[.int .i64 v, s]] W (fun u w' => Ext W w' ∧ ∃ s', u = .agg #[.int .i64 v, s'] ∧ PSl (freshB W) w' s' k) := toProof_of (toProofS_all _ k (Nat.lt_succ_self _)) v s W hs hsz

/-! equality -/
def EqS (f g : PF) : Prop := ∀ (s t : Value) (W : World), PSl anyB W s f → PSl anyB W t g → Ret Try.prog 77 #[s, t] W (fun v w' => v = .bool (decide (f = g)) ∧ Ext W w')

theorem eqProof_of {k l : PF} (hk : EqS k l) (v u : Int) (s t : Value) (W : World) (hs : PSl anyB W s k) (ht : PSl anyB W t l) :
    Ret Try.prog 28 #[.agg #[.int .i64 v, s], .agg #[.int .i64 u, t]] W (fun x w' => x = .bool (decide (v = u ∧ k = l)) ∧ Ext W w') := by
  refine ret_of_vc ties mixed Try.func28 rfl (by kernel_rfl) rfl rfl ?_
  refine ⟨_, (Ext.new _ _).cell (boxed _ _ _ _ _ rfl), _, boxed _ _ _ _ _ rfl, ?_⟩
  have hx := (Ext.new W (.cells #[.int .i64 v, s] 39)).alloc (.cells #[.int .i64 u, t] 39)
  refine br_dec (fun h => ?_) (fun h => ?_)
  · exact ⟨vbool (decide_eq_false (fun e => h e.1)).symm, hx⟩
  · refine ⟨_, (Ext.new _ _).cell (boxed _ _ _ _ _ rfl), _, boxed _ _ _ _ _ rfl, ?_⟩
    refine Or.inl ((hk s t _ (hs.ext hx) (ht.ext hx)).mono ?_)
    rintro _ w' ⟨rfl, hx'⟩
    refine br_ndec (fun h1 => ?_) (fun h1 => ?_)
    · exact ⟨vbool (decide_eq_false (fun e => h1 e.2)).symm, hx.trans hx'⟩
    · exact ⟨vbool (decide_eq_true ⟨Classical.not_not.1 h, h1⟩).symm, hx.trans hx'⟩

theorem eqProofS_all : ∀ (n : Nat) (f g : PF), f.size < n → EqS f g := by
  intro n
  induction n with
  | zero => intro f g hf; omega
  | succ n ih =>
    intro f g hf s t W hs ht
    obtain ⟨a, c, rfl, hl, hat⟩ := hs
    obtain ⟨a', c', rfl, hl', hat'⟩ := ht
    have hlm : (maxLen : Int) ≤ 9223372036854775807 := by decide
    refine ret_of_vc ties mixed Try.func77 rfl (by kernel_rfl) rfl rfl ?_
    refine br_dec (fun h => ?_) (fun h => ?_)
    · exact ⟨vbool (decide_eq_false (fun e => h (by rw [e]))).symm, Ext.refl _⟩
    have h := Classical.not_not.1 h
    refine loop_rule (σ := Nat × PF × PF) [5] 11 27 (fun q => [.int .i64 q.1])
      (fun q w' => Ext W w' ∧ q.1 + q.2.1.len = f.len ∧ q.2.1.len = q.2.2.len ∧ q.2.1.size ≤ f.size ∧ (f = g ↔ q.2.1 = q.2.2) ∧
        (q.2.1.len = 0 ∨ ∃ b o, a = some ⟨b, o, none⟩ ∧ PAt anyB W q.2.1 b (o + q.1 * 2)) ∧ (q.2.2.len = 0 ∨ ∃ b o, a' = some ⟨b, o, none⟩ ∧ PAt anyB W q.2.2 b (o + q.1 * 2)))
      (fun q => q.2.1.len) (0, f, g) rfl ⟨Ext.refl _, by simp, by simp only; omega, Nat.le_refl _, Iff.rfl, ?_, ?_⟩ ?_
    · rcases hat with hat | ⟨b, o, ha, _, hat⟩
      · exact .inl hat
      · exact .inr ⟨b, o, ha, by simpa using hat⟩
    · rcases hat' with hat | ⟨b, o, ha, _, hat⟩
      · exact .inl hat
      · exact .inr ⟨b, o, ha, by simpa using hat⟩
    · rintro ⟨k, p, q⟩ w junk ⟨hx, hk, hpq, hp, hiff, hpa, hqa⟩ K hK
      simp only at hk hpq hp hiff hpa hqa
      refine br_dec (fun h3 => ?_) (fun h3 => ?_)
      · match p, q with
        | .nil, _ => simp only [Fo.len] at hk; omega
        | .cons x kk r, .nil => simp only [Fo.len] at hpq; omega
        | .cons x kk r, .cons y ll r' =>
          obtain ⟨b, o, rfl, hpa'⟩ := hpa.resolve_left (by simp [Fo.len])
          obtain ⟨b', o', rfl, hqa'⟩ := hqa.resolve_left (by simp [Fo.len])
          obtain ⟨⟨s', hc, hs'⟩, hr⟩ := hpa'.sl
          obtain ⟨⟨t', hc', ht'⟩, hr'⟩ := hqa'.sl
          simp only [Fo.size, Fo.len] at hk hpq hp
          refine .inl ⟨by kernel_rfl, ⟨by omega, by omega⟩, [.int .i64 x, s'], rfl, ?_, ⟨by omega, by omega⟩, [.int .i64 y, t'], rfl, ?_, .bool (decide (x = y ∧ kk = ll)), ?_, ?_⟩
          · simp only [Int.toNat_natCast]; exact hc.ext hx
          · simp only [Int.toNat_natCast]; exact hc'.ext hx
          · intro w1 hx1
            exact eqProof_of (ih kk ll (by omega)) x y s' t' w1 (hs'.ext (hx.trans hx1)) (ht'.ext (hx.trans hx1))
          intro w1 hx1
          refine br_ndec (fun h4 => ?_) (fun h4 => ?_)
          · refine ⟨vbool (decide_eq_false (fun e => ?_)).symm, hx.trans hx1⟩
            have := hiff.1 e
            simp only [Fo.cons.injEq] at this
            exact h4 ⟨this.1, this.2.1⟩
          · refine ⟨_, IntWalk.i64_in _ (by omega), ?_⟩
            refine hK (k + 1, r, r') _ _ (vs1 (vint (by show (k : Int) + 1 = ((k + 1 : Nat) : Int); omega))) ⟨hx.trans hx1, by show k + 1 + r.len = f.len; omega, by show r.len = r'.len; omega, by show r.size ≤ f.size; omega, ?_, ?_, ?_⟩ (by show r.len < r.len + 1; omega) ?_
            · rw [hiff]; simp only [Fo.cons.injEq, h4.1, h4.2, true_and]
            · right
              refine ⟨b, o, rfl, ?_⟩
              show PAt anyB W r b (o + (k + 1) * 2)
              rw [show o + (k + 1) * 2 = o + k * 2 + 2 from by omega]
              exact hr
            · right
              refine ⟨b', o', rfl, ?_⟩
              show PAt anyB W r' b' (o' + (k + 1) * 2)
              rw [show o' + (k + 1) * 2 = o' + k * 2 + 2 from by omega]
              exact hr'
            · ((repeat (first | (with_reducible exact Only.refl) | (with_reducible refine Only.skip ?_) | ((with_reducible refine Only.upd ?_ ?_); rfl) | ((with_reducible refine Only.over ?_ ?_ _); rfl) | ((with_reducible refine Only.hav ?_ ?_ ?_); rfl; rfl))))
      · have h5 : p.len = 0 := by omega
        have h6 := Fo.len_zero h5
        have h7 : q = .nil := Fo.len_zero (by omega)
        exact ⟨vbool (decide_eq_true (hiff.2 (h6.trans h7.symm))).symm, hx⟩

theorem eqProof_ret (k l : PF) (v u : Int) (s t : Value) (W : World) (hs : PSl anyB W s k) (ht : PSl anyB W t l) :
    Ret Try.prog 28 #[.agg #[.int .i64 v, s], .agg #[.int .i64 u, t]] W (fun x w' => x = .bool (decide (v = u ∧ k = l)) ∧ Ext W w') := eqProof_of (eqProofS_all _ k l (Nat.lt_succ_self _)) v u s t W hs ht

end Go.Proofs.Ytfmflffggcphjaa
