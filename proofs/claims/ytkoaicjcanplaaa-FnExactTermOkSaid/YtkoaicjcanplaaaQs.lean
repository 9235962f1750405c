/- A copy of a term: its rows lie apart. -/
import Derived.Test.YtkoaicjcanplaaaMt
namespace Go.Proofs.Ytkoaicjcanplaaa
open Go Go.Vc Go.RowKit
set_option linter.unusedVariables false

abbrev zt : List Value := [.int .i64 0, .int .i64 0, .int .i64 0, .string ByteArray.empty, .slice none 0 0]
def ToSep (f : TF) : Prop := ∀ (s : Value) (W : World), TSl anyB W s f → f.size ≤ 1048576 → Ret Try.prog 46 #[s] W (fun v w' => Ext W w' ∧ TSep w' v f W.heap.size w'.heap.size)

theorem toTerm_sof {k : TF} (hk : ToSep k) (v : Lab) (s : Value) (W : World) (hs : TSl anyB W s k) (hsz : k.size ≤ 1048576) :
    Ret Try.prog 30 #[tv v s] W (fun u w' => Ext W w' ∧ ∃ s', u = tv v s' ∧ TSep w' s' k W.heap.size w'.heap.size) := by
  refine ret_of_vc ties mixed Try.func30 rfl (by kernel_rfl) rfl rfl ?_
  have x3 : ∀ (o o' o'' : Obj) , Ext (W.alloc o) (((W.alloc o).alloc o').alloc o'') := fun o o' o'' => (Ext.new _ _).trans (Ext.new _ _)
  refine ⟨.int .i64 v.op, (x3 _ _ _).cell (boxed _ _ _ _ _ rfl), (Rmy.new _ zt _) 0 (by decide), ?_⟩
  refine ⟨.int .i64 v.w, ((x3 _ _ _).set (by simp) _).cell (boxed _ _ _ _ _ rfl), (Rmy.new _ zt _).setCell 1 (by decide), ?_⟩
  refine ⟨.int .i64 v.n, (((x3 _ _ _).set (by simp) _).set (by simp) _).cell (boxed _ _ _ _ _ rfl), (Rmy.new _ zt _).setCell.setCell 2 (by decide), ?_⟩
  refine ⟨.string v.name, ((((x3 _ _ _).set (by simp) _).set (by simp) _).set (by simp) _).cell (boxed _ _ _ _ _ rfl), (Rmy.new _ zt _).setCell.setCell.setCell 3 (by decide), ?_⟩
  refine ⟨s, (((((x3 _ _ _).set (by simp) _).set (by simp) _).set (by simp) _).set (by simp) _).cell (boxed _ _ _ _ _ rfl), ?_⟩
  have hx4 : Ext W (setCells (((W.alloc (.cells #[.int .i64 v.op, .int .i64 v.w, .int .i64 v.n, .string v.name, s] 43)).alloc (.cells zt.toArray 25)).alloc (.cells zt.toArray 25)) ((W.alloc (.cells #[.int .i64 v.op, .int .i64 v.w, .int .i64 v.n, .string v.name, s] 43)).alloc (.cells zt.toArray 25)).heap.size 0 (tlc v)) :=
    Ext.setCells _ (((Ext.new _ _).trans (Ext.new _ _)).trans (Ext.new _ _)) (by simp; omega)
  refine Or.inl ((hk s _ (hs.ext hx4) hsz).mono ?_)
  rintro _ w5 ⟨hx5, hsep⟩
  obtain ⟨a, c, rfl, hl, hat⟩ := id hsep
  have r3 := Rmy.new ((W.alloc (.cells #[.int .i64 v.op, .int .i64 v.w, .int .i64 v.n, .string v.name, s] 43)).alloc (.cells zt.toArray 25)) zt 25
  refine ⟨((Rmy.setCells _ r3).ext hx5) 4 (by decide), ?_⟩
  have hc5 := copyLab (v := v) (s' := .slice a k.len c) r3 hx5
  simp only [setCells] at hc5
  refine ⟨tlc v ++ [.slice a k.len c], rfl, ?_, ?_⟩
  · exact hc5
  have r2 := Rmy.setCells (b := ((W.alloc (.cells #[.int .i64 v.op, .int .i64 v.w, .int .i64 v.n, .string v.name, s] 43)).alloc (.cells zt.toArray 25)).heap.size) (o := 4) [.slice a k.len c] ((Rmy.setCells (tlc v) ((Rmy.new (W.alloc (.cells #[.int .i64 v.op, .int .i64 v.w, .int .i64 v.n, .string v.name, s] 43)) zt 25).ext (Ext.new _ (.cells zt.toArray 25)))).ext hx5)
  refine ⟨r2.all _ 0 (Nat.le_refl 5) rfl, ?_⟩
  refine ⟨_, rfl, setCells_at _ _ 0 5 r2 (Nat.le_refl 5), ?_⟩
  have e1 : (W.alloc (.cells #[.int .i64 v.op, .int .i64 v.w, .int .i64 v.n, .string v.name, s] 43)).heap.size = W.heap.size + 1 := by simp
  have e2 : ((W.alloc (.cells #[.int .i64 v.op, .int .i64 v.w, .int .i64 v.n, .string v.name, s] 43)).alloc (.cells zt.toArray 25)).heap.size = W.heap.size + 2 := by simp
  have e4 : (setCells (((W.alloc (.cells #[.int .i64 v.op, .int .i64 v.w, .int .i64 v.n, .string v.name, s] 43)).alloc (.cells zt.toArray 25)).alloc (.cells zt.toArray 25)) ((W.alloc (.cells #[.int .i64 v.op, .int .i64 v.w, .int .i64 v.n, .string v.name, s] 43)).alloc (.cells zt.toArray 25)).heap.size 0 (tlc v)).heap.size = W.heap.size + 3 := by rw [setCells_size]; simp
  refine ⟨Ext.setCells _ (Ext.setCells (o := 4) [.slice a k.len c] (hx4.trans hx5) (by simp; omega)) (by simp), _, rfl, ?_⟩
  have hA : Chg (fun b => b < W.heap.size + 3) w5 (Vc.setCells (Vc.setCells w5 ((W.alloc (.cells #[.int .i64 v.op, .int .i64 v.w, .int .i64 v.n, .string v.name, s] 43)).alloc (.cells zt.toArray 25)).heap.size 4 [.slice a k.len c]) (W.alloc (.cells #[.int .i64 v.op, .int .i64 v.w, .int .i64 v.n, .string v.name, s] 43)).heap.size 0 (tlc v ++ [.slice a k.len c])) :=
    (Chg.setCells (S := fun b => b < W.heap.size + 3) (by rw [e2]; omega) _ _ _).trans (Chg.setCells (S := fun b => b < W.heap.size + 3) (by rw [e1]; omega) _ _ _)
  have h3 := hA.size
  rw [e4] at hsep
  exact (hsep.keep tlc_len fun b g1 g2 => hA.block b g2 (by omega)).wide (by omega) h3

set_option maxHeartbeats 4000000 in
theorem toTermS_sep : ∀ (n : Nat) (f : TF), f.size < n → ToSep f := by
  intro n
  induction n with
  | zero => intro f hf; omega
  | succ n ih =>
    intro f hf s W hs hsz
    obtain ⟨a, c, rfl, hl, hat⟩ := hs
    have hfl := f.len_le
    have hlm : (maxLen : Int) ≤ 9223372036854775807 := by decide
    refine ret_of_vc ties mixed Try.func46 rfl (by kernel_rfl) rfl rfl ?_
    refine ⟨⟨by omega, by omega, by omega, by show (64 : Int) * (f.len : Int) ≤ _; omega⟩, ?_⟩
    have room : Rmy (W.alloc (.cells (zs f.len zt).toArray 25)) W.heap.size (f.len * 5) := by
      have := Rmy.new W (zs f.len zt) 25
      rwa [zs_length] at this
    refine loop_rule (σ := Nat × TF × TF) [4] 8 23 (fun q => [.int .i64 q.1])
      (fun q w' => Ext W w' ∧ W.heap.size + 1 ≤ w'.heap.size ∧ Rmy w' W.heap.size (f.len * 5) ∧ q.1 + q.2.2.len = f.len ∧ q.2.1.len = q.1 ∧ q.2.1.app q.2.2 = f ∧ q.2.2.size ≤ f.size ∧
        q.2.1.SepAt tlc 5 w' W.heap.size 0 (W.heap.size + 1) w'.heap.size ∧ (q.2.2.len = 0 ∨ ∃ b o, a = some ⟨b, o, none⟩ ∧ TAt anyB W q.2.2 b (o + q.1 * 5)))
      (fun q => q.2.2.len) (0, .nil, f) rfl ⟨Ext.new _ _, by simp, room, by simp, rfl, rfl, Nat.le_refl _, trivial, ?_⟩ ?_
    · rcases hat with hat | ⟨b, o, ha, _, hat⟩
      · exact .inl hat
      · exact .inr ⟨b, o, ha, by simpa using hat⟩
    · rintro ⟨k, d, g⟩ w junk ⟨hx, hB, hroom, hk, hd, happ, hg, hda, hga⟩ K hK
      simp only at hk hd happ hg hda hga
      refine br_dec (fun h3 => ?_) (fun h3 => ?_)
      · match g with
        | .nil => simp only [Fo.len] at hk; omega
        | .cons x kk r =>
          obtain ⟨b, o, rfl, hga'⟩ := hga.resolve_left (by simp [Fo.len])
          obtain ⟨⟨s', hc, hs'⟩, hr⟩ := hga'.sl
          simp only [Fo.size, Fo.len] at hk hg
          refine ⟨⟨by omega, by omega⟩, [.int .i64 x.op, .int .i64 x.w, .int .i64 x.n, .string x.name, s'], rfl, ?_, ?_⟩
          · simp only [Int.toNat_natCast]; exact hc.ext hx
          refine Or.inl ((toTerm_sof (ih kk (by omega)) x s' _ (hs'.ext hx) (by omega)).mono ?_)
          rintro _ w5 ⟨hx5, _, rfl, hs5⟩
          obtain ⟨a', c', rfl, hl', hat'⟩ := id hs5
          refine ⟨⟨by omega, by omega⟩, ?_⟩
          have hr5 := hroom.ext hx5
          have hroomk : 0 + (k : Int).toNat * 5 + 5 ≤ f.len * 5 := by omega
          have hch : Chg (fun b => b = W.heap.size) w5 (Vc.setCells w5 W.heap.size (0 + (k : Int).toNat * 5) [.int .i64 x.op, .int .i64 x.w, .int .i64 x.n, .string x.name, .slice a' kk.len c']) := Chg.setCells (S := fun b => b = W.heap.size) rfl _ _ _
          have hz5 := hx5.size
          have hz6 := hch.size
          have hcn := setCells_at [.int .i64 x.op, .int .i64 x.w, .int .i64 x.n, .string x.name, .slice a' kk.len c'] w5 (0 + (k : Int).toNat * 5) _ hr5 hroomk
          refine ⟨hr5.all _ _ hroomk rfl, ?_⟩
          refine ⟨_, IntWalk.i64_in _ (by omega), ?_⟩
          have hother : ∀ q, (q < 0 + (k : Int).toNat * 5 ∨ 0 + (k : Int).toNat * 5 + 5 ≤ q) → (Vc.setCells w5 W.heap.size (0 + (k : Int).toNat * 5) [.int .i64 x.op, .int .i64 x.w, .int .i64 x.n, .string x.name, .slice a' kk.len c']).cell? ⟨W.heap.size, q, none⟩ = w5.cell? ⟨W.heap.size, q, none⟩ := fun q hq => setCells_other _ _ _ _ (fun _ => hq)
          have hda6 : d.SepAt tlc 5 (Vc.setCells w5 W.heap.size (0 + (k : Int).toNat * 5) [.int .i64 x.op, .int .i64 x.w, .int .i64 x.n, .string x.name, .slice a' kk.len c']) W.heap.size 0 (W.heap.size + 1) w.heap.size := by
            refine hda.keep tlc_len (fun q _ hq => ?_) (fun b g1 g2 g3 => (hch.block b (by omega) g3).trans (hx5.block b g2))
            rw [hd] at hq
            rw [hother q (.inl (by omega))]
            exact World.cell?_of_block (a := ⟨W.heap.size, q, none⟩) (hx5.block W.heap.size (by omega))
          refine hK (k + 1, d.app (.cons x kk .nil), r) _ _ (vs1 (vint (by show (k : Int) + 1 = ((k + 1 : Nat) : Int); omega)))
            ⟨Ext.setCells _ (hx.trans hx5) (Nat.le_refl _), Nat.le_trans (Nat.le_trans hB hz5) hz6, Rmy.setCells _ hr5, by show k + 1 + r.len = f.len; omega, ?_, ?_, by show r.size ≤ f.size; omega, ?_, ?_⟩ (by show r.len < r.len + 1; omega) ?_
          · show (d.app (.cons x kk .nil)).len = k + 1
            rw [Fo.len_app, hd]; rfl
          · show (d.app (.cons x kk .nil)).app r = f
            rw [Fo.app_assoc]; exact happ
          · refine Fo.SepAt.app (mid := w.heap.size) (Nat.le_trans hz5 hz6) hB hda6 ?_
            refine Fo.SepAt.one (.inl hB) (Nat.le_trans hz5 hz6) ?_ ((hs5.keep tlc_len fun b g1 g2 => hch.block b g2 (by omega)).wide (Nat.le_refl _) hz6)
            rw [hd, show 0 + 5 * k = 0 + (k : Int).toNat * 5 from by omega]
            exact hcn
          · right
            refine ⟨b, o, rfl, ?_⟩
            show TAt anyB W r b (o + (k + 1) * 5)
            rw [show o + (k + 1) * 5 = o + k * 5 + 5 from by omega]
            exact hr
          · ((repeat (first | (with_reducible exact Only.refl) | (with_reducible refine Only.skip ?_) | ((with_reducible refine Only.upd ?_ ?_); rfl) | ((with_reducible refine Only.over ?_ ?_ _); rfl) | ((with_reducible refine Only.hav ?_ ?_ ?_); rfl; rfl))))
      · have h5 : g.len = 0 := by omega
        have h6 := Fo.len_zero h5
        subst h6
        rw [Fo.app_nil] at happ
        subst happ
        exact ⟨hx, _, _, rfl, hl, .inr ⟨_, rfl, Nat.le_refl _, hB, by rw [Nat.mul_comm]; exact hroom, hda.wide (Nat.le_succ _) (Nat.le_refl _)⟩⟩

theorem toTerm_sep (k : TF) (v : Lab) (s : Value) (W : World) (hs : TSl anyB W s k) (hsz : k.size ≤ 1048576) :
    Ret Try.prog 30 #[tv v s] W (fun u w' => Ext W w' ∧ ∃ s', u = tv v s' ∧ TSep w' s' k W.heap.size w'.heap.size) := toTerm_sof (toTermS_sep _ k (Nat.lt_succ_self _)) v s W hs hsz

end Go.Proofs.Ytkoaicjcanplaaa
