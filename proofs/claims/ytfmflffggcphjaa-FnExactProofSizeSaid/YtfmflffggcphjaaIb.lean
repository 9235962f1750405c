/- Rows of rows, formulas: contracts of sz, to, eq. -/
import Derived.Test.YtfmflffggcphjaaIa
namespace Go.Vc
open Go Go.RowKit
variable {α : Type}
/-- Slices that may be written, as elements. -/
def Rep.own (E : Rep α) : Rep (List α) where
  m := 1
  R := fun ok w l cs => ∃ a c, cs = [.slice a l.length c] ∧ l.length ≤ c ∧ c ≤ maxLen ∧ (c = 0 ∨ ∃ B, a = some ⟨B, 0, none⟩ ∧ ok B ∧ Rmy w B (c * E.m) ∧ RAt E ok w l B 0)
  pos := Nat.one_pos
  len := fun ⟨_, _, h, _⟩ => by rw [h]; rfl
  one := fun ⟨_, _, h, _⟩ => by rw [h]; rfl
  chg := fun hok hc ⟨a, c, h, h1, h2, h3⟩ => ⟨a, c, h, h1, h2, h3.imp id fun ⟨B, g1, g2, g3, g4⟩ => ⟨B, g1, g2, hc.rmy (hok B g2) g3, g4.chg hok hc (hok B g2)⟩⟩
  mono := fun hok ⟨a, c, h, h1, h2, h3⟩ => ⟨a, c, h, h1, h2, h3.imp id fun ⟨B, g1, g2, g3, g4⟩ => ⟨B, g1, hok B g2, g3, g4.mono hok⟩⟩
  lt := fun {ok w l cs} ⟨a, c, h, h1, h2, h3⟩ => by
    refine ⟨a, c, h, h1, h2, ?_⟩
    by_cases h0 : c = 0
    · exact .inl h0
    · obtain ⟨B, g1, g2, g3, g4⟩ := h3.resolve_left h0
      have hp : 0 < c * E.m := Nat.mul_pos (by omega) E.pos
      obtain ⟨⟨u, hu⟩, _⟩ := g3 0 hp
      exact .inr ⟨B, g1, ⟨g2, World.block_lt_of_cell? _ _ hu⟩, g3, g4.lt⟩
theorem RAt.imp {E E' : Rep α} {ok ok' : Nat → Prop} {w : World} (hm : E.m = E'.m) (h : ∀ x cs, E.R ok w x cs → E'.R ok' w x cs) : ∀ {l : List α} {b o : Nat}, RAt E ok w l b o → RAt E' ok' w l b o
  | [], _, _, _ => trivial
  | _ :: _, _, _, ⟨⟨cs, hc, hr⟩, hl⟩ => ⟨⟨cs, hc, h _ _ hr⟩, hm ▸ RAt.imp hm h hl⟩
theorem SlR.imp {E E' : Rep α} {ok ok' : Nat → Prop} {w : World} {s : Value} {l : List α} (hm : E.m = E'.m) (hok : ∀ b, ok b → ok' b) (h : ∀ x cs, E.R ok w x cs → E'.R ok' w x cs) (hs : SlR E ok w s l) : SlR E' ok' w s l := by
  obtain ⟨a, c, h1, h2, h2', h3⟩ := hs
  exact ⟨a, c, h1, h2, h2', h3.imp id fun ⟨b, o, ha, ho, h3⟩ => ⟨b, o, ha, hok b ho, h3.imp hm h⟩⟩
theorem Rep.own_sl {E : Rep α} {ok : Nat → Prop} {w : World} {l : List α} {cs : List Value} (h : (Rep.own E).R ok w l cs) : (Rep.sl E).R ok w l cs := by
  obtain ⟨a, c, h, h1, h2, h3⟩ := h
  refine ⟨_, h, a, c, rfl, h1, h2, ?_⟩
  rcases h3 with h3 | ⟨B, g1, g2, g3, g4⟩
  · exact .inl (by omega)
  · exact .inr ⟨B, 0, g1, g2, g4⟩
theorem OwnR.all {E : Rep α} {ok : Nat → Prop} {w : World} {s : Value} {l : List (List α)} (h : OwnR (Rep.own E) ok w s l) : SlR (Rep.sl E) (fun _ => True) w s l :=
  SlR.imp (E := Rep.own E) (E' := Rep.sl E) rfl (fun _ h => h) (fun _ _ h => Rep.own_sl h) (h.sl (ok' := fun _ => True) (fun _ _ => trivial) (fun _ _ => trivial))
theorem NewR.one {E : Rep α} {ok ok' : Nat → Prop} {w' : World} {v : Value} {l : List α} (h : OwnR E ok w' v l) (hok : ∀ b, ok b → ok' b) (hb : ∀ b, blk v b → ok' b) : (Rep.own E).R ok' w' l [v] := by
  obtain ⟨a, c, rfl, h1, h2, h3⟩ := h
  refine ⟨a, c, rfl, h1, h2, h3.imp id fun ⟨B, g1, g2, g3⟩ => ?_⟩
  subst g1
  exact ⟨B, rfl, hb B rfl, g2, g3.mono hok⟩
end Go.Vc
namespace Go.Proofs.Ytfmflffggcphjaa
open Go Go.Vc Go.RowKit

abbrev eL : Rep (List Int) := Rep.sl eI
abbrev eO : Rep (List Int) := Rep.own eI
def tot : List (List Int) → Nat
  | [] => 0
  | l :: F => l.length + tot F
theorem tot_take : ∀ (F : List (List Int)) (k : Nat) (h : k < F.length), tot (F.take (k + 1)) = tot (F.take k) + (F[k]'h).length
  | l :: F, 0, _ => by simp [tot]
  | l :: F, k + 1, h => by
    have := tot_take F k (by simpa using h)
    simp only [List.take_succ_cons, tot, List.getElem_cons_succ]; omega
theorem tot_mem : ∀ {F : List (List Int)} {l : List Int}, l ∈ F → l.length ≤ tot F
  | k :: F, l, h => by
    simp only [tot]
    rcases List.mem_cons.1 h with rfl | h
    · omega
    · have := tot_mem h; omega
def SzR (n : Nat) (left : Int) (W : World) (v : Value) (w' : World) : Prop := Ext W w' ∧ (v = .int .i64 (-1) ∨ ((n : Int) ≤ left ∧ v = .int .i64 (left - n)))

theorem szIntS_ret (l : List Int) (s : Value) (left : Int) (W : World) (hs : SlR eI allB W s l) (h0 : 0 ≤ left) (h1 : left ≤ 1048576) :
    Ret Try.prog 122 #[s, .int .i64 left] W (SzR l.length left W) := by
  have hlm : (maxLen : Int) ≤ 9223372036854775807 := by decide
  obtain ⟨a, c, rfl, hlc, hcm, hat⟩ := id hs
  refine ret_of_vc ties mixed Try.func122 rfl (by kernel_rfl) rfl rfl ?_
  refine ⟨_, IntWalk.i64_in _ (by omega), ?_⟩
  refine br_dec (fun h2 => ?_) (fun h2 => ?_)
  · exact ⟨Ext.refl _, .inl rfl⟩
  · exact ⟨Ext.refl _, .inr ⟨by omega, rfl⟩⟩

theorem szIntSS_ret (F : List (List Int)) (s : Value) (left : Int) (W : World) (hs : SlR eL allB W s F) (h0 : 0 ≤ left) (h1 : left ≤ 1048576) :
    Ret Try.prog 84 #[s, .int .i64 left] W (SzR (F.length + tot F) left W) := by
  have hlm : (maxLen : Int) ≤ 9223372036854775807 := by decide
  obtain ⟨a, c, rfl, hlc, hcm, hat⟩ := id hs
  refine ret_of_vc ties mixed Try.func84 rfl (by kernel_rfl) rfl rfl ?_
  refine ⟨_, IntWalk.i64_in _ (by omega), ?_⟩
  refine br_dec (fun h2 => ?_) (fun h2 => ?_)
  · exact ⟨Ext.refl _, .inl rfl⟩
  refine loop_rule (σ := Nat × Int) [1, 5] 12 26 (fun q => [.int .i64 q.2, .int .i64 q.1])
    (fun q w' => Ext W w' ∧ q.1 ≤ F.length ∧ q.2 = left - F.length - tot (F.take q.1) ∧ 0 ≤ q.2)
    (fun q => F.length - q.1) (0, left - F.length) rfl ⟨Ext.refl _, Nat.zero_le _, by simp [tot], by simp only; omega⟩ ?_
  rintro ⟨k, m⟩ w junk ⟨hx, hk, hm, hm0⟩ K hK
  simp only at hk hm hm0
  refine br_dec (fun h3 => ?_) (fun h3 => ?_)
  · have hkl : k < F.length := by omega
    obtain ⟨b, o, c1, cs, he, _, hc, s', rfl, hs'⟩ := hs.at hkl
    cases he
    have ht := tot_take F k hkl
    refine ⟨⟨by omega, by omega⟩, s', (hc.ext hx).1, ?_⟩
    refine Or.inl ((szIntS_ret (F[k]'hkl) s' m _ (hs'.ext hx) hm0 (by omega)).mono ?_)
    rintro _ w' ⟨hx', rfl | ⟨h4, rfl⟩⟩
    · exact ⟨hx.trans hx', .inl rfl⟩
    · refine br_dec_false (by omega) ?_
      refine ⟨_, IntWalk.i64_in _ (by omega), ?_⟩
      refine hK (k + 1, m - (F[k]'hkl).length) _ _ (vs2 rfl (vint (by show (k : Int) + 1 = ((k + 1 : Nat) : Int); omega))) ⟨hx.trans hx', by show k + 1 ≤ F.length; omega, by show m - _ = _; rw [ht]; omega, by show 0 ≤ m - _; omega⟩ (by show F.length - (k + 1) < F.length - k; omega) ?_
      ((repeat (first | (with_reducible exact Only.refl) | (with_reducible refine Only.skip ?_) | ((with_reducible refine Only.upd ?_ ?_); rfl) | ((with_reducible refine Only.over ?_ ?_ _); rfl) | ((with_reducible refine Only.hav ?_ ?_ ?_); rfl; rfl))))
  · have : k = F.length := by omega
    subst this
    rw [List.take_length] at hm
    exact ⟨hx, .inr ⟨by omega, vint (by omega)⟩⟩

theorem toIntSS_ret (F : List (List Int)) (s : Value) (W : World) (hs : SlR eL allB W s F) (hl : F.length + tot F ≤ 1048576) :
    Ret Try.prog 87 #[s] W (fun v w' => Ext W w' ∧ OwnR eO (fun b => W.heap.size < b) w' v F ∧ ∀ b, blk v b → b = W.heap.size) := by
  have hlm : (maxLen : Int) ≤ 9223372036854775807 := by decide
  obtain ⟨a, c, rfl, hlc, hcm, hat⟩ := id hs
  refine ret_of_vc ties mixed Try.func87 rfl (by kernel_rfl) rfl rfl ?_
  refine ⟨⟨by omega, by omega, by omega, by show (24 : Int) * (F.length : Int) ≤ _; omega⟩, ?_⟩
  have room : Rmy (W.alloc (.cells (zs F.length [.slice none 0 0]).toArray 27)) W.heap.size F.length := by
    have := Rmy.new W (zs F.length [.slice none 0 0]) 27
    rwa [zs_length, List.length_singleton, Nat.mul_one] at this
  refine loop_rule (σ := Nat) [4] 8 23 (fun k => [.int .i64 k])
    (fun k w' => Ext W w' ∧ W.heap.size < w'.heap.size ∧ k ≤ F.length ∧ Rmy w' W.heap.size F.length ∧ RAt eO (fun b => W.heap.size < b) w' (F.take k) W.heap.size 0)
    (fun k => F.length - k) 0 rfl ⟨Ext.new _ _, by simp, Nat.zero_le _, room, trivial⟩ ?_
  rintro k w junk ⟨hx, hsz, hk, hr, hat'⟩ K hK
  refine br_dec (fun h3 => ?_) (fun h3 => ?_)
  · have hkl : k < F.length := by omega
    obtain ⟨b, o, c1, cs, he, _, hc, s', rfl, hs'⟩ := hs.at hkl
    cases he
    have ht := tot_mem (List.getElem_mem hkl)
    refine ⟨⟨by omega, by omega⟩, s', (hc.ext hx).1, ?_⟩
    refine Or.inl ((toIntS_ret (F[k]'hkl) s' _ (hs'.ext hx) (by omega)).mono ?_)
    rintro v w' ⟨hx', hv, hvb⟩
    have hv1 := NewR.one (ok' := fun b => W.heap.size < b) hv (fun _ h => h.elim) (fun b hb => Nat.lt_of_lt_of_le hsz (hvb b hb))
    have hone : oneB v = true := by obtain ⟨_, _, rfl, _⟩ := hv; rfl
    refine ⟨⟨by omega, by omega⟩, ?_⟩
    obtain ⟨va, vc, rfl, _⟩ := id hv
    refine ⟨hr.ext hx' _ (by show 0 + (k : Int).toNat * 1 < _; omega), ?_⟩
    refine ⟨_, IntWalk.i64_in _ (by omega), ?_⟩
    refine hK (k + 1) _ _ (vs1 (vint (by show (k : Int) + 1 = ((k + 1 : Nat) : Int); omega))) ⟨(hx.trans hx').set (Nat.le_refl _) _, Nat.lt_of_lt_of_le hsz (by simpa [World.setCell] using hx'.size), by omega, (hr.ext hx').setCell, ?_⟩ (by omega) ?_
    · rw [take_snoc hkl]
      have hlen : (F.take k).length = k := by rw [List.length_take]; omega
      exact RAt.fill (cs := [_]) (fun b hb => by omega) (hr.ext hx') (hat'.ext hx') hv1 (by rw [hlen]; show 0 + (k : Int).toNat * 1 = k * 1; omega) (by rw [hlen]; show (k + 1) * 1 ≤ _; omega)
    · ((repeat (first | (with_reducible exact Only.refl) | (with_reducible refine Only.skip ?_) | ((with_reducible refine Only.upd ?_ ?_); rfl) | ((with_reducible refine Only.over ?_ ?_ _); rfl) | ((with_reducible refine Only.hav ?_ ?_ ?_); rfl; rfl))))
  · have : k = F.length := by omega
    subst this
    rw [List.take_length] at hat'
    exact ⟨hx, ⟨_, _, rfl, Nat.le_refl _, by omega, .inr ⟨_, rfl, by rw [show eO.m = 1 from rfl, Nat.mul_one]; exact hr, hat'⟩⟩, fun b hb => by cases hb; rfl⟩

theorem eqIntSS_ret (F G : List (List Int)) (s t : Value) (W : World) (hs : SlR eL allB W s F) (ht : SlR eL allB W t G) :
    Ret Try.prog 89 #[s, t] W (fun v w' => v = .bool (decide (F = G)) ∧ Ext W w') := by
  have hlm : (maxLen : Int) ≤ 9223372036854775807 := by decide
  obtain ⟨a, c, rfl, hlc, hcm, hat⟩ := id hs
  obtain ⟨a', c', rfl, hlc', hcm', hat'⟩ := id ht
  refine ret_of_vc ties mixed Try.func89 rfl (by kernel_rfl) rfl rfl ?_
  refine br_dec (fun h => ?_) (fun h => ?_)
  · exact ⟨vbool (decide_eq_false fun e => h (by rw [e])).symm, Ext.refl _⟩
  have hlen : F.length = G.length := by omega
  refine loop_rule (σ := Nat) [5] 11 27 (fun k => [.int .i64 k])
    (fun k w' => Ext W w' ∧ k ≤ F.length ∧ F.take k = G.take k)
    (fun k => F.length - k) 0 rfl ⟨Ext.refl _, Nat.zero_le _, rfl⟩ ?_
  rintro k w junk ⟨hx, hk, htk⟩ K hK
  refine br_dec (fun h3 => ?_) (fun h3 => ?_)
  · have hkl : k < F.length := by omega
    have hkm : k < G.length := by omega
    obtain ⟨b, o, c1, cs, he, _, hc, s', rfl, hs'⟩ := hs.at hkl
    cases he
    obtain ⟨b', o', c1', cs', he', _, hc', t', rfl, ht'⟩ := ht.at hkm
    cases he'
    refine .inl ⟨by kernel_rfl, ?_⟩
    refine ⟨⟨by omega, by omega⟩, _, (hc.ext hx).1, ⟨by omega, by omega⟩, _, (hc'.ext hx).1, ?_⟩
    refine ⟨_, fun w' hx' => eqIntS_ret _ _ _ _ w' ((hs'.ext hx).ext hx') ((ht'.ext hx).ext hx'), ?_⟩
    intro w4 hx4
    refine br_not (fun h5 => ?_) (fun h5 => ?_)
    · refine ⟨vbool (decide_eq_false fun e => ?_).symm, hx.trans hx4⟩
      subst e
      simp at h5
    · have he : F[k]'hkl = G[k]'hkm := by simpa using h5
      refine ⟨_, IntWalk.i64_in _ (by omega), ?_⟩
      refine hK (k + 1) _ _ (vs1 (vint (by show (k : Int) + 1 = ((k + 1 : Nat) : Int); omega))) ⟨hx.trans hx4, by omega, take_step htk hkl hkm he⟩ (by omega) ?_
      ((repeat (first | (with_reducible exact Only.refl) | (with_reducible refine Only.skip ?_) | ((with_reducible refine Only.upd ?_ ?_); rfl) | ((with_reducible refine Only.over ?_ ?_ _); rfl) | ((with_reducible refine Only.hav ?_ ?_ ?_); rfl; rfl))))
  · exact ⟨vbool (decide_eq_true (take_all_eq htk (by omega) (by omega))).symm, hx⟩

/-! formulas -/
abbrev fv (n : Int) (s : Value) : Value := .agg #[.int .i64 n, s]

theorem szFormula_ret (n : Int) (F : List (List Int)) (s : Value) (left : Int) (W : World) (hs : SlR eL allB W s F) (h0 : 0 ≤ left) (h1 : left ≤ 1048576) :
    Ret Try.prog 33 #[fv n s, .int .i64 left] W (SzR (F.length + tot F) left W) := by
  refine ret_of_vc ties mixed Try.func33 rfl (by kernel_rfl) rfl rfl ?_
  refine ⟨s, boxed _ _ _ _ _ rfl, ?_⟩
  refine Or.inl ((szIntSS_ret F s left _ (hs.ext (Ext.new _ _)) h0 h1).mono ?_)
  rintro _ w' ⟨hx, rfl | ⟨h2, rfl⟩⟩
  · exact ⟨(Ext.new _ _).trans hx, .inl rfl⟩
  · refine br_dec_false (by omega) ?_
    exact ⟨(Ext.new _ _).trans hx, .inr ⟨h2, rfl⟩⟩

/-- A formula in memory of one's own. -/
def NewF (W : World) (n : Int) (F : List (List Int)) (v : Value) (w' : World) : Prop := Ext W w' ∧ ∃ s, v = fv n s ∧ OwnR eO (frB W) w' s F ∧ (∀ b, blk s b → frB W b) ∧ ∃ B, W.heap.size ≤ B ∧ (∀ b, blk s b → b = B) ∧ OwnR eO (fun b => B < b) w' s F

theorem toFormula_ret (n : Int) (F : List (List Int)) (s : Value) (W : World) (hs : SlR eL allB W s F) (hl : F.length + tot F ≤ 1048576) :
    Ret Try.prog 35 #[fv n s] W (NewF W n F) := by
  refine ret_of_vc ties mixed Try.func35 rfl (by kernel_rfl) rfl rfl ?_
  refine ⟨_, ((Ext.new _ _).trans (Ext.new _ _)).cell (boxed _ _ _ _ _ rfl), (Rmy.new _ [.int .i64 0, .slice none 0 0] _) 0 (by decide), ?_⟩
  refine ⟨_, (((Ext.new _ _).trans (Ext.new _ _)).set (by simp) _).cell (boxed _ _ _ _ _ rfl), ?_⟩
  have hx4 : ∀ o o' o'' v, Ext W ((((W.alloc o).alloc o').alloc o'').setCell ⟨((W.alloc o).alloc o').heap.size, 0, none⟩ v) := fun o o' o'' v => Below.setCell (((Ext.new _ _).trans (Ext.new _ _)).trans (Ext.new _ _)) (by simp; omega) _
  refine Or.inl ((toIntSS_ret F s _ (hs.ext (hx4 _ _ _ _)) hl).mono ?_)
  rintro v w5 ⟨hx5, hv, hvb⟩
  obtain ⟨a, c, rfl, _⟩ := id hv
  refine ⟨((Rmy.new _ [.int .i64 0, .slice none 0 0] _).setCell.ext hx5) 1 (by decide), ?_⟩
  refine ⟨[.int .i64 n, .slice a F.length c], rfl, ⟨(World.cell?_setCell_other _ _ _ _ (by simp)).trans (hx5.cell (World.cell?_setCell_same _ _ _ (boxed _ _ _ _ _ rfl))), World.cell?_setCell_same _ _ _ (hx5.cell ((World.cell?_setCell_other _ _ _ _ (by simp)).trans (boxed _ _ _ _ _ rfl))), trivial⟩, ?_⟩
  have r2 := (((Rmy.new (W.alloc (.cells #[.int .i64 n, s] 48)) [.int .i64 0, .slice none 0 0] 25).ext (Ext.new _ (.cells #[.int .i64 0, .slice none 0 0] 25))).setCell.ext hx5).setCell
    (p := ⟨((W.alloc (.cells #[.int .i64 n, s] 48)).alloc (.cells #[.int .i64 0, .slice none 0 0] 25)).heap.size, 1, none⟩) (u := .slice a F.length c)
  refine ⟨r2.all _ 0 (Nat.le_refl 2) rfl, ?_⟩
  refine ⟨_, rfl, setCells_at _ _ 0 2 r2 (Nat.le_refl 2), ?_⟩
  have hx5' := (hx4 _ _ _ _).trans hx5
  refine ⟨Ext.setCells _ (Below.setCell hx5' (by simp; omega) _) (by simp), _, rfl, ?_⟩
  have hch : Chg (fun b => b < W.heap.size + 3) w5 (setCells (w5.setCell ⟨((W.alloc (.cells #[.int .i64 n, s] 48)).alloc (.cells #[.int .i64 0, .slice none 0 0] 25)).heap.size, 1, none⟩ (.slice a F.length c)) (W.alloc (.cells #[.int .i64 n, s] 48)).heap.size 0 [.int .i64 n, .slice a F.length c]) :=
    (Chg.setCell _ (by simp) _).trans (Chg.setCells (by simp) _ _ _)
  have hsz : ∀ (o o' o'' : Obj) (v : Value), ((((W.alloc o).alloc o').alloc o'').setCell ⟨((W.alloc o).alloc o').heap.size, 0, none⟩ v).heap.size = W.heap.size + 3 := fun o o' o'' v => by simp [World.setCell]
  rw [hsz] at hv hvb
  have hv' := hv.chg (S := fun b => b < W.heap.size + 3) (fun b hb => by omega) (fun b hb => by have := hvb b hb; omega) hch
  refine ⟨hv'.mono fun b hb => by show W.heap.size ≤ b; omega, fun b hb => by have := hvb b hb; show W.heap.size ≤ b; omega, W.heap.size + 3, by omega, hvb, hv'⟩

theorem eqFormula_ret (n m : Int) (F G : List (List Int)) (s t : Value) (W : World) (hs : SlR eL allB W s F) (ht : SlR eL allB W t G) :
    Ret Try.prog 37 #[fv n s, fv m t] W (fun v w' => v = .bool (decide (n = m ∧ F = G)) ∧ Ext W w') := by
  have x2 : ∀ o o', Ext W ((W.alloc o).alloc o') := fun o o' => (Ext.new _ _).trans (Ext.new _ _)
  refine ret_of_vc ties mixed Try.func37 rfl (by kernel_rfl) rfl rfl ?_
  refine ⟨_, (Ext.new _ _).cell (boxed _ _ _ _ _ rfl), _, boxed _ _ _ _ _ rfl, ?_⟩
  refine br_dec (fun h => ?_) (fun h => ?_)
  · exact ⟨vbool (decide_eq_false fun e => h e.1).symm, x2 _ _⟩
  have h : n = m := by omega
  refine ⟨_, (Ext.new _ _).cell (boxed _ _ _ _ _ rfl), _, boxed _ _ _ _ _ rfl, ?_⟩
  refine Or.inl ((eqIntSS_ret F G s t _ (hs.ext (x2 _ _)) (ht.ext (x2 _ _))).mono ?_)
  rintro _ w5 ⟨rfl, hx5⟩
  refine br_ndec (fun h2 => ?_) (fun h2 => ?_)
  · exact ⟨vbool (decide_eq_false fun e => h2 e.2).symm, (x2 _ _).trans hx5⟩
  · exact ⟨vbool (decide_eq_true ⟨h, h2⟩).symm, (x2 _ _).trans hx5⟩

end Go.Proofs.Ytfmflffggcphjaa
