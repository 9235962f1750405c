/- CoreOf: contract of the reference's. -/
import Derived.Test.YtfmflffggcphjaaCp
namespace Go.Vc
open Go Go.RowKit
theorem own_lo {α : Type} {E : Rep α} {ok : Nat → Prop} {w : World} {a : Option Addr} {cp n : Nat} {l : List α} (h : OwnR E ok w (.slice a n cp) l) {k : Nat} (hk : k ≤ l.length) :
    ∃ a' c', Value.slice (if cp = (0 : Int).toNat then a else a.map (·.add ((0 : Int).toNat * 1))) ((k : Int).toNat - (0 : Int).toNat) (cp - (0 : Int).toNat) = .slice a' (l.take k).length c' ∧ ((l.take k).length = 0 ∨ ∃ b o, a' = some ⟨b, o, none⟩ ∧ RAt E ok w (l.take k) b o) := by
  have hlt : (l.take k).length = k := by rw [List.length_take]; omega
  have hz : (0 : Int).toNat = 0 := rfl
  refine ⟨_, _, by rw [hlt, Int.toNat_natCast, hz, Nat.sub_zero], ?_⟩
  by_cases h0 : k = 0
  · left; omega
  · right
    obtain ⟨a', c', he, h1, h2, h3⟩ := h
    cases he
    obtain ⟨B, rfl, _, hr⟩ := h3.resolve_left (by omega)
    exact ⟨B, 0, by rw [if_neg (by omega)]; rfl, hr.take⟩
theorem own_hi {α : Type} {E : Rep α} {ok : Nat → Prop} (hm : E.m = 1) {w : World} {a : Option Addr} {cp n : Nat} {l : List α} (h : OwnR E ok w (.slice a n cp) l) {k : Nat} (hk : k + 1 ≤ l.length) :
    ∃ a' c', Value.slice (if cp = ((k : Int) + 1).toNat then a else a.map (·.add (((k : Int) + 1).toNat * 1))) ((n : Int).toNat - ((k : Int) + 1).toNat) (cp - ((k : Int) + 1).toNat) = .slice a' (l.drop (k + 1)).length c' ∧ ((l.drop (k + 1)).length = 0 ∨ ∃ b o, a' = some ⟨b, o, none⟩ ∧ RAt E ok w (l.drop (k + 1)) b o) := by
  have hk1 : ((k : Int) + 1).toNat = k + 1 := by omega
  obtain ⟨a', c', he, h1, h2, h3⟩ := h
  cases he
  have hld : (l.drop (k + 1)).length = l.length - (k + 1) := List.length_drop
  rw [hk1]
  refine ⟨_, _, by rw [hld, Int.toNat_natCast], ?_⟩
  by_cases h0 : l.length = k + 1
  · left; omega
  · right
    obtain ⟨B, rfl, _, hr⟩ := h3.resolve_left (by omega)
    refine ⟨B, 0 + (k + 1) * E.m, ?_, hr.drop⟩
    rw [if_neg (by omega), hm]
    rfl
end Go.Vc
namespace Go.Proofs.Ytfmflffggcphjaa
open Go Go.Vc Go.RowKit Go.Sat
set_option linter.unusedVariables false

def CorR (n : Int) (F : Cnf) (limit : Int) (W : World) (r : Value) (w' : World) : Prop := Ext W w' ∧ ∃ s, r = .tuple #[s, .bool (corO n F limit).isSome] ∧ OwnR eI noB w' s ((corO n F limit).getD []) ∧ ∀ b, blk s b → W.heap.size ≤ b
theorem CorR.no {n : Int} {F : Cnf} {limit : Int} {W w' : World} (hx : Ext W w') (h : corO n F limit = none) : CorR n F limit W (.tuple #[.slice none 0 0, .bool false]) w' := by
  unfold CorR
  rw [h]
  exact ⟨hx, _, rfl, OwnR.nil _ _ _ _, fun b hb => hb.elim⟩
theorem CorR.yes {n : Int} {F : Cnf} {limit : Int} {W w' : World} {s : Value} {l : List Int} (hx : Ext W w') (h : corO n F limit = some l) (ho : OwnR eI noB w' s l) (hb : ∀ b, blk s b → W.heap.size ≤ b) : CorR n F limit W (.tuple #[s, .bool true]) w' := by
  unfold CorR
  rw [h]
  exact ⟨hx, _, rfl, ho, hb⟩
theorem eL_one : eL.m = 1 := rfl

set_option maxHeartbeats 4000000 in
theorem spec_CoreOf (n : Int) (F : Cnf) (limit : Int) (s : Value) (W : World) (hs : SlR eL allB W s F) :
    Ret Try.prog 63 #[fv n s, .int .i64 limit] W (CorR n F limit W) := by
  have hlm : (maxLen : Int) ≤ 9223372036854775807 := by decide
  have hsO : SlR eL (oldB W.heap.size) W s F := hs.lt.mono fun b hb => hb.2
  obtain ⟨a0, c0, rfl, hlc0, hcm0, hat0⟩ := id hsO
  have x1 : Ext W (W.alloc (.cells #[.int .i64 n, .slice a0 F.length c0] 25)) := Ext.new _ _
  have hb := boxedAll W [.int .i64 n, .slice a0 F.length c0] 25
  have hWb : ∀ b, oldB W.heap.size b → ∀ {w : World} {c : Nat}, Ext W w → ¬ blk (.slice (some ⟨w.heap.size, 0, none⟩) 0 c) b := fun b hb w c hx e => by
    have h1 := blk_is e
    have h2 := hx.size
    unfold oldB at hb
    omega
  refine ret_of_vc ties mixed Try.func63 rfl (by kernel_rfl) rfl rfl ?_
  refine ⟨[.int .i64 n, .slice a0 F.length c0], rfl, hb, ?_⟩
  refine Or.inl ((spec_Search n F [] limit (.slice a0 F.length c0) (.slice none 0 0) _ (hs.ext x1) (SlR.nil _ _ _ _ _ (Nat.zero_le _))).mono ?_)
  rintro _ w2 ⟨x2, R0, hSR, sv, rfl, -, -⟩
  have x12 := x1.trans x2
  have hse := seaF_eq hSR
  refine br_dec (fun h => ?_) (fun h => ?_)
  · exact CorR.no x12 (by unfold corO; rw [if_neg (by omega)])
  have hse2 : seaF n F limit = 2 := by omega
  have hF := (seaF_two hse2).1
  have hlim := (seaF_two hse2).2
  have hn := fOk_n' hF
  clear h hSR hse
  have x3 : Ext (W.alloc (.cells #[.int .i64 n, .slice a0 F.length c0] 25)) ((w2.alloc (.cells #[] 3)).alloc (.cells #[] 27)) := (x2.trans (Ext.new _ _)).trans (Ext.new _ _)
  have hz1 := x1.size
  have hWb' : ∀ b, oldB W.heap.size b → ∀ {w : World} {c : Nat}, Ext (W.alloc (.cells #[.int .i64 n, .slice a0 F.length c0] 25)) w → ¬ blk (.slice (some ⟨w.heap.size, 0, none⟩) 0 c) b := fun b hb w c hx => hWb b hb (x1.trans hx)
  refine ⟨_, (hb.ext x3).2.1, ?_⟩
  refine raw_append (E := eL) (ok := oldB W.heap.size) (l := []) (k := F) ties rfl rfl rfl rfl rfl rfl rfl rfl rfl rfl (OwnR.nil _ _ _ _) (fun b hb => hWb' b hb (x2.trans (Ext.new _ _))) ⟨_, _, rfl, ?_⟩ (by show (0 + F.length) * 24 ≤ _; omega) (by show 0 + F.length ≤ _; omega) ?_
  · rcases hat0 with h | ⟨b, o, h, _, h'⟩
    · exact .inl h
    · exact .inr ⟨b, o, h, h'.ext (x1.trans x3)⟩
  intro v4 w4 hv4 hch4 hvb4
  rw [List.nil_append] at hv4
  have z3 := (x2.trans (Ext.new w2 (.cells #[] 3))).size
  have z3' := x3.size
  have x4 : Ext (W.alloc (.cells #[.int .i64 n, .slice a0 F.length c0] 25)) w4 := x3.chg hch4 fun i hi => by have h1 := blk_is hi; omega
  have z34 := hch4.size
  have e21 : (w2.alloc (.cells #[] 3)).heap.size = w2.heap.size + 1 := by simp
  have e31 : ((w2.alloc (.cells #[] 3)).alloc (.cells #[] 27)).heap.size = w2.heap.size + 2 := by simp
  have hv4b : ∀ b, blk v4 b → ((W.alloc (.cells #[.int .i64 n, .slice a0 F.length c0] 25)).heap.size ≤ b ∧ b < w4.heap.size) ∧ b ≠ w2.heap.size := fun b hb => by
    rcases hvb4 b hb with h | h
    · have h1 := blk_is h; have := x2.size; omega
    · have := x2.size; omega
  have hov4b : (W.alloc (.cells #[.int .i64 n, .slice a0 F.length c0] 25)).heap.size ≤ w2.heap.size ∧ w2.heap.size < w4.heap.size := ⟨x2.size, by omega⟩
  clear z3 z3' hvb4 hch4 z34 e21 e31
  refine ⟨_, (hb.ext x4).2.1, ?_⟩
  refine loop_rule (σ := Nat × List Bool × Value × Value × Value × Value × Value) [6, 9, 10, 11, 12, 13, 31] 32 68 (fun q => [q.2.2.2.2.1, q.2.2.1, q.2.2.2.1, .int .i64 (cnt q.2.1 q.1), q.2.2.2.2.2.1, q.2.2.2.2.2.2, .int .i64 q.1])
    (fun q w' => Ext (W.alloc (.cells #[.int .i64 n, .slice a0 F.length c0] 25)) w' ∧ q.1 ≤ F.length ∧ corF n F limit q.1 = some q.2.1 ∧ OwnR eI noB w' q.2.2.1 (keepK q.2.1 q.1) ∧ (∀ b, blk q.2.2.1 b → (W.alloc (.cells #[.int .i64 n, .slice a0 F.length c0] 25)).heap.size ≤ b ∧ b < w'.heap.size) ∧ OwnR eL (oldB W.heap.size) w' q.2.2.2.1 (filt F q.2.1) ∧ (∀ b, blk q.2.2.2.1 b → (W.alloc (.cells #[.int .i64 n, .slice a0 F.length c0] 25)).heap.size ≤ b ∧ b < w'.heap.size) ∧ ∀ b, blk q.2.2.1 b → ¬ blk q.2.2.2.1 b)
    (fun q => F.length - q.1) (0, List.replicate F.length false, _, v4, _, undef, undef) (vs7 rfl rfl rfl (vint (by show (0 : Int) = ((cnt _ 0 : Nat) : Int); rw [← keepK_len]; rfl)) rfl rfl rfl) ⟨x4, Nat.zero_le _, rfl, OwnR.nil _ _ _ _, fun b hb => by rw [blk_is hb]; exact hov4b, by show OwnR eL _ w4 v4 (filt F (List.replicate F.length false)); rw [filt_none]; exact hv4, fun b hb => (hv4b b hb).1, fun b hb1 hb2 => (hv4b b hb2).2 (blk_is hb1)⟩ ?_
  rintro ⟨i, o, ov, kv, j6, j12, j13⟩ w junk ⟨hx, hi, hcor, ho, hob, hk, hkb, hdis⟩ K hK
  simp only at hi hcor ho hob hk hkb hdis
  show vc _ _ _ _ (over [6, 9, 10, 11, 12, 13, 31] [j6, ov, kv, .int .i64 (cnt o i), j12, j13, .int .i64 i] _) _
  have hinv := corF_inv _ _ hcor
  refine br_dec (fun h3 => ?_) (fun h3 => ?_)
  · have hil : i < F.length := by omega
    have hoi := hinv.2 i (Nat.le_refl _) hil
    have hfs := filt_set F o i hinv.1 hoi
    have hfl := filt_len F o
    have hfl2 := filt_len F (o.set i true)
    have hkl := keepK_le o i
    refine Exists.elim hk fun ka h => Exists.elim h fun kcp hkk => ?_
    have he := hkk.1
    subst he
    have hcp1 := hkk.2.1
    have hcp2 := hkk.2.2.1
    have hzx := hx.size
    refine ⟨⟨by omega, by omega, by omega⟩, ?_⟩
    refine raw_append (E := eL) (ok := oldB W.heap.size) (l := []) (k := (filt F o).take (cnt o i)) ties rfl rfl rfl rfl rfl rfl rfl rfl rfl rfl (OwnR.nil _ _ _ _) (fun b hb => hWb' b hb hx) (own_lo (hk.ext (Ext.new _ _)) (by omega)) (by rw [List.length_take]; show (0 + min _ _) * 24 ≤ _; omega) (by rw [List.length_take]; show 0 + min _ _ ≤ _; omega) ?_
    intro v5 w5 hv5 hch5 hvb5
    rw [List.nil_append] at hv5
    have x5 : Ext w w5 := (Ext.new w _).chg hch5 (fun i hi => by rw [blk_is hi]; exact Nat.le_refl _)
    have e5 : ∀ o : Obj, (w.alloc o).heap.size = w.heap.size + 1 := fun o => by simp
    have z5 := hch5.size
    rw [e5] at z5
    have hv5b : ∀ b, blk v5 b → w.heap.size ≤ b ∧ b < w5.heap.size := fun b hb => by
      rcases hvb5 b hb with h | h
      · have h1 := blk_is h; omega
      · rw [e5] at h; omega
    refine ⟨_, IntWalk.i64_in _ (by omega), ⟨by omega, by omega, by omega⟩, ?_⟩
    refine raw_append (E := eL) (ok := oldB W.heap.size) (l := (filt F o).take (cnt o i)) (k := (filt F o).drop (cnt o i + 1)) ties rfl rfl rfl rfl rfl rfl rfl rfl rfl rfl hv5 (fun b hb e => by have := hv5b b e; unfold oldB at hb; omega) (own_hi eL_one (hk.ext x5) (by omega)) (by rw [List.length_take, List.length_drop]; show (min _ _ + (_ - _)) * 24 ≤ _; omega) (by rw [List.length_take, List.length_drop]; omega) ?_
    intro v6 w6 hv6 hch6 hvb6
    rw [hfs.1] at hv6
    have x6 : Ext w w6 := x5.chg hch6 (fun i hi => (hv5b i hi).1)
    have z6 := hch6.size
    have hv6b : ∀ b, blk v6 b → w.heap.size ≤ b ∧ b < w6.heap.size := fun b hb => by
      rcases hvb6 b hb with h | h
      · have := hv5b b h; omega
      · omega
    clear hvb6 hvb5 hv5 hv5b hch5 hch6 e5 z5
    refine Exists.elim hv6 fun a6 h => Exists.elim h fun cp6 hk6 => ?_
    have he6 := hk6.1
    subst he6
    refine ⟨_, (hb.ext (hx.trans x6)).1, ?_⟩
    refine Or.inl ((spec_Search n (filt F (o.set i true)) [] limit _ (.slice none 0 0) w6 (hv6.sl (fun _ _ => trivial) (fun _ _ => trivial)) (SlR.nil _ _ _ _ _ (Nat.zero_le _))).mono ?_)
    intro r w7 hr
    refine Exists.elim hr.2 fun R hR => Exists.elim hR.2 fun sv hsv => ?_
    have hre := hsv.1
    subst hre
    have hs7 := seaF_eq hR.1
    have x7 := x6.trans hr.1
    have hcor' : corF n F limit (i + 1) = if R.code = 3 then none else some (if R.code = 2 then o.set i true else o) := by rw [corF, hcor]; simp only; rw [hs7]
    have z7 := x7.size
    have z67 := hr.1.size
    refine br_dec (fun h4 => ?_) (fun h4 => ?_)
    · refine CorR.no (x1.trans (hx.trans x7)) ?_
      unfold corO
      rw [if_pos hse2, corF_none (i := i + 1) (by rw [hcor', if_pos h4]) F.length (by omega)]
      rfl
    rw [if_neg h4] at hcor'
    refine br_dec (fun h5 => ?_) (fun h5 => ?_)
    · rw [if_pos h5] at hcor'
      refine ⟨_, IntWalk.i64_in _ (by omega), ?_⟩
      refine hK (i + 1, o.set i true, ov, _, _, _, _) _ _ (vs7 rfl rfl rfl (vint (by show ((cnt o i : Nat) : Int) = ((cnt (o.set i true) (i + 1) : Nat) : Int); rw [cnt_drop (by omega)])) rfl rfl (vint (by show (i : Int) + 1 = ((i + 1 : Nat) : Int); omega))) ⟨hx.trans x7, by show i + 1 ≤ _; omega, hcor', by show OwnR eI noB w7 ov (keepK (o.set i true) (i + 1)); rw [keepK_drop (by omega)]; exact ho.ext x7, fun b hb => by have := hob b hb; omega, hv6.ext hr.1, fun b hb => by have := hv6b b hb; omega, fun b hb1 hb2 => by have := hob b hb1; have := hv6b b hb2; omega⟩ (by show F.length - (i + 1) < F.length - i; omega) ?_
      ((repeat (first | (with_reducible exact Only.refl) | (with_reducible refine Only.skip ?_) | ((with_reducible refine Only.upd ?_ ?_); rfl) | ((with_reducible refine Only.over ?_ ?_ _); rfl) | ((with_reducible refine Only.hav ?_ ?_ ?_); rfl; rfl))))
    · rw [if_neg h5] at hcor'
      refine raw_push (E := eI) (ok := noB) (x := (i : Int)) ties rfl rfl rfl rfl rfl rfl rfl rfl rfl rfl rfl (ho.ext x7) rfl noB_blk (by show ((keepK o i).length + 1) * 8 ≤ _; omega) (by omega) ?_
      intro v8 w8 hv8 hch8 hsz8 hvb8
      have z8 := hch8.size
      refine ⟨_, IntWalk.i64_in _ (by omega), _, IntWalk.i64_in _ (by omega), ?_⟩
      refine hK (i + 1, o, v8, _, _, _, _) _ _ (vs7 rfl rfl rfl (vint (by show ((cnt o i : Nat) : Int) + 1 = ((cnt o (i + 1) : Nat) : Int); rw [cnt_keep hoi]; omega)) rfl rfl (vint (by show (i : Int) + 1 = ((i + 1 : Nat) : Int); omega))) ⟨(hx.trans x7).chg hch8 (fun b hb => (hob b hb).1), by show i + 1 ≤ _; omega, hcor', by show OwnR eI noB w8 v8 (keepK o (i + 1)); rw [keepK_keep hoi]; exact hv8, fun b hb => ?_, (hk.ext x7).chg (fun b hb e => by have := hob b e; unfold oldB at hb; omega) (fun b hb e => hdis b e hb) hch8, fun b hb => by have := hkb b hb; omega, fun b hb1 hb2 => ?_⟩ (by show F.length - (i + 1) < F.length - i; omega) ?_
      · rcases hvb8 b hb with h | h
        · have := hob b h; omega
        · omega
      · rcases hvb8 b hb1 with h | h
        · exact hdis b h hb2
        · have := hkb b hb2; omega
      · ((repeat (first | (with_reducible exact Only.refl) | (with_reducible refine Only.skip ?_) | ((with_reducible refine Only.upd ?_ ?_); rfl) | ((with_reducible refine Only.over ?_ ?_ _); rfl) | ((with_reducible refine Only.hav ?_ ?_ ?_); rfl; rfl))))
  · have hie : i = F.length := by omega
    rw [hie] at hcor ho
    exact CorR.yes (x1.trans hx) (by unfold corO; rw [if_pos hse2, hcor]; rfl) ho (fun b hb => by have := hob b hb; omega)

end Go.Proofs.Ytfmflffggcphjaa
