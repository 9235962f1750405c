/- Reference: l02Copy. Reference: l02Simple, from l02Make. Reference: Simplify and IsSimple, from l02Make. Reference: l02Equal. (printed by genU7.py) -/
import Derived.Test.YtkoaicjcanplaaaGreatU1
namespace Go.Proofs.YtkoaicjcanplaaaGreat
open Go Go.Vc Go.RowKit
set_option linter.unusedVariables false

/-- The row of kids that grows. -/
structure CpJ (w1 : World) (kv : Value) (l : List Tm) (w : World) : Prop where
  ext : Ext w1 w
  own : OwnR eTm (fun b => w1.heap.size ≤ b ∧ ¬ blk kv b) w kv l
  blk : ∀ b, blk kv b → w1.heap.size ≤ b ∧ b < w.heap.size
theorem CpJ.later {w1 w w' : World} {kv : Value} {l : List Tm} (h : CpJ w1 kv l w) (e : Ext w w') : CpJ w1 kv l w' :=
  ⟨h.ext.trans e, h.own.ext e, fun b hb => ⟨(h.blk b hb).1, Nat.lt_of_lt_of_le (h.blk b hb).2 e.size⟩⟩
theorem CpJ.push {w1 w w' : World} {kv v : Value} {l : List Tm} {t : Tm} (h : CpJ w1 kv l w) (hv : OwnR eTm (fun b => (w1.heap.size ≤ b ∧ ¬ Vc.blk kv b) ∧ b < w.heap.size) w' v (l ++ [t])) (hch : Chg (Vc.blk kv) w w') (hsz : w.heap.size < w'.heap.size) (hb : ∀ b, Vc.blk v b → Vc.blk kv b ∨ w.heap.size < b ∧ b < w'.heap.size) : CpJ w1 v (l ++ [t]) w' where
  ext := h.ext.chg hch fun b hb' => (h.blk b hb').1
  own := hv.mono fun b hb' => ⟨hb'.1.1, fun e => (hb b e).elim hb'.1.2 fun e => by omega⟩
  blk := fun b hb' => (hb b hb').elim (fun e => ⟨(h.blk b e).1, Nat.lt_of_lt_of_le (h.blk b e).2 (Nat.le_of_lt hsz)⟩) fun e => ⟨by have := h.ext.size; omega, e.2⟩
theorem CpJ.done {w1 w : World} {kv : Value} {k : TF} (h : CpJ w1 kv (tms k) w) : TSl (fun b => w1.heap.size ≤ b) w kv k := by
  have h1 : SlR eTm (fun b => w1.heap.size ≤ b) w kv (tms k) := h.own.sl (fun b hb => hb.1) fun b hb => (h.blk b hb).1
  have h2 := SlR.fo h1
  rw [foOf_mk, mk_tms] at h2
  exact h2
def CopS (n : Nat) : Prop := ∀ (t : Tm) (s : Value) (W : World), t.sz ≤ n → t.2.size ≤ 1048576 → TSl anyB W s t.2 → Ret Tryz.prog 42 #[tv t.1 s] W (fun v w' => Ext W w' ∧ ∃ s', v = tv t.1 s' ∧ TSl (fun b => W.heap.size ≤ b) w' s' t.2)
set_option maxHeartbeats 8000000 in
theorem l02Copy_all : ∀ n, CopS n := by
  intro n
  induction n with
  | zero => intro t s W h; have := sz_pos t; omega
  | succ n ih =>
    rintro ⟨x, k⟩ s W hsz hsk hs
    change TSl anyB W s k at hs
    change k.size ≤ 1048576 at hsk
    have hkl := k.len_le
    show Ret Tryz.prog 42 #[tv x s] W (fun v w' => Ext W w' ∧ ∃ s', v = tv x s' ∧ TSl (fun b => W.heap.size ≤ b) w' s' k)
    have x1 : Ext W (bzW (bxW W x s)) := (bx_ext W x s).trans (bz_ext _)
    have hb := (bx_at W x s).ext (bz_ext (bxW W x s))
    obtain ⟨a, c, rfl, hl, hat⟩ := id hs
    have x12 : Ext (bzW (bxW W x (.slice a k.len c))) ((bzW (bxW W x (.slice a k.len c))).alloc (.cells #[] 30)) := Ext.new _ _
    have hb2 := hb.ext x12
    have e2 : ((bzW (bxW W x (.slice a k.len c))).alloc (.cells #[] 30)).heap.size = (bzW (bxW W x (.slice a k.len c))).heap.size + 1 := by simp
    have hl' : k.len ≤ 9223372036854775807 := hl
    have j0 : CpJ (bzW (bxW W x (.slice a k.len c))) (.slice (some ⟨(bzW (bxW W x (.slice a k.len c))).heap.size, 0, none⟩) 0 0) [] ((bzW (bxW W x (.slice a k.len c))).alloc (.cells #[] 30)) :=
      ⟨x12, OwnR.nil _ _ _ _, fun b hb => by have hb : (bzW (bxW W x (.slice a k.len c))).heap.size = b := hb; omega⟩
    have kidAt : ∀ (i : Nat), i < k.len → ∃ t p o s', a = some ⟨p, o, none⟩ ∧ (tms k)[i]? = some t ∧ t.sz ≤ n ∧ t.2.size ≤ 1048576 ∧ ∀ w, Ext (bzW (bxW W x (.slice a k.len c))) w → CellsAt w p (o + (i : Int).toNat * 5) (tc t.1 s') ∧ TSl anyB w s' t.2 := fun i hi => by
      obtain ⟨t, ht, _⟩ := tms_get hi
      obtain ⟨p, o, c', s', e, _, _, _, hc, hs'⟩ := TSl.kid hs ht
      cases e
      have hm : t ∈ tms k := List.mem_of_getElem? ht
      have h1 := lt_kid (x := x) (a := t) (l := tms k) hm
      rw [mk_tms] at h1
      have h2 : Tm.sz (x, k) = k.size + 1 := rfl
      have h3 : t.sz = t.2.size + 1 := rfl
      exact ⟨t, p, o, s', rfl, ht, by omega, by omega, fun w xw => ⟨(hc.ext x1).ext xw, (hs'.ext x1).ext xw⟩⟩
    have e0 : (bxW W x (.slice a k.len c)).heap.size = W.heap.size + 1 := bx_size _ _ _
    have e1 : (bzW (bxW W x (.slice a k.len c))).heap.size = (bxW W x (.slice a k.len c)).heap.size + 1 := bz_size _
    have rb : Rmy (bzW (bxW W x (.slice a k.len c))) W.heap.size 5 := (Rmy.new W (tc x (.slice a k.len c)) 30).ext (bz_ext _)
    have r2 : Rmy (bzW (bxW W x (.slice a k.len c))) (bxW W x (.slice a k.len c)).heap.size 5 := bz_rmy _
    have key : ∀ w kv, CpJ (bzW (bxW W x (.slice a k.len c))) kv (tms k) w → Free w ⟨W.heap.size, 4, none⟩ ∧ CellsAt (setCells w W.heap.size 4 [kv]) W.heap.size 0 (tc x kv) ∧ FreeAll (setCells w W.heap.size 4 [kv]) (bxW W x (.slice a k.len c)).heap.size 0 (tc x kv) ∧
        ∃ vs, vs.length = 5 ∧ CellsAt (setCells (setCells w W.heap.size 4 [kv]) (bxW W x (.slice a k.len c)).heap.size 0 (tc x kv)) (bxW W x (.slice a k.len c)).heap.size 0 vs ∧ Ext W (setCells (setCells w W.heap.size 4 [kv]) (bxW W x (.slice a k.len c)).heap.size 0 (tc x kv)) ∧ ∃ s', Value.agg vs.toArray = tv x s' ∧ TSl (fun b => W.heap.size ≤ b) (setCells (setCells w W.heap.size 4 [kv]) (bxW W x (.slice a k.len c)).heap.size 0 (tc x kv)) s' k := fun w kv hj => by
      have hd := hj.done
      have r6 : Rmy (setCells w W.heap.size 4 [kv]) (bxW W x (.slice a k.len c)).heap.size 5 := Rmy.setCells _ (r2.ext hj.ext)
      have hA : Chg (fun b => b < (bzW (bxW W x (.slice a k.len c))).heap.size) w (setCells (setCells w W.heap.size 4 [kv]) (bxW W x (.slice a k.len c)).heap.size 0 (tc x kv)) :=
        (Chg.setCells (S := fun b => b < (bzW (bxW W x (.slice a k.len c))).heap.size) (by omega) _ _ _).trans (Chg.setCells (S := fun b => b < (bzW (bxW W x (.slice a k.len c))).heap.size) (by omega) _ _ _)
      refine ⟨(rb.ext hj.ext) 4 (by decide), reslice (rb.ext hj.ext) (hb.ext hj.ext), r6.all _ 0 (Nat.le_refl 5) (tc_one hd), tc x kv, rfl, setCells_at _ _ 0 5 r6 (Nat.le_refl 5), Ext.setCells _ (Ext.setCells (o := 4) [kv] (x1.trans hj.ext) (Nat.le_refl _)) (by omega), kv, rfl, ?_⟩
      exact (Fo.Sl.chg (fun b hb => by omega) hA hd).mono fun b hb => by omega
    refine ret_of_vc ties mixed Tryz.func42 rfl (by kernel_rfl) rfl rfl ?_
    refine ⟨_, hb2.2.2.2.2.1, ?_⟩
    refine loop_rule (σ := Nat × Value × Value) [10, 3, 5] 11 20 (fun q => [.int .i64 q.1, q.2.1, q.2.2])
      (fun q w' => CpJ (bzW (bxW W x (.slice a k.len c))) q.2.1 ((tms k).take q.1) w' ∧ q.1 ≤ k.len)
      (fun q => k.len - q.1) (0, _, undef) rfl ⟨j0, Nat.zero_le _⟩ ?_
    rintro ⟨i, kv, j5⟩ w junk ⟨hj, hi⟩ K hK
    simp only at hj hi
    show vc _ _ _ _ (over [10, 3, 5] [.int .i64 i, kv, j5] _) _
    refine br_dec (fun hlt => ?_) (fun hge => ?_)
    · obtain ⟨t, p, o, s', rfl, ht, hts, htz, hkid⟩ := kidAt i (by omega)
      obtain ⟨f4, c4, x4⟩ := keep5 (W := w) (x := t.1) (s := s') (tc_one (hkid w hj.ext).2)
      refine ⟨⟨by omega, by omega⟩, tc t.1 s', rfl, (hkid w hj.ext).1, f4, ?_⟩
      refine ⟨tc t.1 s', rfl, c4, ?_⟩
      have hj4 := hj.later x4
      refine Or.inl ((ih t s' _ hts htz (hkid _ hj4.ext).2).mono ?_)
      rintro _ w5 ⟨x5, s5, rfl, hs5⟩
      have hj5 := hj4.later x5
      have hz4 := x4.size
      have hlen : ((tms k).take i).length = i := by rw [List.length_take, tms_len]; omega
      have hrep : eTm.R (fun b => ((bzW (bxW W x (.slice (some ⟨p, o, none⟩) k.len c))).heap.size ≤ b ∧ ¬ blk kv b) ∧ b < w5.heap.size) w5 t [.int .i64 t.1.op, .int .i64 t.1.w, .int .i64 t.1.n, .string t.1.name, s5] := by
        refine ⟨s5, rfl, hs5.lt.mono fun b hb => ⟨⟨?_, fun e => ?_⟩, hb.2⟩⟩
        · have := hj4.ext.size
          omega
        · have := (hj4.blk b e).2
          omega
      refine raw_push (E := eTm) (x := t) (cs := [.int .i64 t.1.op, .int .i64 t.1.w, .int .i64 t.1.n, .string t.1.name, s5]) ties rfl rfl rfl rfl rfl rfl rfl rfl rfl rfl rfl hj5.own.lt hrep (fun b' hb' => hb'.1.2) (by rw [hlen]; show (i + 1) * 64 ≤ _; omega) (by omega) ?_
      intro v w6 hv hch hsz6 hvb
      have hj6 := hj5.push hv hch hsz6 hvb
      have htake : (tms k).take (i + 1) = (tms k).take i ++ [t] := by rw [List.take_add_one, ht]; rfl
      rw [← htake] at hj6
      refine ⟨_, IntWalk.i64_in _ (by omega), ?_⟩
      refine hK (i + 1, v, _) _ _ (vs3 (vint (by show (i : Int) + 1 = ((i + 1 : Nat) : Int); omega)) rfl rfl) ⟨hj6, by show i + 1 ≤ k.len; omega⟩ (by show k.len - (i + 1) < k.len - i; omega) ?_
      ((repeat (first | (with_reducible exact Only.refl) | (with_reducible refine Only.skip ?_) | ((with_reducible refine Only.upd ?_ ?_); rfl) | ((with_reducible refine Only.over ?_ ?_ _); rfl) | ((with_reducible refine Only.hav ?_ ?_ ?_); rfl; rfl))))
    · have hie : (tms k).take i = tms k := List.take_of_length_le (by rw [tms_len]; omega)
      rw [hie] at hj
      have hkey := key w kv hj
      obtain ⟨a', c', rfl, _⟩ := id hj.own
      refine ⟨hkey.1, ?_⟩
      refine ⟨tc x _, rfl, hkey.2.1, ?_⟩
      exact hkey.2.2
end Go.Proofs.YtkoaicjcanplaaaGreat
namespace Go.Proofs.YtkoaicjcanplaaaGreat
open Go Go.Vc Go.RowKit
set_option linter.unusedVariables false

/-- The row of kids that grows; A: old blocks that its kids may lie in. -/
structure CpA (A : Nat → Prop) (w1 : World) (kv : Value) (l : List Tm) (w : World) : Prop where
  ext : Ext w1 w
  own : OwnR eTm (fun b => (A b ∨ w1.heap.size ≤ b) ∧ ¬ blk kv b) w kv l
  blk : ∀ b, blk kv b → w1.heap.size ≤ b ∧ b < w.heap.size
theorem CpA.later {A : Nat → Prop} {w1 w w' : World} {kv : Value} {l : List Tm} (h : CpA A w1 kv l w) (e : Ext w w') : CpA A w1 kv l w' :=
  ⟨h.ext.trans e, h.own.ext e, fun b hb => ⟨(h.blk b hb).1, Nat.lt_of_lt_of_le (h.blk b hb).2 e.size⟩⟩
theorem CpA.push {A : Nat → Prop} {w1 w w' : World} {kv v : Value} {l : List Tm} {t : Tm} (h : CpA A w1 kv l w) (hv : OwnR eTm (fun b => ((A b ∨ w1.heap.size ≤ b) ∧ ¬ Vc.blk kv b) ∧ b < w.heap.size) w' v (l ++ [t])) (hch : Chg (Vc.blk kv) w w') (hsz : w.heap.size < w'.heap.size) (hb : ∀ b, Vc.blk v b → Vc.blk kv b ∨ w.heap.size < b ∧ b < w'.heap.size) : CpA A w1 v (l ++ [t]) w' where
  ext := h.ext.chg hch fun b hb' => (h.blk b hb').1
  own := hv.mono fun b hb' => ⟨hb'.1.1, fun e => (hb b e).elim hb'.1.2 fun e => by omega⟩
  blk := fun b hb' => (hb b hb').elim (fun e => ⟨(h.blk b e).1, Nat.lt_of_lt_of_le (h.blk b e).2 (Nat.le_of_lt hsz)⟩) fun e => ⟨by have := h.ext.size; omega, e.2⟩
theorem CpA.done {A : Nat → Prop} {w1 w : World} {kv : Value} {l : List Tm} (h : CpA A w1 kv l w) : TSl (fun b => A b ∨ w1.heap.size ≤ b) w kv (mkTF l) := by
  have h1 : SlR eTm (fun b => A b ∨ w1.heap.size ≤ b) w kv l := h.own.sl (fun b hb => hb.1) fun b hb => .inr (h.blk b hb).1
  have h2 := SlR.fo h1
  rw [foOf_mk] at h2
  exact h2
def MakeS : Prop := ∀ (t : Tm) (s : Value) (ok : Nat → Prop) (W : World), OkT t → TSl ok W s t.2 → Ret Tryz.prog 54 #[tv t.1 s] W (TRes ok (red t) W)
def SpS (n : Nat) : Prop := ∀ (t : Tm) (s : Value) (ok : Nat → Prop) (W : World), t.sz ≤ n → t.2.size ≤ 1048576 → OkT t → TSl ok W s t.2 → Ret Tryz.prog 43 #[tv t.1 s] W (TRes ok (sim t) W)
set_option maxHeartbeats 8000000 in
theorem l02Simple_of (hM : MakeS) : ∀ n, SpS n := by
  intro n
  induction n with
  | zero => intro t s ok W h; have := sz_pos t; omega
  | succ n ih =>
    rintro ⟨x, k⟩ s ok W hsz hsk hok hs
    change TSl ok W s k at hs
    change k.size ≤ 1048576 at hsk
    have hkl := k.len_le
    have hkp : Keeps (x, k) (x, simF k) := keeps_node hok (simF_good k hok.2).1
    show Ret Tryz.prog 43 #[tv x s] W (TRes ok (red (x, simF k)) W)
    have x1 : Ext W (bzW (bxW W x s)) := (bx_ext W x s).trans (bz_ext _)
    have hb := (bx_at W x s).ext (bz_ext (bxW W x s))
    obtain ⟨a, c, rfl, hl, hat⟩ := id hs
    have x12 : Ext (bzW (bxW W x (.slice a k.len c))) ((bzW (bxW W x (.slice a k.len c))).alloc (.cells #[] 30)) := Ext.new _ _
    have hb2 := hb.ext x12
    have e2 : ((bzW (bxW W x (.slice a k.len c))).alloc (.cells #[] 30)).heap.size = (bzW (bxW W x (.slice a k.len c))).heap.size + 1 := by simp
    have hl' : k.len ≤ 9223372036854775807 := hl
    have j0 : CpA (fun b => ok b ∧ b < W.heap.size) (bzW (bxW W x (.slice a k.len c))) (.slice (some ⟨(bzW (bxW W x (.slice a k.len c))).heap.size, 0, none⟩) 0 0) [] ((bzW (bxW W x (.slice a k.len c))).alloc (.cells #[] 30)) :=
      ⟨x12, OwnR.nil _ _ _ _, fun b hb => by have hb : (bzW (bxW W x (.slice a k.len c))).heap.size = b := hb; omega⟩
    have kidAt : ∀ (i : Nat), i < k.len → ∃ t p o s', a = some ⟨p, o, none⟩ ∧ (tms k)[i]? = some t ∧ t.sz ≤ n ∧ t.2.size ≤ 1048576 ∧ OkT t ∧ ∀ w, Ext (bzW (bxW W x (.slice a k.len c))) w → CellsAt w p (o + (i : Int).toNat * 5) (tc t.1 s') ∧ TSl (fun b => ok b ∧ b < W.heap.size) w s' t.2 := fun i hi => by
      obtain ⟨t, ht, _⟩ := tms_get hi
      obtain ⟨p, o, c', s', e, _, _, _, hc, hs'⟩ := TSl.kid hs.lt ht
      cases e
      have hm : t ∈ tms k := List.mem_of_getElem? ht
      have h1 := lt_kid (x := x) (a := t) (l := tms k) hm
      rw [mk_tms] at h1
      have h2 : Tm.sz (x, k) = k.size + 1 := rfl
      have h3 : t.sz = t.2.size + 1 := rfl
      exact ⟨t, p, o, s', rfl, ht, by omega, by omega, OkF_mem hok.2 t hm, fun w xw => ⟨(hc.ext x1).ext xw, (hs'.ext x1).ext xw⟩⟩
    have e0 : (bxW W x (.slice a k.len c)).heap.size = W.heap.size + 1 := bx_size _ _ _
    have e1 : (bzW (bxW W x (.slice a k.len c))).heap.size = (bxW W x (.slice a k.len c)).heap.size + 1 := bz_size _
    have rb : Rmy (bzW (bxW W x (.slice a k.len c))) W.heap.size 5 := (Rmy.new W (tc x (.slice a k.len c)) 30).ext (bz_ext _)
    have r2 : Rmy (bzW (bxW W x (.slice a k.len c))) (bxW W x (.slice a k.len c)).heap.size 5 := bz_rmy _
    have key : ∀ w kv, CpA (fun b => ok b ∧ b < W.heap.size) (bzW (bxW W x (.slice a k.len c))) kv ((tms k).map sim) w → Free w ⟨W.heap.size, 4, none⟩ ∧ CellsAt (setCells w W.heap.size 4 [kv]) W.heap.size 0 (tc x kv) ∧ Ret Tryz.prog 54 #[tv x kv] (setCells w W.heap.size 4 [kv]) (Fin (bxW W x (.slice a k.len c)).heap.size ok (red (x, simF k)) W) := fun w kv hj => by
      have hd := hj.done
      rw [← simF_mk] at hd
      have hA : Chg (fun b => b = W.heap.size) w (setCells w W.heap.size 4 [kv]) := Chg.setCells (S := fun b => b = W.heap.size) rfl _ _ _
      have hd' : TSl (okB (bxW W x (.slice a k.len c)).heap.size W ok) (setCells w W.heap.size 4 [kv]) kv (simF k) := (Fo.Sl.chg (fun b hb => by omega) hA hd).mono fun b hb => hb.elim (fun e => ⟨by omega, .inl e.1⟩) fun e => ⟨by omega, .inr (by omega)⟩
      have hz := hj.ext.size
      have hz2 := hA.size
      have hX : Ext W (setCells w W.heap.size 4 [kv]) := Ext.setCells _ (x1.trans hj.ext) (Nat.le_refl _)
      exact ⟨(rb.ext hj.ext) 4 (by decide), reslice (rb.ext hj.ext) (hb.ext hj.ext), fin_of (Rmy.setCells _ (r2.ext hj.ext)) (by omega) (by omega) hX (hM (x, simF k) kv _ _ hkp.ok hd')⟩
    refine ret_of_vc ties mixed Tryz.func43 rfl (by kernel_rfl) rfl rfl ?_
    refine ⟨_, hb2.2.2.2.2.1, ?_⟩
    refine loop_rule (σ := Nat × Value × Value) [10, 3, 5] 11 20 (fun q => [.int .i64 q.1, q.2.1, q.2.2])
      (fun q w' => CpA (fun b => ok b ∧ b < W.heap.size) (bzW (bxW W x (.slice a k.len c))) q.2.1 (((tms k).map sim).take q.1) w' ∧ q.1 ≤ k.len)
      (fun q => k.len - q.1) (0, _, undef) rfl ⟨j0, Nat.zero_le _⟩ ?_
    rintro ⟨i, kv, j5⟩ w junk ⟨hj, hi⟩ K hK
    simp only at hj hi
    show vc _ _ _ _ (over [10, 3, 5] [.int .i64 i, kv, j5] _) _
    refine br_dec (fun hlt => ?_) (fun hge => ?_)
    · obtain ⟨t, p, o, s', rfl, ht, hts, htz, hto, hkid⟩ := kidAt i (by omega)
      obtain ⟨f4, c4, x4⟩ := keep5 (W := w) (x := t.1) (s := s') (tc_one (hkid w hj.ext).2)
      refine ⟨⟨by omega, by omega⟩, tc t.1 s', rfl, (hkid w hj.ext).1, f4, ?_⟩
      refine ⟨tc t.1 s', rfl, c4, ?_⟩
      have hj4 := hj.later x4
      refine Or.inl ((ih t s' _ _ hts htz hto (hkid _ hj4.ext).2).mono ?_)
      rintro _ w5 ⟨x5, s5, rfl, hs5⟩
      have hj5 := hj4.later x5
      have hz4 := x4.size
      have hlen : (((tms k).map sim).take i).length = i := by rw [List.length_take, List.length_map, tms_len]; omega
      have hrep : eTm.R (fun b => (((ok b ∧ b < W.heap.size) ∨ (bzW (bxW W x (.slice (some ⟨p, o, none⟩) k.len c))).heap.size ≤ b) ∧ ¬ blk kv b) ∧ b < w5.heap.size) w5 (sim t) [.int .i64 (sim t).1.op, .int .i64 (sim t).1.w, .int .i64 (sim t).1.n, .string (sim t).1.name, s5] := by
        refine ⟨s5, rfl, hs5.lt.mono fun b hb => ⟨⟨hb.1.imp id fun e => ?_, fun e => ?_⟩, hb.2⟩⟩
        · have := hj4.ext.size
          omega
        · have h7 := hj4.blk b e
          have h8 := x1.size
          rcases hb.1 with h9 | h9
          · omega
          · omega
      refine raw_push (E := eTm) (x := sim t) (cs := [.int .i64 (sim t).1.op, .int .i64 (sim t).1.w, .int .i64 (sim t).1.n, .string (sim t).1.name, s5]) ties rfl rfl rfl rfl rfl rfl rfl rfl rfl rfl rfl hj5.own.lt hrep (fun b' hb' => hb'.1.2) (by rw [hlen]; show (i + 1) * 64 ≤ _; omega) (by omega) ?_
      intro v w6 hv hch hsz6 hvb
      have hj6 := hj5.push hv hch hsz6 hvb
      have htake : ((tms k).map sim).take (i + 1) = ((tms k).map sim).take i ++ [sim t] := by rw [List.take_add_one, List.getElem?_map, ht]; rfl
      rw [← htake] at hj6
      refine ⟨_, IntWalk.i64_in _ (by omega), ?_⟩
      refine hK (i + 1, v, _) _ _ (vs3 (vint (by show (i : Int) + 1 = ((i + 1 : Nat) : Int); omega)) rfl rfl) ⟨hj6, by show i + 1 ≤ k.len; omega⟩ (by show k.len - (i + 1) < k.len - i; omega) ?_
      ((repeat (first | (with_reducible exact Only.refl) | (with_reducible refine Only.skip ?_) | ((with_reducible refine Only.upd ?_ ?_); rfl) | ((with_reducible refine Only.over ?_ ?_ _); rfl) | ((with_reducible refine Only.hav ?_ ?_ ?_); rfl; rfl))))
    · have hie : ((tms k).map sim).take i = (tms k).map sim := List.take_of_length_le (by rw [List.length_map, tms_len]; omega)
      rw [hie] at hj
      have hkey := key w kv hj
      obtain ⟨a', c', rfl, _⟩ := id hj.own
      refine ⟨hkey.1, ?_⟩
      refine ⟨tc x _, rfl, hkey.2.1, ?_⟩
      refine Or.inl ((hkey.2.2).mono ?_)
      rintro _ w5 ⟨s2, rfl, hf⟩
      exact hf
end Go.Proofs.YtkoaicjcanplaaaGreat
namespace Go.Proofs.YtkoaicjcanplaaaGreat
open Go Go.Vc Go.RowKit
set_option linter.unusedVariables false
theorem fin7 {t : Tm} {W w : World} {B : Nat} {s : Value} (hr : Rmy w B 5) (hB : W.heap.size ≤ B) (hx : Ext W w) (hs : TSl (fun b => B < b) w s t.2) :
    FreeAll w B 0 (tc t.1 s) ∧ ∃ vs, vs.length = 5 ∧ CellsAt (setCells w B 0 (tc t.1 s)) B 0 vs ∧ TRes anyB t W (.agg vs.toArray) (setCells w B 0 (tc t.1 s)) := by
  have hch : Chg (fun b => b = B) w (setCells w B 0 (tc t.1 s)) := Chg.setCells (S := fun b => b = B) rfl _ _ _
  refine ⟨hr.all _ 0 (Nat.le_refl 5) (tc_one hs), tc t.1 s, rfl, setCells_at _ _ 0 5 hr (Nat.le_refl 5), hx.chg hch (fun b hb => by rw [hb]; exact hB), s, rfl, ?_⟩
  exact (Fo.Sl.chg (fun b hb => by omega) hch hs).mono fun b hb => .inl trivial
theorem nil_sl (ok : Nat → Prop) (w : World) : TSl ok w (.slice none 0 0) .nil := ⟨none, 0, rfl, Nat.zero_le _, .inl rfl⟩
set_option maxHeartbeats 4000000 in
theorem spec_Simplify_of (hM : MakeS) (x : Lab) (k : TF) (s : Value) (W : World) (hs : TSl anyB W s k) (hx : okL x) (hp : k.All okL) : Ret Tryz.prog 23 #[tv x s] W (TRes anyB (simp (x, k)) W) := by
  have x1 : Ext W (bzW (bxW W x s)) := (bx_ext W x s).trans (bz_ext _)
  have hb := (bx_at W x s).ext (bz_ext (bxW W x s))
  have hr : Rmy (bzW (bxW W x s)) (bxW W x s).heap.size 5 := bz_rmy _
  have hB : W.heap.size ≤ (bxW W x s).heap.size := (bx_ext W x s).size
  have hlt : (bxW W x s).heap.size < (bzW (bxW W x s)).heap.size := by rw [bz_size]; omega
  have hok := fun w (xw : Ext W w) => spec_TermOk x k s w (hs.ext xw) hx hp
  have h1 := hs.oneB
  by_cases ht : TOk x k
  · have e : decide (TOk x k) = true := decide_eq_true ht
    simp only [e] at hok
    rw [simp_yes ht]
    have hO := tok_okT ht
    have hsim := fun w (xw : Ext W w) => l02Simple_of hM _ (x, k) s anyB w (Nat.le_refl _) (show k.size ≤ 1048576 by have := ht.1; omega) hO (hs.ext xw)
    have hz := (sim_keeps hO).sz
    have hz2 : (sim (x, k)).2.size ≤ 1048576 := by
      have h1 := ht.1
      have h2 : Tm.sz (sim (x, k)) = (sim (x, k)).2.size + 1 := rfl
      have h3 : Tm.sz (x, k) = k.size + 1 := rfl
      omega
    have hcp := fun w s' (h : TSl anyB w s' (sim (x, k)).2) => l02Copy_all _ (sim (x, k)) s' w (Nat.le_refl _) hz2 h
    obtain ⟨a, c, rfl, _, _⟩ := id hs
    refine ret_of_vc ties mixed Tryz.func23 rfl (by kernel_rfl) rfl rfl ?_
    refine ⟨tc x _, rfl, hb, ?_⟩
    refine Or.inl ((hok _ x1).mono ?_)
    rintro _ w2 ⟨rfl, x2⟩
    refine ⟨tc x _, rfl, hb.ext x2, ?_⟩
    refine Or.inl ((hsim w2 (x1.trans x2)).mono ?_)
    rintro _ w3 ⟨x3, s3, rfl, hs3⟩
    refine Or.inl ((hcp w3 s3 (hs3.mono fun _ _ => trivial)).mono ?_)
    rintro _ w4 ⟨x4, s4, rfl, hs4⟩
    have x24 := x2.trans (x3.trans x4)
    have hz3 := (x2.trans x3).size
    have hlt3 := Nat.lt_of_lt_of_le hlt hz3
    exact fin7 (hr.ext x24) hB (x1.trans x24) (hs4.mono fun b hb => Nat.lt_of_lt_of_le hlt3 hb)
  · have e : decide (TOk x k) = false := decide_eq_false ht
    simp only [e] at hok
    rw [simp_no ht]
    obtain ⟨a, c, rfl, _, _⟩ := id hs
    refine ret_of_vc ties mixed Tryz.func23 rfl (by kernel_rfl) rfl rfl ?_
    refine ⟨tc x _, rfl, hb, ?_⟩
    refine Or.inl ((hok _ x1).mono ?_)
    rintro _ w2 ⟨rfl, x2⟩
    have hz3 := x2.size
    exact fin7 (t := zeroT) (hr.ext x2) hB (x1.trans x2) (nil_sl _ _)
end Go.Proofs.YtkoaicjcanplaaaGreat
namespace Go.Proofs.YtkoaicjcanplaaaGreat
open Go Go.Vc Go.RowKit
set_option linter.unusedVariables false
section
variable {n : Nat} {x : Lab} {a b : Tm} {s : Value} {ok : Nat → Prop} {W : World}
/-- What two equal kids give. -/
def eqO (x : Lab) (a : Tm) : Option Tm := if x.op = 8 ∨ x.op = 9 then some a else if x.op = 4 ∨ x.op = 10 ∨ x.op = 15 ∨ x.op = 16 then some (conT x.w 0) else if x.op = 14 then some (conT 1 1) else none
set_option maxHeartbeats 8000000 in
theorem l02Equal_ret (hs : TSl ok W s (mkTF [a, b])) : Ret Tryz.prog 95 #[tv x s] W (FirR ok (eqO x a).isSome ((eqO x a).getD (x, mkTF [a, b])) W) := by
  obtain ⟨p, o, c, sa, sb, hs0, hca, hcb, hsa, hsb⟩ := kids2 hs
  obtain ⟨s0, rfl⟩ : ∃ s0, s0 = s := ⟨_, rfl⟩
  have x2 : Ext W (bzW (bxW W x s0)) := (bx_ext W x s0).trans (bz_ext _)
  have hb := (bx_at W x s0).ext (bz_ext (bxW W x s0))
  have hr : Rmy (bzW (bxW W x s0)) (bxW W x s0).heap.size 5 := bz_rmy _
  have hB : W.heap.size ≤ (bxW W x s0).heap.size := (bx_ext W x s0).size
  have l2 := hb.2.2.2.2.1.trans (congrArg some hs0)
  have hca2 := hca.ext x2
  have hsa2 : TSl (okB (bxW W x s0).heap.size W ok) (bzW (bxW W x s0)) sa a.2 := arg_in hsa x2 hB
  have hin : TSl (okB (bxW W x s0).heap.size W ok) (bzW (bxW W x s0)) s0 (mkTF [a, b]) := arg_in hs x2 hB
  by_cases h8 : x.op = 8
  ·
    rw [show eqO x a = some a from by unfold eqO; rw [if_pos (by omega)]]
    refine ret_of_vc ties mixed Tryz.func95 rfl (by kernel_rfl) rfl rfl ?_
    refine ⟨_, hb.1, ?_⟩
    refine br_dec_true h8 ?_
    refine br_dec_true h8 ?_
    refine ⟨_, l2, ⟨by decide, by decide⟩, tc a.1 sa, rfl, hca2, ?_⟩
    exact fin5t true hr hB x2 hsa2
  by_cases h9 : x.op = 9
  ·
    rw [show eqO x a = some a from by unfold eqO; rw [if_pos (by omega)]]
    refine ret_of_vc ties mixed Tryz.func95 rfl (by kernel_rfl) rfl rfl ?_
    refine ⟨_, hb.1, ?_⟩
    refine br_dec_false h8 ?_
    refine br_dec_true h9 ?_
    refine ⟨_, l2, ⟨by decide, by decide⟩, tc a.1 sa, rfl, hca2, ?_⟩
    exact fin5t true hr hB x2 hsa2
  by_cases h4 : x.op = 4
  ·
    rw [show eqO x a = some (conT x.w 0) from by unfold eqO; rw [if_neg (by omega), if_pos (by omega)]]
    refine ret_of_vc ties mixed Tryz.func95 rfl (by kernel_rfl) rfl rfl ?_
    refine ⟨_, hb.1, ?_⟩
    refine br_dec_false h8 ?_
    refine br_dec_false h9 ?_
    refine br_dec_true h4 ?_
    refine br_dec_true h4 ?_
    refine ⟨_, hb.2.1, ?_⟩
    refine Or.inl ((l02Const_ret _ _ _).mono ?_)
    rintro _ w5 ⟨rfl, x5⟩
    exact fin5t (k := .nil) true (hr.ext x5) hB (x2.trans x5) (nil_in _ _ _ _)
  by_cases h10 : x.op = 10
  ·
    rw [show eqO x a = some (conT x.w 0) from by unfold eqO; rw [if_neg (by omega), if_pos (by omega)]]
    refine ret_of_vc ties mixed Tryz.func95 rfl (by kernel_rfl) rfl rfl ?_
    refine ⟨_, hb.1, ?_⟩
    refine br_dec_false h8 ?_
    refine br_dec_false h9 ?_
    refine br_dec_false h4 ?_
    refine br_dec_true h10 ?_
    refine br_dec_true h10 ?_
    refine ⟨_, hb.2.1, ?_⟩
    refine Or.inl ((l02Const_ret _ _ _).mono ?_)
    rintro _ w5 ⟨rfl, x5⟩
    exact fin5t (k := .nil) true (hr.ext x5) hB (x2.trans x5) (nil_in _ _ _ _)
  by_cases h15 : x.op = 15
  ·
    rw [show eqO x a = some (conT x.w 0) from by unfold eqO; rw [if_neg (by omega), if_pos (by omega)]]
    refine ret_of_vc ties mixed Tryz.func95 rfl (by kernel_rfl) rfl rfl ?_
    refine ⟨_, hb.1, ?_⟩
    refine br_dec_false h8 ?_
    refine br_dec_false h9 ?_
    refine br_dec_false h4 ?_
    refine br_dec_false h10 ?_
    refine br_dec_true h15 ?_
    refine br_dec_true h15 ?_
    refine ⟨_, hb.2.1, ?_⟩
    refine Or.inl ((l02Const_ret _ _ _).mono ?_)
    rintro _ w5 ⟨rfl, x5⟩
    exact fin5t (k := .nil) true (hr.ext x5) hB (x2.trans x5) (nil_in _ _ _ _)
  by_cases h16 : x.op = 16
  ·
    rw [show eqO x a = some (conT x.w 0) from by unfold eqO; rw [if_neg (by omega), if_pos (by omega)]]
    refine ret_of_vc ties mixed Tryz.func95 rfl (by kernel_rfl) rfl rfl ?_
    refine ⟨_, hb.1, ?_⟩
    refine br_dec_false h8 ?_
    refine br_dec_false h9 ?_
    refine br_dec_false h4 ?_
    refine br_dec_false h10 ?_
    refine br_dec_false h15 ?_
    refine br_dec_true h16 ?_
    refine ⟨_, hb.2.1, ?_⟩
    refine Or.inl ((l02Const_ret _ _ _).mono ?_)
    rintro _ w5 ⟨rfl, x5⟩
    exact fin5t (k := .nil) true (hr.ext x5) hB (x2.trans x5) (nil_in _ _ _ _)
  by_cases h14 : x.op = 14
  ·
    rw [show eqO x a = some (conT 1 1) from by unfold eqO; rw [if_neg (by omega), if_neg (by omega), if_pos (by omega)]]
    refine ret_of_vc ties mixed Tryz.func95 rfl (by kernel_rfl) rfl rfl ?_
    refine ⟨_, hb.1, ?_⟩
    refine br_dec_false h8 ?_
    refine br_dec_false h9 ?_
    refine br_dec_false h4 ?_
    refine br_dec_false h10 ?_
    refine br_dec_false h15 ?_
    refine br_dec_false h16 ?_
    refine br_dec_true h14 ?_
    refine Or.inl ((l02Const_ret _ _ _).mono ?_)
    rintro _ w5 ⟨rfl, x5⟩
    exact fin5t (k := .nil) true (hr.ext x5) hB (x2.trans x5) (nil_in _ _ _ _)
  ·
    rw [show eqO x a = none from by unfold eqO; rw [if_neg (by omega), if_neg (by omega), if_neg (by omega)]]
    refine ret_of_vc ties mixed Tryz.func95 rfl (by kernel_rfl) rfl rfl ?_
    refine ⟨_, hb.1, ?_⟩
    refine br_dec_false h8 ?_
    refine br_dec_false h9 ?_
    refine br_dec_false h4 ?_
    refine br_dec_false h10 ?_
    refine br_dec_false h15 ?_
    refine br_dec_false h16 ?_
    refine br_dec_false h14 ?_
    refine ⟨tc x s0, rfl, hb, ?_⟩
    exact fin5t false hr hB x2 hin
end
end Go.Proofs.YtkoaicjcanplaaaGreat
