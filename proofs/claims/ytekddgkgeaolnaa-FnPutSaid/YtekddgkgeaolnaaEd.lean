/- Terms for variables: replaceVars, l02Put. Terms for a variable: l02Put; PutTerm, both. -/
import Derived.Test.YtekddgkgeaolnaaEa
import Derived.Test.YtekddgkgeaolnaaVi
import Derived.Test.YtekddgkgeaolnaaU8
import Derived.Test.YtekddgkgeaolnaaEb
namespace Go.Proofs.Ytekddgkgeaolnaa
open Go Go.Vc Go.RowKit
set_option linter.unusedVariables false

/-- A map of terms, as a function. -/
def MapT (W : World) (m : Nat) (f : ByteArray → Option Tm) (ok : Nat → Prop) : Prop := ∃ al, MapAt W m al ∧ ∀ s, (f s = none ∧ al.get s = none) ∨ ∃ u su, f s = some u ∧ al.get s = some (tv u.1 su) ∧ TSl ok W su u.2
theorem MapT.ext {W w : World} {m : Nat} {f : ByteArray → Option Tm} {ok : Nat → Prop} (h : MapT W m f ok) (x : Ext W w) : MapT w m f ok := by
  obtain ⟨al, h1, h2⟩ := h
  exact ⟨al, h1.ext x, fun s => (h2 s).imp id fun ⟨u, su, a, b, c⟩ => ⟨u, su, a, b, c.ext x⟩⟩
theorem MapT.lt {W : World} {m : Nat} {f : ByteArray → Option Tm} {ok : Nat → Prop} (h : MapT W m f ok) : MapT W m f (fun b => ok b ∧ b < W.heap.size) := by
  obtain ⟨al, h1, h2⟩ := h
  exact ⟨al, h1, fun s => (h2 s).imp id fun ⟨u, su, a, b, c⟩ => ⟨u, su, a, b, c.lt⟩⟩
structure PutJ (ok : Nat → Prop) (W W2 : World) (x : Lab) (l : List Tm) (D : Nat) (kv : Value) (w : World) : Prop where
  ext : Ext W2 w
  cells : CellsAt w D 0 (tc x kv)
  rd : Rmy w D 5
  own : OwnR eTm (fun b => (ok b ∧ b < W.heap.size ∨ D < b) ∧ ¬ blk kv b) w kv l
  blk : ∀ b, blk kv b → D < b ∧ b < w.heap.size
theorem PutJ.done {ok : Nat → Prop} {W W2 : World} {x : Lab} {l : List Tm} {D B : Nat} {kv : Value} {w : World} (h : PutJ ok W W2 x l D kv w) (hB : B < D) (hW : W.heap.size ≤ B) : TSl (okB B W ok) w kv (mkTF l) := by
  have h1 : SlR eTm (okB B W ok) w kv l := h.own.sl (fun b hb => ⟨by have := hb.1; omega, hb.1.imp And.left fun e => by omega⟩) fun b hb => ⟨by have := (h.blk b hb).1; omega, .inr (by have := (h.blk b hb).1; omega)⟩
  have h2 := SlR.fo h1
  rw [foOf_mk] at h2
  exact h2
theorem own_ptr' {α : Type} {E : Rep α} {ok : Nat → Prop} {w : World} {s : Value} {l : List α} (h : OwnR E ok w s l) (hl : l.length ≠ 0) : ∃ B c, s = .slice (some ⟨B, 0, none⟩) l.length c := by
  obtain ⟨a, c, rfl, h1, _, h3⟩ := h
  obtain ⟨B, rfl, _⟩ := h3.resolve_left (by omega)
  exact ⟨B, c, rfl⟩
def RvS (f : ByteArray → Option Tm) (n : Nat) : Prop := ∀ (t : Tm) (s : Value) (m : Nat) (ok : Nat → Prop) (W : World), t.sz ≤ n → OkT t → TSl ok W s t.2 → MapT W m f ok → Ret Try.prog 38 #[tv t.1 s, .map (some m)] W (TRes ok (putT f t) W)
set_option maxRecDepth 100000 in
set_option maxHeartbeats 16000000 in
theorem replaceVars_all (f : ByteArray → Option Tm) : ∀ n, RvS f n := by
  intro n
  induction n with
  | zero => intro t s m ok W h; have := sz_pos t; omega
  | succ n ih =>
    rintro ⟨x, k⟩ s m ok W hsz h hs hm
    change TSl ok W s k at hs
    have hN : NodeOk x (hdF k) := h.1
    have x1 : Ext W (bzW (bxW W x s)) := (bx_ext W x s).trans (bz_ext _)
    have hb := (bx_at W x s).ext (bz_ext (bxW W x s))
    have hr : Rmy (bzW (bxW W x s)) (bxW W x s).heap.size 5 := bz_rmy _
    have hB : W.heap.size ≤ (bxW W x s).heap.size := (bx_ext W x s).size
    have hin : TSl (okB (bxW W x s).heap.size W ok) (bzW (bxW W x s)) s k := arg_in hs x1 hB
    by_cases h22 : x.op = 22
    · have hkn : k = .nil := ok_nil h (.inr h22)
      subst hkn
      have hS : putS f x = f x.name := by unfold putS; rw [if_pos h22]
      obtain ⟨al, ha, hal⟩ := hm
      have ha2 := ha.ext x1
      rcases hal x.name with ⟨hf, hg⟩ | ⟨u, su, hf, hg, hu⟩
      · have e : putT f (x, .nil) = (x, .nil) := by unfold putT; rw [hS, hf]; rfl
        rw [e]
        have k5 := keep5 (W := bzW (bxW W x s)) (x := zeroL) (s := .slice none 0 0) rfl
        obtain ⟨a, c, rfl, _, _⟩ := id hs
        refine ret_of_vc ties mixed Try.func38 rfl (by kernel_rfl) rfl rfl ?_
        refine ⟨_, hb.1, ?_⟩
        refine br_dec_true h22 ?_
        refine ⟨_, hb.2.2.2.1, ?_⟩
        refine raw_look (u := .tuple #[tv zeroL (.slice none 0 0), .bool false]) (b := m) (s := x.name) (l := al) ties rfl rfl rfl rfl (by kernel_rfl) rfl rfl rfl ha2 (congrArg (fun o : Option Value => Value.tuple #[o.getD (tv zeroL (.slice none 0 0)), .bool o.isSome]) hg) ?_
        refine ⟨k5.1, ?_⟩
        refine ⟨tc x _, rfl, hb.ext k5.2.2, ?_⟩
        exact fin5 (hr.ext k5.2.2) hB (x1.trans k5.2.2) (hin.ext k5.2.2)
      · have e : putT f (x, .nil) = u := by unfold putT; rw [hS, hf]; rfl
        rw [e]
        have hu2 : TSl (okB (bxW W x s).heap.size W ok) (bzW (bxW W x s)) su u.2 := arg_in hu x1 hB
        have k5 := keep5 (W := bzW (bxW W x s)) (x := u.1) (s := su) (tc_one hu2)
        obtain ⟨a, c, rfl, _, _⟩ := id hs
        refine ret_of_vc ties mixed Try.func38 rfl (by kernel_rfl) rfl rfl ?_
        refine ⟨_, hb.1, ?_⟩
        refine br_dec_true h22 ?_
        refine ⟨_, hb.2.2.2.1, ?_⟩
        refine raw_look (u := .tuple #[tv u.1 su, .bool true]) (b := m) (s := x.name) (l := al) ties rfl rfl rfl rfl (by kernel_rfl) rfl rfl rfl ha2 (congrArg (fun o : Option Value => Value.tuple #[o.getD (tv zeroL (.slice none 0 0)), .bool o.isSome]) hg) ?_
        refine ⟨k5.1, ?_⟩
        refine ⟨tc u.1 su, rfl, k5.2.1, ?_⟩
        exact fin5 (hr.ext k5.2.2) hB (x1.trans k5.2.2) (hu2.ext k5.2.2)
    · have e : putT f (x, k) = (x, mkTF ((tms k).map (putT f))) := by
        have hS : putS f x = none := by unfold putS; rw [if_neg h22]
        have h1 : putT f (x, k) = (x, putF f k) := by unfold putT; rw [hS]; rfl
        rw [h1, ← putF_tms]
      rw [e]
      obtain ⟨a, c, rfl, hl, hat⟩ := id hs
      have hl' : k.len ≤ 9223372036854775807 := hl
      have hl3 : k.len ≤ 3 := by
        have h1 := hN.count
        have h2 := kc_le x.op
        rw [hdF_len] at h1
        omega
      have k5 := keep5 (W := bzW (bxW W x (.slice a k.len c))) (x := x) (s := .slice a k.len c) rfl
      have zD : (bxW W x (.slice a k.len c)).heap.size < (bzW (bxW W x (.slice a k.len c))).heap.size := by rw [bz_size]; omega
      have kidAt : ∀ (i : Nat), i < k.len → ∃ t p o s', a = some ⟨p, o, none⟩ ∧ (tms k)[i]? = some t ∧ t.sz ≤ n ∧ OkT t ∧ p < W.heap.size ∧ (∀ w, Ext W w → CellsAt w p (o + (i : Int).toNat * 5) (tc t.1 s') ∧ TSl (fun b => ok b ∧ b < W.heap.size) w s' t.2) := fun i hi => by
        obtain ⟨t, ht, _⟩ := tms_get hi
        obtain ⟨p, o, c', s', e, hp, _, _, hc, hs'⟩ := TSl.kid hs.lt ht
        cases e
        have hm : t ∈ tms k := List.mem_of_getElem? ht
        have h1 := lt_kid (x := x) (a := t) (l := tms k) hm
        rw [mk_tms] at h1
        exact ⟨t, p, o, s', rfl, ht, by omega, OkF_mem h.2 t hm, hp.2, fun w xw => ⟨hc.ext xw, hs'.ext xw⟩⟩
      have hmlt := hm.lt
      refine ret_of_vc ties mixed Try.func38 rfl (by kernel_rfl) rfl rfl ?_
      refine ⟨_, hb.1, ?_⟩
      refine br_dec_false h22 ?_
      refine ⟨tc x _, rfl, hb, k5.1, ?_⟩
      have hr3 : Rmy (setCells (bzW (bzW (bxW W x (.slice a k.len c)))) (bzW (bxW W x (.slice a k.len c))).heap.size 0 (tc x (.slice a k.len c))) (bzW (bxW W x (.slice a k.len c))).heap.size 5 := Rmy.setCells _ (bz_rmy _)
      have x34 : Ext (bzW (bxW W x (.slice a k.len c))) (setCells (setCells (bzW (bzW (bxW W x (.slice a k.len c)))) (bzW (bxW W x (.slice a k.len c))).heap.size 0 (tc x (.slice a k.len c))) (bzW (bxW W x (.slice a k.len c))).heap.size 4 [.slice none 0 0]) := Ext.setCells (o := 4) [.slice none 0 0] k5.2.2 (Nat.le_refl _)
      have j0 : PutJ ok W (bzW (bxW W x (.slice a k.len c))) x [] (bzW (bxW W x (.slice a k.len c))).heap.size (.slice none 0 0) (setCells (setCells (bzW (bzW (bxW W x (.slice a k.len c)))) (bzW (bxW W x (.slice a k.len c))).heap.size 0 (tc x (.slice a k.len c))) (bzW (bxW W x (.slice a k.len c))).heap.size 4 [.slice none 0 0]) := ⟨x34, reslice hr3 k5.2.1, Rmy.setCells _ hr3, OwnR.nil _ _ _ _, fun b hb => (by cases hb)⟩
      refine ⟨hr3 4 (by decide), ?_⟩
      have lb4 := x34.cell hb.2.2.2.2.1
      refine ⟨_, lb4, ?_⟩
      have hBD : (bxW W x (.slice a k.len c)).heap.size < (bzW (bxW W x (.slice a k.len c))).heap.size := zD
      have zB : (bxW W x (.slice a k.len c)).heap.size = W.heap.size + 1 := bx_size _ _ _
      refine loop_rule (σ := Nat × Value) [27, 8] 28 43 (fun q => [.int .i64 q.1, q.2])
        (fun q w' => (∃ kv, PutJ ok W (bzW (bxW W x (.slice a k.len c))) x (((tms k).map (putT f)).take q.1) (bzW (bxW W x (.slice a k.len c))).heap.size kv w') ∧ q.1 ≤ k.len) (fun q => k.len - q.1) (0, undef) rfl ⟨⟨_, j0⟩, Nat.zero_le _⟩ ?_
      rintro ⟨i, j8⟩ w3 junk ⟨⟨kv, hj⟩, hi⟩ K hK
      simp only at hi hj
      show vc _ _ _ _ (over [27, 8] [.int .i64 i, j8] _) _
      refine br_dec (fun hlt => ?_) (fun hge => ?_)
      ·
        as_aux_lemma =>
          obtain ⟨t, p, o, s', rfl, ht, hts, hto, hpW, hkid⟩ := kidAt i (by omega)
          have xw := x1.trans hj.ext
          have hnb : ∀ i, i ≤ (bzW (bxW W x (.slice (some ⟨p, o, none⟩) k.len c))).heap.size → ¬ Vc.blk kv i := fun i hi e => by have := (hj.blk i e).1; omega
          have hct := (hkid w3 xw).1
          have hst := (hkid w3 xw).2
          have hm3 : MapT w3 m f (fun b => ok b ∧ b < W.heap.size) := hmlt.ext xw
          have hlen : (((tms k).map (putT f)).take i).length = i := by rw [List.length_take, List.length_map, tms_len]; omega
          have htake : ((tms k).map (putT f)).take (i + 1) = ((tms k).map (putT f)).take i ++ [putT f t] := by rw [List.take_add_one, List.getElem?_map, ht]; rfl
          refine .inr (.inr (hyb_ruleS (Vc.blk kv) ties mixed [(0, .quiet), (1, .quiet), (2, .quiet), (3, .quiet), (4, .quiet), (5, .quiet), (6, .quiet), (7, .quiet), (8, .loud), (9, .loud), (10, .loud), (11, .loud), (12, .wild)] (by kernel_rfl) ?_))
          have zW : W.heap.size < (bzW (bxW W x (.slice (some ⟨p, o, none⟩) k.len c))).heap.size := by omega
          have z3 : (bzW (bxW W x (.slice (some ⟨p, o, none⟩) k.len c))).heap.size < w3.heap.size := World.block_lt_of_cell? _ _ hj.cells.1
          refine ⟨hnb _ (Nat.le_refl _), _, hj.cells.2.2.2.2.1, hnb _ (by omega), _, hj.ext.cell hb.2.2.2.2.1, ⟨by omega, by omega⟩, hnb _ (by omega), tc t.1 s', rfl, hct, ?_⟩
          intro w5 x5
          refine Or.inl ((ih t s' m _ w5 hts hto (hst.ext x5) (hm3.ext x5)).mono ?_)
          rintro _ w6 ⟨x6, s6, rfl, hs6⟩
          refine ⟨.of x6, ?_⟩
          intro w7 x7
          refine ⟨Chg.alloc _ _, ?_⟩
          intro w9 x9
          have x79 : Ext w7 w9 := (Ext.new _ _).trans x9
          have x69 := x7.trans x79
          have x39 := (x5.trans x6).trans x69
          have z5 := x5.size
          have z6 := x6.size
          have z9 := x39.size
          have z69 := x69.size
          have hs9 : TSl (fun b => ((ok b ∧ b < W.heap.size ∨ (bzW (bxW W x (.slice (some ⟨p, o, none⟩) k.len c))).heap.size < b) ∧ ¬ Vc.blk kv b) ∧ b < w9.heap.size) w9 s6 (putT f t).2 := (hs6.lt.ext x69).mono fun b hb => by
            have hb2 := hb.2
            refine ⟨⟨hb.1.imp id fun e => by omega, fun e => ?_⟩, by omega⟩
            have h8 := hj.blk b e
            rcases hb.1 with h9 | h9 <;> omega
          refine raw_append (E := eTm) (l := ((tms k).map (putT f)).take i) (k := [putT f t]) ties rfl rfl rfl rfl rfl rfl rfl rfl rfl rfl (hj.own.ext x39).lt (fun b' hb' => hb'.1.2) ⟨_, _, rfl, .inr ⟨_, _, rfl, ⟨tc (putT f t).1 s6, (boxedAll w7 (tc (putT f t).1 s6) _).ext x9, s6, rfl, hs9⟩, trivial⟩⟩ (by rw [hlen]; show (i + 1) * 64 ≤ _; omega) (by rw [hlen]; show i + 1 ≤ _; omega) ?_
          intro v w10 hv10 hch10 hvb10
          rw [← htake] at hv10
          refine ⟨hch10, ?_⟩
          intro w11 x11
          refine ⟨Chg.refl _ _, ?_⟩
          intro w12 x12
          refine Exists.elim (own_ptr' hv10 (by rw [htake, List.length_append]; exact Nat.succ_ne_zero _)) fun B8 h => Exists.elim h fun cp8 he8 => ?_
          subst he8
          have x1012 := x11.trans x12
          have hchv : Chg (Vc.blk kv) w3 w12 := ((Chg.of x39).trans hch10).trans (.of x1012)
          have hr12 := hchv.rmy (hnb _ (Nat.le_refl _)) hj.rd
          have hc12 := hchv.cells (hnb _ (Nat.le_refl _)) hj.cells
          have z12 := hchv.size
          have z10 := hch10.size
          have z1012 := x1012.size
          have hv8b : ∀ b', Vc.blk (.slice (some ⟨B8, 0, none⟩) (((tms k).map (putT f)).take (i + 1)).length cp8) b' → (bzW (bxW W x (.slice (some ⟨p, o, none⟩) k.len c))).heap.size < b' ∧ b' < w12.heap.size := fun b' hb' => by
            rcases hvb10 b' hb' with h | h
            · have := hj.blk b' h; omega
            · omega
          refine ⟨hr12 4 (by decide), ?_⟩
          intro w13 x13
          refine ⟨_, IntWalk.i64_in _ (by omega), ?_⟩
          have hst4 : Chg (fun b => b = (bzW (bxW W x (.slice (some ⟨p, o, none⟩) k.len c))).heap.size) w12 (setCells w12 (bzW (bxW W x (.slice (some ⟨p, o, none⟩) k.len c))).heap.size 4 [.slice (some ⟨B8, 0, none⟩) (((tms k).map (putT f)).take (i + 1)).length cp8]) := Chg.setCells (S := fun b => b = (bzW (bxW W x (.slice (some ⟨p, o, none⟩) k.len c))).heap.size) rfl _ _ _
          have z13 := x13.size
          have zst := hst4.size
          refine hK (i + 1, _) _ _ (vs2 (vint (by show (i : Int) + 1 = ((i + 1 : Nat) : Int); omega)) rfl) ⟨⟨_, ?_, (reslice hr12 hc12).ext x13, (Rmy.setCells (b := (bzW (bxW W x (.slice (some ⟨p, o, none⟩) k.len c))).heap.size) (o := 4) [.slice (some ⟨B8, 0, none⟩) (((tms k).map (putT f)).take (i + 1)).length cp8] hr12).ext x13, ?_, fun b hb => ⟨(hv8b b hb).1, Nat.lt_of_lt_of_le (hv8b b hb).2 (Nat.le_trans zst z13)⟩⟩, by show i + 1 ≤ k.len; omega⟩ (by show k.len - (i + 1) < k.len - i; omega) ?_
          · exact ((((hj.ext.chg hchv (fun b hb => by have := (hj.blk b hb).1; omega)).chg hst4 (fun b hb => by omega))).trans x13)
          · refine OwnR.ext x13 (OwnR.chg (fun b hb e => ?_) (fun b hb e => by have := (hv8b b hb).1; omega) hst4 (OwnR.mono (ok := fun b => ((ok b ∧ b < W.heap.size ∨ (bzW (bxW W x (.slice (some ⟨p, o, none⟩) k.len c))).heap.size < b) ∧ ¬ Vc.blk kv b) ∧ b < w9.heap.size) (fun b hb => ⟨hb.1.1, fun e => ?_⟩) (hv10.ext x1012)))
            · have := hb.1; omega
            · exact (hvb10 b e).elim hb.1.2 fun e => by have := hb.2; omega
          · ((repeat (first | (with_reducible exact Only.refl) | (with_reducible refine Only.skip ?_) | ((with_reducible refine Only.upd ?_ ?_); rfl) | ((with_reducible refine Only.over ?_ ?_ _); rfl) | ((with_reducible refine Only.hav ?_ ?_ ?_); rfl; rfl))))
      ·
        as_aux_lemma =>
          have hie : ((tms k).map (putT f)).take i = (tms k).map (putT f) := List.take_of_length_le (by rw [List.length_map, tms_len]; omega)
          rw [hie] at hj
          have hd := hj.done (B := (bxW W x (.slice a k.len c)).heap.size) hBD hB
          refine ⟨tc x kv, rfl, hj.cells, ?_⟩
          exact fin5 (hr.ext hj.ext) hB (x1.trans hj.ext) hd
end Go.Proofs.Ytekddgkgeaolnaa
namespace Go.Proofs.Ytekddgkgeaolnaa
open Go Go.Vc Go.RowKit
set_option linter.unusedVariables false

def onePut (name : ByteArray) (u : Tm) : ByteArray → Option Tm := fun s => if s = name then some u else none
def LpS (name : ByteArray) (u : Tm) (n : Nat) : Prop := ∀ (t : Tm) (s su : Value) (ok : Nat → Prop) (W : World), t.sz ≤ n → OkT t → TSl ok W s t.2 → TSl ok W su u.2 →
  Ret Try.prog 45 #[tv t.1 s, .string name, tv u.1 su] W (TRes ok (putT (onePut name u) t) W)
set_option maxRecDepth 100000 in
set_option maxHeartbeats 8000000 in
theorem l02Put_all (name : ByteArray) (u : Tm) : ∀ n, LpS name u n := by
  intro n
  induction n with
  | zero => intro t s su ok W h; have := sz_pos t; omega
  | succ n ih =>
    rintro ⟨x, k⟩ s su ok W hsz hok hs hsu
    change TSl ok W s k at hs
    have hkl := k.len_le
    have xA : Ext W (bxW W x s) := bx_ext W x s
    have xB : Ext (bxW W x s) (bxW (bxW W x s) u.1 su) := bx_ext _ _ _
    have x1 : Ext W (bzW (bxW (bxW W x s) u.1 su)) := xA.trans (xB.trans (bz_ext _))
    have hb := (bx_at W x s).ext (xB.trans (bz_ext _))
    have hbu := (bx_at (bxW W x s) u.1 su).ext (bz_ext _)
    have zA : (bxW W x s).heap.size = W.heap.size + 1 := bx_size _ _ _
    have zB : (bxW (bxW W x s) u.1 su).heap.size = (bxW W x s).heap.size + 1 := bx_size _ _ _
    have zC : (bzW (bxW (bxW W x s) u.1 su)).heap.size = (bxW (bxW W x s) u.1 su).heap.size + 1 := bz_size _
    have hr : Rmy (bzW (bxW (bxW W x s) u.1 su)) (bxW (bxW W x s) u.1 su).heap.size 5 := bz_rmy _
    have rb : Rmy (bzW (bxW (bxW W x s) u.1 su)) W.heap.size 5 := (Rmy.new W (tc x s) 25).ext (xB.trans (bz_ext _))
    have hB : W.heap.size ≤ (bxW (bxW W x s) u.1 su).heap.size := by omega
    have hin2 : TSl (okB (bxW (bxW W x s) u.1 su).heap.size W ok) (bzW (bxW (bxW W x s) u.1 su)) su u.2 := arg_in hsu x1 hB
    obtain ⟨au, cu, eu, _, _⟩ := id hsu
    by_cases hput : x.op = 22 ∧ x.name = name
    · have e : putT (onePut name u) (x, k) = u := by unfold putT putS onePut; rw [if_pos hput.1, if_pos hput.2]; rfl
      rw [e]
      have hq := fin5 (ok := ok) (y := u.1) hr hB x1 hin2
      obtain ⟨a, c, rfl, _, _⟩ := id hs
      subst eu
      refine ret_of_vc ties mixed Try.func45 rfl (by kernel_rfl) rfl rfl ?_
      refine ⟨_, hb.1, ?_⟩
      repeat refine br_dec_true hput.1 ?_
      refine ⟨_, hb.2.2.2.1, ?_⟩
      repeat refine br_dec_true hput.1 ?_
      refine br_dec_true hput.2 ?_
      refine ⟨tc u.1 _, rfl, hbu, ?_⟩
      exact hq
    have e : putT (onePut name u) (x, k) = (x, mkTF ((tms k).map (putT (onePut name u)))) := by
      have hS : putS (onePut name u) x = none := by
        unfold putS onePut
        by_cases h : x.op = 22
        · rw [if_pos h, if_neg (fun e => hput ⟨h, e⟩)]
        · rw [if_neg h]
      have h1 : putT (onePut name u) (x, k) = (x, putF (onePut name u) k) := by unfold putT; rw [hS]; rfl
      rw [h1, ← putF_tms]
    rw [e]
    obtain ⟨a, c, rfl, hl, hat⟩ := id hs
    have hl3 : k.len ≤ 3 := by
      have h1 : ((hdF k).length : Int) = kc x.op := hok.1.count
      have h2 := kc_le x.op
      rw [hdF_len] at h1
      omega
    have hl' : k.len ≤ 9223372036854775807 := hl
    have x12 : Ext (bzW (bxW (bxW W x (.slice a k.len c)) u.1 su)) ((bzW (bxW (bxW W x (.slice a k.len c)) u.1 su)).alloc (.cells #[] 25)) := Ext.new _ _
    have hb2 := hb.ext x12
    have e2 : ((bzW (bxW (bxW W x (.slice a k.len c)) u.1 su)).alloc (.cells #[] 25)).heap.size = (bzW (bxW (bxW W x (.slice a k.len c)) u.1 su)).heap.size + 1 := World.size_alloc _ _
    have j0 : CpA (fun b => ok b ∧ b < W.heap.size) (bzW (bxW (bxW W x (.slice a k.len c)) u.1 su)) (.slice (some ⟨(bzW (bxW (bxW W x (.slice a k.len c)) u.1 su)).heap.size, 0, none⟩) 0 0) [] ((bzW (bxW (bxW W x (.slice a k.len c)) u.1 su)).alloc (.cells #[] 25)) :=
      ⟨x12, OwnR.nil _ _ _ _, fun b hb => by have hb : (bzW (bxW (bxW W x (.slice a k.len c)) u.1 su)).heap.size = b := hb; omega⟩
    have kidAt : ∀ (i : Nat), i < k.len → ∃ t p o s', a = some ⟨p, o, none⟩ ∧ (tms k)[i]? = some t ∧ t.sz ≤ n ∧ OkT t ∧ ∀ w, Ext (bzW (bxW (bxW W x (.slice a k.len c)) u.1 su)) w → CellsAt w p (o + (i : Int).toNat * 5) (tc t.1 s') ∧ TSl (fun b => ok b ∧ b < W.heap.size) w s' t.2 := fun i hi => by
      obtain ⟨t, ht, _⟩ := tms_get hi
      obtain ⟨p, o, c', s', e, _, _, _, hc, hs'⟩ := TSl.kid hs.lt ht
      cases e
      have hm : t ∈ tms k := List.mem_of_getElem? ht
      have h1 := lt_kid (x := x) (a := t) (l := tms k) hm
      rw [mk_tms] at h1
      exact ⟨t, p, o, s', rfl, ht, by omega, OkF_mem hok.2 t hm, fun w xw => ⟨(hc.ext x1).ext xw, (hs'.ext x1).ext xw⟩⟩
    have hsul := hsu.lt
    have key : ∀ w kv, CpA (fun b => ok b ∧ b < W.heap.size) (bzW (bxW (bxW W x (.slice a k.len c)) u.1 su)) kv ((tms k).map (putT (onePut name u))) w → Free w ⟨W.heap.size, 4, none⟩ ∧ CellsAt (setCells w W.heap.size 4 [kv]) W.heap.size 0 (tc x kv) ∧ FreeAll (setCells w W.heap.size 4 [kv]) (bxW (bxW W x (.slice a k.len c)) u.1 su).heap.size 0 (tc x kv) ∧ ∃ vs, vs.length = 5 ∧ CellsAt (setCells (setCells w W.heap.size 4 [kv]) (bxW (bxW W x (.slice a k.len c)) u.1 su).heap.size 0 (tc x kv)) (bxW (bxW W x (.slice a k.len c)) u.1 su).heap.size 0 vs ∧ TRes ok (x, mkTF ((tms k).map (putT (onePut name u)))) W (.agg vs.toArray) (setCells (setCells w W.heap.size 4 [kv]) (bxW (bxW W x (.slice a k.len c)) u.1 su).heap.size 0 (tc x kv)) := fun w kv hj => by
      have hd := hj.done
      have hA : Chg (fun b => b = W.heap.size) w (setCells w W.heap.size 4 [kv]) := Chg.setCells (S := fun b => b = W.heap.size) rfl _ _ _
      have hd' : TSl (okB (bxW (bxW W x (.slice a k.len c)) u.1 su).heap.size W ok) (setCells w W.heap.size 4 [kv]) kv (mkTF ((tms k).map (putT (onePut name u)))) := (Fo.Sl.chg (fun b hb => by omega) hA hd).mono fun b hb => hb.elim (fun e => ⟨by omega, .inl e.1⟩) fun e => ⟨by omega, .inr (by omega)⟩
      have hX : Ext W (setCells w W.heap.size 4 [kv]) := Ext.setCells _ (x1.trans hj.ext) (Nat.le_refl _)
      have hf := fin5 (ok := ok) (y := x) (Rmy.setCells (b := W.heap.size) (o := 4) [kv] (hr.ext hj.ext)) hB hX hd'
      exact ⟨(rb.ext hj.ext) 4 (by decide), reslice (rb.ext hj.ext) (hb.ext hj.ext), hf.1, hf.2⟩
    have n1 : ∀ h : x.op = 22, ¬ x.name = name := fun h e => hput ⟨h, e⟩
    clear hsu hin2 hput
    subst eu
    refine ret_of_vc ties mixed Try.func45 rfl (by kernel_rfl) rfl rfl ?_
    refine seq_k fun K hK => hK _ _ ?_
    refine seq_cut (x := .seq (.region 1 _ _) _) (σ := Unit) [] 10 20 (fun _ => []) (fun _ w' => w' = (bzW (bxW (bxW W x (.slice a k.len c)) u.1 (.slice au u.2.len cu)))) (fun K hK => ?_) (fun _ w2 junk hJ => ?_)
    · refine ⟨_, hb.1, ?_⟩
      by_cases h22 : x.op = 22
      · repeat refine br_dec_true h22 ?_
        refine ⟨_, hb.2.2.2.1, ?_⟩
        repeat refine br_dec_true h22 ?_
        refine br_dec_false (n1 h22) ?_
        refine hK () _ _ rfl rfl ?_
        ((repeat (first | (with_reducible exact Only.refl) | (with_reducible refine Only.skip ?_) | ((with_reducible refine Only.upd ?_ ?_); rfl) | ((with_reducible refine Only.over ?_ ?_ _); rfl) | ((with_reducible refine Only.hav ?_ ?_ ?_); rfl; rfl))))
      · repeat refine br_dec_false h22 ?_
        refine hK () _ _ rfl rfl ?_
        ((repeat (first | (with_reducible exact Only.refl) | (with_reducible refine Only.skip ?_) | ((with_reducible refine Only.upd ?_ ?_); rfl) | ((with_reducible refine Only.over ?_ ?_ _); rfl) | ((with_reducible refine Only.hav ?_ ?_ ?_); rfl; rfl))))
    subst hJ
    refine ⟨_, hb2.2.2.2.2.1, ?_⟩
    refine loop_rule (σ := Nat × Value × Value) [24, 7, 9] 25 36 (fun q => [.int .i64 q.1, q.2.1, q.2.2])
      (fun q w' => CpA (fun b => ok b ∧ b < W.heap.size) (bzW (bxW (bxW W x (.slice a k.len c)) u.1 (.slice au u.2.len cu))) q.2.1 (((tms k).map (putT (onePut name u))).take q.1) w' ∧ q.1 ≤ k.len)
      (fun q => k.len - q.1) (0, _, undef) rfl ⟨j0, Nat.zero_le _⟩ ?_
    rintro ⟨i, kv, j5⟩ w junk ⟨hj, hi⟩ K hK
    simp only at hj hi
    show vc _ _ _ _ (over [24, 7, 9] [.int .i64 i, kv, j5] _) _
    refine br_dec (fun hlt => ?_) (fun hge => ?_)
    ·
      as_aux_lemma =>
        obtain ⟨t, p, o, s', rfl, ht, hts, hto, hkid⟩ := kidAt i (by omega)
        have k4 := keep5 (W := w) (x := t.1) (s := s') (tc_one (hkid w hj.ext).2)
        have c4 := k4.2.1
        have x4 := k4.2.2
        have hj4 := hj.later x4
        have hbu4 := hbu.ext hj4.ext
        refine ⟨⟨by omega, by omega⟩, tc t.1 s', rfl, (hkid w hj.ext).1, k4.1, ?_⟩
        refine ⟨tc t.1 s', rfl, c4, tc u.1 _, rfl, hbu4, ?_⟩
        refine Or.inl ((ih t s' _ (fun b => ok b ∧ b < W.heap.size) _ hts hto (hkid _ hj4.ext).2 ((hsul.ext x1).ext hj4.ext)).mono ?_)
        rintro _ w5 ⟨x5, s5, rfl, hs5⟩
        have hj5 := hj4.later x5
        have hz4 := x4.size
        have hlen : (((tms k).map (putT (onePut name u))).take i).length = i := by rw [List.length_take, List.length_map, tms_len]; omega
        have h8 := x1.size
        have h9 := hj4.ext.size
        have hrep : eTm.R (fun b => (((ok b ∧ b < W.heap.size) ∨ (bzW (bxW (bxW W x (.slice (some ⟨p, o, none⟩) k.len c)) u.1 (.slice au u.2.len cu))).heap.size ≤ b) ∧ ¬ blk kv b) ∧ b < w5.heap.size) w5 (putT (onePut name u) t) (tc (putT (onePut name u) t).1 s5) := by
          refine ⟨s5, rfl, hs5.lt.mono fun b hb => ⟨⟨hb.1.imp id fun e => by omega, fun e => ?_⟩, hb.2⟩⟩
          have h7 := hj4.blk b e
          rcases hb.1 with h9 | h9
          · omega
          · omega
        refine raw_push (E := eTm) (x := putT (onePut name u) t) (cs := tc (putT (onePut name u) t).1 s5) ties rfl rfl rfl rfl rfl rfl rfl rfl rfl rfl rfl hj5.own.lt hrep (fun b' hb' => hb'.1.2) (by rw [hlen]; show (i + 1) * 64 ≤ _; omega) (by omega) ?_
        intro v w6 hv hch hsz6 hvb
        have hj6 := hj5.push hv hch hsz6 hvb
        have htake : ((tms k).map (putT (onePut name u))).take (i + 1) = ((tms k).map (putT (onePut name u))).take i ++ [putT (onePut name u) t] := by rw [List.take_add_one, List.getElem?_map, ht]; rfl
        rw [← htake] at hj6
        refine ⟨_, IntWalk.i64_in _ (by omega), ?_⟩
        refine hK (i + 1, v, _) _ _ (vs3 (vint (by show (i : Int) + 1 = ((i + 1 : Nat) : Int); omega)) rfl rfl) ⟨hj6, by show i + 1 ≤ k.len; omega⟩ (by show k.len - (i + 1) < k.len - i; omega) ?_
        ((repeat (first | (with_reducible exact Only.refl) | (with_reducible refine Only.skip ?_) | ((with_reducible refine Only.upd ?_ ?_); rfl) | ((with_reducible refine Only.over ?_ ?_ _); rfl) | ((with_reducible refine Only.hav ?_ ?_ ?_); rfl; rfl))))
    ·
      as_aux_lemma =>
        have hie : ((tms k).map (putT (onePut name u))).take i = (tms k).map (putT (onePut name u)) := List.take_of_length_le (by rw [List.length_map, tms_len]; omega)
        rw [hie] at hj
        have hkey := key w kv hj
        obtain ⟨a', c', rfl, _⟩ := id hj.own
        refine ⟨hkey.1, ?_⟩
        refine ⟨tc x _, rfl, hkey.2.1, ?_⟩
        exact hkey.2.2
end Go.Proofs.Ytekddgkgeaolnaa
