/- Terms for a variable: l02Put; PutTerm, both. -/
import Derived.Test.YtkoaicjcanplaaaGreatEd
import Derived.Test.YtkoaicjcanplaaaGreatEb
namespace Go.Proofs.YtkoaicjcanplaaaGreat
open Go Go.Vc Go.RowKit
set_option linter.unusedVariables false

def onePut (name : ByteArray) (u : Tm) : ByteArray → Option Tm := fun s => if s = name then some u else none
def LpS (name : ByteArray) (u : Tm) (n : Nat) : Prop := ∀ (t : Tm) (s su : Value) (ok : Nat → Prop) (W : World), t.sz ≤ n → OkT t → TSl ok W s t.2 → TSl ok W su u.2 →
  Ret Tryz.prog 21 #[tv t.1 s, .string name, tv u.1 su] W (TRes ok (putT (onePut name u) t) W)
set_option maxRecDepth 100000 in
set_option maxHeartbeats 8000000 in
theorem l02Put_all (name : ByteArray) (u : Tm) : ∀ n, LpS name u n := by
  intro n
  induction n with
  | zero => intro t s su ok W h; have := sz_pos t; omega
  | succ n ih =>
    rintro ⟨x, k⟩ s su ok W hsz hok hs hsu
    change TSl ok W s k at hs
    have hkl := k.len_le
    have xA : Ext W (bxW W x s) := bx_ext W x s
    have xB : Ext (bxW W x s) (bxW (bxW W x s) u.1 su) := bx_ext _ _ _
    have x1 : Ext W (bzW (bxW (bxW W x s) u.1 su)) := xA.trans (xB.trans (bz_ext _))
    have hb := (bx_at W x s).ext (xB.trans (bz_ext _))
    have hbu := (bx_at (bxW W x s) u.1 su).ext (bz_ext _)
    have zA : (bxW W x s).heap.size = W.heap.size + 1 := bx_size _ _ _
    have zB : (bxW (bxW W x s) u.1 su).heap.size = (bxW W x s).heap.size + 1 := bx_size _ _ _
    have zC : (bzW (bxW (bxW W x s) u.1 su)).heap.size = (bxW (bxW W x s) u.1 su).heap.size + 1 := bz_size _
    have hr : Rmy (bzW (bxW (bxW W x s) u.1 su)) (bxW (bxW W x s) u.1 su).heap.size 5 := bz_rmy _
    have rb : Rmy (bzW (bxW (bxW W x s) u.1 su)) W.heap.size 5 := (Rmy.new W (tc x s) 30).ext (xB.trans (bz_ext _))
    have hB : W.heap.size ≤ (bxW (bxW W x s) u.1 su).heap.size := by omega
    have hin2 : TSl (okB (bxW (bxW W x s) u.1 su).heap.size W ok) (bzW (bxW (bxW W x s) u.1 su)) su u.2 := arg_in hsu x1 hB
    obtain ⟨au, cu, eu, _, _⟩ := id hsu
    by_cases hput : x.op = 22 ∧ x.name = name
    · have e : putT (onePut name u) (x, k) = u := by unfold putT putS onePut; rw [if_pos hput.1, if_pos hput.2]; rfl
      rw [e]
      have hq := fin5 (ok := ok) (y := u.1) hr hB x1 hin2
      obtain ⟨a, c, rfl, _, _⟩ := id hs
      subst eu
      refine ret_of_vc ties mixed Tryz.func21 rfl (by kernel_rfl) rfl rfl ?_
      refine ⟨_, hb.1, ?_⟩
      repeat refine br_dec_true hput.1 ?_
      refine ⟨_, hb.2.2.2.1, ?_⟩
      repeat refine br_dec_true hput.1 ?_
      refine br_dec_true hput.2 ?_
      refine ⟨tc u.1 _, rfl, hbu, ?_⟩
      exact hq
    have e : putT (onePut name u) (x, k) = (x, mkTF ((tms k).map (putT (onePut name u)))) := by
      have hS : putS (onePut name u) x = none := by
        unfold putS onePut
        by_cases h : x.op = 22
        · rw [if_pos h, if_neg (fun e => hput ⟨h, e⟩)]
        · rw [if_neg h]
      have h1 : putT (onePut name u) (x, k) = (x, putF (onePut name u) k) := by unfold putT; rw [hS]; rfl
      rw [h1, ← putF_tms]
    rw [e]
    obtain ⟨a, c, rfl, hl, hat⟩ := id hs
    have hl3 : k.len ≤ 3 := by
      have h1 : ((hdF k).length : Int) = kc x.op := hok.1.count
      have h2 := kc_le x.op
      rw [hdF_len] at h1
      omega
    have hl' : k.len ≤ 9223372036854775807 := hl
    have x12 : Ext (bzW (bxW (bxW W x (.slice a k.len c)) u.1 su)) ((bzW (bxW (bxW W x (.slice a k.len c)) u.1 su)).alloc (.cells #[] 30)) := Ext.new _ _
    have hb2 := hb.ext x12
    have e2 : ((bzW (bxW (bxW W x (.slice a k.len c)) u.1 su)).alloc (.cells #[] 30)).heap.size = (bzW (bxW (bxW W x (.slice a k.len c)) u.1 su)).heap.size + 1 := World.size_alloc _ _
    have j0 : CpA (fun b => ok b ∧ b < W.heap.size) (bzW (bxW (bxW W x (.slice a k.len c)) u.1 su)) (.slice (some ⟨(bzW (bxW (bxW W x (.slice a k.len c)) u.1 su)).heap.size, 0, none⟩) 0 0) [] ((bzW (bxW (bxW W x (.slice a k.len c)) u.1 su)).alloc (.cells #[] 30)) :=
      ⟨x12, OwnR.nil _ _ _ _, fun b hb => by have hb : (bzW (bxW (bxW W x (.slice a k.len c)) u.1 su)).heap.size = b := hb; omega⟩
    have kidAt : ∀ (i : Nat), i < k.len → ∃ t p o s', a = some ⟨p, o, none⟩ ∧ (tms k)[i]? = some t ∧ t.sz ≤ n ∧ OkT t ∧ ∀ w, Ext (bzW (bxW (bxW W x (.slice a k.len c)) u.1 su)) w → CellsAt w p (o + (i : Int).toNat * 5) (tc t.1 s') ∧ TSl (fun b => ok b ∧ b < W.heap.size) w s' t.2 := fun i hi => by
      obtain ⟨t, ht, _⟩ := tms_get hi
      obtain ⟨p, o, c', s', e, _, _, _, hc, hs'⟩ := TSl.kid hs.lt ht
      cases e
      have hm : t ∈ tms k := List.mem_of_getElem? ht
      have h1 := lt_kid (x := x) (a := t) (l := tms k) hm
      rw [mk_tms] at h1
      exact ⟨t, p, o, s', rfl, ht, by omega, OkF_mem hok.2 t hm, fun w xw => ⟨(hc.ext x1).ext xw, (hs'.ext x1).ext xw⟩⟩
    have hsul := hsu.lt
    have key : ∀ w kv, CpA (fun b => ok b ∧ b < W.heap.size) (bzW (bxW (bxW W x (.slice a k.len c)) u.1 su)) kv ((tms k).map (putT (onePut name u))) w → Free w ⟨W.heap.size, 4, none⟩ ∧ CellsAt (setCells w W.heap.size 4 [kv]) W.heap.size 0 (tc x kv) ∧ FreeAll (setCells w W.heap.size 4 [kv]) (bxW (bxW W x (.slice a k.len c)) u.1 su).heap.size 0 (tc x kv) ∧ ∃ vs, vs.length = 5 ∧ CellsAt (setCells (setCells w W.heap.size 4 [kv]) (bxW (bxW W x (.slice a k.len c)) u.1 su).heap.size 0 (tc x kv)) (bxW (bxW W x (.slice a k.len c)) u.1 su).heap.size 0 vs ∧ TRes ok (x, mkTF ((tms k).map (putT (onePut name u)))) W (.agg vs.toArray) (setCells (setCells w W.heap.size 4 [kv]) (bxW (bxW W x (.slice a k.len c)) u.1 su).heap.size 0 (tc x kv)) := fun w kv hj => by
      have hd := hj.done
      have hA : Chg (fun b => b = W.heap.size) w (setCells w W.heap.size 4 [kv]) := Chg.setCells (S := fun b => b = W.heap.size) rfl _ _ _
      have hd' : TSl (okB (bxW (bxW W x (.slice a k.len c)) u.1 su).heap.size W ok) (setCells w W.heap.size 4 [kv]) kv (mkTF ((tms k).map (putT (onePut name u)))) := (Fo.Sl.chg (fun b hb => by omega) hA hd).mono fun b hb => hb.elim (fun e => ⟨by omega, .inl e.1⟩) fun e => ⟨by omega, .inr (by omega)⟩
      have hX : Ext W (setCells w W.heap.size 4 [kv]) := Ext.setCells _ (x1.trans hj.ext) (Nat.le_refl _)
      have hf := fin5 (ok := ok) (y := x) (Rmy.setCells (b := W.heap.size) (o := 4) [kv] (hr.ext hj.ext)) hB hX hd'
      exact ⟨(rb.ext hj.ext) 4 (by decide), reslice (rb.ext hj.ext) (hb.ext hj.ext), hf.1, hf.2⟩
    have n1 : ∀ h : x.op = 22, ¬ x.name = name := fun h e => hput ⟨h, e⟩
    clear hsu hin2 hput
    subst eu
    refine ret_of_vc ties mixed Tryz.func21 rfl (by kernel_rfl) rfl rfl ?_
    refine seq_k fun K hK => hK _ _ ?_
    refine seq_cut (x := .seq (.region 1 _ _) _) (σ := Unit) [] 10 20 (fun _ => []) (fun _ w' => w' = (bzW (bxW (bxW W x (.slice a k.len c)) u.1 (.slice au u.2.len cu)))) (fun K hK => ?_) (fun _ w2 junk hJ => ?_)
    · refine ⟨_, hb.1, ?_⟩
      by_cases h22 : x.op = 22
      · repeat refine br_dec_true h22 ?_
        refine ⟨_, hb.2.2.2.1, ?_⟩
        repeat refine br_dec_true h22 ?_
        refine br_dec_false (n1 h22) ?_
        refine hK () _ _ rfl rfl ?_
        ((repeat (first | (with_reducible exact Only.refl) | (with_reducible refine Only.skip ?_) | ((with_reducible refine Only.upd ?_ ?_); rfl) | ((with_reducible refine Only.over ?_ ?_ _); rfl) | ((with_reducible refine Only.hav ?_ ?_ ?_); rfl; rfl))))
      · repeat refine br_dec_false h22 ?_
        refine hK () _ _ rfl rfl ?_
        ((repeat (first | (with_reducible exact Only.refl) | (with_reducible refine Only.skip ?_) | ((with_reducible refine Only.upd ?_ ?_); rfl) | ((with_reducible refine Only.over ?_ ?_ _); rfl) | ((with_reducible refine Only.hav ?_ ?_ ?_); rfl; rfl))))
    subst hJ
    refine ⟨_, hb2.2.2.2.2.1, ?_⟩
    refine loop_rule (σ := Nat × Value × Value) [24, 7, 9] 25 36 (fun q => [.int .i64 q.1, q.2.1, q.2.2])
      (fun q w' => CpA (fun b => ok b ∧ b < W.heap.size) (bzW (bxW (bxW W x (.slice a k.len c)) u.1 (.slice au u.2.len cu))) q.2.1 (((tms k).map (putT (onePut name u))).take q.1) w' ∧ q.1 ≤ k.len)
      (fun q => k.len - q.1) (0, _, undef) rfl ⟨j0, Nat.zero_le _⟩ ?_
    rintro ⟨i, kv, j5⟩ w junk ⟨hj, hi⟩ K hK
    simp only at hj hi
    show vc _ _ _ _ (over [24, 7, 9] [.int .i64 i, kv, j5] _) _
    refine br_dec (fun hlt => ?_) (fun hge => ?_)
    ·
      as_aux_lemma =>
        obtain ⟨t, p, o, s', rfl, ht, hts, hto, hkid⟩ := kidAt i (by omega)
        have k4 := keep5 (W := w) (x := t.1) (s := s') (tc_one (hkid w hj.ext).2)
        have c4 := k4.2.1
        have x4 := k4.2.2
        have hj4 := hj.later x4
        have hbu4 := hbu.ext hj4.ext
        refine ⟨⟨by omega, by omega⟩, tc t.1 s', rfl, (hkid w hj.ext).1, k4.1, ?_⟩
        refine ⟨tc t.1 s', rfl, c4, tc u.1 _, rfl, hbu4, ?_⟩
        refine Or.inl ((ih t s' _ (fun b => ok b ∧ b < W.heap.size) _ hts hto (hkid _ hj4.ext).2 ((hsul.ext x1).ext hj4.ext)).mono ?_)
        rintro _ w5 ⟨x5, s5, rfl, hs5⟩
        have hj5 := hj4.later x5
        have hz4 := x4.size
        have hlen : (((tms k).map (putT (onePut name u))).take i).length = i := by rw [List.length_take, List.length_map, tms_len]; omega
        have h8 := x1.size
        have h9 := hj4.ext.size
        have hrep : eTm.R (fun b => (((ok b ∧ b < W.heap.size) ∨ (bzW (bxW (bxW W x (.slice (some ⟨p, o, none⟩) k.len c)) u.1 (.slice au u.2.len cu))).heap.size ≤ b) ∧ ¬ blk kv b) ∧ b < w5.heap.size) w5 (putT (onePut name u) t) (tc (putT (onePut name u) t).1 s5) := by
          refine ⟨s5, rfl, hs5.lt.mono fun b hb => ⟨⟨hb.1.imp id fun e => by omega, fun e => ?_⟩, hb.2⟩⟩
          have h7 := hj4.blk b e
          rcases hb.1 with h9 | h9
          · omega
          · omega
        refine raw_push (E := eTm) (x := putT (onePut name u) t) (cs := tc (putT (onePut name u) t).1 s5) ties rfl rfl rfl rfl rfl rfl rfl rfl rfl rfl rfl hj5.own.lt hrep (fun b' hb' => hb'.1.2) (by rw [hlen]; show (i + 1) * 64 ≤ _; omega) (by omega) ?_
        intro v w6 hv hch hsz6 hvb
        have hj6 := hj5.push hv hch hsz6 hvb
        have htake : ((tms k).map (putT (onePut name u))).take (i + 1) = ((tms k).map (putT (onePut name u))).take i ++ [putT (onePut name u) t] := by rw [List.take_add_one, List.getElem?_map, ht]; rfl
        rw [← htake] at hj6
        refine ⟨_, IntWalk.i64_in _ (by omega), ?_⟩
        refine hK (i + 1, v, _) _ _ (vs3 (vint (by show (i : Int) + 1 = ((i + 1 : Nat) : Int); omega)) rfl rfl) ⟨hj6, by show i + 1 ≤ k.len; omega⟩ (by show k.len - (i + 1) < k.len - i; omega) ?_
        ((repeat (first | (with_reducible exact Only.refl) | (with_reducible refine Only.skip ?_) | ((with_reducible refine Only.upd ?_ ?_); rfl) | ((with_reducible refine Only.over ?_ ?_ _); rfl) | ((with_reducible refine Only.hav ?_ ?_ ?_); rfl; rfl))))
    ·
      as_aux_lemma =>
        have hie : ((tms k).map (putT (onePut name u))).take i = (tms k).map (putT (onePut name u)) := List.take_of_length_le (by rw [List.length_map, tms_len]; omega)
        rw [hie] at hj
        have hkey := key w kv hj
        obtain ⟨a', c', rfl, _⟩ := id hj.own
        refine ⟨hkey.1, ?_⟩
        refine ⟨tc x _, rfl, hkey.2.1, ?_⟩
        exact hkey.2.2
end Go.Proofs.YtkoaicjcanplaaaGreat
