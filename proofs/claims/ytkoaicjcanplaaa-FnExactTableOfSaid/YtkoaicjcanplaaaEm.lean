/- TableOf (the program's). -/
import Derived.Test.YtkoaicjcanplaaaEl
import Derived.Test.YtkoaicjcanplaaaWf
namespace Go.Proofs.Ytkoaicjcanplaaa
open Go Go.Vc Go.RowKit
set_option linter.unusedVariables false

def NewI (l : List Int) (W : World) (v : Value) (w : World) : Prop := Ext W w ∧ OwnR eI noB w v l ∧ ∀ b, blk v b → W.heap.size ≤ b
theorem zsI_at {w : World} {B : Nat} : ∀ (q o : Nat), CellsAt w B o (zs q [.int .i64 0]) → RAt eI noB w (List.replicate q (0 : Int)) B o := by
  intro q
  induction q with
  | zero => intro o _; trivial
  | succ q ih => intro o h; exact ⟨⟨[.int .i64 0], ⟨h.1, trivial⟩, rfl⟩, ih (o + 1) h.2⟩
theorem zeroI (W : World) (N t : Nat) (hN : N ≤ 1000000000) : OwnR eI noB (W.alloc (.cells (zs N [.int .i64 0]).toArray t)) (.slice (some ⟨W.heap.size, 0, none⟩) N N) (List.replicate N (0 : Int)) := by
  have hlm : 1000000000 ≤ maxLen := by decide
  have := Rmy.new W (zs N [.int .i64 0]) t
  rw [zs_length, List.length_singleton, Nat.mul_one] at this
  exact ⟨_, N, by simp, by simp, by omega, .inr ⟨_, rfl, by rw [show eI.m = 1 from rfl, Nat.mul_one]; exact this, zsI_at _ _ (boxedAll _ _ _)⟩⟩
theorem own_set {w : World} {B n c i o : Nat} {L : List Int} {v : Int} (hi : i < L.length) (ho : o = i * 1) (h : OwnR eI noB w (.slice (some ⟨B, 0, none⟩) n c) L) :
    Free w ⟨B, o, none⟩ ∧ OwnR eI noB (w.setCell ⟨B, o, none⟩ (.int .i64 v)) (.slice (some ⟨B, 0, none⟩) n c) (L.set i v) := by
  obtain ⟨a, c', he, h1, h2, h3⟩ := h
  cases he
  obtain ⟨B', e, hr, hrow⟩ := h3.resolve_left (by omega)
  cases e
  have hc1 : c * eI.m = c * 1 := rfl
  have h5 := hrow.set (E := eI) (i := i) (x := v) (cs := [.int .i64 v]) noB_ne hr rfl (show o = i * eI.m from ho) hi (by show L.length * 1 ≤ c * 1; omega)
  exact ⟨hr _ (by omega), ⟨_, c, by rw [List.length_set], by rw [List.length_set]; exact h1, h2, .inr ⟨B, rfl, hr.setCell, h5⟩⟩⟩
def tqL (f : Nat → Int) (P r : Nat) : List Int := (List.range r).map f ++ List.replicate (P - r) 0
theorem tqL_len {f : Nat → Int} {P r : Nat} (h : r ≤ P) : (tqL f P r).length = P := by unfold tqL; rw [List.length_append, List.length_map, List.length_range, List.length_replicate]; omega
theorem tqL_set {f : Nat → Int} {P r : Nat} (h : r < P) : (tqL f P r).set r (f r) = tqL f P (r + 1) := by
  unfold tqL
  have h1 : ((List.range r).map f).length = r := by rw [List.length_map, List.length_range]
  have h2 : P - r = (P - (r + 1)) + 1 := by omega
  rw [List.set_append_right _ _ (by omega), h1, Nat.sub_self, h2, List.replicate_succ, List.set_cons_zero, tbl_snoc, List.append_assoc]; rfl
theorem sum_drop {vs : Vs} {j : Nat} (h : j < vs.length) : sumW (wsV (vs.drop j)) = (vs[j]'h).2.toNat + sumW (wsV (vs.drop (j + 1))) := by
  rw [List.drop_eq_getElem_cons h]; rfl
theorem sum_drop_le : ∀ (vs : Vs) (j : Nat), sumW (wsV (vs.drop j)) ≤ sumW (wsV vs)
  | vs, 0 => Nat.le_refl _
  | [], _ + 1 => Nat.le_refl _
  | p :: vs, j + 1 => by
    have := sum_drop_le vs j
    show sumW (wsV (vs.drop j)) ≤ p.2.toNat + sumW (wsV vs)
    omega
theorem shr_nat {r m : Nat} (h : m ≤ 64) : ((r : Int)).fdiv (2 ^ min ((m : Int)).toNat IntKind.i64.bits) = ((r / 2 ^ m : Nat) : Int) := by
  have e : min ((m : Int)).toNat IntKind.i64.bits = m := by show min ((m : Int)).toNat 64 = m; omega
  have e2 : (2 : Int) ^ m = ((2 ^ m : Nat) : Int) := by rw [Int.natCast_pow]; rfl
  rw [e, e2, Int.fdiv_eq_ediv_of_nonneg _ (Int.natCast_nonneg _)]
  exact (Int.natCast_ediv _ _).symm
theorem and_dig {vs : Vs} {r j : Nat} (h : j < vs.length) (hw : (vs[j]'h).2 ≤ 16) : bitsI .and .i64 (((r / 2 ^ sumW (wsV (vs.drop (j + 1))) : Nat)) : Int) (ones (vs[j]'h).2) = (digV vs r j : Int) := by
  unfold ones digV
  rw [and_pow (k := (vs[j]'h).2.toNat) (by omega), List.getElem?_eq_getElem h]
  have e2 : (2 : Int) ^ (vs[j]'h).2.toNat = ((2 ^ (vs[j]'h).2.toNat : Nat) : Int) := by rw [Int.natCast_pow]; rfl
  rw [e2]
  rfl
theorem shl_nat {N : Nat} (h : N ≤ 10) : IntKind.i64.wrap (1 * 2 ^ min ((N : Int)).toNat IntKind.i64.bits) = ((2 ^ N : Nat) : Int) := by
  have h1 := shl1 (w := (N : Int)) (by omega) (by omega)
  rw [h1]
  have e : ((N : Int)).toNat = N := by omega
  rw [e, Int.natCast_pow]; rfl
set_option maxRecDepth 100000 in
set_option maxHeartbeats 16000000 in
theorem impl_TableOf (x : Lab) (k : TF) (s : Value) (W : World) (hs : TSl anyB W s k) (hx : okL x) (hp : k.All okL) :
    Ret Try.prog 55 #[tv x s] W (NewI (tblP x k) W) := by
  have x1 := bx_ext W x s
  have hb := bx_at W x s
  have hok := fun w (xw : Ext W w) => impl_TermOk x k s w (hs.ext xw) hx hp
  have hv := fun w (xw : Ext W w) => impl_VarsOf x k s w (hs.ext xw) hx hp
  have hnil : ∀ w, Ext W w → NewI [] W (.slice none 0 0) w := fun w h => ⟨h, ⟨none, 0, rfl, Nat.le_refl _, Nat.zero_le _, .inl rfl⟩, fun b hb => by cases hb⟩
  by_cases ht : TOk x k
  rotate_left
  · simp only [decide_eq_false ht] at hok
    rw [tblP_no (fun h => ht h.1)]
    obtain ⟨a, c, rfl, _, _⟩ := id hs
    refine ret_of_vc ties mixed Try.func55 rfl (by kernel_rfl) rfl rfl ?_
    refine ⟨tc x _, rfl, hb, ?_⟩
    refine Or.inl ((hok _ x1).mono ?_)
    rintro _ w2 ⟨rfl, x2⟩
    exact hnil _ (x1.trans x2)
  simp only [decide_eq_true ht] at hok
  have hg := vs_good ht
  rw [varsP_yes ht] at hv
  obtain ⟨vs, hvs⟩ : ∃ vs, vsT (x, k) = vs := ⟨_, rfl⟩
  obtain ⟨f, hf⟩ : ∃ f : Nat → Int, (fun r => evT (envL (rowV vs r)) (x, k)) = f := ⟨_, rfl⟩
  have hfr : ∀ r, evT (envL (rowV vs r)) (x, k) = f r := fun r => by rw [← hf]
  have hev : ∀ r w m, Ext W w → MapV w m (·.n) (rowV vs r) → Ret Try.prog 73 #[tv x s, .map (some m)] w (fun v w' => v = .int .i64 (f r) ∧ Ext w w') := fun r w m xw h => by
    obtain ⟨al, a1, b1⟩ := h
    have := evalNode_all _ (x, k) s (.map (some m)) (envL (rowV vs r)) w (Nat.le_refl _) (tok_okT ht) (hs.ext xw) (.inr ⟨_, al, rfl, a1, fun t => by rw [b1]; unfold envL; cases fnd (rowV vs r) t <;> rfl⟩)
    rw [hfr] at this
    exact this
  have hvlen := vls_len (vsT (x, k))
  have hvl2 := vsT_len (x, k)
  have hsz : Tm.sz (x, k) = k.size + 1 := rfl
  have hk := ht.1
  have hsw := sw_vls (vsT (x, k))
  have hle : ∀ i, sw ((vls (vsT (x, k))).take i) ≤ 16 * i := fun i => by
    have h1 := sw_le (L := (vls (vsT (x, k))).take i) fun v hv => (vls_in hg v (List.mem_of_mem_take hv)).2
    have h2 : ((vls (vsT (x, k))).take i).length ≤ i := by rw [List.length_take]; omega
    omega
  have hvw := vls_in hg
  have hno : ∀ w, Ext W w → ¬ sumW (wsV vs) ≤ 10 → NewI (tblP x k) W (.slice none 0 0) w := fun w h hn => by
    rw [tblP_no (fun h => hn (by rw [← hvs]; exact h.2))]; exact hnil w h
  have hyes : sumW (wsV vs) ≤ 10 → tblP x k = tqL f (2 ^ sumW (wsV vs)) (2 ^ sumW (wsV vs)) := fun h => by
    rw [tblP_yes ht (by rw [hvs]; exact h)]
    unfold tbl tqL
    rw [Nat.sub_self, List.replicate_zero, List.append_nil, hvs, ← hf]
  rw [hvs] at hv hvlen hvl2 hsw hle hg hvw
  clear hf hfr
  have hvslen : vs.length ≤ 240 := by omega
  obtain ⟨a, c, rfl, _, _⟩ := id hs
  refine ret_of_vc ties mixed Try.func55 rfl (by kernel_rfl) rfl rfl ?_
  refine ⟨tc x _, rfl, hb, ?_⟩
  refine Or.inl ((hok _ x1).mono ?_)
  rintro _ w2 ⟨rfl, x2⟩
  refine ⟨tc x _, rfl, hb.ext x2, ?_⟩
  refine Or.inl ((hv _ (x1.trans x2)).mono ?_)
  rintro v4 w4 ⟨x4, hv4, hb4⟩
  have X4 := x2.trans x4
  have hv4s : SlR eV allB w4 v4 (vls vs) := hv4.sl (fun _ _ => trivial) (fun _ _ => trivial)
  obtain ⟨a4, c4, rfl, _, hc4, _⟩ := id hv4s
  clear hv hok hv4
  refine loop_rule (σ := Nat × Nat × Value) [20, 4, 6] 21 29 (fun q => [.int .i64 q.1, .int .i64 (q.2.1 : Int), q.2.2])
    (fun q w' => (Ext w4 w' ∧ q.2.1 = sw ((vls vs).take q.1)) ∧ q.1 ≤ (vls vs).length) (fun q => (vls vs).length - q.1) (0, 0, undef) rfl ⟨⟨Ext.refl _, rfl⟩, Nat.zero_le _⟩ ?_
  rintro ⟨i, n, y⟩ w5 junk ⟨⟨x5, hn⟩, hi⟩ K hK
  simp only at hi hn
  show vc _ _ _ _ (over [20, 4, 6] [.int .i64 i, .int .i64 (n : Int), y] _) _
  refine br_dec (fun h3 => ?_) (fun h3 => ?_)
  ·
    as_aux_lemma =>
      have hil : i < (vls vs).length := by omega
      obtain ⟨b, o, c', e, _, hcx⟩ := eV_at hv4s hil
      cases e
      have k1 := keep3 w5 ((vls vs)[i]'hil)
      have h1 := hvw _ (List.getElem_mem hil)
      have h2 := hle i
      have h4 := sw_snoc hil
      refine ⟨⟨by omega, by omega⟩, vlc ((vls vs)[i]'hil), rfl, hcx.ext x5, k1.1, ?_⟩
      refine ⟨_, k1.2.1.2.1, _, IntWalk.i64_in _ (by omega), _, IntWalk.i64_in _ (by omega), ?_⟩
      refine hK (i + 1, sw ((vls vs).take (i + 1)), _) _ _ (vs3 (vint (by show (i : Int) + 1 = ((i + 1 : Nat) : Int); omega)) (vint (by show (n : Int) + ((vls vs)[i]'hil).w = ((sw ((vls vs).take (i + 1)) : Nat) : Int); omega)) rfl) ⟨⟨x5.trans k1.2.2, rfl⟩, by show i + 1 ≤ (vls vs).length; omega⟩ (by show (vls vs).length - (i + 1) < (vls vs).length - i; omega) ?_
      ((repeat (first | (with_reducible exact Only.refl) | (with_reducible refine Only.skip ?_) | ((with_reducible refine Only.upd ?_ ?_); rfl) | ((with_reducible refine Only.over ?_ ?_ _); rfl) | ((with_reducible refine Only.hav ?_ ?_ ?_); rfl; rfl))))
  have hti : (vls vs).take i = vls vs := List.take_of_length_le (by omega)
  have hN : n = sumW (wsV vs) := by rw [hn, hti]; exact hsw
  rw [← hN] at hno hyes
  refine br_dec (fun h10 => ?_) (fun h10 => ?_)
  · exact hno _ (x1.trans (X4.trans x5)) (by omega)
  have h10' : n ≤ 10 := by omega
  have hP := pow10 n h10'
  have hshl := shl_nat h10'
  obtain ⟨P, hPe⟩ : ∃ P, 2 ^ n = P := ⟨_, rfl⟩
  rw [hPe] at hshl hyes hP
  have hout := zeroI w5 P 3 (by omega)
  have xo : Ext w5 (w5.alloc (.cells (zs P [.int .i64 0]).toArray 3)) := Ext.new _ _
  have zo : w5.heap.size < (w5.alloc (.cells (zs P [.int .i64 0]).toArray 3)).heap.size := by rw [World.size_alloc]; omega
  have X5 := X4.trans x5
  have hW5 : W.heap.size ≤ w5.heap.size := (x1.trans X5).size
  have hfin : ∀ w, Ext w4 w → OwnR eI noB w (.slice (some ⟨w5.heap.size, 0, none⟩) P P) (tqL f P P) → NewI (tblP x k) W (.slice (some ⟨w5.heap.size, 0, none⟩) P P) w := fun w hx ho => ⟨(x1.trans X4).trans hx, by rw [hyes h10']; exact ho, fun b hb => by
    have e : w5.heap.size = b := hb
    omega⟩
  refine ⟨_, IntWalk.u64_in _ (by omega), by omega, _, hshl, ⟨by omega, by omega, by omega, by show (8 : Int) * (P : Int) ≤ _; omega⟩, ?_⟩
  refine loop_rule (σ := Nat × Value × Value × Value × Value) [37, 8, 9, 10, 12] 38 71 (fun q => [.int .i64 q.1, q.2.1, q.2.2.1, q.2.2.2.1, q.2.2.2.2])
    (fun q w' => (Ext w4 w' ∧ w5.heap.size < w'.heap.size ∧ OwnR eI noB w' (.slice (some ⟨w5.heap.size, 0, none⟩) P P) (tqL f P q.1)) ∧ q.1 ≤ P) (fun q => P - q.1) (0, undef, undef, undef, undef) rfl ⟨⟨x5.trans xo, zo, hout⟩, Nat.zero_le _⟩ ?_
  rintro ⟨r, j8, j9, j10, j12⟩ w6 junk ⟨⟨X6, z6, ho6⟩, hr⟩ K2 hK2
  simp only at hr ho6
  show vc _ _ _ _ (over [37, 8, 9, 10, 12] [.int .i64 r, j8, j9, j10, j12] _) _
  refine br_dec (fun hlt => ?_) (fun hge => ?_)
  ·
    as_aux_lemma =>
      have hrP : r < P := by omega
      have m0 := MapV.new w6 (·.n)
      have y1 : Ext w6 (w6.alloc (.map #[] 0)) := Ext.new _ _
      refine loop_rule (σ := Nat × Value) [44, 10, 12] 45 64 (fun q => [.int .i64 q.1, .int .i64 (sumW (wsV (vs.drop q.1)) : Int), q.2])
        (fun q w' => ((Ext w4 w' ∧ w5.heap.size < w'.heap.size ∧ OwnR eI noB w' (.slice (some ⟨w5.heap.size, 0, none⟩) P P) (tqL f P r)) ∧ MapV w' w6.heap.size (·.n) ((rowV vs r).take q.1)) ∧ q.1 ≤ (vls vs).length) (fun q => (vls vs).length - q.1) (0, j12) (vs3 rfl (vint (by rw [hN]; rfl)) rfl) ⟨⟨⟨X6.trans y1, Nat.lt_of_lt_of_le z6 y1.size, ho6.ext y1⟩, m0⟩, Nat.zero_le _⟩ ?_
      rintro ⟨j, y12⟩ w7 junk2 ⟨⟨⟨X7, z7, ho7⟩, hm7⟩, hj⟩ K3 hK3
      simp only at hj hm7
      show vc _ _ _ _ (over [44, 10, 12] [.int .i64 j, .int .i64 (sumW (wsV (vs.drop j)) : Int), y12] _) _
      refine br_dec (fun hlt2 => ?_) (fun hge2 => ?_)
      ·
        as_aux_lemma =>
          have jl : j < (vls vs).length := by omega
          have jl' : j < vs.length := by omega
          obtain ⟨b, o, c', e, _, hcx⟩ := eV_at hv4s jl
          cases e
          have hgv : (vls vs)[j]'jl = vl0 (vs[j]'jl') := List.getElem_map _
          rw [hgv] at hcx
          have hpj := hg.2 _ (List.getElem_mem jl')
          have hsum := sum_drop jl'
          have hsle := sum_drop_le vs j
          have hsle1 := sum_drop_le vs (j + 1)
          have hdig := and_dig (r := r) jl' hpj.2.2
          have hsn := row_snoc hg.1 r jl'
          have hshr := shr_nat (r := r) (m := sumW (wsV (vs.drop (j + 1)))) (by omega)
          obtain ⟨p, hpp⟩ : ∃ p, vs[j]'jl' = p := ⟨_, rfl⟩
          rw [hpp] at hcx hpj hsum hdig hsn
          have hpw : (vl0 p).w = p.2 := rfl
          have k7 := keep3 w7 (vl0 p)
          obtain ⟨al, a7, b7⟩ := hm7
          have z67 : w6.heap.size < w7.heap.size := a7.lt
          have hput : ∀ t, (al.put p.1 (.int .i64 (digV vs r j : Int))).get t = (fnd ((rowV vs r).take (j + 1)) t).map fun v => iv v.n := fun t => by
            rw [Al.get_put, b7, hsn]
            by_cases h : t = p.1
            · rw [if_pos h, if_pos h.symm]; rfl
            · rw [if_neg h, if_neg (fun e => h e.symm)]
          have z46 := X6.size
          refine ⟨⟨by omega, by omega⟩, vlc (vl0 p), rfl, hcx.ext X7, k7.1, ?_⟩
          refine ⟨_, k7.2.1.2.1, ((sumW (wsV (vs.drop (j + 1))) : Nat) : Int), (IntWalk.i64_in _ (by omega)).trans (by omega), ?_⟩
          refine .inr (.inr (hyb_rule ties mixed [(0, .quiet), (1, .quiet), (2, .quiet), (3, .quiet), (4, .quiet), (5, .quiet), (6, .quiet), (7, .quiet), (8, .quiet), (9, .loud), (10, .quiet), (11, .wild)] (by kernel_rfl) ?_))
          refine ⟨_, k7.2.1.1, _, IntWalk.u64_in _ (by omega), by omega, _, hshr, _, k7.2.1.2.1, ?_⟩
          intro w8 x8
          refine Or.inl ((onesOf_ret hpj.2 w8).mono ?_)
          rintro _ _ ⟨rfl, rfl⟩
          refine ⟨Ext.refl _, _, hdig, ?_⟩
          intro w9 x9
          have X79 := k7.2.2.trans (x8.trans x9)
          refine raw_update ties (.inl rfl) rfl rfl rfl (by kernel_rfl) rfl rfl (a7.ext X79) (fun w10 ch10 z10 hm10 => ?_)
          intro w11 x11
          refine ⟨_, IntWalk.i64_in _ (by omega), ?_⟩
          have z79 := X79.size
          have z11 := x11.size
          refine hK3 (j + 1, _) _ _ (vs3 (vint (by show (j : Int) + 1 = ((j + 1 : Nat) : Int); omega)) rfl rfl) ⟨⟨⟨((X7.trans X79).chg ch10 (fun b hb => by omega)).trans x11, by omega, OwnR.ext x11 (OwnR.chg (fun b h => h.elim) (fun b hb e => by have h1 : w5.heap.size = b := hb; omega) ch10 (ho7.ext X79))⟩, _, hm10.ext x11, hput⟩, by show j + 1 ≤ (vls vs).length; omega⟩ (by show (vls vs).length - (j + 1) < (vls vs).length - j; omega) ?_
          ((repeat (first | (with_reducible exact Only.refl) | (with_reducible refine Only.skip ?_) | ((with_reducible refine Only.upd ?_ ?_); rfl) | ((with_reducible refine Only.over ?_ ?_ _); rfl) | ((with_reducible refine Only.hav ?_ ?_ ?_); rfl; rfl))))
      ·
        as_aux_lemma =>
          have e : (rowV vs r).take j = rowV vs r := List.take_of_length_le (by rw [rowV_len]; omega)
          rw [e] at hm7
          refine ⟨tc x _, rfl, hb.ext (X4.trans X7), ?_⟩
          refine Or.inl ((hev r w7 _ (x1.trans (X4.trans X7)) hm7).mono ?_)
          rintro _ w8 ⟨rfl, x8⟩
          have e2 : 0 + ((r : Int)).toNat * 1 = r * 1 := by omega
          have hset := own_set (v := f r) (by rw [tqL_len hr]; exact hrP) e2 (ho7.ext x8)
          rw [tqL_set hrP] at hset
          have hch := Chg.setCell (S := fun b => b = w5.heap.size) w8 (p := ⟨w5.heap.size, 0 + ((r : Int)).toNat * 1, none⟩) rfl (.int .i64 (f r))
          refine ⟨⟨by omega, by omega⟩, hset.1, ?_⟩
          refine ⟨_, IntWalk.i64_in _ (by omega), ?_⟩
          refine hK2 (r + 1, _, _, _, _) _ _ (vs5 (vint (by show (r : Int) + 1 = ((r + 1 : Nat) : Int); omega)) rfl rfl rfl rfl) ⟨⟨(X7.trans x8).chg hch (fun b hb => by rw [hb]; exact x5.size), Nat.lt_of_lt_of_le (Nat.lt_of_lt_of_le z7 x8.size) hch.size, hset.2⟩, by show r + 1 ≤ P; omega⟩ (by show P - (r + 1) < P - r; omega) ?_
          ((repeat (first | (with_reducible exact Only.refl) | (with_reducible refine Only.skip ?_) | ((with_reducible refine Only.upd ?_ ?_); rfl) | ((with_reducible refine Only.over ?_ ?_ _); rfl) | ((with_reducible refine Only.hav ?_ ?_ ?_); rfl; rfl))))
  ·
    as_aux_lemma =>
      have e : r = P := by omega
      rw [e] at ho6
      exact hfin w6 X6 ho6
end Go.Proofs.Ytkoaicjcanplaaa
