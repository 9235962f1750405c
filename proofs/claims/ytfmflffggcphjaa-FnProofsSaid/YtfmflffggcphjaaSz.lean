/- The reference's propagation: contracts of l03Set, l03Spread. -/
import Derived.Test.YtfmflffggcphjaaSy
namespace Go.Sat
/-- What is known of the literals that have been looked at; done: one of them is true. -/
def ScanD (v : List Int) (c : Cl) (done : Bool) (free : Nat) (last : Int) : Prop := (done = true ∧ ∃ x ∈ c, tr v x) ∨ (done = false ∧ Scan v c free last)
theorem scan_step {n : Nat} {v : List Int} {c : Cl} {done : Bool} {free : Nat} {last x y nv : Int} (hv : Vals n v) (hl : litOk n x = true) (hy : v[x.natAbs]? = some y) (hn : nv = if x < 0 then 0 - y else y) (hnew : x ∉ c) (h : ScanD v c done free last) :
    ScanD v (c ++ [x]) (done || decide (0 < nv)) (if nv = 0 then free + 1 else free) (if nv = 0 then x else last) := by
  have hl' := litOk_iff.1 hl
  have cases3 : (nv = 0 ∧ fre v x) ∨ (0 < nv ∧ tr v x) ∨ (nv < 0 ∧ tr v (-x)) := by
    rcases val_cases hv hl hy with ⟨h1, h2⟩ | ⟨h1, h2, h3⟩ | ⟨h1, h2, h3⟩
    · exact .inl ⟨by rw [hn, h1]; split <;> rfl, h2⟩
    · refine .inr (.inl ⟨?_, h3⟩)
      have h2 : (0 < y ↔ 0 < x) := by simpa using h2
      rw [hn]; split <;> omega
    · refine .inr (.inr ⟨?_, h3⟩)
      have h2 : ¬ (0 < y ↔ 0 < x) := by
        intro e
        simp [e] at h2
      rw [hn]; split <;> omega
  rcases h with ⟨rfl, z, hz, ht⟩ | ⟨rfl, hs⟩
  · exact .inl ⟨rfl, z, by simp [hz], ht⟩
  · rcases cases3 with ⟨h1, h2⟩ | ⟨h1, h2⟩ | ⟨h1, h2⟩
    · rw [if_pos h1, if_pos h1]
      exact .inr ⟨by simp [h1], hs.free h2 hnew⟩
    · exact .inl ⟨by simp [h1], x, by simp, h2⟩
    · rw [if_neg (by omega), if_neg (by omega)]
      exact .inr ⟨by rw [Bool.false_or]; exact decide_eq_false (by omega), hs.no h2⟩
theorem tdiv_sgn {l : Int} (h : l ≠ 0) : l.tdiv (av l) = sgn l := by
  unfold sgn av
  split
  · rw [show ((l.natAbs : Nat) : Int) = -l from by omega, Int.tdiv_neg, Int.tdiv_self h]
  · rw [show ((l.natAbs : Nat) : Int) = l from by omega, Int.tdiv_self h]
end Go.Sat
namespace Go.Proofs.Ytfmflffggcphjaa
open Go Go.Vc Go.RowKit Go.Sat
set_option linter.unusedVariables false

theorem vs6 {a b c d e f a' b' c' d' e' f' : Value} (h1 : a = a') (h2 : b = b') (h3 : c = c') (h4 : d = d') (h5 : e = e') (h6 : f = f') : [a, b, c, d, e, f] = [a', b', c', d', e', f'] := by rw [h1, h2, h3, h4, h5, h6]
theorem vs7 {a b c d e f g a' b' c' d' e' f' g' : Value} (h1 : a = a') (h2 : b = b') (h3 : c = c') (h4 : d = d') (h5 : e = e') (h6 : f = f') (h7 : g = g') : [a, b, c, d, e, f, g] = [a', b', c', d', e', f', g'] := by rw [h1, h2, h3, h4, h5, h6, h7]
theorem vs8 {a b c d e f g k a' b' c' d' e' f' g' k' : Value} (h1 : a = a') (h2 : b = b') (h3 : c = c') (h4 : d = d') (h5 : e = e') (h6 : f = f') (h7 : g = g') (h8 : k = k') : [a, b, c, d, e, f, g, k] = [a', b', c', d', e', f', g', k'] := by rw [h1, h2, h3, h4, h5, h6, h7, h8]

/-- A literal is made true in a row of values. -/
theorem own_put {n : Nat} {b c : Nat} {v : List Int} {w : World} {l : Int} (hv : Vals n v) (hl : litOk n l = true) (h : OwnR eI noB w (.slice (some ⟨b, 0, none⟩) v.length c) v) :
    Free w ⟨b, 0 + (av l).toNat * 1, none⟩ ∧ OwnR eI noB (w.setCell ⟨b, 0 + (av l).toNat * 1, none⟩ (.int .i64 (sgn l))) (.slice (some ⟨b, 0, none⟩) v.length c) (put v l) := by
  have hl' := litOk_iff.1 hl
  have hlen := hv.len
  obtain ⟨b', c', he, h1, h2, h3, h4, _⟩ := own_at h (i := 0) (by omega)
  cases he
  have hix := @av_ix l
  refine ⟨h3 _ (by omega), _, c, by unfold put; rw [List.length_set], by unfold put; rw [List.length_set]; exact h1, h2, .inr ⟨b, rfl, ?_, ?_⟩⟩
  · show Rmy _ b (c * 1)
    rw [Nat.mul_one c]; exact h3.setCell
  · unfold put
    exact RAt.set (cs := [.int .i64 (sgn l)]) (n := c) noB_ne h3 h4 rfl (by rw [show eI.m = 1 from rfl]; omega) (by omega) (by rw [show eI.m = 1 from rfl]; omega)

def SpreadR (n : Nat) (F : Cnf) (v : List Int) (vs : Value) (W : World) (r : Value) (w' : World) : Prop := Chg (blk vs) W w' ∧ ((r = .bool false ∧ Bad F (tr v)) ∨ (r = .bool true ∧ ∃ u, OwnR eI noB w' vs u ∧ Upr F n (tr v) (some u)))

set_option maxHeartbeats 4000000 in
theorem spread_ret (ok : Nat → Prop) (n : Nat) (F : Cnf) (s vs : Value) (v : List Int) (W : World) (hs : SlR eL ok W s F) (hok : ∀ b, ok b → ¬ blk vs b) (hF : fOk n F = true) (ho : OwnR eI noB W vs v) (hv : Vals n v) :
    Ret Try.prog 95 #[fv n s, vs] W (SpreadR n F v vs W) := by
  have hlm : (maxLen : Int) ≤ 9223372036854775807 := by decide
  have hn : n ≤ 400 ∧ F.length ≤ 1600 := by
    simp only [fOk, Bool.and_eq_true, decide_eq_true_eq] at hF; omega
  have hFc : ∀ c ∈ F, clOk n c = true := by
    simp only [fOk, Bool.and_eq_true, List.all_eq_true] at hF; exact hF.2
  have hvl := hv.len
  obtain ⟨a, c, rfl, hlc, hcm, -⟩ := id hs
  obtain ⟨vb, vcp, rfl, -⟩ := own_at ho (i := 0) (by omega)
  have hvbW : vb < W.heap.size := ho.blk_lt (by omega) vb rfl
  have hb := boxedAll W [.int .i64 n, .slice a F.length c] 25
  obtain ⟨W1, hW1⟩ : ∃ W1, (W.alloc (.cells [.int .i64 n, .slice a F.length c].toArray 25)) = W1 := ⟨_, rfl⟩
  have x1 : Ext W W1 := by rw [← hW1]; exact Ext.new _ _
  rw [hW1] at hb
  refine ret_of_vc ties mixed Try.func95 rfl (by kernel_rfl) rfl rfl ?_
  refine loop_rule (σ := Bool × Value × Value × Value × Value × Value × Value × List Int) [5, 7, 8, 9, 10, 12, 13] 14 64 (fun q => [.bool q.1, q.2.1, q.2.2.1, q.2.2.2.1, q.2.2.2.2.1, q.2.2.2.2.2.1, q.2.2.2.2.2.2.1])
    (fun q w' => Chg (fun b => b = vb) W1 w' ∧ OwnR eI noB w' (.slice (some ⟨vb, 0, none⟩) v.length vcp) q.2.2.2.2.2.2.2 ∧ Vals n q.2.2.2.2.2.2.2 ∧ (∀ l, tr v l → tr q.2.2.2.2.2.2.2 l) ∧ (∀ l, tr q.2.2.2.2.2.2.2 l → Der F (tr v) l) ∧ (q.1 = false → ∀ c ∈ F, Fine q.2.2.2.2.2.2.2 c))
    (fun q => 2 * zeros q.2.2.2.2.2.2.2 + if q.1 then 1 else 0) (true, undef, undef, undef, undef, undef, undef, v) rfl ⟨by subst hW1; exact Chg.refl _ _, by subst hW1; exact ho.ext x1, hv, fun _ h => h, fun _ h => .base h, fun h => (by cases h)⟩ ?_
  rintro ⟨again, j1, j2, j3, j4, j5, j6, v1⟩ w junk ⟨hch, ho1, hv1, hm1, hD1, hfin⟩ K hK
  simp only at ho1 hv1 hm1 hD1 hfin
  show vc _ _ _ _ (over [5, 7, 8, 9, 10, 12, 13] [.bool again, j1, j2, j3, j4, j5, j6] _) _
  refine br_split (fun h => ?_) (fun h => ?_) <;> subst h
  rotate_left
  · exact ⟨(Chg.of x1).trans (hch.mono fun b _ e => e ▸ rfl), .inr ⟨rfl, v1, ho1, .yes hv1 (hfin rfl) hm1 hD1⟩⟩
  have hP0 := (hch.cells (b := W.heap.size) (by omega) hb)
  refine ⟨_, hP0.2.1, ?_⟩
  refine loop_rule (σ := Nat × Bool × Value × Value × Value × Value × Value × Value × List Int) [5, 7, 8, 9, 10, 12, 13, 18] 19 64 (fun q => [.bool q.2.1, q.2.2.1, q.2.2.2.1, q.2.2.2.2.1, q.2.2.2.2.2.1, q.2.2.2.2.2.2.1, q.2.2.2.2.2.2.2.1, .int .i64 q.1])
    (fun q w' => Chg (fun b => b = vb) W1 w' ∧ q.1 ≤ F.length ∧ OwnR eI noB w' (.slice (some ⟨vb, 0, none⟩) v.length vcp) q.2.2.2.2.2.2.2.2 ∧ Vals n q.2.2.2.2.2.2.2.2 ∧ (∀ l, tr v l → tr q.2.2.2.2.2.2.2.2 l) ∧ (∀ l, tr q.2.2.2.2.2.2.2.2 l → Der F (tr v) l) ∧
      (q.2.1 = true ∧ zeros q.2.2.2.2.2.2.2.2 < zeros v1 ∨ q.2.1 = false ∧ q.2.2.2.2.2.2.2.2 = v1 ∧ ∀ c ∈ F.take q.1, Fine v1 c))
    (fun q => F.length - q.1) (0, false, j1, j2, j3, j4, j5, j6, v1) rfl ⟨hch, Nat.zero_le _, ho1, hv1, hm1, hD1, .inr ⟨rfl, rfl, fun c hc => (by cases hc)⟩⟩ ?_
  clear hP0 hfin ho1 hch
  rintro ⟨k, again, j1, j2, j3, j4, j5, j6, v2⟩ w junk ⟨hch, hk, ho2, hv2, hm2, hD2, hag⟩ K2 hK2
  simp only at hk ho2 hv2 hm2 hD2 hag
  show vc _ _ _ _ (over [5, 7, 8, 9, 10, 12, 13, 18] [.bool again, j1, j2, j3, j4, j5, j6, .int .i64 k] _) _
  have hchW := (Chg.of (S := fun b => b = vb) x1).trans hch
  refine br_dec (fun h3 => ?_) (fun h3 => ?_)
  · have hkl : k < F.length := by omega
    have hsw : SlR eL ok w _ F := hs.chg (S := fun b => b = vb) (fun b hb' e => hok b hb' (show vb = b from e.symm)) hchW
    obtain ⟨b, o, c1, cs1, he, hbok, hcell, s', rfl, hs'⟩ := hsw.at hkl
    cases he
    have hcl := hFc _ (List.getElem_mem hkl)
    have hclm := List.getElem_mem hkl
    have hfsn := take_snoc hkl
    obtain ⟨cl, hcle⟩ : ∃ cl, F[k]'hkl = cl := ⟨_, rfl⟩
    rw [hcle] at hcl hs' hclm hfsn
    have hcll := cl_len hcl
    have hlits := clOk_lits hcl
    obtain ⟨a', c', rfl, hlc', hcm', -⟩ := id hs'
    have hvl2 := hv2.len
    have hlen2 : v2.length = v.length := by omega
    have ho2' : OwnR eI noB w (.slice (some ⟨vb, 0, none⟩) v2.length vcp) v2 := by rw [hlen2]; exact ho2
    refine ⟨⟨by omega, by omega⟩, _, hcell.1, ?_⟩
    refine loop_rule (σ := Nat × Nat × Int × Bool × Value × Value) [8, 9, 10, 12, 13, 24] 25 64 (fun q => [.int .i64 q.2.1, .int .i64 q.2.2.1, .bool q.2.2.2.1, q.2.2.2.2.1, q.2.2.2.2.2, .int .i64 q.1])
      (fun q w' => w' = w ∧ q.1 ≤ cl.length ∧ q.2.1 ≤ q.1 ∧ ScanD v2 (cl.take q.1) q.2.2.2.1 q.2.1 q.2.2.1)
      (fun q => cl.length - q.1) (0, 0, 0, false, j5, j6) rfl ⟨rfl, Nat.zero_le _, Nat.le_refl _, .inr ⟨rfl, Scan.nil _ _⟩⟩ ?_
    rintro ⟨m, fr, lit, dn, j7, j8⟩ w junk ⟨rfl, hm, hfr, hinv⟩ K3 hK3
    simp only at hm hfr hinv
    show vc _ _ _ _ (over [8, 9, 10, 12, 13, 24] [.int .i64 fr, .int .i64 lit, .bool dn, j7, j8, .int .i64 m] _) _
    refine br_dec (fun h4 => ?_) (fun h4 => ?_)
    · have hml : m < cl.length := by omega
      obtain ⟨b5, o5, c5, cs5, he5, -, hcell5, rfl⟩ := hs'.at hml
      cases he5
      have hlk := hlits _ (List.getElem_mem hml)
      have hnew := cl_new hcl hml
      have hsn := take_snoc hml
      obtain ⟨x, hxe⟩ : ∃ x, cl[m]'hml = x := ⟨_, rfl⟩
      rw [hxe] at hcell5 hlk hnew hsn
      have hl' := litOk_iff.1 hlk
      have hix := @av_ix x
      obtain ⟨b6, c6, he6, g1, g2, -, -, g3⟩ := own_at ho2' (i := (av x).toNat) (by omega)
      cases he6
      have hget : v2[x.natAbs]? = some (v2[(av x).toNat]'(by omega)) := (congrArg (fun i => v2[i]?) av_ix).symm.trans (List.getElem?_eq_getElem _)
      obtain ⟨y, hy⟩ : ∃ y, v2[(av x).toNat]'(by omega) = y := ⟨_, rfl⟩
      rw [hy] at hget g3
      have hy3 := hv2.each _ _ hget
      refine ⟨⟨by omega, by omega⟩, _, hcell5.1, ?_⟩
      refine Or.inl ((l03Abs_ret _ _ (by omega)).mono ?_)
      rintro _ _ ⟨rfl, rfl⟩
      refine ⟨⟨by unfold av; omega, by unfold av; omega⟩, _, g3, ?_⟩
      refine br_dec (fun hneg => ?_) (fun hneg => ?_)
      · refine ⟨_, IntWalk.i64_in _ (by omega), ?_⟩
        have hst := scan_step (n := n) hv2 hlk hget (nv := (0 - y)) (by rw [if_pos hneg]) hnew hinv
        refine br_split (fun hd => ?_) (fun hd => ?_) <;> subst hd
        · refine br_dec (fun h0 => ?_) (fun h0 => ?_)
          · rw [if_pos h0, if_pos h0] at hst
            refine ⟨_, IntWalk.i64_in _ (by omega), _, IntWalk.i64_in _ (by omega), ?_⟩
            refine hK3 (m + 1, fr + 1, x, true, _, _) _ _ (vs6 (vint (by show (fr : Int) + 1 = ((fr + 1 : Nat) : Int); omega)) rfl rfl rfl rfl (vint (by show (m : Int) + 1 = ((m + 1 : Nat) : Int); omega))) ⟨rfl, by show m + 1 ≤ _; omega, by show fr + 1 ≤ m + 1; omega, ?_⟩ (by show cl.length - (m + 1) < cl.length - m; omega) ?_
            · show ScanD v2 (cl.take (m + 1)) _ (fr + 1) x
              rw [hsn]; simpa using hst
            · ((repeat (first | (with_reducible exact Only.refl) | (with_reducible refine Only.skip ?_) | ((with_reducible refine Only.upd ?_ ?_); rfl) | ((with_reducible refine Only.over ?_ ?_ _); rfl) | ((with_reducible refine Only.hav ?_ ?_ ?_); rfl; rfl))))
          · rw [if_neg h0, if_neg h0] at hst
            refine ⟨_, IntWalk.i64_in _ (by omega), ?_⟩
            refine hK3 (m + 1, fr, lit, true, _, _) _ _ (vs6 rfl rfl rfl rfl rfl (vint (by show (m : Int) + 1 = ((m + 1 : Nat) : Int); omega))) ⟨rfl, by show m + 1 ≤ _; omega, by show fr ≤ m + 1; omega, ?_⟩ (by show cl.length - (m + 1) < cl.length - m; omega) ?_
            · show ScanD v2 (cl.take (m + 1)) _ fr lit
              rw [hsn]; simpa using hst
            · ((repeat (first | (with_reducible exact Only.refl) | (with_reducible refine Only.skip ?_) | ((with_reducible refine Only.upd ?_ ?_); rfl) | ((with_reducible refine Only.over ?_ ?_ _); rfl) | ((with_reducible refine Only.hav ?_ ?_ ?_); rfl; rfl))))
        · refine br_dec (fun h0 => ?_) (fun h0 => ?_)
          · rw [if_pos h0, if_pos h0] at hst
            refine ⟨_, IntWalk.i64_in _ (by omega), _, IntWalk.i64_in _ (by omega), ?_⟩
            refine hK3 (m + 1, fr + 1, x, (decide (0 < (0 - y))), _, _) _ _ (vs6 (vint (by show (fr : Int) + 1 = ((fr + 1 : Nat) : Int); omega)) rfl rfl rfl rfl (vint (by show (m : Int) + 1 = ((m + 1 : Nat) : Int); omega))) ⟨rfl, by show m + 1 ≤ _; omega, by show fr + 1 ≤ m + 1; omega, ?_⟩ (by show cl.length - (m + 1) < cl.length - m; omega) ?_
            · show ScanD v2 (cl.take (m + 1)) _ (fr + 1) x
              rw [hsn]; simpa using hst
            · ((repeat (first | (with_reducible exact Only.refl) | (with_reducible refine Only.skip ?_) | ((with_reducible refine Only.upd ?_ ?_); rfl) | ((with_reducible refine Only.over ?_ ?_ _); rfl) | ((with_reducible refine Only.hav ?_ ?_ ?_); rfl; rfl))))
          · rw [if_neg h0, if_neg h0] at hst
            refine ⟨_, IntWalk.i64_in _ (by omega), ?_⟩
            refine hK3 (m + 1, fr, lit, (decide (0 < (0 - y))), _, _) _ _ (vs6 rfl rfl rfl rfl rfl (vint (by show (m : Int) + 1 = ((m + 1 : Nat) : Int); omega))) ⟨rfl, by show m + 1 ≤ _; omega, by show fr ≤ m + 1; omega, ?_⟩ (by show cl.length - (m + 1) < cl.length - m; omega) ?_
            · show ScanD v2 (cl.take (m + 1)) _ fr lit
              rw [hsn]; simpa using hst
            · ((repeat (first | (with_reducible exact Only.refl) | (with_reducible refine Only.skip ?_) | ((with_reducible refine Only.upd ?_ ?_); rfl) | ((with_reducible refine Only.over ?_ ?_ _); rfl) | ((with_reducible refine Only.hav ?_ ?_ ?_); rfl; rfl))))
      · have hst := scan_step (n := n) hv2 hlk hget (nv := y) (by rw [if_neg hneg]) hnew hinv
        refine br_split (fun hd => ?_) (fun hd => ?_) <;> subst hd
        · refine br_dec (fun h0 => ?_) (fun h0 => ?_)
          · rw [if_pos h0, if_pos h0] at hst
            refine ⟨_, IntWalk.i64_in _ (by omega), _, IntWalk.i64_in _ (by omega), ?_⟩
            refine hK3 (m + 1, fr + 1, x, true, _, _) _ _ (vs6 (vint (by show (fr : Int) + 1 = ((fr + 1 : Nat) : Int); omega)) rfl rfl rfl rfl (vint (by show (m : Int) + 1 = ((m + 1 : Nat) : Int); omega))) ⟨rfl, by show m + 1 ≤ _; omega, by show fr + 1 ≤ m + 1; omega, ?_⟩ (by show cl.length - (m + 1) < cl.length - m; omega) ?_
            · show ScanD v2 (cl.take (m + 1)) _ (fr + 1) x
              rw [hsn]; simpa using hst
            · ((repeat (first | (with_reducible exact Only.refl) | (with_reducible refine Only.skip ?_) | ((with_reducible refine Only.upd ?_ ?_); rfl) | ((with_reducible refine Only.over ?_ ?_ _); rfl) | ((with_reducible refine Only.hav ?_ ?_ ?_); rfl; rfl))))
          · rw [if_neg h0, if_neg h0] at hst
            refine ⟨_, IntWalk.i64_in _ (by omega), ?_⟩
            refine hK3 (m + 1, fr, lit, true, _, _) _ _ (vs6 rfl rfl rfl rfl rfl (vint (by show (m : Int) + 1 = ((m + 1 : Nat) : Int); omega))) ⟨rfl, by show m + 1 ≤ _; omega, by show fr ≤ m + 1; omega, ?_⟩ (by show cl.length - (m + 1) < cl.length - m; omega) ?_
            · show ScanD v2 (cl.take (m + 1)) _ fr lit
              rw [hsn]; simpa using hst
            · ((repeat (first | (with_reducible exact Only.refl) | (with_reducible refine Only.skip ?_) | ((with_reducible refine Only.upd ?_ ?_); rfl) | ((with_reducible refine Only.over ?_ ?_ _); rfl) | ((with_reducible refine Only.hav ?_ ?_ ?_); rfl; rfl))))
        · refine br_dec (fun h0 => ?_) (fun h0 => ?_)
          · rw [if_pos h0, if_pos h0] at hst
            refine ⟨_, IntWalk.i64_in _ (by omega), _, IntWalk.i64_in _ (by omega), ?_⟩
            refine hK3 (m + 1, fr + 1, x, (decide (0 < y)), _, _) _ _ (vs6 (vint (by show (fr : Int) + 1 = ((fr + 1 : Nat) : Int); omega)) rfl rfl rfl rfl (vint (by show (m : Int) + 1 = ((m + 1 : Nat) : Int); omega))) ⟨rfl, by show m + 1 ≤ _; omega, by show fr + 1 ≤ m + 1; omega, ?_⟩ (by show cl.length - (m + 1) < cl.length - m; omega) ?_
            · show ScanD v2 (cl.take (m + 1)) _ (fr + 1) x
              rw [hsn]; simpa using hst
            · ((repeat (first | (with_reducible exact Only.refl) | (with_reducible refine Only.skip ?_) | ((with_reducible refine Only.upd ?_ ?_); rfl) | ((with_reducible refine Only.over ?_ ?_ _); rfl) | ((with_reducible refine Only.hav ?_ ?_ ?_); rfl; rfl))))
          · rw [if_neg h0, if_neg h0] at hst
            refine ⟨_, IntWalk.i64_in _ (by omega), ?_⟩
            refine hK3 (m + 1, fr, lit, (decide (0 < y)), _, _) _ _ (vs6 rfl rfl rfl rfl rfl (vint (by show (m : Int) + 1 = ((m + 1 : Nat) : Int); omega))) ⟨rfl, by show m + 1 ≤ _; omega, by show fr ≤ m + 1; omega, ?_⟩ (by show cl.length - (m + 1) < cl.length - m; omega) ?_
            · show ScanD v2 (cl.take (m + 1)) _ fr lit
              rw [hsn]; simpa using hst
            · ((repeat (first | (with_reducible exact Only.refl) | (with_reducible refine Only.skip ?_) | ((with_reducible refine Only.upd ?_ ?_); rfl) | ((with_reducible refine Only.over ?_ ?_ _); rfl) | ((with_reducible refine Only.hav ?_ ?_ ?_); rfl; rfl))))
    · have : m = cl.length := by omega
      subst this
      rw [List.take_length] at hinv
      have hlast : ∀ y, fre v2 y → y ∈ cl → litOk n y = true := fun y _ hy => hlits y hy
      refine br_split (fun hd => ?_) (fun hd => ?_) <;> subst hd
      · have hfine : Fine v2 cl := by
          rcases hinv with ⟨_, h⟩ | ⟨h, _⟩
          · exact .inl h
          · cases h
        refine ⟨_, IntWalk.i64_in _ (by omega), ?_⟩
        refine hK2 (k + 1, again, _, _, _, _, _, _, v2) _ _ (vs8 rfl rfl rfl rfl rfl rfl rfl (vint (by show (k : Int) + 1 = ((k + 1 : Nat) : Int); omega))) ⟨hch, by show k + 1 ≤ _; omega, ho2, hv2, hm2, hD2, ?_⟩ (by show F.length - (k + 1) < F.length - k; omega) ?_
        · rcases hag with h | ⟨h, h1, h2⟩
          · exact .inl h
          · refine .inr ⟨h, h1, fun y hy => ?_⟩
            rw [hfsn] at hy
            rcases List.mem_append.1 hy with hy | hy
            · exact h2 y hy
            · rw [List.mem_singleton.1 hy, ← show v2 = v1 from h1]; exact hfine
        · ((repeat (first | (with_reducible exact Only.refl) | (with_reducible refine Only.skip ?_) | ((with_reducible refine Only.upd ?_ ?_); rfl) | ((with_reducible refine Only.over ?_ ?_ _); rfl) | ((with_reducible refine Only.hav ?_ ?_ ?_); rfl; rfl))))
      · have hsc : Scan v2 cl fr lit := by
          rcases hinv with ⟨h, _⟩ | ⟨_, h⟩
          · cases h
          · exact h
        refine br_dec (fun h5 => ?_) (fun h5 => ?_)
        · have hfine : Fine v2 cl := by
            rcases hsc with ⟨h, _⟩ | ⟨h, _⟩ | ⟨_, h⟩
            · omega
            · omega
            · exact .inr h
          refine ⟨_, IntWalk.i64_in _ (by omega), ?_⟩
          refine hK2 (k + 1, again, _, _, _, _, _, _, v2) _ _ (vs8 rfl rfl rfl rfl rfl rfl rfl (vint (by show (k : Int) + 1 = ((k + 1 : Nat) : Int); omega))) ⟨hch, by show k + 1 ≤ _; omega, ho2, hv2, hm2, hD2, ?_⟩ (by show F.length - (k + 1) < F.length - k; omega) ?_
          · rcases hag with h | ⟨h, h1, h2⟩
            · exact .inl h
            · refine .inr ⟨h, h1, fun y hy => ?_⟩
              rw [hfsn] at hy
              rcases List.mem_append.1 hy with hy | hy
              · exact h2 y hy
              · rw [List.mem_singleton.1 hy, ← show v2 = v1 from h1]; exact hfine
          · ((repeat (first | (with_reducible exact Only.refl) | (with_reducible refine Only.skip ?_) | ((with_reducible refine Only.upd ?_ ?_); rfl) | ((with_reducible refine Only.over ?_ ?_ _); rfl) | ((with_reducible refine Only.hav ?_ ?_ ?_); rfl; rfl))))
        · refine br_dec (fun h6 => ?_) (fun h6 => ?_)
          · refine ⟨hchW.mono fun b _ e => e ▸ rfl, .inl ⟨rfl, .inr ⟨cl, hclm, fun y hy => hD2 _ ?_⟩⟩⟩
            rcases hsc with ⟨_, h⟩ | ⟨h, _⟩ | ⟨h, _⟩
            · exact h y hy
            · omega
            · omega
          · obtain ⟨hlm2, hlf, hlall⟩ : lit ∈ cl ∧ fre v2 lit ∧ ∀ x ∈ cl, x ≠ lit → tr v2 (-x) := by
              rcases hsc with ⟨h, _⟩ | ⟨_, h⟩ | ⟨h, _⟩
              · omega
              · exact h
              · omega
            have hlo := hlits lit hlm2
            have hlo' := litOk_iff.1 hlo
            have hix := @av_ix lit
            obtain ⟨hfree, hown⟩ := own_put hv2 hlo ho2'
            rw [hlen2] at hown
            have hzp := zeros_put hlf
            refine Or.inl ((l03Abs_ret _ _ (by omega)).mono ?_)
            rintro _ _ ⟨rfl, rfl⟩
            refine Or.inl ((l03Abs_ret _ _ (by omega)).mono ?_)
            rintro _ _ ⟨rfl, rfl⟩
            refine ⟨by unfold av; omega, sgn lit, by rw [tdiv_sgn hlo'.1]; exact IntWalk.i64_in _ (by unfold sgn; split <;> omega), ⟨by unfold av; omega, by unfold av; omega⟩, hfree, ?_⟩
            refine ⟨_, IntWalk.i64_in _ (by omega), ?_⟩
            refine hK2 (k + 1, true, _, _, _, _, _, _, put v2 lit) _ _ (vs8 rfl rfl rfl rfl rfl rfl rfl (vint (by show (k : Int) + 1 = ((k + 1 : Nat) : Int); omega))) ⟨hch.trans (Chg.one _ _ _ _), by show k + 1 ≤ _; omega, hown, put_vals hv2 hlo, fun y hy => put_mono hv2 hlo hlf (hm2 y hy), Der.of_tr hv2 hD2 hclm hlm2 hlall hlo hlf, .inl ⟨rfl, ?_⟩⟩ (by show F.length - (k + 1) < F.length - k; omega) ?_
            · show zeros (put v2 lit) < zeros v1
              rcases hag with ⟨_, h⟩ | ⟨_, h, _⟩
              · have h : zeros v2 < zeros v1 := h
                omega
              · rw [← show v2 = v1 from h]; omega
            · ((repeat (first | (with_reducible exact Only.refl) | (with_reducible refine Only.skip ?_) | ((with_reducible refine Only.upd ?_ ?_); rfl) | ((with_reducible refine Only.over ?_ ?_ _); rfl) | ((with_reducible refine Only.hav ?_ ?_ ?_); rfl; rfl))))
  · have : k = F.length := by omega
    subst this
    rw [List.take_length] at hag
    refine hK (again, _, _, _, _, _, _, v2) _ _ (vs7 rfl rfl rfl rfl rfl rfl rfl) ⟨hch, ho2, hv2, hm2, hD2, fun e c hc => ?_⟩ ?_ ?_
    · rcases hag with ⟨h, _⟩ | ⟨_, h1, h2⟩
      · rw [show again = true from h] at e; cases e
      · show Fine v2 c
        rw [h1]; exact h2 c hc
    · show 2 * zeros v2 + (if again = true then 1 else 0) < 2 * zeros v1 + (if true = true then 1 else 0)
      rcases hag with ⟨h, h1⟩ | ⟨h, h1, _⟩
      · rw [show again = true from h, if_pos rfl]; omega
      · rw [show again = false from h, h1]; simp
    · ((repeat (first | (with_reducible exact Only.refl) | (with_reducible refine Only.skip ?_) | ((with_reducible refine Only.upd ?_ ?_); rfl) | ((with_reducible refine Only.over ?_ ?_ _); rfl) | ((with_reducible refine Only.hav ?_ ?_ ?_); rfl; rfl))))

end Go.Proofs.Ytfmflffggcphjaa
