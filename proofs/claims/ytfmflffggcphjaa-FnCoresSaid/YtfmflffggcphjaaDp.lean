/- Helpers of the laws: a row of the bits of a number, two rows of numbers compared; cells of rows of numbers and of truths. Arguments that are rows of bytes, opened; facts that the laws of clauses share. -/
import Derived.Test.YtfmflffggcphjaaTh
import Derived.Test.YtfmflffggcphjaaDt
import Derived.Test.YtfmflffggcphjaaIo
import Derived.Test.YtfmflffggcphjaaEv
namespace Go.Proofs.Ytfmflffggcphjaa.Dr
open Go Go.Vc Go.RowKit Go.Sat
set_option linter.unusedVariables false

theorem ints_cells {w : World} {a : Option Addr} {n c : Nat} {l : List Int} (h : SlR eI allB w (.slice a n c) l) : ∀ i, (hi : i < l.length) → ∃ b o x, a = some ⟨b, o, none⟩ ∧ l[i]'hi = x ∧ w.cell? ⟨b, o + i * 1, none⟩ = some (.int .i64 x) := by
  intro i hi
  obtain ⟨b, o, c1, cs, he, _, hc, rfl⟩ := h.at hi
  cases he
  exact ⟨b, o, _, rfl, rfl, hc.1⟩
theorem bools_cells {w : World} {s : Value} {l : List Bool} (h : SlR eB allB w s l) (h0 : 0 < l.length) : ∃ b o c, s = .slice (some ⟨b, o, none⟩) l.length c ∧ ∀ j : Int, 0 ≤ j → j < l.length → w.cell? ⟨b, o + j.toNat * 1, none⟩ = some (.bool (l.getD j.toNat false)) := by
  obtain ⟨b, o, c, cs, rfl, _, _, _⟩ := h.at h0
  refine ⟨b, o, c, rfl, fun j h1 h2 => ?_⟩
  obtain ⟨b', o', c', cs', he, _, hc, rfl⟩ := h.at (i := j.toNat) (by omega)
  cases he
  rw [List.getD_eq_getElem?_getD, List.getElem?_eq_getElem (by omega)]
  exact hc.1
theorem satL_pos {m : List Bool} {x : Int} (h : 0 < x) : satL m x = m.getD (x - 1).toNat false := by
  unfold satL
  rw [decide_eq_true h, av_pos (by omega)]; simp
theorem satL_not {m : List Bool} {x : Int} (h : x < 0) : satL m x = !m.getD (-x - 1).toNat false := by
  unfold satL
  rw [decide_eq_false (by omega), av_neg h]; simp

set_option maxRecDepth 200000 in
set_option maxHeartbeats 1000000 in
theorem bools_ret (n k : Nat) (hn : n ≤ 12) (hk : k ≤ 4096) (W : World) : Ret Try.prog 46 #[.int .i64 n, .int .i64 k] W (fun v w' => Ext W w' ∧ SlR eB allB w' v (bitsOf n k)) := by
  have hlm : (maxLen : Int) ≤ 9223372036854775807 := by decide
  refine ret_of_vc ties mixed Try.func46 rfl (by kernel_rfl) rfl rfl ?_
  refine loop_rule (σ := Nat × Value) [5, 6] 8 22 (fun q => [q.2, .int .i64 q.1])
    (fun q w' => Ext W w' ∧ q.1 ≤ n ∧ OwnR eB noB w' q.2 ((bitsOf n k).take q.1) ∧ ∀ b, blk q.2 b → W.heap.size ≤ b) (fun q => n - q.1) (0, .slice (some ⟨W.heap.size, 0, none⟩) 0 0) rfl ⟨Ext.new _ _, Nat.zero_le _, OwnR.nil _ _ _ _, fun b hb => by cases hb; exact Nat.le_refl _⟩ ?_
  rintro ⟨i, mv⟩ w1 junk ⟨hx1, hi, ho, hob⟩ K' hK'
  simp only at hi ho hob
  show vc _ _ _ _ (over [5, 6] [mv, .int .i64 i] _) _
  refine br_dec (fun h4 => ?_) (fun h4 => ?_)
  · have hiN : i < n := by omega
    have hlen : ((bitsOf n k).take i).length = i := by rw [List.length_take, bitsOf_len]; omega
    refine ⟨by omega, _, rfl, _, rfl, ?_⟩
    refine raw_push (E := eB) (ok := noB) (x := bitAt k i) ties rfl rfl rfl rfl rfl rfl rfl rfl rfl rfl rfl ho rfl noB_blk (by rw [hlen]; show (i + 1) * 1 ≤ _; omega) (by omega) ?_
    intro v w2 hv hch hsz hvb
    refine ⟨_, IntWalk.i64_in _ (by omega), ?_⟩
    refine hK' (i + 1, v) _ _ (vs2 rfl (vint (by show (i : Int) + 1 = ((i + 1 : Nat) : Int); omega))) ⟨hx1.chg hch hob, by show i + 1 ≤ n; omega, ?_, fun b hb => ?_⟩ (by show n - (i + 1) < n - i; omega) ?_
    · show OwnR eB noB w2 v ((bitsOf n k).take (i + 1))
      rw [take_snoc (by rw [bitsOf_len]; exact hiN), bitsOf_get hiN]
      exact hv
    · rcases hvb b hb with h | h
      · exact hob b h
      · exact Nat.le_trans hx1.size (Nat.le_of_lt h.1)
    · ((repeat (first | (with_reducible exact Only.refl) | (with_reducible refine Only.skip ?_) | ((with_reducible refine Only.upd ?_ ?_); rfl) | ((with_reducible refine Only.over ?_ ?_ _); rfl) | ((with_reducible refine Only.hav ?_ ?_ ?_); rfl; rfl))))
  · have : i = n := by omega
    subst this
    rw [List.take_of_length_le (by rw [bitsOf_len]; exact Nat.le_refl _)] at ho
    exact ⟨hx1, ho.sl (fun _ _ => trivial) (fun _ _ => trivial)⟩

theorem take_eq_next {l m : List Int} {i : Nat} (hi : i < l.length) (hm : i < m.length) (h : l.take i = m.take i) (he : m[i]'hm = l[i]'hi) : l.take (i + 1) = m.take (i + 1) := by
  rw [List.take_succ_eq_append_getElem hi, List.take_succ_eq_append_getElem hm, h, he]
set_option maxRecDepth 200000 in
set_option maxHeartbeats 1000000 in
theorem ints_ret (l m : List Int) (s t : Value) (W : World) (hs : SlR eI allB W s l) (ht : SlR eI allB W t m) : Ret Try.prog 45 #[s, t] W (fun v w' => v = .bool (decide (l = m)) ∧ W = w') := by
  have hlm : (maxLen : Int) ≤ 9223372036854775807 := by decide
  obtain ⟨a, c, rfl, hlc, hcm, -⟩ := id hs
  obtain ⟨a2, c2, rfl, hlc2, hcm2, -⟩ := id ht
  have hcs := ints_cells hs
  have hct := ints_cells ht
  refine ret_of_vc ties mixed Try.func45 rfl (by kernel_rfl) rfl rfl ?_
  refine loop_rule (σ := Nat × Value × Value) [5, 6, 9] 10 32 (fun q => [q.2.1, q.2.2, .int .i64 q.1]) (fun q w' => W = w' ∧ q.1 ≤ l.length ∧ q.1 ≤ m.length ∧ l.take q.1 = m.take q.1) (fun q => l.length - q.1) (0, undef, undef) rfl ⟨rfl, Nat.zero_le _, Nat.zero_le _, rfl⟩ ?_
  rintro ⟨i, y5, y6⟩ w junk ⟨rfl, hi, him, htk⟩ K hK
  simp only at hi him htk
  show vc _ _ _ _ (over [5, 6, 9] [y5, y6, .int .i64 i] _) _
  refine br_dec (fun h3 => ?_) (fun h3 => ?_)
  · have hil : i < l.length := by omega
    refine Exists.elim (hcs i hil) fun b h => Exists.elim h fun o h => Exists.elim h fun x h => ?_
    have hla := h.1
    have hxe := h.2.1
    have hc1 := h.2.2
    clear h
    subst hla
    refine ⟨⟨by omega, by omega⟩, _, hc1, ?_⟩
    refine br_dec (fun h4 => ?_) (fun h4 => ?_)
    · exact ⟨vbool (decide_eq_false (fun e => by rw [e] at hil; omega)).symm, rfl⟩
    have hml : i < m.length := by omega
    refine Exists.elim (hct i hml) fun b' h => Exists.elim h fun o' h => Exists.elim h fun y h => ?_
    have hlb := h.1
    have hye := h.2.1
    have hc2 := h.2.2
    clear h
    subst hlb
    refine ⟨⟨by omega, by omega⟩, _, hc2, ?_⟩
    refine br_dec (fun h5 => ?_) (fun h5 => ?_)
    · exact ⟨vbool (decide_eq_false (fun e => h5 (by subst e; rw [← hxe, ← hye]))).symm, rfl⟩
    refine ⟨_, IntWalk.i64_in _ (by omega), ?_⟩
    refine hK (i + 1, _, _) _ _ (vs3 rfl rfl (vint (by show (i : Int) + 1 = ((i + 1 : Nat) : Int); omega))) ⟨rfl, by show i + 1 ≤ _; omega, by show i + 1 ≤ _; omega, take_eq_next hil hml htk (by rw [hxe, hye]; exact Decidable.of_not_not h5)⟩ (by show l.length - (i + 1) < l.length - i; omega) ?_
    ((repeat (first | (with_reducible exact Only.refl) | (with_reducible refine Only.skip ?_) | ((with_reducible refine Only.upd ?_ ?_); rfl) | ((with_reducible refine Only.over ?_ ?_ _); rfl) | ((with_reducible refine Only.hav ?_ ?_ ?_); rfl; rfl))))
  · have hil : i = l.length := by omega
    subst hil
    refine ⟨vbool ?_, rfl⟩
    rw [List.take_length] at htk
    by_cases e : l = m
    · rw [decide_eq_true e, decide_eq_true (by rw [e])]
    · rw [decide_eq_false e]
      refine decide_eq_false (fun h => e ?_)
      rw [htk, List.take_of_length_le (by omega)]

end Go.Proofs.Ytfmflffggcphjaa.Dr
namespace Go.Proofs.Ytfmflffggcphjaa.Dr
open Go Go.Vc Go.RowKit Go.Sat
set_option linter.unusedVariables false
section
variable {H : Type} {enc : TypeId × Value → H} {W : World}
theorem node_byte (n : Nat) (cs : List Value) (y : DataW H × List MemPlace) (h : DataW.trod enc Try.prog W 0 (fun _ => true) true n 5 cs = some y) : ∃ x, eU.R (fun _ => True) W x cs ∧ True := by
  obtain ⟨v, hv, _, hw⟩ := DataW.trod_int Try.underlying5 h
  exact ⟨v, hv, trivial⟩
set_option maxRecDepth 100000 in
theorem open_Bytes {r : Reach} {b0 : Nat} {v : Value} {d : DataW H} {ps : List MemPlace} (hval : Value.okWide Try.prog W r b0 22 v)
    (hd : DataW.Trod enc Try.prog W 0 (fun _ => true) true 22 v d ps) : ∃ l, SlR eU allB W v l := by
  obtain ⟨a, len, cap, rfl⟩ := Go.WideShapes.okWide_slice Try.underlying22 hval
  obtain ⟨fuel, h⟩ := hd
  obtain ⟨s, l, h1, h2, h3⟩ := slR_of eU Try.underlying22 (by kernel_rfl) (fun n cs y h => node_byte n cs y h) h
  have h1 : [Value.slice a len cap] = [s] := h1
  cases h1
  exact ⟨l, h2⟩
end
end Go.Proofs.Ytfmflffggcphjaa.Dr
