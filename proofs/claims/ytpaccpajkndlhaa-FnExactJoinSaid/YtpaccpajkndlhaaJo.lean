/- Rows of strings: sizes, opened arguments; contracts of szStringS and of both Joins. -/
import Derived.Test.YtpaccpajkndlhaaJl
import Derived.Test.YtpaccpajkndlhaaIa
import Derived.WideShapes
namespace Go.Proofs.Ytpaccpajkndlhaa
open Go Go.Vc Go.RowKit
set_option linter.unusedVariables false

def tot (l : List ByteArray) : Nat := (l.map (·.size)).sum
theorem tot_snoc (l : List ByteArray) (x : ByteArray) : tot (l ++ [x]) = tot l + x.size := by simp [tot]
theorem tot_take_le {l : List ByteArray} {k : Nat} : tot (l.take k) ≤ tot l := by
  have h : tot l = tot (l.take k) + tot (l.drop k) := by
    unfold tot
    rw [← List.sum_append_nat, ← List.map_append, List.take_append_drop]
  omega
theorem strs_cells {w : World} {a : Option Addr} {n c : Nat} {l : List ByteArray} (h : SlR eS allB w (.slice a n c) l) : ∀ i, (hi : i < l.length) → ∃ b o x, a = some ⟨b, o, none⟩ ∧ l[i]'hi = x ∧ w.cell? ⟨b, o + i * 1, none⟩ = some (.string x) := by
  intro i hi
  obtain ⟨b, o, c1, cs, he, _, hc, rfl⟩ := h.at hi
  cases he
  exact ⟨b, o, _, rfl, rfl, hc.1⟩
theorem szStringS_ret (l : List ByteArray) (s : Value) (left : Int) (W : World) (hs : SlR eS allB W s l) (hp : ∀ x ∈ l, x.size ≤ maxLen) (h0 : 0 ≤ left ∧ left ≤ 1048576) :
    Ret Try.prog 23 #[s, .int .i64 left] W (fun v w' => W = w' ∧ ∃ r, v = .int .i64 r ∧ (0 ≤ r → (l.length : Int) + tot l ≤ left)) := by
  have hlm : (maxLen : Int) ≤ 9223372036854775807 := by decide
  obtain ⟨a, c, rfl, hlc, hcm, -⟩ := id hs
  have hcs := strs_cells hs
  refine ret_of_vc ties mixed Try.func23 rfl (by kernel_rfl) rfl rfl ?_
  refine ⟨_, IntWalk.i64_in _ (by omega), ?_⟩
  refine br_dec (fun h => ⟨rfl, -1, rfl, fun h => by omega⟩) (fun h1 => ?_)
  refine loop_rule (σ := Nat × Int) [1, 5] 12 28 (fun q => [.int .i64 q.2, .int .i64 q.1]) (fun q w' => W = w' ∧ q.1 ≤ l.length ∧ 0 ≤ q.2 ∧ q.2 + l.length + tot (l.take q.1) = left) (fun q => l.length - q.1) (0, left - l.length) rfl ⟨rfl, Nat.zero_le _, by omega, by simp [tot]⟩ ?_
  rintro ⟨i, r⟩ w junk ⟨rfl, hi, hr0, hr⟩ K hK
  simp only at hi hr0 hr
  show vc _ _ _ _ (over [1, 5] [.int .i64 r, .int .i64 i] _) _
  refine br_dec (fun h3 => ?_) (fun h3 => ?_)
  · have hil : i < l.length := by omega
    refine Exists.elim (hcs i hil) fun b h => Exists.elim h fun o h => Exists.elim h fun x h => ?_
    have hla := h.1
    have hxe := h.2.1
    have hc1 := h.2.2
    clear h
    subst hla
    have hxs := hp _ (List.getElem_mem hil)
    have htk : tot (l.take (i + 1)) = tot (l.take i) + x.size := by rw [take_snoc hil, hxe, tot_snoc]
    rw [hxe] at hxs
    refine ⟨⟨by omega, by omega⟩, _, hc1, _, IntWalk.i64_in _ (by omega), ?_⟩
    refine br_dec (fun h4 => ?_) (fun h4 => ?_)
    · exact ⟨rfl, -1, rfl, fun h => by omega⟩
    refine ⟨_, IntWalk.i64_in _ (by omega), ?_⟩
    refine hK (i + 1, _) _ _ (vs2 rfl (vint (by show (i : Int) + 1 = ((i + 1 : Nat) : Int); omega))) ⟨rfl, by show i + 1 ≤ _; omega, by show 0 ≤ r - (x.size : Int); omega, by show r - (x.size : Int) + l.length + tot (l.take (i + 1)) = left; rw [htk]; omega⟩ (by show l.length - (i + 1) < l.length - i; omega) ?_
    ((repeat (first | (with_reducible exact Only.refl) | (with_reducible refine Only.skip ?_) | ((with_reducible refine Only.upd ?_ ?_); rfl) | ((with_reducible refine Only.over ?_ ?_ _); rfl) | ((with_reducible refine Only.hav ?_ ?_ ?_); rfl; rfl))))
  · have hil : i = l.length := by omega
    subst hil
    rw [List.take_length] at hr
    exact ⟨rfl, r, rfl, fun _ => by omega⟩

section
variable {H : Type} {enc : TypeId × Value → H} {W : World}
theorem node_str (n : Nat) (cs : List Value) (y : DataW H × List MemPlace) (h : DataW.trod enc Try.prog W 0 (fun _ => true) true n 9 cs = some y) : ∃ x : ByteArray, eS.R (fun _ => True) W x cs ∧ x.size ≤ maxLen := by
  obtain ⟨v, hv, _, hw⟩ := DataW.trod_string Try.underlying9 h
  exact ⟨v, hv, hw⟩
set_option maxRecDepth 100000 in
theorem open_Strings {r : Reach} {b0 : Nat} {v : Value} {d : DataW H} {ps : List MemPlace} (hval : Value.okWide Try.prog W r b0 43 v)
    (hd : DataW.Trod enc Try.prog W 0 (fun _ => true) true 43 v d ps) : ∃ l, SlR eS allB W v l ∧ ∀ x ∈ l, x.size ≤ maxLen := by
  obtain ⟨a, len, cap, rfl⟩ := Go.WideShapes.okWide_slice Try.underlying43 hval
  obtain ⟨fuel, h⟩ := hd
  obtain ⟨s, l, h1, h2, h3⟩ := slR_of eS Try.underlying43 (by kernel_rfl) (fun n cs y h => node_str n cs y h) h
  have h1 : [Value.slice a len cap] = [s] := h1
  cases h1
  exact ⟨l, h2, h3⟩
end

/-- What Join gives. -/
def joinB (l : List ByteArray) (sep : ByteArray) : ByteArray := ⟨(Lib.join (l.map (·.data.toList)) sep.data.toList).toArray⟩
theorem data_app (a b : ByteArray) : (a ++ b).data.toList = a.data.toList ++ b.data.toList := by simp [ByteArray.data_append]
theorem joinB_one (x sep : ByteArray) : joinB [x] sep = x := by
  unfold joinB
  rw [List.map_cons, List.map_nil, Lib.join_one]
theorem joinB_snoc {l : List ByteArray} {x sep : ByteArray} (h : l ≠ []) : joinB (l ++ [x]) sep = joinB l sep ++ sep ++ x := by
  match l, h with
  | y :: r, _ =>
    apply ByteArray.ext
    apply Array.ext'
    rw [data_app, data_app]
    unfold joinB
    simp only [List.cons_append, List.map_cons, List.map_append, List.map_nil, Lib.join_cons, Lib.joinTail, List.flatten_append, List.flatten_cons, List.flatten_nil, List.append_nil, List.append_assoc]
theorem join_len (l : List ByteArray) (sep : ByteArray) : (Lib.join (l.map (·.data.toList)) sep.data.toList).length ≤ tot l + l.length * sep.size := by
  have hl : ∀ l : List ByteArray, Lib.lens (l.map (·.data.toList)) = tot l := fun l => by
    induction l with
    | nil => rfl
    | cons x l ih => simp only [Lib.lens, tot, List.map_cons, List.sum_cons] at ih ⊢; rw [ih]; rfl
  match l with
  | [] => simp [Lib.join_nil]
  | x :: r =>
    have := hl (x :: r)
    rw [List.map_cons] at this ⊢
    rw [Lib.join_length, this, List.length_map]
    have e : sep.data.toList.length = sep.size := rfl
    rw [e, Nat.mul_comm, List.length_cons, Nat.add_mul]
    omega

theorem joinB_size (l : List ByteArray) (sep : ByteArray) : (joinB l sep).size ≤ tot l + l.length * sep.size := by
  have := join_len l sep
  show (Lib.join (l.map (·.data.toList)) sep.data.toList).toArray.size ≤ _
  rwa [List.size_toArray]
theorem impl_Join (l : List ByteArray) (sep : ByteArray) (s : Value) (W : World) (hs : SlR eS allB W s l) (hl : l.length + tot l ≤ 1048576) (hsep : sep.size ≤ 1048576) :
    Ret Try.prog 26 #[s, .string sep] W (fun v w' => v = .string (joinB l sep) ∧ Ext W w') := by
  have hJ : Ret Try.prog 52 #[s, .string sep] W (fun v w' => v = .string (joinB l sep) ∧ Ext W w') := by
    obtain ⟨a, c, rfl, hlc, hcm, hat⟩ := id hs
    refine ⟨⟨_, Try.func52, by kernel_rfl, by kernel_rfl⟩, ?_⟩
    by_cases h0 : l.length = 0
    · have := List.length_eq_zero_iff.1 h0
      subst this
      exact (Any.strings_Join_none (P := Try.prog) (ρ := Try.joinL_ren) Try.joinL Try.joinX a c sep W).mono fun e w' h => ⟨_, h.1, rfl, h.2 ▸ Ext.refl _⟩
    · obtain ⟨b, o, rfl, _, hr⟩ := hat.resolve_left h0
      have hb : b < W.heap.size := by
        obtain ⟨cs, hc, hR⟩ := hr.get (List.getElem?_eq_getElem (show 0 < l.length by omega))
        rw [hR] at hc
        exact World.block_lt_of_cell? _ _ hc.1
      have hlen := join_len l sep
      have hmul : l.length * sep.size ≤ 1048576 * 1048576 := Nat.mul_le_mul (by omega) hsep
      have hm47 : maxLen ≤ 140737488355328 ∨ True := .inr trivial
      refine (Any.strings_Join (P := Try.prog) (ρ := Try.joinL_ren) Try.joinL Try.joinX b o c l sep W (fun j x hx => ?_) hb (by omega) hlc (by omega)).mono fun e w' h => ⟨_, h.1, rfl, h.2⟩
      obtain ⟨cs, hc, hR⟩ := hr.get hx
      rw [hR] at hc
      have := hc.1
      rwa [show o + j * eS.m = o + j from by show o + j * 1 = _; omega] at this
  refine ret_of_vc ties mixed Try.func26 rfl (by kernel_rfl) rfl rfl ?_
  refine Or.inl ((hJ).mono ?_)
  rintro _ w2 ⟨rfl, x2⟩
  exact ⟨rfl, x2⟩

theorem spec_Join (l : List ByteArray) (sep : ByteArray) (s : Value) (W : World) (hs : SlR eS allB W s l) (hl : l.length + tot l ≤ 1048576) (hsep : sep.size ≤ 1048576) :
    Ret Try.prog 24 #[s, .string sep] W (fun v w' => v = .string (joinB l sep) ∧ W = w') := by
  have hlm : (maxLen : Int) ≤ 9223372036854775807 := by decide
  obtain ⟨a, c, rfl, hlc, hcm, -⟩ := id hs
  have hcs := strs_cells hs
  refine ret_of_vc ties mixed Try.func24 rfl (by kernel_rfl) rfl rfl ?_
  refine loop_rule (σ := Nat × ByteArray × Value × Value) [5, 6, 7, 10] 11 25 (fun q => [.string q.2.1, q.2.2.1, q.2.2.2, .int .i64 q.1]) (fun q w' => W = w' ∧ q.1 ≤ l.length ∧ q.2.1 = joinB (l.take q.1) sep) (fun q => l.length - q.1) (0, ⟨#[]⟩, undef, undef) rfl ⟨rfl, Nat.zero_le _, rfl⟩ ?_
  rintro ⟨i, r, y6, y7⟩ w junk ⟨rfl, hi, hr⟩ K hK
  simp only at hi hr
  show vc _ _ _ _ (over [5, 6, 7, 10] [.string r, y6, y7, .int .i64 i] _) _
  refine br_dec (fun h3 => ?_) (fun h3 => ?_)
  · have hil : i < l.length := by omega
    refine Exists.elim (hcs i hil) fun b h => Exists.elim h fun o h => Exists.elim h fun x h => ?_
    have hla := h.1
    have hxe := h.2.1
    have hc1 := h.2.2
    clear h
    subst hla
    have htk : l.take (i + 1) = l.take i ++ [x] := by rw [take_snoc hil, hxe]
    have hrs : r.size ≤ 2097152 * 1048576 := by
      have h1 := joinB_size (l.take i) sep
      have h2 : tot (l.take i) ≤ tot l := tot_take_le
      have h3 : (l.take i).length * sep.size ≤ 1048576 * 1048576 := Nat.mul_le_mul (by rw [List.length_take]; omega) hsep
      rw [hr]; omega
    have hxs : x.size ≤ 1048576 := by
      have h2 : tot (l.take (i + 1)) ≤ tot l := tot_take_le
      rw [htk, tot_snoc] at h2
      omega
    have hss : (r ++ sep).size = r.size + sep.size := ByteArray.size_append
    refine ⟨⟨by omega, by omega⟩, _, hc1, ?_⟩
    refine br_dec (fun h4 => ?_) (fun h4 => ?_)
    · refine ⟨by omega, by omega, ?_⟩
      refine ⟨_, IntWalk.i64_in _ (by omega), ?_⟩
      refine hK (i + 1, r ++ sep ++ x, _, _) _ _ (vs4 rfl rfl rfl (vint (by show (i : Int) + 1 = ((i + 1 : Nat) : Int); omega))) ⟨rfl, by show i + 1 ≤ _; omega, ?_⟩ (by show l.length - (i + 1) < l.length - i; omega) ?_
      · show r ++ sep ++ x = joinB (l.take (i + 1)) sep
        rw [htk, joinB_snoc (fun h => by have := congrArg List.length h; rw [List.length_take, List.length_nil] at this; omega), hr]
      · ((repeat (first | (with_reducible exact Only.refl) | (with_reducible refine Only.skip ?_) | ((with_reducible refine Only.upd ?_ ?_); rfl) | ((with_reducible refine Only.over ?_ ?_ _); rfl) | ((with_reducible refine Only.hav ?_ ?_ ?_); rfl; rfl))))
    · refine ⟨by omega, ?_⟩
      refine ⟨_, IntWalk.i64_in _ (by omega), ?_⟩
      have hi0 : i = 0 := by omega
      subst hi0
      refine hK (0 + 1, r ++ x, _, _) _ _ (vs4 rfl rfl rfl (vint (by show ((0 : Nat) : Int) + 1 = ((0 + 1 : Nat) : Int); omega))) ⟨rfl, by show 0 + 1 ≤ _; omega, ?_⟩ (by show l.length - (0 + 1) < l.length - 0; omega) ?_
      · show r ++ x = joinB (l.take (0 + 1)) sep
        rw [htk, List.take_zero, List.nil_append, joinB_one, hr]
        apply ByteArray.ext
        apply Array.ext'
        rw [data_app]
        rfl
      · ((repeat (first | (with_reducible exact Only.refl) | (with_reducible refine Only.skip ?_) | ((with_reducible refine Only.upd ?_ ?_); rfl) | ((with_reducible refine Only.over ?_ ?_ _); rfl) | ((with_reducible refine Only.hav ?_ ?_ ?_); rfl; rfl))))
  · have hil : i = l.length := by omega
    subst hil
    rw [List.take_length] at hr
    exact ⟨vstr hr, rfl⟩

end Go.Proofs.Ytpaccpajkndlhaa
