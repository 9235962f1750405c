/- Words: both contracts. -/
import Derived.Test.YtekddgkgeaolnaaDoorGs
namespace Go.Proofs.YtekddgkgeaolnaaDoor
open Go Go.Vc Go.RowKit
set_option linter.unusedVariables false

def frm : Option Nat → Int
  | none => -1
  | some f => f
def beg (i : Nat) : Option Nat → Nat
  | none => i
  | some f => f
/-- What a loop over the bytes of a text knows of its words. -/
structure WdI (s : ByteArray) (i : Nat) (f : Option Nat) (L : List ByteArray) : Prop where
  hi : i ≤ s.size + 1
  sp : ∃ D, L = D.map byS ∧ wordsL s.data.toList = D ++ wordsL (s.data.toList.drop (beg i f))
  run : ∀ k, f = some k → k < i ∧ i ≤ s.size ∧ Run 32 s.data.toList k i
theorem WdI.gap {s : ByteArray} {i : Nat} {L : List ByteArray} (h : WdI s i none L) (hi : i < s.size) (he : ((s[i]'hi).toNat : Int) = 32) : WdI s (i + 1) none L := by
  obtain ⟨D, h1, h2⟩ := h.sp
  exact ⟨by omega, ⟨D, h1, words_gap h2 hi ((byte_at hi).2 he)⟩, fun k hk => by cases hk⟩
theorem WdI.over {s : ByteArray} {L : List ByteArray} (h : WdI s s.size none L) : WdI s (s.size + 1) none L := by
  obtain ⟨D, h1, h2⟩ := h.sp
  refine ⟨Nat.le_refl _, ⟨D, h1, ?_⟩, fun k hk => by cases hk⟩
  rw [words_none h2 (Nat.le_refl _)]
  show D = D ++ wordsL (s.data.toList.drop (s.size + 1))
  rw [List.drop_eq_nil_of_le (show s.data.toList.length ≤ s.size + 1 from Nat.le_succ _), wordsL_nil, List.append_nil]
theorem WdI.cut {s : ByteArray} {i f : Nat} {L : List ByteArray} (h : WdI s i (some f) L) (hi : i < s.size) (he : ((s[i]'hi).toNat : Int) = 32) : WdI s (i + 1) none (L ++ [s.extract f i]) := by
  obtain ⟨D, h1, h2⟩ := h.sp
  obtain ⟨g1, g2, g3⟩ := h.run f rfl
  refine ⟨by omega, ⟨D ++ [(s.data.toList.drop f).take (i - f)], ?_, words_mid h2 g1 hi g3.mem ((byte_at hi).2 he)⟩, fun k hk => by cases hk⟩
  rw [List.map_append, h1, cut_bytes]; rfl
theorem WdI.last {s : ByteArray} {f : Nat} {L : List ByteArray} (h : WdI s s.size (some f) L) : WdI s (s.size + 1) none (L ++ [s.extract f s.size]) := by
  obtain ⟨D, h1, h2⟩ := h.sp
  obtain ⟨g1, g2, g3⟩ := h.run f rfl
  have hd : (s.data.toList.drop f).take (s.size - f) = s.data.toList.drop f := List.take_of_length_le (by rw [List.length_drop]; exact Nat.le_refl _)
  have hr := g3.mem
  rw [hd] at hr
  refine ⟨Nat.le_refl _, ⟨D ++ [s.data.toList.drop f], ?_, ?_⟩, fun k hk => by cases hk⟩
  · rw [List.map_append, h1, cut_bytes, hd]; rfl
  · rw [words_end h2 g1 hr]
    show _ = _ ++ wordsL (s.data.toList.drop (s.size + 1))
    rw [List.drop_eq_nil_of_le (show s.data.toList.length ≤ s.size + 1 from Nat.le_succ _), wordsL_nil, List.append_nil]
    rfl
theorem WdI.begin {s : ByteArray} {i : Nat} {L : List ByteArray} (h : WdI s i none L) (hi : i < s.size) (he : ¬ ((s[i]'hi).toNat : Int) = 32) : WdI s (i + 1) (some i) L := by
  refine ⟨by omega, h.sp, fun k hk => ?_⟩
  cases hk
  refine ⟨by omega, by omega, fun k hk1 hk2 b hb => ?_⟩
  have : k = i := by omega
  subst this
  rw [List.getElem?_eq_getElem hi] at hb
  cases hb
  exact fun e => he ((byte_at hi).1 e)
theorem WdI.step {s : ByteArray} {i f : Nat} {L : List ByteArray} (h : WdI s i (some f) L) (hi : i < s.size) (he : ¬ ((s[i]'hi).toNat : Int) = 32) : WdI s (i + 1) (some f) L := by
  refine ⟨by omega, h.sp, fun k hk => ?_⟩
  cases hk
  obtain ⟨g1, g2, g3⟩ := h.run f rfl
  refine ⟨by omega, by omega, fun k hk1 hk2 b hb => ?_⟩
  by_cases e : k = i
  · subst e
    rw [List.getElem?_eq_getElem hi] at hb
    cases hb
    exact fun e => he ((byte_at hi).1 e)
  · exact g3 k hk1 (by omega) b hb
theorem WdI.fin {s : ByteArray} {f : Option Nat} {L : List ByteArray} (h : WdI s (s.size + 1) f L) : L = wordsS s := by
  obtain ⟨D, h1, h2⟩ := h.sp
  cases f with
  | some f => have := h.run f rfl; omega
  | none =>
    unfold wordsS
    rw [words_none h2 (show s.data.toList.length ≤ s.size + 1 from Nat.le_succ _), h1]

theorem spec_Words (s : ByteArray) (W : World) (hs : s.size ≤ 1048576) : Ret Tryd.prog 15 #[.string s] W (fun v w' => NewR eS noB W v w' (wordsS s)) := by
  have hlm : (maxLen : Int) ≤ 9223372036854775807 := by decide
  refine ret_of_vc ties mixed Tryd.func15 rfl (by kernel_rfl) rfl rfl ?_
  refine loop_rule (σ := Nat × Option Nat × Value × List ByteArray × Value) [3, 4, 5, 6] 7 44 (fun q => [q.2.2.1, .int .i64 (frm q.2.1), .int .i64 q.1, q.2.2.2.2])
    (fun q w' => Nw W w' q.2.2.1 q.2.2.2.1 ∧ WdI s q.1 q.2.1 q.2.2.2.1 ∧ q.2.2.2.1.length ≤ q.1) (fun q => s.size + 1 - q.1) (0, none, _, [], undef) rfl ⟨Nw.empty W _, ⟨by show 0 ≤ s.size + 1; omega, ⟨[], rfl, rfl⟩, fun k h => by cases h⟩, Nat.zero_le _⟩ ?_
  rintro ⟨i, f, out, L, g⟩ w junk ⟨hn, hl, hL⟩ K hK
  simp only at hn hl hL
  have hi := hl.hi
  show vc _ _ _ _ (over [3, 4, 5, 6] [out, .int .i64 (frm f), .int .i64 i, g] _) _
  refine br_dec (fun h3 => ?_) (fun h3 => ?_)
  · by_cases hA : (i : Int) = s.size
    · have hie : i = s.size := by omega
      cases f with
      | none =>
        refine br_dec_true hA ?_
        refine ⟨_, IntWalk.i64_in _ (by omega), ?_⟩
        refine hK (i + 1, none, out, L, .bool true) _ _ (vs4 rfl rfl (vint (by show (i : Int) + 1 = ((i + 1 : Nat) : Int); omega)) rfl) ⟨hn, ?_, by show L.length ≤ i + 1; omega⟩ (by show s.size + 1 - (i + 1) < s.size + 1 - i; omega) ?_
        · subst hie; exact hl.over
        · ((repeat (first | (with_reducible exact Only.refl) | (with_reducible refine Only.skip ?_) | ((with_reducible refine Only.upd ?_ ?_); rfl) | ((with_reducible refine Only.over ?_ ?_ _); rfl) | ((with_reducible refine Only.hav ?_ ?_ ?_); rfl; rfl))))
      | some f =>
        have hf := hl.run f rfl
        refine br_dec_true hA ?_
        refine ⟨⟨by show (0 : Int) ≤ (f : Int); omega, by show (f : Int) ≤ i; omega, by omega⟩, ?_⟩
        refine raw_push (E := eS) (ok := noB) (x := s.extract f i) (cs := [.string (s.extract f i)]) ties rfl rfl rfl rfl rfl rfl rfl rfl rfl rfl rfl hn.2.1 rfl noB_blk (by show (L.length + 1) * 16 ≤ _; omega) (by omega) ?_
        intro v w2 hv hch hsz hvb
        refine ⟨_, IntWalk.i64_in _ (by omega), ?_⟩
        refine hK (i + 1, none, v, L ++ [s.extract f i], .bool true) _ _ (vs4 rfl rfl (vint (by show (i : Int) + 1 = ((i + 1 : Nat) : Int); omega)) rfl) ⟨hn.push hv hch hvb, ?_, by show (L ++ [_]).length ≤ i + 1; rw [List.length_append, List.length_singleton]; omega⟩ (by show s.size + 1 - (i + 1) < s.size + 1 - i; omega) ?_
        · subst hie; exact hl.last
        · ((repeat (first | (with_reducible exact Only.refl) | (with_reducible refine Only.skip ?_) | ((with_reducible refine Only.upd ?_ ?_); rfl) | ((with_reducible refine Only.over ?_ ?_ _); rfl) | ((with_reducible refine Only.hav ?_ ?_ ?_); rfl; rfl))))
    · have hil : i < s.size := by omega
      refine br_dec_false hA ?_
      refine ⟨⟨by omega, by show i < s.size; omega⟩, ?_⟩
      by_cases h4 : ((s[i]'hil).toNat : Int) = 32
      · cases f with
        | none =>
          repeat (first | refine br_dec_true h4 ?_ | refine br_ndec (fun h => absurd h4 h) (fun _ => ?_))
          refine ⟨_, IntWalk.i64_in _ (by omega), ?_⟩
          refine hK (i + 1, none, out, L, _) _ _ (vs4 rfl rfl (vint (by show (i : Int) + 1 = ((i + 1 : Nat) : Int); omega)) rfl) ⟨hn, hl.gap hil h4, by show L.length ≤ i + 1; omega⟩ (by show s.size + 1 - (i + 1) < s.size + 1 - i; omega) ?_
          ((repeat (first | (with_reducible exact Only.refl) | (with_reducible refine Only.skip ?_) | ((with_reducible refine Only.upd ?_ ?_); rfl) | ((with_reducible refine Only.over ?_ ?_ _); rfl) | ((with_reducible refine Only.hav ?_ ?_ ?_); rfl; rfl))))
        | some f =>
          have hf := hl.run f rfl
          repeat (first | refine br_dec_true h4 ?_ | refine br_ndec (fun h => absurd h4 h) (fun _ => ?_))
          refine ⟨⟨by show (0 : Int) ≤ (f : Int); omega, by show (f : Int) ≤ i; omega, by omega⟩, ?_⟩
          refine raw_push (E := eS) (ok := noB) (x := s.extract f i) (cs := [.string (s.extract f i)]) ties rfl rfl rfl rfl rfl rfl rfl rfl rfl rfl rfl hn.2.1 rfl noB_blk (by show (L.length + 1) * 16 ≤ _; omega) (by omega) ?_
          intro v w2 hv hch hsz hvb
          repeat (first | refine br_dec_true h4 ?_ | refine br_ndec (fun h => absurd h4 h) (fun _ => ?_))
          refine ⟨_, IntWalk.i64_in _ (by omega), ?_⟩
          refine hK (i + 1, none, v, L ++ [s.extract f i], _) _ _ (vs4 rfl rfl (vint (by show (i : Int) + 1 = ((i + 1 : Nat) : Int); omega)) rfl) ⟨hn.push hv hch hvb, hl.cut hil h4, by show (L ++ [_]).length ≤ i + 1; rw [List.length_append, List.length_singleton]; omega⟩ (by show s.size + 1 - (i + 1) < s.size + 1 - i; omega) ?_
          ((repeat (first | (with_reducible exact Only.refl) | (with_reducible refine Only.skip ?_) | ((with_reducible refine Only.upd ?_ ?_); rfl) | ((with_reducible refine Only.over ?_ ?_ _); rfl) | ((with_reducible refine Only.hav ?_ ?_ ?_); rfl; rfl))))
      · cases f with
        | none =>
          repeat (first | refine br_dec_false h4 ?_ | refine br_ndec (fun _ => ?_) (fun h => absurd h h4))
          refine ⟨_, IntWalk.i64_in _ (by omega), ?_⟩
          refine hK (i + 1, some i, out, L, _) _ _ (vs4 rfl rfl (vint (by show (i : Int) + 1 = ((i + 1 : Nat) : Int); omega)) rfl) ⟨hn, hl.begin hil h4, by show L.length ≤ i + 1; omega⟩ (by show s.size + 1 - (i + 1) < s.size + 1 - i; omega) ?_
          ((repeat (first | (with_reducible exact Only.refl) | (with_reducible refine Only.skip ?_) | ((with_reducible refine Only.upd ?_ ?_); rfl) | ((with_reducible refine Only.over ?_ ?_ _); rfl) | ((with_reducible refine Only.hav ?_ ?_ ?_); rfl; rfl))))
        | some f =>
          repeat (first | refine br_dec_false h4 ?_ | refine br_ndec (fun _ => ?_) (fun h => absurd h h4))
          refine ⟨_, IntWalk.i64_in _ (by omega), ?_⟩
          refine hK (i + 1, some f, out, L, _) _ _ (vs4 rfl rfl (vint (by show (i : Int) + 1 = ((i + 1 : Nat) : Int); omega)) rfl) ⟨hn, hl.step hil h4, by show L.length ≤ i + 1; omega⟩ (by show s.size + 1 - (i + 1) < s.size + 1 - i; omega) ?_
          ((repeat (first | (with_reducible exact Only.refl) | (with_reducible refine Only.skip ?_) | ((with_reducible refine Only.upd ?_ ?_); rfl) | ((with_reducible refine Only.over ?_ ?_ _); rfl) | ((with_reducible refine Only.hav ?_ ?_ ?_); rfl; rfl))))
  · have hie : i = s.size + 1 := by omega
    subst hie
    rw [hl.fin] at hn
    exact hn.new
theorem impl_Words (s : ByteArray) (W : World) (hm : MaxIs W) (hs : s.size ≤ 1048576) : Ret Tryd.prog 16 #[.string s] W (fun v w' => NewR eS noB W v w' (wordsS s)) := by
  have hlm : (maxLen : Int) ≤ 9223372036854775807 := by decide
  have hln : (splitS 32 s).length ≤ s.size + 1 := by unfold splitS; rw [List.length_map]; exact splitL_size _
  rw [wordsS_split]
  refine ret_of_vc ties mixed Tryd.func16 rfl (by kernel_rfl) rfl rfl ?_
  refine Or.inl ((split_ret 32 s W hm hs).mono ?_)
  rintro _ w1 ⟨rfl, hn1⟩
  have hsl := hn1.sl
  have x1 := hn1.1
  refine loop_rule (σ := Nat × Value × List ByteArray × Value × Value) [3, 4, 5, 9] 10 21 (fun q => [q.2.1, q.2.2.2.1, q.2.2.2.2, .int .i64 q.1])
    (fun q w' => Nw w1 w' q.2.1 q.2.2.1 ∧ q.1 ≤ (splitS 32 s).length ∧ q.2.2.1 = ((splitS 32 s).take q.1).filter (fun p => decide (p ≠ ⟨#[]⟩)) ∧ q.2.2.1.length ≤ q.1) (fun q => (splitS 32 s).length - q.1) (0, _, [], undef, undef) rfl ⟨Nw.nil w1, Nat.zero_le _, rfl, Nat.zero_le _⟩ ?_
  rintro ⟨i, out, L, g4, g5⟩ w junk ⟨hn, hi, hl, hL⟩ K hK
  simp only at hn hi hl hL
  show vc _ _ _ _ (over [3, 4, 5, 9] [out, g4, g5, .int .i64 i] _) _
  refine br_dec (fun h3 => ?_) (fun h3 => ?_)
  · have hil : i < (splitS 32 s).length := by omega
    obtain ⟨b, o, c, cs, he, -, hc, hcs⟩ := hsl.at hil
    cases he
    cases hcs
    have htk : (splitS 32 s).take (i + 1) = (splitS 32 s).take i ++ [(splitS 32 s)[i]'hil] := take_snoc hil
    refine ⟨⟨by omega, by omega⟩, _, hn.1.cell hc.1, ?_⟩
    refine br_dec (fun h4 => ?_) (fun h4 => ?_)
    · refine raw_push (E := eS) (ok := noB) (x := (splitS 32 s)[i]'hil) (cs := [.string ((splitS 32 s)[i]'hil)]) ties rfl rfl rfl rfl rfl rfl rfl rfl rfl rfl rfl hn.2.1 rfl noB_blk (by show (L.length + 1) * 16 ≤ _; omega) (by omega) ?_
      intro v w2 hv hch hsz hvb
      refine ⟨_, IntWalk.i64_in _ (by omega), ?_⟩
      refine hK (i + 1, v, L ++ [(splitS 32 s)[i]'hil], _, _) _ _ (vs4 rfl rfl rfl (vint (by show (i : Int) + 1 = ((i + 1 : Nat) : Int); omega))) ⟨hn.push hv hch hvb, by show i + 1 ≤ _; omega, ?_, by show (L ++ [_]).length ≤ i + 1; rw [List.length_append, List.length_singleton]; omega⟩ (by show (splitS 32 s).length - (i + 1) < (splitS 32 s).length - i; omega) ?_
      · show L ++ [_] = ((splitS 32 s).take (i + 1)).filter _
        rw [htk, List.filter_append, ← hl, List.filter_cons_of_pos (by simpa using h4), List.filter_nil]
      · ((repeat (first | (with_reducible exact Only.refl) | (with_reducible refine Only.skip ?_) | ((with_reducible refine Only.upd ?_ ?_); rfl) | ((with_reducible refine Only.over ?_ ?_ _); rfl) | ((with_reducible refine Only.hav ?_ ?_ ?_); rfl; rfl))))
    · refine ⟨_, IntWalk.i64_in _ (by omega), ?_⟩
      refine hK (i + 1, out, L, _, _) _ _ (vs4 rfl rfl rfl (vint (by show (i : Int) + 1 = ((i + 1 : Nat) : Int); omega))) ⟨hn, by show i + 1 ≤ _; omega, ?_, by show L.length ≤ i + 1; omega⟩ (by show (splitS 32 s).length - (i + 1) < (splitS 32 s).length - i; omega) ?_
      · show L = ((splitS 32 s).take (i + 1)).filter _
        rw [htk, List.filter_append, ← hl, List.filter_cons_of_neg (by simpa using h4), List.filter_nil, List.append_nil]
      · ((repeat (first | (with_reducible exact Only.refl) | (with_reducible refine Only.skip ?_) | ((with_reducible refine Only.upd ?_ ?_); rfl) | ((with_reducible refine Only.over ?_ ?_ _); rfl) | ((with_reducible refine Only.hav ?_ ?_ ?_); rfl; rfl))))
  · have hie : i = (splitS 32 s).length := by omega
    subst hie
    rw [List.take_length] at hl
    subst hl
    exact ⟨x1.trans hn.1, hn.2.1, fun b hb => Nat.le_trans x1.size (hn.2.2 b hb).1⟩
end Go.Proofs.YtekddgkgeaolnaaDoor
