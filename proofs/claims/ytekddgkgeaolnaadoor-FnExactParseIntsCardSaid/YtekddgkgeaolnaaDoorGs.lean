/- strings.Split at one byte; SplitLines, Words: both contracts. -/
import Derived.Test.YtekddgkgeaolnaaDoorGl
import Derived.Test.YtekddgkgeaolnaaDoorDj
import Derived.Test.YtekddgkgeaolnaaDoorIa
import Derived.Test.YtekddgkgeaolnaaDoorVk
namespace Go.Proofs.YtekddgkgeaolnaaDoor
open Go Go.Vc Go.RowKit
set_option linter.unusedVariables false

/-- The first elements of a row of one's own, as a slice. -/
theorem own_pre {α : Type} {E : Rep α} {ok : Nat → Prop} {w : World} {a : Option Addr} {cp n m : Nat} {l : List α} (h : OwnR E ok w (.slice a n cp) l) {k : Nat} (hk : k ≤ l.length) :
    OwnR E ok w (.slice (if cp = (0 : Int).toNat then a else a.map (·.add ((0 : Int).toNat * m))) ((k : Int).toNat - (0 : Int).toNat) (cp - (0 : Int).toNat)) (l.take k) ∧
    ∀ b, blk (.slice (if cp = (0 : Int).toNat then a else a.map (·.add ((0 : Int).toNat * m))) ((k : Int).toNat - (0 : Int).toNat) (cp - (0 : Int).toNat)) b → blk (.slice a n cp) b := by
  have hlt : (l.take k).length = k := by rw [List.length_take]; omega
  have hz : (0 : Int).toNat = 0 := rfl
  obtain ⟨a', c', he, h1, h2, h3⟩ := h
  cases he
  rw [hz, Int.toNat_natCast, Nat.sub_zero, Nat.sub_zero, Nat.zero_mul]
  by_cases h0 : cp = 0
  · rw [if_pos h0]
    refine ⟨⟨_, _, by rw [hlt], by omega, h2, .inl h0⟩, fun b hb => ?_⟩
    cases a with
    | none => cases hb
    | some a => exact hb
  · obtain ⟨B, rfl, hr, hat⟩ := h3.resolve_left h0
    rw [if_neg h0]
    have e : (some (⟨B, 0, none⟩ : Addr)).map (fun x => x.add 0) = some ⟨B, 0, none⟩ := rfl
    rw [e]
    exact ⟨⟨_, _, by rw [hlt], by omega, h2, .inr ⟨B, rfl, hr, hat.take⟩⟩, fun b hb => hb⟩
/-- What the search of strings.Split reads. -/
def MaxIs (W : World) : Prop := ∃ m, W.cell? ⟨Tryd.splitL_ren.g 1, 0, none⟩ = some (.int .i64 m)
theorem MaxIs.ext {W w : World} (h : MaxIs W) (x : Ext W w) : MaxIs w := h.imp fun m hm => x.cell hm
theorem maxIs_of {W : World} (h : W.ShapedOpen Tryd.prog) : MaxIs W := Tryd.splitL.s1_3 W h
theorem strs_row {ok : Nat → Prop} {w : World} {b : Nat} : ∀ {l : List ByteArray} {o : Nat}, CellsAt w b o (l.map Value.string) → RAt eS ok w l b o
  | [], _, _ => trivial
  | x :: l, o, h => ⟨⟨[.string x], ⟨h.1, trivial⟩, rfl⟩, strs_row h.2⟩
theorem split_ret (c : UInt8) (s : ByteArray) (W : World) (hm : MaxIs W) (hs : s.size ≤ 1048576) :
    Ret Tryd.prog 37 #[.string s, .string ⟨#[c]⟩] W (fun v w' => v = .slice (some ⟨W.heap.size, 0, none⟩) (splitS c s).length (splitS c s).length ∧ NewR eS noB W v w' (splitS c s)) := by
  refine ⟨⟨_, Tryd.func37, by kernel_rfl, by kernel_rfl⟩, ?_⟩
  refine Exists.elim hm fun m hm => ?_
  refine (Any.strings_Split (P := Tryd.prog) (ρ := Tryd.splitL_ren) { Tryd.splitL with } Tryd.splitL.i9 s ⟨#[c]⟩ m W (by omega) hm (Nat.le_refl 1)).mono fun e w' h => ⟨_, h.1, ?_, ?_⟩
  · have hl := Lib.splitB_all ⟨#[c]⟩ (Nat.le_refl 1) 0 _ s rfl
    rw [splitB_one] at hl
    rw [hl]
  · have hl := Lib.splitB_all ⟨#[c]⟩ (Nat.le_refl 1) 0 _ s rfl
    rw [splitB_one] at hl
    have h2 := h.2
    rw [splitB_one] at h2
    subst h2
    rw [← hl]
    have hb := boxedAll W ((splitS c s).map Value.string) 9
    have hn : (splitS c s).length ≤ maxLen := by
      have h3 := splitL_size (c := c) s.data.toList
      have h4 : s.data.toList.length = s.size := rfl
      unfold splitS
      rw [List.length_map]
      unfold maxLen
      omega
    refine ⟨Ext.new _ _, OwnR.new (E := eS) (by rw [List.length_map]; show _ = _ * 1; omega) hn (strs_row hb), fun b hb => ?_⟩
    have hb : W.heap.size = b := hb
    omega

theorem impl_SplitLines (s : ByteArray) (W : World) (hm : MaxIs W) (hs : s.size ≤ 1048576) : Ret Tryd.prog 11 #[.string s] W (fun v w' => NewR eS noB W v w' (linesS s)) := by
  have hlm : (maxLen : Int) ≤ 9223372036854775807 := by decide
  refine ret_of_vc ties mixed Tryd.func11 rfl (by kernel_rfl) rfl rfl ?_
  refine br_dec (fun h => ?_) (fun h => ?_)
  · subst h
    exact ⟨Ext.refl _, OwnR.nil _ _ _ _, fun b hb => by cases hb⟩
  refine Or.inl ((split_ret 10 s W hm hs).mono ?_)
  rintro _ w1 ⟨rfl, x1, ho, hb⟩
  have hne : splitS 10 s ≠ [] := fun e => splitL_ne 10 s.data.toList (List.map_eq_nil_iff.1 e)
  have hn0 : 0 < (splitS 10 s).length := List.length_pos_iff.2 hne
  have hl := linesS_split s
  have hlast : (splitS 10 s).getLast? = some ((splitS 10 s)[(splitS 10 s).length - 1]'(by omega)) := by rw [List.getLast?_eq_getElem?, List.getElem?_eq_getElem]
  rw [hlast] at hl
  have hsl := ho.sl (ok' := allB) (fun _ _ => trivial) (fun _ _ => trivial)
  obtain ⟨b, o, c, cs, he, -, hc, hcs⟩ := hsl.at (i := (splitS 10 s).length - 1) (by omega)
  cases he
  cases hcs
  obtain ⟨a', c', he, g1, g2, g3⟩ := id ho
  cases he
  have hi : ((splitS 10 s).length : Int) - 1 = (((splitS 10 s).length - 1 : Nat) : Int) := by omega
  refine ⟨_, (IntWalk.i64_in _ (by omega)).trans hi, ⟨by omega, by omega⟩, _, hc.1, ?_⟩
  refine br_dec (fun h2 => ?_) (fun h2 => ?_)
  · refine ⟨_, (IntWalk.i64_in _ (by omega)).trans hi, ⟨by omega, by omega, by omega⟩, ?_⟩
    rw [if_pos (congrArg some h2)] at hl
    have hp := own_pre (m := 1) ho (k := (splitS 10 s).length - 1) (by omega)
    rw [← List.dropLast_eq_take, ← hl] at hp
    exact ⟨x1, hp.1, fun b hb' => hb b (hp.2 b hb')⟩
  · rw [if_neg (fun e => h2 (Option.some.inj e))] at hl
    rw [hl]
    exact ⟨x1, ho, hb⟩
/-- A new row that is being filled. -/
def Nw (W : World) (w : World) (v : Value) (l : List ByteArray) : Prop := Ext W w ∧ OwnR eS noB w v l ∧ ∀ b, blk v b → W.heap.size ≤ b ∧ b < w.heap.size
theorem Nw.new {W w : World} {v : Value} {l : List ByteArray} (h : Nw W w v l) : NewR eS noB W v w l := ⟨h.1, h.2.1, fun b hb => (h.2.2 b hb).1⟩
theorem Nw.push {W w w' : World} {v v' : Value} {l k : List ByteArray} (h : Nw W w v l) (ho : OwnR eS noB w' v' k) (hch : Chg (blk v) w w') (hb : ∀ b, blk v' b → blk v b ∨ w.heap.size < b ∧ b < w'.heap.size) : Nw W w' v' k :=
  ⟨h.1.chg hch fun b hb => (h.2.2 b hb).1, ho, fun b hb' => (hb b hb').elim (fun e => ⟨(h.2.2 b e).1, Nat.lt_of_lt_of_le (h.2.2 b e).2 hch.size⟩) fun e => ⟨by have := h.1.size; omega, e.2⟩⟩
theorem Nw.empty (W : World) (n : Nat) : Nw W (W.alloc (.cells #[] n)) (.slice (some ⟨W.heap.size, 0, none⟩) 0 0) [] :=
  ⟨Ext.new _ _, OwnR.nil _ _ _ _, fun b hb => by have hb : W.heap.size = b := hb; rw [World.size_alloc]; omega⟩
theorem Nw.nil (W : World) : Nw W W (.slice none 0 0) [] := ⟨Ext.refl _, OwnR.nil _ _ _ _, fun b hb => by cases hb⟩
theorem cut_bytes (s : ByteArray) (i j : Nat) : s.extract i j = byS ((s.data.toList.drop i).take (j - i)) := by
  rw [← extract_toList, bytes_toList]
theorem byte_at {s : ByteArray} {i : Nat} (h : i < s.size) {c : UInt8} : s.data.toList[i]'h = c ↔ ((s[i]'h).toNat : Int) = c.toNat := by
  have e : s[i]'h = s.data.toList[i]'h := rfl
  rw [e]
  constructor
  · intro h; rw [h]
  · intro h; exact UInt8.toNat_inj.1 (by omega)
/-- What a loop over the bytes of a text knows of its lines. -/
structure LnI (s : ByteArray) (i f : Nat) (L : List ByteArray) : Prop where
  hi : f ≤ i ∧ i ≤ s.size
  sp : ∃ D, L = D.map byS ∧ splitL 10 s.data.toList = D ++ splitL 10 (s.data.toList.drop f)
  run : Run 10 s.data.toList f i
theorem LnI.cut {s : ByteArray} {i f : Nat} {L : List ByteArray} (h : LnI s i f L) (hi : i < s.size) (he : ((s[i]'hi).toNat : Int) = 10) : LnI s (i + 1) (i + 1) (L ++ [s.extract f i]) := by
  obtain ⟨D, h1, h2⟩ := h.sp
  have := h.hi
  refine ⟨by omega, ⟨D ++ [(s.data.toList.drop f).take (i - f)], ?_, ?_⟩, fun k hk1 hk2 => by omega⟩
  · rw [List.map_append, h1, cut_bytes]; rfl
  · exact lines_mid h2 h.hi.1 hi h.run.mem ((byte_at hi).2 he)
theorem LnI.step {s : ByteArray} {i f : Nat} {L : List ByteArray} (h : LnI s i f L) (hi : i < s.size) (he : ¬ ((s[i]'hi).toNat : Int) = 10) : LnI s (i + 1) f L := by
  have := h.hi
  refine ⟨by omega, h.sp, fun k hk1 hk2 b hb => ?_⟩
  by_cases e : k = i
  · subst e
    rw [List.getElem?_eq_getElem hi] at hb
    cases hb
    exact fun e => he ((byte_at hi).1 e)
  · exact h.run k hk1 (by omega) b hb
theorem LnI.last {s : ByteArray} {f : Nat} {L : List ByteArray} (h : LnI s s.size f L) (hf : f < s.size) : L ++ [s.extract f s.size] = linesS s := by
  obtain ⟨D, h1, h2⟩ := h.sp
  have hd : (s.data.toList.drop f).take (s.size - f) = s.data.toList.drop f := List.take_of_length_le (by rw [List.length_drop]; exact Nat.le_refl _)
  have hr := h.run.mem
  rw [hd] at hr
  unfold linesS
  rw [lines_end h2 hf hr, List.map_append, h1, cut_bytes, hd]; rfl
theorem LnI.none {s : ByteArray} {f : Nat} {L : List ByteArray} (h : LnI s s.size f L) (hf : ¬ f < s.size) : L = linesS s := by
  obtain ⟨D, h1, h2⟩ := h.sp
  unfold linesS
  rw [lines_none h2 (show s.data.toList.length ≤ f from Nat.le_of_not_lt hf), h1]
theorem spec_SplitLines (s : ByteArray) (W : World) (hs : s.size ≤ 1048576) : Ret Tryd.prog 10 #[.string s] W (fun v w' => NewR eS noB W v w' (linesS s)) := by
  have hlm : (maxLen : Int) ≤ 9223372036854775807 := by decide
  refine ret_of_vc ties mixed Tryd.func10 rfl (by kernel_rfl) rfl rfl ?_
  refine loop_rule (σ := Nat × Nat × Value × List ByteArray) [3, 4, 5] 6 26 (fun q => [q.2.2.1, .int .i64 q.2.1, .int .i64 q.1])
    (fun q w' => Nw W w' q.2.2.1 q.2.2.2 ∧ LnI s q.1 q.2.1 q.2.2.2 ∧ q.2.2.2.length ≤ q.1) (fun q => s.size - q.1) (0, 0, _, []) rfl ⟨Nw.empty W _, ⟨by show 0 ≤ 0 ∧ 0 ≤ s.size; omega, ⟨[], rfl, rfl⟩, fun k h1 h2 => by have h2 : k < 0 := h2; omega⟩, Nat.zero_le _⟩ ?_
  rintro ⟨i, f, out, L⟩ w junk ⟨hn, hl, hL⟩ K hK
  simp only at hn hl hL
  have hi := hl.hi
  show vc _ _ _ _ (over [3, 4, 5] [out, .int .i64 f, .int .i64 i] _) _
  refine br_dec (fun h3 => ?_) (fun h3 => ?_)
  · have hil : i < s.size := by omega
    refine ⟨⟨by omega, by show i < s.size; omega⟩, ?_⟩
    refine br_dec (fun h4 => ?_) (fun h4 => ?_)
    · refine ⟨⟨by omega, by omega, by omega⟩, ?_⟩
      refine raw_push (E := eS) (ok := noB) (x := s.extract f i) (cs := [.string (s.extract f i)]) ties rfl rfl rfl rfl rfl rfl rfl rfl rfl rfl rfl hn.2.1 rfl noB_blk (by show (L.length + 1) * 16 ≤ _; omega) (by omega) ?_
      intro v w2 hv hch hsz hvb
      refine ⟨_, IntWalk.i64_in _ (by omega), ?_⟩
      refine ⟨_, IntWalk.i64_in _ (by omega), ?_⟩
      refine hK (i + 1, i + 1, v, L ++ [s.extract f i]) _ _ (vs3 rfl (vint (by show (i : Int) + 1 = ((i + 1 : Nat) : Int); omega)) (vint (by show (i : Int) + 1 = ((i + 1 : Nat) : Int); omega))) ⟨hn.push hv hch hvb, hl.cut hil h4, by show (L ++ [_]).length ≤ i + 1; rw [List.length_append, List.length_singleton]; omega⟩ (by show s.size - (i + 1) < s.size - i; omega) ?_
      ((repeat (first | (with_reducible exact Only.refl) | (with_reducible refine Only.skip ?_) | ((with_reducible refine Only.upd ?_ ?_); rfl) | ((with_reducible refine Only.over ?_ ?_ _); rfl) | ((with_reducible refine Only.hav ?_ ?_ ?_); rfl; rfl))))
    · refine ⟨_, IntWalk.i64_in _ (by omega), ?_⟩
      refine hK (i + 1, f, out, L) _ _ (vs3 rfl rfl (vint (by show (i : Int) + 1 = ((i + 1 : Nat) : Int); omega))) ⟨hn, hl.step hil h4, by show L.length ≤ i + 1; omega⟩ (by show s.size - (i + 1) < s.size - i; omega) ?_
      ((repeat (first | (with_reducible exact Only.refl) | (with_reducible refine Only.skip ?_) | ((with_reducible refine Only.upd ?_ ?_); rfl) | ((with_reducible refine Only.over ?_ ?_ _); rfl) | ((with_reducible refine Only.hav ?_ ?_ ?_); rfl; rfl))))
  · have hie : i = s.size := by omega
    subst hie
    refine br_dec (fun h4 => ?_) (fun h4 => ?_)
    · refine ⟨⟨by omega, by omega, by omega⟩, ?_⟩
      refine raw_push (E := eS) (ok := noB) (x := s.extract f s.size) (cs := [.string (s.extract f s.size)]) ties rfl rfl rfl rfl rfl rfl rfl rfl rfl rfl rfl hn.2.1 rfl noB_blk (by show (L.length + 1) * 16 ≤ _; omega) (by omega) ?_
      intro v w2 hv hch hsz hvb
      rw [hl.last (by omega)] at hv
      exact (hn.push hv hch hvb).new
    · rw [hl.none (by omega)] at hn
      exact hn.new
end Go.Proofs.YtekddgkgeaolnaaDoor
