/- ParseInts: both contracts. -/
import Derived.Test.YtekddgkgeaolnaaDoorGp
import Derived.Test.YtekddgkgeaolnaaDoorGs
namespace Go.Proofs.YtekddgkgeaolnaaDoor
open Go Go.Vc Go.RowKit
set_option linter.unusedVariables false

theorem vs5q {a b c d e a' b' c' d' e' : Value} (h1 : a = a') (h2 : b = b') (h3 : c = c') (h4 : d = d') (h5 : e = e') : [a, b, c, d, e] = [a', b', c', d', e'] := by rw [h1, h2, h3, h4, h5]
noncomputable def psI (s : ByteArray) : List Int × Bool := if s.size = 0 then ([], true) else if (splitS 32 s).all (fun p => (pI p).2) = true then ((splitS 32 s).map (fun p => (pI p).1), true) else ([], false)
theorem psI_nil {s : ByteArray} (h : s.size = 0) : psI s = ([], true) := if_pos h
theorem psI_yes {s : ByteArray} (h : s.size ≠ 0) (ha : ∀ p ∈ splitS 32 s, (pI p).2 = true) : psI s = ((splitS 32 s).map (fun p => (pI p).1), true) := by
  unfold psI
  rw [if_neg h, if_pos (List.all_eq_true.2 ha)]
theorem psI_no {s : ByteArray} (h : s.size ≠ 0) {p : ByteArray} (hp : p ∈ splitS 32 s) (hb : (pI p).2 = false) : psI s = ([], false) := by
  unfold psI
  rw [if_neg h, if_neg (fun e => by have := List.all_eq_true.1 e p hp; rw [hb] at this; cases this)]
/-- What both give: a row of numbers, and whether the text was good. -/
def PsR (s : ByteArray) (W : World) (v : Value) (w' : World) : Prop := ∃ u, v = .tuple #[u, .bool (psI s).2] ∧ NewR eI noB W u w' (psI s).1
/-- A row of numbers that is being filled. -/
def Ni (W : World) (w : World) (v : Value) (l : List Int) : Prop := Ext W w ∧ OwnR eI noB w v l ∧ ∀ b, blk v b → W.heap.size ≤ b ∧ b < w.heap.size
theorem Ni.new {W w : World} {v : Value} {l : List Int} (h : Ni W w v l) : NewR eI noB W v w l := ⟨h.1, h.2.1, fun b hb => (h.2.2 b hb).1⟩
theorem Ni.ext {W w w' : World} {v : Value} {l : List Int} (h : Ni W w v l) (x : Ext w w') : Ni W w' v l := ⟨h.1.trans x, h.2.1.ext x, fun b hb => ⟨(h.2.2 b hb).1, Nat.lt_of_lt_of_le (h.2.2 b hb).2 x.size⟩⟩
theorem Ni.push {W w w' : World} {v v' : Value} {l k : List Int} (h : Ni W w v l) (ho : OwnR eI noB w' v' k) (hch : Chg (blk v) w w') (hb : ∀ b, blk v' b → blk v b ∨ w.heap.size < b ∧ b < w'.heap.size) : Ni W w' v' k :=
  ⟨h.1.chg hch fun b hb => (h.2.2 b hb).1, ho, fun b hb' => (hb b hb').elim (fun e => ⟨(h.2.2 b e).1, Nat.lt_of_lt_of_le (h.2.2 b e).2 hch.size⟩) fun e => ⟨by have := h.1.size; omega, e.2⟩⟩
theorem Ni.empty (W : World) (n : Nat) : Ni W (W.alloc (.cells #[] n)) (.slice (some ⟨W.heap.size, 0, none⟩) 0 0) [] :=
  ⟨Ext.new _ _, OwnR.nil _ _ _ _, fun b hb => by have hb : W.heap.size = b := hb; rw [World.size_alloc]; omega⟩
theorem Ni.nil (W : World) : Ni W W (.slice none 0 0) [] := ⟨Ext.refl _, OwnR.nil _ _ _ _, fun b hb => by cases hb⟩
theorem psR_no {s : ByteArray} {W w : World} (h : psI s = ([], false)) (x : Ext W w) : PsR s W (.tuple #[.slice none 0 0, .bool false]) w := ⟨_, by rw [h], by rw [h]; exact ⟨x, OwnR.nil _ _ _ _, fun b hb => by cases hb⟩⟩
theorem psR_of {s : ByteArray} {W w : World} {u : Value} {l : List Int} (h : psI s = (l, true)) (hn : Ni W w u l) : PsR s W (.tuple #[u, .bool true]) w := ⟨u, by rw [h], by rw [h]; exact hn.new⟩
theorem split_part {c : UInt8} {s p : ByteArray} (h : p ∈ splitS c s) (hs : s.size ≤ 1048576) : p.size ≤ 1048576 := by
  have key : ∀ (l : List UInt8) (q : List UInt8), q ∈ splitL c l → q.length ≤ l.length := by
    intro l
    induction l with
    | nil => intro q hq; rw [splitL, List.mem_singleton] at hq; subst hq; exact Nat.le_refl _
    | cons b r ih =>
      intro q hq
      rw [splitL] at hq
      split at hq
      · rcases List.mem_cons.1 hq with rfl | hq
        · exact Nat.zero_le _
        · have := ih q hq; rw [List.length_cons]; omega
      · split at hq
        · rw [List.mem_singleton] at hq; subst hq; rw [List.length_cons, List.length_cons, List.length_nil]; omega
        · rename_i h t e
          rcases List.mem_cons.1 hq with rfl | hq
          · have := ih h (by rw [e]; simp); rw [List.length_cons, List.length_cons]; omega
          · have := ih q (by rw [e]; simp [hq]); rw [List.length_cons]; omega
  obtain ⟨q, hq, rfl⟩ := List.mem_map.1 h
  have h1 := key _ q hq
  have h2 : s.data.toList.length = s.size := rfl
  have h3 : (byS q).size = q.length := by show q.toArray.size = _; rw [List.size_toArray]
  omega
set_option maxHeartbeats 1000000 in
theorem impl_ParseInts (s : ByteArray) (W : World) (hm : MaxIs W) (hs : s.size ≤ 1048576) (htab : TabP W) (he : ErrP W) : Ret Tryd.prog 34 #[.string s] W (PsR s W) := by
  have hlm : (maxLen : Int) ≤ 9223372036854775807 := by decide
  have hln : (splitS 32 s).length ≤ s.size + 1 := by unfold splitS; rw [List.length_map]; exact splitL_size _
  have hnil : s = ⟨#[]⟩ → psI s = ([], true) := fun h => psI_nil (by rw [h]; rfl)
  refine ret_of_vc ties mixed Tryd.func34 rfl (by kernel_rfl) rfl rfl ?_
  refine br_dec (fun h => ?_) (fun h => ?_)
  · exact psR_of (hnil h) (Ni.nil W)
  have h0 : s.size ≠ 0 := fun e => h (by
    apply ByteArray.ext
    exact Array.eq_empty_of_size_eq_zero e)
  refine Or.inl ((split_ret 32 s W hm hs).mono ?_)
  rintro _ w1 ⟨rfl, hn1⟩
  have hsl := hn1.sl
  have x1 := hn1.1
  refine loop_rule (σ := Nat × Value × List Int × Value × Value × Value) [4, 6, 7, 8, 14] 15 31 (fun q => [q.2.1, q.2.2.2.1, q.2.2.2.2.1, q.2.2.2.2.2, .int .i64 q.1])
    (fun q w' => Ni w1 w' q.2.1 q.2.2.1 ∧ q.1 ≤ (splitS 32 s).length ∧ q.2.2.1 = ((splitS 32 s).take q.1).map (fun p => (pI p).1) ∧ ∀ p ∈ (splitS 32 s).take q.1, (pI p).2 = true) (fun q => (splitS 32 s).length - q.1) (0, _, [], undef, undef, undef) rfl
    ⟨Ni.nil w1, Nat.zero_le _, rfl, fun p hp => by cases hp⟩ ?_
  rintro ⟨i, out, L, g6, g7, g8⟩ w junk ⟨hn, hi, hL, hall⟩ K hK
  simp only at hn hi hL hall
  show vc _ _ _ _ (over [4, 6, 7, 8, 14] [out, g6, g7, g8, .int .i64 i] _) _
  refine br_dec (fun h3 => ?_) (fun h3 => ?_)
  · have hil : i < (splitS 32 s).length := by omega
    have hLl : L.length = i := by rw [hL, List.length_map, List.length_take]; omega
    obtain ⟨b, o, c, cs, he', -, hc, hcs⟩ := hsl.at hil
    cases he'
    cases hcs
    have hmem : (splitS 32 s)[i]'hil ∈ splitS 32 s := List.getElem_mem hil
    have htk : (splitS 32 s).take (i + 1) = (splitS 32 s).take i ++ [(splitS 32 s)[i]'hil] := take_snoc hil
    have xW := x1.trans hn.1
    refine ⟨⟨by omega, by omega⟩, _, hn.1.cell hc.1, ?_⟩
    refine Or.inl ((impl_ParseInt ((splitS 32 s)[i]'hil) w (split_part hmem hs) (Lib.tabBelow_of_tabIs htab w xW) (he.ext xW)).mono ?_)
    rintro _ w2 ⟨rfl, x2⟩
    refine br_not (fun hb => ?_) (fun hb => ?_)
    · exact psR_no (psI_no h0 hmem hb) (xW.trans x2)
    refine raw_push (E := eI) (ok := noB) (x := (pI ((splitS 32 s)[i]'hil)).1) (cs := [.int .i64 (pI ((splitS 32 s)[i]'hil)).1]) ties rfl rfl rfl rfl rfl rfl rfl rfl rfl rfl rfl (hn.2.1.ext x2) rfl noB_blk (by show (L.length + 1) * 8 ≤ _; omega) (by omega) ?_
    intro v w3 hv hch hsz hvb
    refine ⟨_, IntWalk.i64_in _ (by omega), ?_⟩
    have hn3 := (hn.ext x2).push hv hch hvb
    refine hK (i + 1, v, L ++ [(pI ((splitS 32 s)[i]'hil)).1], _, _, _) _ _ (vs5q rfl rfl rfl rfl (vint (by show (i : Int) + 1 = ((i + 1 : Nat) : Int); omega))) ⟨hn3, by show i + 1 ≤ _; omega, ?_, ?_⟩ (by show (splitS 32 s).length - (i + 1) < (splitS 32 s).length - i; omega) ?_
    · show L ++ [_] = ((splitS 32 s).take (i + 1)).map _
      rw [htk, List.map_append, ← hL]; rfl
    · show ∀ p ∈ (splitS 32 s).take (i + 1), _
      rw [htk]
      intro p hp
      rcases List.mem_append.1 hp with hp | hp
      · exact hall p hp
      · rw [List.mem_singleton] at hp; subst hp; exact hb
    · ((repeat (first | (with_reducible exact Only.refl) | (with_reducible refine Only.skip ?_) | ((with_reducible refine Only.upd ?_ ?_); rfl) | ((with_reducible refine Only.over ?_ ?_ _); rfl) | ((with_reducible refine Only.hav ?_ ?_ ?_); rfl; rfl))))
  · have hie : i = (splitS 32 s).length := by omega
    subst hie
    rw [List.take_length] at hL hall
    subst hL
    exact psR_of (psI_yes h0 hall) ⟨x1.trans hn.1, hn.2.1, fun b hb => ⟨Nat.le_trans x1.size (hn.2.2 b hb).1, (hn.2.2 b hb).2⟩⟩
/-- What a loop over the bytes of a text knows of its parts. -/
structure PtI (s : ByteArray) (i f : Nat) (D : List ByteArray) : Prop where
  hi : i ≤ s.size + 1
  sp : i ≤ s.size → f ≤ i ∧ Run 32 s.data.toList f i ∧ ∃ E, D = E.map byS ∧ splitL 32 s.data.toList = E ++ splitL 32 (s.data.toList.drop f)
  fin : i = s.size + 1 → D = splitS 32 s
theorem PtI.cut {s : ByteArray} {i f : Nat} {D : List ByteArray} (h : PtI s i f D) (hi : i < s.size) (he : ((s[i]'hi).toNat : Int) = 32) : PtI s (i + 1) (i + 1) (D ++ [s.extract f i]) ∧ s.extract f i ∈ splitS 32 s := by
  obtain ⟨h1, h2, E, h3, h4⟩ := h.sp (by omega)
  have e : s.data.toList.drop f = (s.data.toList.drop f).take (i - f) ++ s.data.toList[i]'hi :: s.data.toList.drop (i + 1) := drop_part h1 hi
  have hs : splitL 32 s.data.toList = (E ++ [(s.data.toList.drop f).take (i - f)]) ++ splitL 32 (s.data.toList.drop (i + 1)) := by
    rw [h4]
    conv => lhs; rw [e, (byte_at (c := 32) hi).2 he, splitL_skip h2.mem]
    simp
  refine ⟨⟨by omega, fun h' => ⟨Nat.le_refl _, fun k hk1 hk2 => by omega, E ++ [(s.data.toList.drop f).take (i - f)], ?_, hs⟩, fun h' => by omega⟩, ?_⟩
  · rw [List.map_append, h3, cut_bytes]; rfl
  · rw [cut_bytes]
    unfold splitS
    rw [hs]
    simp
theorem PtI.last {s : ByteArray} {f : Nat} {D : List ByteArray} (h : PtI s s.size f D) : PtI s (s.size + 1) (s.size + 1) (D ++ [s.extract f s.size]) ∧ s.extract f s.size ∈ splitS 32 s := by
  obtain ⟨h1, h2, E, h3, h4⟩ := h.sp (Nat.le_refl _)
  have hd : (s.data.toList.drop f).take (s.size - f) = s.data.toList.drop f := List.take_of_length_le (by rw [List.length_drop]; exact Nat.le_refl _)
  have hr := h2.mem
  rw [hd] at hr
  rw [splitL_last hr] at h4
  have hD : D ++ [s.extract f s.size] = splitS 32 s := by
    unfold splitS
    rw [h4, List.map_append, h3, cut_bytes, hd]; rfl
  exact ⟨⟨Nat.le_refl _, fun h' => by omega, fun _ => hD⟩, by rw [← hD]; simp⟩
theorem PtI.step {s : ByteArray} {i f : Nat} {D : List ByteArray} (h : PtI s i f D) (hi : i < s.size) (he : ¬ ((s[i]'hi).toNat : Int) = 32) : PtI s (i + 1) f D := by
  obtain ⟨h1, h2, h3⟩ := h.sp (by omega)
  refine ⟨by omega, fun h' => ⟨by omega, fun k hk1 hk2 b hb => ?_, h3⟩, fun h' => by omega⟩
  by_cases e : k = i
  · subst e
    rw [List.getElem?_eq_getElem hi] at hb
    cases hb
    exact fun e => he ((byte_at hi).1 e)
  · exact h2 k hk1 (by omega) b hb
set_option maxHeartbeats 1000000 in
theorem spec_ParseInts (s : ByteArray) (W : World) (hs : s.size ≤ 1048576) : Ret Tryd.prog 33 #[.string s] W (PsR s W) := by
  have hlm : (maxLen : Int) ≤ 9223372036854775807 := by decide
  refine ret_of_vc ties mixed Tryd.func33 rfl (by kernel_rfl) rfl rfl ?_
  refine loop_rule (σ := Nat × Nat × Value × List ByteArray × Value × Value) [4, 5, 6, 7, 8] 9 48 (fun q => [q.2.2.1, .int .i64 q.2.1, .int .i64 q.1, q.2.2.2.2.1, q.2.2.2.2.2])
    (fun q w' => Ni W w' q.2.2.1 (q.2.2.2.1.map (fun p => (pI p).1)) ∧ PtI s q.1 q.2.1 q.2.2.2.1 ∧ (∀ p ∈ q.2.2.2.1, (pI p).2 = true) ∧ q.2.2.2.1.length ≤ q.1 ∧ (s.size = 0 → q.2.2.2.1 = [])) (fun q => s.size + 1 - q.1) (0, 0, _, [], undef, undef) rfl
    ⟨Ni.empty W _, ⟨Nat.zero_le _, fun _ => ⟨Nat.le_refl _, fun k h1 h2 => by have h2 : k < 0 := h2; omega, [], rfl, rfl⟩, fun h => by have h : 0 = s.size + 1 := h; omega⟩, fun p hp => (by cases hp), Nat.zero_le _, fun _ => rfl⟩ ?_
  rintro ⟨i, f, out, D, g7, g8⟩ w junk ⟨hn, hp, hall, hD, hz⟩ K hK
  simp only at hn hp hall hD hz
  have hi := hp.hi
  show vc _ _ _ _ (over [4, 5, 6, 7, 8] [out, .int .i64 f, .int .i64 i, g7, g8] _) _
  by_cases h3 : (i : Int) ≤ s.size
  · refine br_dec_true h3 ?_
    refine br_dec (fun h4 => ?_) (fun h4 => ?_)
    · have h0 : s.size ≠ 0 := by omega
      have hfi := (hp.sp (by omega)).1
      by_cases hA : (i : Int) = s.size
      · have hie : i = s.size := by omega
        have hcut : PtI s (i + 1) (i + 1) (D ++ [s.extract f i]) ∧ s.extract f i ∈ splitS 32 s := by subst hie; exact hp.last
        refine br_dec_true hA ?_
        refine ⟨⟨by show (0 : Int) ≤ (f : Int); omega, by show (f : Int) ≤ i; omega, by omega⟩, ?_⟩
        have hps : (s.extract f i).size ≤ 1048576 := split_part hcut.2 hs
        refine Or.inl ((spec_ParseInt (s.extract f i) w hps).mono ?_)
        rintro _ w2 ⟨rfl, x2⟩
        refine br_not (fun hb => ?_) (fun hb => ?_)
        · exact psR_no (psI_no h0 hcut.2 hb) (hn.1.trans x2)
        refine raw_push (E := eI) (ok := noB) (x := (pI (s.extract f i)).1) (cs := [.int .i64 (pI (s.extract f i)).1]) ties rfl rfl rfl rfl rfl rfl rfl rfl rfl rfl rfl (hn.2.1.ext x2) rfl noB_blk (by rw [List.length_map]; show (D.length + 1) * 8 ≤ _; omega) (by rw [List.length_map]; omega) ?_
        intro v w3 hv hch hsz hvb
        have hn3 := (hn.ext x2).push hv hch hvb
        refine ⟨_, IntWalk.i64_in _ (by omega), _, IntWalk.i64_in _ (by omega), ?_⟩
        refine hK (i + 1, i + 1, v, D ++ [s.extract f i], _, _) _ _ (vs5q rfl (vint (by show (i : Int) + 1 = ((i + 1 : Nat) : Int); omega)) (vint (by show (i : Int) + 1 = ((i + 1 : Nat) : Int); omega)) rfl rfl) ⟨?_, hcut.1, ?_, by show (D ++ [_]).length ≤ i + 1; rw [List.length_append, List.length_singleton]; omega, fun h => absurd h h0⟩ (by show s.size + 1 - (i + 1) < s.size + 1 - i; omega) ?_
        · show Ni W w3 v ((D ++ [s.extract f i]).map _)
          rw [List.map_append]; exact hn3
        · show ∀ p ∈ D ++ [s.extract f i], _
          intro p hp
          rcases List.mem_append.1 hp with hp | hp
          · exact hall p hp
          · rw [List.mem_singleton] at hp; subst hp; exact hb
        · ((repeat (first | (with_reducible exact Only.refl) | (with_reducible refine Only.skip ?_) | ((with_reducible refine Only.upd ?_ ?_); rfl) | ((with_reducible refine Only.over ?_ ?_ _); rfl) | ((with_reducible refine Only.hav ?_ ?_ ?_); rfl; rfl))))
      · have hil : i < s.size := by omega
        refine br_dec_false hA ?_
        refine ⟨⟨by omega, by show i < s.size; omega⟩, ?_⟩
        refine br_dec (fun h5 => ?_) (fun h5 => ?_)
        · have hcut := hp.cut hil h5
          refine ⟨⟨by show (0 : Int) ≤ (f : Int); omega, by show (f : Int) ≤ i; omega, by omega⟩, ?_⟩
          have hps : (s.extract f i).size ≤ 1048576 := split_part hcut.2 hs
          refine Or.inl ((spec_ParseInt (s.extract f i) w hps).mono ?_)
          rintro _ w2 ⟨rfl, x2⟩
          refine br_not (fun hb => ?_) (fun hb => ?_)
          · exact psR_no (psI_no h0 hcut.2 hb) (hn.1.trans x2)
          refine raw_push (E := eI) (ok := noB) (x := (pI (s.extract f i)).1) (cs := [.int .i64 (pI (s.extract f i)).1]) ties rfl rfl rfl rfl rfl rfl rfl rfl rfl rfl rfl (hn.2.1.ext x2) rfl noB_blk (by rw [List.length_map]; show (D.length + 1) * 8 ≤ _; omega) (by rw [List.length_map]; omega) ?_
          intro v w3 hv hch hsz hvb
          have hn3 := (hn.ext x2).push hv hch hvb
          refine ⟨_, IntWalk.i64_in _ (by omega), _, IntWalk.i64_in _ (by omega), ?_⟩
          refine hK (i + 1, i + 1, v, D ++ [s.extract f i], _, _) _ _ (vs5q rfl (vint (by show (i : Int) + 1 = ((i + 1 : Nat) : Int); omega)) (vint (by show (i : Int) + 1 = ((i + 1 : Nat) : Int); omega)) rfl rfl) ⟨?_, hcut.1, ?_, by show (D ++ [_]).length ≤ i + 1; rw [List.length_append, List.length_singleton]; omega, fun h => absurd h h0⟩ (by show s.size + 1 - (i + 1) < s.size + 1 - i; omega) ?_
          · show Ni W w3 v ((D ++ [s.extract f i]).map _)
            rw [List.map_append]; exact hn3
          · show ∀ p ∈ D ++ [s.extract f i], _
            intro p hp
            rcases List.mem_append.1 hp with hp | hp
            · exact hall p hp
            · rw [List.mem_singleton] at hp; subst hp; exact hb
          · ((repeat (first | (with_reducible exact Only.refl) | (with_reducible refine Only.skip ?_) | ((with_reducible refine Only.upd ?_ ?_); rfl) | ((with_reducible refine Only.over ?_ ?_ _); rfl) | ((with_reducible refine Only.hav ?_ ?_ ?_); rfl; rfl))))
        · refine ⟨_, IntWalk.i64_in _ (by omega), ?_⟩
          refine hK (i + 1, f, out, D, _, _) _ _ (vs5q rfl rfl (vint (by show (i : Int) + 1 = ((i + 1 : Nat) : Int); omega)) rfl rfl) ⟨hn, hp.step hil h5, hall, by show D.length ≤ i + 1; omega, hz⟩ (by show s.size + 1 - (i + 1) < s.size + 1 - i; omega) ?_
          ((repeat (first | (with_reducible exact Only.refl) | (with_reducible refine Only.skip ?_) | ((with_reducible refine Only.upd ?_ ?_); rfl) | ((with_reducible refine Only.over ?_ ?_ _); rfl) | ((with_reducible refine Only.hav ?_ ?_ ?_); rfl; rfl))))
    · have h0 : s.size = 0 := by omega
      rw [hz h0] at hn
      exact psR_of (psI_nil h0) hn
  · refine br_dec_false h3 ?_
    have hie : i = s.size + 1 := by omega
    by_cases h0 : s.size = 0
    · rw [hz h0] at hn
      exact psR_of (psI_nil h0) hn
    · have hd := hp.fin hie
      subst hd
      exact psR_of (psI_yes h0 hall) hn
end Go.Proofs.YtekddgkgeaolnaaDoor
