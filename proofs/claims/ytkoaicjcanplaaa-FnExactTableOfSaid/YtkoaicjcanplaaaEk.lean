/- The reference's l02Bits, l02Next. -/
import Derived.Test.YtkoaicjcanplaaaEi
namespace Go.Proofs.Ytkoaicjcanplaaa
open Go Go.Vc Go.RowKit
set_option linter.unusedVariables false

set_option maxHeartbeats 4000000 in
theorem l02Bits_ret (L : List VLab) (s : Value) (W : World) (hs : SlR eV allB W s L) (hw : ∀ v ∈ L, 1 ≤ v.w ∧ v.w ≤ 16) (hL : L.length ≤ 1000) : Ret Try.prog 100 #[s] W (fun v w' => v = .int .i64 (sw L : Int) ∧ Ext W w') := by
  obtain ⟨a, c, rfl, hl, hc, hat⟩ := id hs
  have hle : ∀ i, sw (L.take i) ≤ 16 * i := fun i => by
    have h1 := sw_le (L := L.take i) fun v hv => (hw v (List.mem_of_mem_take hv)).2
    have h2 : (L.take i).length ≤ i := by rw [List.length_take]; omega
    omega
  refine ret_of_vc ties mixed Try.func100 rfl (by kernel_rfl) rfl rfl ?_
  refine loop_rule (σ := Nat × Value) [8, 3, 5] 9 17 (fun q => [.int .i64 q.1, .int .i64 (sw (L.take q.1) : Int), q.2])
    (fun q w' => Ext W w' ∧ q.1 ≤ L.length) (fun q => L.length - q.1) (0, undef) rfl ⟨Ext.refl _, Nat.zero_le _⟩ ?_
  rintro ⟨i, y⟩ w junk ⟨hx, hi⟩ K hK
  simp only at hi
  show vc _ _ _ _ (over [8, 3, 5] [.int .i64 i, .int .i64 (sw (L.take i) : Int), y] _) _
  refine br_dec (fun h3 => ?_) (fun h3 => ?_)
  · have hil : i < L.length := by omega
    obtain ⟨b, o, c', e, _, hcx⟩ := eV_at hs hil
    cases e
    have k1 := keep3 w (L[i]'hil)
    have h1 := hw _ (List.getElem_mem hil)
    have h2 := hle i
    have h4 := sw_snoc hil
    refine ⟨⟨by omega, by omega⟩, vlc (L[i]'hil), rfl, hcx.ext hx, k1.1, ?_⟩
    refine ⟨_, k1.2.1.2.1, _, IntWalk.i64_in _ (by omega), _, IntWalk.i64_in _ (by omega), ?_⟩
    refine hK (i + 1, _) _ _ (vs3 (vint (by show (i : Int) + 1 = ((i + 1 : Nat) : Int); omega)) (vint (by show (sw (L.take i) : Int) + (L[i]'hil).w = ((sw (L.take (i + 1)) : Nat) : Int); omega)) rfl) ⟨hx.trans k1.2.2, by show i + 1 ≤ L.length; omega⟩ (by show L.length - (i + 1) < L.length - i; omega) ?_
    ((repeat (first | (with_reducible exact Only.refl) | (with_reducible refine Only.skip ?_) | ((with_reducible refine Only.upd ?_ ?_); rfl) | ((with_reducible refine Only.over ?_ ?_ _); rfl) | ((with_reducible refine Only.hav ?_ ?_ ?_); rfl; rfl))))
  · have e : L.take i = L := List.take_of_length_le (by omega)
    exact ⟨vint (by rw [e]), hx⟩

theorem row_n {w : World} {B n : Nat} {L : List VLab} {i : Nat} (hr : Rmy w B n) (hn : L.length * 3 ≤ n) (hi : i < L.length) (h : RAt eV noB w L B 0) (v : Int) :
    RAt eV noB (w.setCell ⟨B, i * 3 + 2, none⟩ (.int .i64 v)) (L.set i ⟨(L[i]'hi).name, (L[i]'hi).w, v⟩) B 0 := by
  have hoth := setCells_other (B := B) [.int .i64 v] w (i * 3 + 2)
  have hat := setCells_at (B := B) [.int .i64 v] w (i * 3 + 2) n hr (by show i * 3 + 2 + 1 ≤ n; omega)
  have hw : setCells w B (i * 3 + 2) [.int .i64 v] = w.setCell ⟨B, i * 3 + 2, none⟩ (.int .i64 v) := rfl
  rw [hw] at hoth hat
  refine RAt.of fun j y hj => ?_
  by_cases e : i = j
  · subst e
    rw [List.getElem?_set_self hi] at hj
    cases hj
    obtain ⟨ds, h1, h2⟩ := h.get (List.getElem?_eq_getElem hi)
    have h2 : ds = vlc _ := h2
    subst h2
    have e1 : 0 + i * eV.m = i * 3 := by show 0 + i * 3 = i * 3; omega
    rw [e1] at h1 ⊢
    refine ⟨vlc _, ⟨?_, ?_, hat.1, trivial⟩, rfl⟩
    · rw [hoth _ (fun _ => .inl (by show i * 3 < i * 3 + 2; omega))]; exact h1.1
    · rw [hoth _ (fun _ => .inl (by show i * 3 + 1 < i * 3 + 2; omega))]; exact h1.2.1
  · rw [List.getElem?_set_ne e] at hj
    obtain ⟨ds, h1, h2⟩ := h.get hj
    have h2 : ds = vlc _ := h2
    subst h2
    refine ⟨_, CellsAt.keep (fun q g1 g2 => hoth _ fun _ => ?_) h1, rfl⟩
    have e1 : 0 + j * eV.m = j * 3 := by show 0 + j * 3 = j * 3; omega
    rw [e1] at g1 g2
    have g2 : q < j * 3 + 3 := g2
    show q < i * 3 + 2 ∨ i * 3 + 2 + 1 ≤ q
    omega
theorem Ow.setN {B0 : Nat} {w : World} {B n c : Nat} {L : List VLab} {i : Nat} (hi : i < L.length) (h : Ow B0 w (.slice (some ⟨B, 0, none⟩) n c) L) (v : Int) :
    Ow B0 (w.setCell ⟨B, i * 3 + 2, none⟩ (.int .i64 v)) (.slice (some ⟨B, 0, none⟩) n c) (L.set i ⟨(L[i]'hi).name, (L[i]'hi).w, v⟩) := by
  obtain ⟨⟨a, c', he, h1, h2, h3⟩, hb⟩ := h
  cases he
  obtain ⟨B', e, hr, hrow⟩ := h3.resolve_left (by omega)
  cases e
  have hlen : L.length * 3 ≤ c * 3 := Nat.mul_le_mul_right _ h1
  exact ⟨⟨_, c, by rw [List.length_set], by rw [List.length_set]; exact h1, h2, .inr ⟨B, rfl, hr.setCell, row_n (n := c * eV.m) hr hlen hi hrow v⟩⟩, fun b h => ⟨(hb b h).1, Nat.lt_of_lt_of_le (hb b h).2 (Chg.setCell (S := fun _ => True) w (p := ⟨B, i * 3 + 2, none⟩) trivial (.int .i64 v)).size⟩⟩
theorem Ow.rd {B0 : Nat} {w : World} {s : Value} {L : List VLab} {i : Nat} (hi : i < L.length) (h : Ow B0 w s L) :
    ∃ B c, s = .slice (some ⟨B, 0, none⟩) L.length c ∧ L.length ≤ c ∧ Rmy w B (c * 3) ∧ CellsAt w B (i * 3) (vlc (L[i]'hi)) := by
  obtain ⟨⟨a, c, rfl, h1, h2, h3⟩, hb⟩ := h
  obtain ⟨B, rfl, hr, hrow⟩ := h3.resolve_left (by omega)
  obtain ⟨ds, g1, g2⟩ := hrow.get (List.getElem?_eq_getElem hi)
  have g2 : ds = vlc _ := g2
  subst g2
  have e1 : 0 + i * eV.m = i * 3 := by show 0 + i * 3 = i * 3; omega
  rw [e1] at g1
  exact ⟨B, c, rfl, h1, hr, g1⟩
theorem set_mid {L Z : List VLab} {m : Nat} (hm : m < L.length) (v : VLab) : (L.take (m + 1) ++ Z).set m v = L.take m ++ v :: Z := by
  have h1 : (L.take m).length = m := by rw [List.length_take]; omega
  rw [take_snoc hm, List.append_assoc, List.set_append_right _ _ (by omega), h1, Nat.sub_self]; rfl
theorem get_mid {L Z : List VLab} {m : Nat} (hm : m < L.length) (h : m < (L.take (m + 1) ++ Z).length) : (L.take (m + 1) ++ Z)[m]'h = L[m]'hm := by
  rw [List.getElem_append_left (by rw [List.length_take]; omega), List.getElem_take]
set_option maxHeartbeats 4000000 in
theorem l02Next_ret (B0 : Nat) (L : List VLab) (s : Value) (W : World) (hs : Ow B0 W s L) (hw : ∀ v ∈ L, (1 ≤ v.w ∧ v.w ≤ 16) ∧ inI v.n) : Ret Try.prog 101 #[s] W (fun v w' => v = .bool (nxtV L).2 ∧ Ow B0 w' s (nxtV L).1 ∧ Chg (blk s) W w') := by
  obtain ⟨⟨a, c, rfl, hl, hc, hat⟩, _⟩ := id hs
  have hlm : (maxLen : Int) ≤ 9223372036854775807 := by decide
  refine ret_of_vc ties mixed Try.func101 rfl (by kernel_rfl) rfl rfl ?_
  refine ⟨_, IntWalk.i64_in _ (by omega), ?_⟩
  refine loop_rule (σ := Nat) [3] 7 36 (fun q => [.int .i64 ((q : Int) - 1)])
    (fun q w' => (q ≤ L.length ∧ (nxtV (L.drop q)).2 = false) ∧ Ow B0 w' (.slice a L.length c) (L.take q ++ (nxtV (L.drop q)).1) ∧ Chg (blk (.slice a L.length c)) W w') (fun q => q) L.length rfl ⟨⟨Nat.le_refl _, by rw [List.drop_length]; rfl⟩, by rw [List.drop_length, List.take_length]; simpa [nxtV] using hs, Chg.refl _ _⟩ ?_
  rintro q w junk ⟨⟨hq, hf⟩, ho, hch⟩ K hK
  show vc _ _ _ _ (over [3] [.int .i64 ((q : Int) - 1)] _) _
  refine br_dec (fun h3 => ?_) (fun h3 => ?_)
  · obtain ⟨m, rfl⟩ : ∃ m, q = m + 1 := ⟨q - 1, by omega⟩
    have hm : m < L.length := by omega
    have hlen : (L.take (m + 1) ++ (nxtV (L.drop (m + 1))).1).length = L.length := by rw [List.length_append, List.length_take, nxtV_len, List.length_drop]; omega
    have hm' : m < (L.take (m + 1) ++ (nxtV (L.drop (m + 1))).1).length := by omega
    obtain ⟨B, c', he, hlc, hr, hcl⟩ := ho.rd hm'
    rw [get_mid hm hm'] at hcl
    rw [hlen] at he
    cases he
    have hv := hw _ (List.getElem_mem hm)
    have e2 : 0 + (((m + 1 : Nat) : Int) - 1).toNat * 3 + 2 = m * 3 + 2 := by omega
    have e1 : 0 + (((m + 1 : Nat) : Int) - 1).toNat * 3 + 1 = m * 3 + 1 := by omega
    have hp := pow16 (w := (L[m]'hm).w) (by omega) hv.1.2
    have hd : L.drop m = L[m]'hm :: L.drop (m + 1) := List.drop_eq_getElem_cons hm
    have hset := fun (v : Int) => set_mid (Z := (nxtV (L.drop (m + 1))).1) hm ⟨(L[m]'hm).name, (L[m]'hm).w, v⟩
    have hon : ∀ w' v o, Ext w w' → o = m * 3 + 2 → Ow B0 (w'.setCell ⟨B, o, none⟩ (.int .i64 v)) (.slice (some ⟨B, 0, none⟩) L.length c) (L.take m ++ ⟨(L[m]'hm).name, (L[m]'hm).w, v⟩ :: (nxtV (L.drop (m + 1))).1) := fun w' v o x e => by
      subst e
      have h := Ow.setN hm' (ho.ext x) v
      rw [get_mid hm hm', hset] at h
      exact h
    have hch2 : ∀ w' v o, Ext w w' → Chg (blk (.slice (some ⟨B, 0, none⟩) L.length c)) W (w'.setCell ⟨B, o, none⟩ (.int .i64 v)) := fun w' v o x => (hch.trans (.of x)).trans (Chg.setCell w' (p := ⟨B, o, none⟩) rfl (.int .i64 v))
    have hfree : ∀ w' o, Ext w w' → o = m * 3 + 2 → Free w' ⟨B, o, none⟩ := fun w' o x e => (hr.ext x) _ (by omega)
    have hcn : ∀ w' o, Ext w w' → o = m * 3 + 2 → w'.cell? ⟨B, o, none⟩ = some (.int .i64 (L[m]'hm).n) := fun w' o x e => by subst e; exact x.cell hcl.2.2.1
    have hcw : ∀ o, o = m * 3 + 1 → w.cell? ⟨B, o, none⟩ = some (.int .i64 (L[m]'hm).w) := fun o e => by subst e; exact hcl.2.1
    have hn : -9223372036854775808 ≤ (L[m]'hm).n ∧ (L[m]'hm).n ≤ 9223372036854775807 := hv.2
    refine .inl ⟨by kernel_rfl, ⟨by omega, by omega⟩, _, hcn _ _ (Ext.refl _) e2, ⟨by omega, by omega⟩, _, hcw _ e1, by omega, _, shl1 (by omega) (by omega), _, IntWalk.i64_in _ (by omega), ?_⟩
    intro w3 x3
    refine br_dec (fun h5 => ?_) (fun h5 => ?_)
    · have e : nxtV L = (L.take m ++ ⟨(L[m]'hm).name, (L[m]'hm).w, (L[m]'hm).n + 1⟩ :: (nxtV (L.drop (m + 1))).1, true) := by
        have h1 := nxtV_on (v := L[m]'hm) hf (by omega)
        have h2 := nxtV_app (L.take m) (L.drop m) (by rw [hd, h1])
        rw [List.take_append_drop, hd, h1] at h2
        exact h2
      refine ⟨⟨by omega, by omega⟩, _, hcn _ _ x3 e2, _, IntWalk.i64_in _ (by omega), ⟨by omega, by omega⟩, hfree _ _ x3 e2, ?_⟩
      refine ⟨vbool (by rw [e]), ?_, hch2 _ _ _ x3⟩
      rw [e]
      exact hon _ _ _ x3 e2
    · have h1 := nxtV_off (v := L[m]'hm) hf (by omega)
      refine ⟨⟨by omega, by omega⟩, hfree _ _ x3 e2, _, IntWalk.i64_in _ (by omega), ?_⟩
      refine hK m _ _ (vs1 (vint (by omega))) ⟨⟨by omega, by rw [hd, h1]⟩, ?_, hch2 _ _ _ x3⟩ (by omega) ?_
      · rw [hd, h1]
        exact hon _ _ _ x3 e2
      · ((repeat (first | (with_reducible exact Only.refl) | (with_reducible refine Only.skip ?_) | ((with_reducible refine Only.upd ?_ ?_); rfl) | ((with_reducible refine Only.over ?_ ?_ _); rfl) | ((with_reducible refine Only.hav ?_ ?_ ?_); rfl; rfl))))
  · have : q = 0 := by omega
    subst this
    exact ⟨vbool (show false = (nxtV L).2 from hf.symm), ho, hch⟩
end Go.Proofs.Ytkoaicjcanplaaa
