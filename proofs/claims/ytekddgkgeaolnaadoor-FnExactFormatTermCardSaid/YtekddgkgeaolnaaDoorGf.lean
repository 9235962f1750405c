/- FormatInts: both contracts. -/
import Derived.Test.YtekddgkgeaolnaaDoorGo
import Derived.Test.YtekddgkgeaolnaaDoorDi
namespace Go.Proofs.YtekddgkgeaolnaaDoor
open Go Go.Vc Go.RowKit
set_option linter.unusedVariables false

def intsB (l : List Int) : ByteArray := joinB (l.map itoaB) ⟨#[32]⟩
abbrev TabP (W : World) : Prop := Lib.TabIs Tryd.prog W "internal/strconv.uint64pow10" .u64 Lib.pow10Tab
theorem itoaB_size {n : Int} (h : inI n) : (itoaB n).size ≤ 21 := by
  show (Lib.itoa n).toArray.size ≤ 21
  rw [List.size_toArray]
  exact Lib.itoa_length_le n h.1 h.2
theorem tot_itoa : ∀ l : List Int, (∀ n ∈ l, inI n) → totS (l.map itoaB) ≤ 21 * l.length := by
  intro l
  induction l with
  | nil => intro _; exact Nat.zero_le _
  | cons x l ih =>
    intro h
    have h1 := ih fun n hn => h n (by simp [hn])
    have h2 := itoaB_size (h x (by simp))
    unfold totS at h1 ⊢
    rw [List.map_cons, List.map_cons, List.sum_cons, List.length_cons]
    omega
theorem spec_FormatInts (l : List Int) (s : Value) (W : World) (hs : SlR eI allB W s l) (hp : ∀ n ∈ l, inI n) (hl : l.length ≤ 1048576) :
    Ret Tryd.prog 17 #[s] W (fun v w' => v = .string (intsB l) ∧ Ext W w') := by
  have hlm : (maxLen : Int) ≤ 9223372036854775807 := by decide
  obtain ⟨a, c, rfl, hlc, hcm, -⟩ := id hs
  have htot := tot_itoa l hp
  refine ret_of_vc ties mixed Tryd.func17 rfl (by kernel_rfl) rfl rfl ?_
  refine loop_rule (σ := Nat × Value × List ByteArray × Value × Value) [3, 4, 5, 9] 10 21 (fun q => [q.2.1, q.2.2.2.1, q.2.2.2.2, .int .i64 q.1])
    (fun q w' => (Ext W w' ∧ OwnR eS noB w' q.2.1 q.2.2.1 ∧ ∀ b, blk q.2.1 b → W.heap.size ≤ b ∧ b < w'.heap.size) ∧ q.1 ≤ l.length ∧ q.2.2.1 = (l.take q.1).map itoaB) (fun q => l.length - q.1) (0, _, [], undef, undef) rfl
    ⟨⟨Ext.new _ _, OwnR.nil _ _ _ _, fun b hb => by have hb : W.heap.size = b := hb; rw [World.size_alloc]; omega⟩, Nat.zero_le _, rfl⟩ ?_
  rintro ⟨i, out, L, g4, g5⟩ w junk ⟨hn, hi, hL⟩ K hK
  simp only at hn hi hL
  show vc _ _ _ _ (over [3, 4, 5, 9] [out, g4, g5, .int .i64 i] _) _
  refine br_dec (fun h3 => ?_) (fun h3 => ?_)
  · have hil : i < l.length := by omega
    have hLl : L.length = i := by rw [hL, List.length_map, List.length_take]; omega
    obtain ⟨b, o, c', cs, he, -, hc, hcs⟩ := hs.at hil
    cases he
    cases hcs
    refine ⟨⟨by omega, by omega⟩, _, hn.1.cell hc.1, ?_⟩
    refine Or.inl ((spec_FormatInt ((l[i]'hil).natAbs + 1) (l[i]'hil) (hp _ (List.getElem_mem hil)) (by omega) w).mono ?_)
    rintro _ w2 ⟨rfl, x2⟩
    refine raw_push (E := eS) (ok := noB) (x := itoaB (l[i]'hil)) (cs := [.string (itoaB (l[i]'hil))]) ties rfl rfl rfl rfl rfl rfl rfl rfl rfl rfl rfl (hn.2.1.ext x2) rfl noB_blk (by show (L.length + 1) * 16 ≤ _; omega) (by omega) ?_
    intro v w3 hv hch hsz hvb
    refine ⟨_, IntWalk.i64_in _ (by omega), ?_⟩
    have hz2 := x2.size
    have hz1 := hn.1.size
    refine hK (i + 1, v, L ++ [itoaB (l[i]'hil)], _, _) _ _ (vs4 rfl rfl rfl (vint (by show (i : Int) + 1 = ((i + 1 : Nat) : Int); omega))) ⟨⟨(hn.1.trans x2).chg hch (fun b hb => (hn.2.2 b hb).1), hv, fun b hb => (hvb b hb).elim (fun e => ⟨(hn.2.2 b e).1, by have := (hn.2.2 b e).2; have := hch.size; omega⟩) fun e => ⟨by omega, e.2⟩⟩, by show i + 1 ≤ _; omega, ?_⟩ (by show l.length - (i + 1) < l.length - i; omega) ?_
    · show L ++ [_] = (l.take (i + 1)).map itoaB
      rw [take_snoc hil, List.map_append, hL]; rfl
    · ((repeat (first | (with_reducible exact Only.refl) | (with_reducible refine Only.skip ?_) | ((with_reducible refine Only.upd ?_ ?_); rfl) | ((with_reducible refine Only.over ?_ ?_ _); rfl) | ((with_reducible refine Only.hav ?_ ?_ ?_); rfl; rfl))))
  · have hie : i = l.length := by omega
    subst hie
    rw [List.take_length] at hL
    subst hL
    refine Or.inl ((spec_Join (l.map itoaB) ⟨#[32]⟩ out w (hn.2.1.sl (fun _ _ => trivial) (fun _ _ => trivial)) (by rw [List.length_map]; omega) (by decide)).mono ?_)
    rintro _ w2 ⟨rfl, rfl⟩
    exact ⟨rfl, hn.1⟩
theorem impl_FormatInts (l : List Int) (s : Value) (W : World) (hs : SlR eI allB W s l) (hp : ∀ n ∈ l, inI n) (hl : l.length ≤ 1048576) (htab : TabP W) :
    Ret Tryd.prog 19 #[s] W (fun v w' => v = .string (intsB l) ∧ Ext W w') := by
  have hlm : (maxLen : Int) ≤ 9223372036854775807 := by decide
  obtain ⟨a, c, rfl, hlc, hcm, -⟩ := id hs
  have htot := tot_itoa l hp
  refine ret_of_vc ties mixed Tryd.func19 rfl (by kernel_rfl) rfl rfl ?_
  refine ⟨⟨by omega, by omega, by omega, by show (16 : Int) * (l.length : Int) ≤ _; omega⟩, ?_⟩
  have room : Rmy (W.alloc (.cells (zs l.length [.string ByteArray.empty]).toArray 9)) W.heap.size l.length := by
    have := Rmy.new W (zs l.length [.string ByteArray.empty]) 9
    rwa [zs_length, List.length_singleton, Nat.mul_one] at this
  refine loop_rule (σ := Nat × Value × Value) [4, 5, 11] 12 24 (fun q => [q.2.1, q.2.2, .int .i64 q.1])
    (fun q w' => Ext W w' ∧ q.1 ≤ l.length ∧ Rmy w' W.heap.size l.length ∧ RAt eS noB w' ((l.take q.1).map itoaB) W.heap.size 0) (fun q => l.length - q.1) (0, undef, undef) rfl
    ⟨Ext.new _ _, Nat.zero_le _, room, trivial⟩ ?_
  rintro ⟨i, g4, g5⟩ w junk ⟨hx, hi, hr, hat⟩ K hK
  simp only at hi hat
  show vc _ _ _ _ (over [4, 5, 11] [g4, g5, .int .i64 i] _) _
  refine br_dec (fun h3 => ?_) (fun h3 => ?_)
  · have hil : i < l.length := by omega
    obtain ⟨b, o, c', cs, he, -, hc, hcs⟩ := hs.at hil
    cases he
    cases hcs
    refine ⟨⟨by omega, by omega⟩, _, hx.cell hc.1, ?_⟩
    refine Or.inl ((impl_FormatInt (l[i]'hil) (hp _ (List.getElem_mem hil)) w (Lib.tabBelow_of_tabIs htab w hx)).mono ?_)
    rintro _ w2 ⟨rfl, x2⟩
    have hlen : ((l.take i).map itoaB).length = i := by rw [List.length_map, List.length_take]; omega
    refine ⟨⟨by omega, by omega⟩, (hr.ext x2) _ (by show 0 + (i : Int).toNat * 1 < _; omega), ?_⟩
    refine ⟨_, IntWalk.i64_in _ (by omega), ?_⟩
    refine hK (i + 1, _, _) _ _ (vs3 rfl rfl (vint (by show (i : Int) + 1 = ((i + 1 : Nat) : Int); omega))) ⟨(hx.trans x2).set (by show W.heap.size ≤ W.heap.size; omega) _, by show i + 1 ≤ _; omega, (hr.ext x2).setCell, ?_⟩ (by show l.length - (i + 1) < l.length - i; omega) ?_
    · show RAt eS noB _ ((l.take (i + 1)).map itoaB) W.heap.size 0
      rw [take_snoc hil, List.map_append]
      exact RAt.fill (E := eS) (x := itoaB (l[i]'hil)) (cs := [.string (itoaB (l[i]'hil))]) (o := 0 + (i : Int).toNat * 1) noB_ne (hr.ext x2) (hat.ext x2) rfl (by rw [hlen]; show 0 + i * 1 = i * 1; omega) (by rw [hlen]; show (i + 1) * 1 ≤ _; omega)
    · ((repeat (first | (with_reducible exact Only.refl) | (with_reducible refine Only.skip ?_) | ((with_reducible refine Only.upd ?_ ?_); rfl) | ((with_reducible refine Only.over ?_ ?_ _); rfl) | ((with_reducible refine Only.hav ?_ ?_ ?_); rfl; rfl))))
  · have hie : i = l.length := by omega
    subst hie
    rw [List.take_length] at hat
    have hml : l.length = (l.map itoaB).length := (List.length_map _).symm
    have hsl : SlR eS allB w (.slice (some ⟨W.heap.size, 0, none⟩) l.length l.length) (l.map itoaB) := ⟨_, _, by rw [hml], by rw [← hml]; exact Nat.le_refl _, by omega, .inr ⟨_, 0, rfl, trivial, hat.mono fun _ h => h.elim⟩⟩
    refine Or.inl ((join_ret (l.map itoaB) ⟨#[32]⟩ _ w hsl (by rw [List.length_map]; omega) (by decide)).mono ?_)
    rintro _ w2 ⟨rfl, x2⟩
    exact ⟨rfl, hx.trans x2⟩
end Go.Proofs.YtekddgkgeaolnaaDoor
