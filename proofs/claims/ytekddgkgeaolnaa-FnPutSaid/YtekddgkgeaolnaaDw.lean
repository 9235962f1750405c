/- Draws: GiveValues. -/
import Derived.Test.YtekddgkgeaolnaaDs
import Derived.Test.YtekddgkgeaolnaaN9
import Derived.Test.YtekddgkgeaolnaaWb
namespace Go.Proofs.Ytekddgkgeaolnaa.Dr
open Go Go.Vc Go.RowKit
set_option linter.unusedVariables false

/-- The same names and widths, with words. -/
def DrawnV (L M : List VLab) : Prop := M.map (fun v => (v.name, v.w)) = L.map (fun v => (v.name, v.w)) ∧ ∀ v ∈ M, wOk v.w v.n = true
set_option maxRecDepth 100000 in
set_option maxHeartbeats 4000000 in
theorem values_ret (l : List Int) (s : Value) (n : Int) (hn : 0 ≤ n ∧ n ≤ 1000000) (L : List VLab) (sl : Value) (W : World) (hs : SlR eU allB W s l) (hl : SlR eV allB W sl L) (hw : ∀ v ∈ L, 1 ≤ v.w ∧ v.w ≤ 16) (hlen : L.length ≤ 100000) :
    Ret Try.prog 12 #[s, .int .i64 n, sl] W (fun v w' => Ext W w' ∧ ∃ M, DrawnV L M ∧ SlR eV allB w' v M) := by
  have hlm : (maxLen : Int) ≤ 9223372036854775807 := by decide
  have hll := hl.lt
  obtain ⟨a, c, rfl, hl1, hl2, hl3⟩ := id hl
  refine ret_of_vc ties mixed Try.func12 rfl (by kernel_rfl) rfl rfl ?_
  refine Or.inl ((at_ret l n hn s W hs).mono ?_)
  rintro _ w2 ⟨x2, C, rfl, hCW, hC2, hcu⟩
  have x3 : Ext w2 (w2.alloc (.cells #[] 47)) := Ext.new _ _
  refine loop_rule (σ := Nat × Value × List VLab × Value) [17, 8, 10] 18 34 (fun q => [.int .i64 q.1, q.2.1, q.2.2.2])
    (fun q w' => (Ext W w' ∧ Cur C w' l ∧ OwnR eV noB w' q.2.1 q.2.2.1 ∧ (∀ b, blk q.2.1 b → C < b ∧ b < w'.heap.size)) ∧ DrawnV (L.take q.1) q.2.2.1 ∧ q.1 ≤ L.length)
    (fun q => L.length - q.1) (0, _, [], undef) rfl ⟨⟨x2.trans x3, hcu.ext x3, OwnR.nil _ _ _ _, fun b hb => by have hb : w2.heap.size = b := hb; rw [World.size_alloc]; omega⟩, ⟨rfl, fun v hv => by cases hv⟩, Nat.zero_le _⟩ ?_
  rintro ⟨i, out, M, j10⟩ w4 junk ⟨⟨X4, hc4, ho4, hb4⟩, hd4, hi⟩ K hK
  simp only at ho4 hb4 hd4 hi
  show vc _ _ _ _ (over [17, 8, 10] [.int .i64 i, out, j10] _) _
  refine br_dec (fun h3 => ?_) (fun h3 => ?_)
  ·
    as_aux_lemma =>
      have hil : i < L.length := by omega
      obtain ⟨b, o, c', e, _, hcv⟩ := eV_at hl hil
      cases e
      have hwi := hw _ (List.getElem_mem hil)
      have hp := pow16 (w := (L[i]'hil).w) (by omega) hwi.2
      have k5 := keep3 w4 (L[i]'hil)
      have hc5 := hc4.ext k5.2.2
      have hlt := hc4.lt
      refine ⟨⟨by omega, by omega⟩, vlc (L[i]'hil), rfl, hcv.ext X4, k5.1, ?_⟩
      refine .inr (.inr (hyb_ruleS (fun b => b = C) ties mixed [(0, .quiet), (2, .quiet), (3, .quiet), (4, .quiet), (5, .quiet), (1, .loud), (6, .loud), (7, .loud), (8, .wild)] (by kernel_rfl) ?_))
      refine ⟨fun e => by have e : w4.heap.size = C := e; omega, _, k5.2.1.2.1, by omega, _, shl1 (by omega) hwi.2, _, IntWalk.i64_in _ (by omega), ?_⟩
      intro w6 x6
      refine Or.inl ((below_ret C l 256 w6 (hc5.ext x6)).mono ?_)
      rintro _ w7 ⟨⟨x, rfl, hx0, hx1, -⟩, hd7⟩
      refine ⟨hd7.1, ?_⟩
      intro w8 x8
      refine ⟨_, and_pow (k := (L[i]'hil).w.toNat) (by omega), Chg.refl _ _, ?_⟩
      intro w9 x9
      refine ⟨Chg.refl _ _, ?_⟩
      intro w10 x10
      have r4 : Rmy (setCells (w4.alloc (.cells #[.string ByteArray.empty, .int .i64 0, .int .i64 0] 47)) w4.heap.size 0 (vlc (L[i]'hil))) w4.heap.size 3 := Rmy.setCells _ (Rmy.new w4 [.string ByteArray.empty, .int .i64 0, .int .i64 0] 47)
      have x810 := (x8.trans x9).trans x10
      have hBC : ¬ (w4.heap.size = C) := by omega
      have r10 := (hd7.1.rmy (S := fun b => b = C) hBC (r4.ext x6)).ext x810
      have c10 := (hd7.1.cells (S := fun b => b = C) hBC (k5.2.1.ext x6)).ext x810
      refine ⟨r10 2 (by decide), ?_⟩
      intro w11 x11
      have hx2 := Int.emod_nonneg x (show (2 : Int) ^ (L[i]'hil).w.toNat ≠ 0 by omega)
      have hx3 := Int.emod_lt_of_pos x (show 0 < (2 : Int) ^ (L[i]'hil).w.toNat by omega)
      have hst : Chg (fun b => b = w4.heap.size) w10 (w10.setCell ⟨w4.heap.size, 0 + 2, none⟩ (.int .i64 (x % 2 ^ (L[i]'hil).w.toNat))) := Chg.setCell (S := fun b => b = w4.heap.size) _ rfl _
      have c11 : CellsAt w11 w4.heap.size 0 (vlc ⟨(L[i]'hil).name, (L[i]'hil).w, x % 2 ^ (L[i]'hil).w.toNat⟩) := CellsAt.ext x11 ⟨(World.cell?_setCell_other _ _ _ _ (by simp)).trans c10.1, (World.cell?_setCell_other _ _ _ _ (by simp)).trans c10.2.1, World.cell?_setCell_same _ _ _ c10.2.2.1, trivial⟩
      have ho11 : OwnR eV noB w11 out M := OwnR.ext x11 (OwnR.chg (fun b h => h.elim) (fun b hb e => by have := hb4 b hb; omega) hst (OwnR.ext x810 (OwnR.chg (fun b h => h.elim) (fun b hb e => by have := hb4 b hb; omega) hd7.1 ((ho4.ext k5.2.2).ext x6))))
      have hM : M.length = i := by
        have h1 := congrArg List.length hd4.1
        rw [List.length_map, List.length_map, List.length_take] at h1
        omega
      have hu11 : Cur C w11 l := Cur.ext x11 (Cur.chg (S := fun b => b = w4.heap.size) (fun b h1 h2 => by omega) hst (hd7.2.ext x810))
      have X11 : Ext W w11 := (((((X4.trans k5.2.2).trans x6).chg hd7.1 (fun b hb => by omega)).trans x810).chg hst (fun b hb => by have := X4.size; omega)).trans x11
      have z411 : w4.heap.size ≤ w11.heap.size := Nat.le_trans k5.2.2.size (Nat.le_trans x6.size (Nat.le_trans hd7.1.size (Nat.le_trans x810.size (Nat.le_trans hst.size x11.size))))
      refine ⟨vlc _, rfl, c11, ?_⟩
      refine raw_push (E := eV) (ok := noB) (x := ⟨(L[i]'hil).name, (L[i]'hil).w, x % 2 ^ (L[i]'hil).w.toNat⟩) (cs := vlc ⟨(L[i]'hil).name, (L[i]'hil).w, x % 2 ^ (L[i]'hil).w.toNat⟩) ties rfl rfl rfl rfl rfl rfl rfl rfl rfl rfl rfl ho11 rfl noB_blk (by rw [hM]; show (i + 1) * 32 ≤ _; omega) (by omega) ?_
      intro v w12 hv hch hsz hvb
      have hb12 : ∀ b, blk v b → C < b ∧ b < w12.heap.size := fun b hb => (hvb b hb).elim (fun e => by have := hb4 b e; omega) fun e => by omega
      refine ⟨_, IntWalk.i64_in _ (by omega), ?_⟩
      refine hK (i + 1, v, M ++ [⟨(L[i]'hil).name, (L[i]'hil).w, x % 2 ^ (L[i]'hil).w.toNat⟩], _) _ _ (vs3 (vint (by show (i : Int) + 1 = ((i + 1 : Nat) : Int); omega)) rfl rfl) ⟨⟨X11.chg hch (fun b hb => by have := hb4 b hb; omega), Cur.chg (S := blk out) (fun b h1 h2 => by have := hb4 b h2; omega) hch hu11, hv, hb12⟩, ⟨?_, fun u hu => ?_⟩, by show i + 1 ≤ L.length; omega⟩ (by show L.length - (i + 1) < L.length - i; omega) ?_
      · show (M ++ [_]).map (fun v : VLab => (v.name, v.w)) = (L.take (i + 1)).map (fun v : VLab => (v.name, v.w))
        rw [take_snoc hil, List.map_append, List.map_append, hd4.1]; rfl
      · rcases List.mem_append.1 hu with hu | hu
        · exact hd4.2 u hu
        · rw [List.mem_singleton.1 hu]
          exact decide_eq_true ⟨hwi.1, hwi.2, hx2, hx3⟩
      · ((repeat (first | (with_reducible exact Only.refl) | (with_reducible refine Only.skip ?_) | ((with_reducible refine Only.upd ?_ ?_); rfl) | ((with_reducible refine Only.over ?_ ?_ _); rfl) | ((with_reducible refine Only.hav ?_ ?_ ?_); rfl; rfl))))
  · have e : L.take i = L := List.take_of_length_le (by omega)
    rw [e] at hd4
    exact ⟨X4, M, hd4, ho4.sl (fun _ _ => trivial) (fun _ _ => trivial)⟩
end Go.Proofs.Ytekddgkgeaolnaa.Dr
