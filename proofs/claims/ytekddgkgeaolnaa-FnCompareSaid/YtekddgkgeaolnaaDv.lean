/- Draws: l02Var. -/
import Derived.Test.YtekddgkgeaolnaaDs
import Derived.Test.YtekddgkgeaolnaaQx
namespace Go.Proofs.Ytekddgkgeaolnaa.Dr
open Go Go.Vc Go.RowKit
set_option linter.unusedVariables false

def lets : List ByteArray := [⟨#[97]⟩, ⟨#[98]⟩, ⟨#[120]⟩]
/-- A change of what is new, later. -/
theorem Chg.later {S S' : Nat → Prop} {W w w' : World} (h : Chg S W w) (k : Chg S' w w') (hS : ∀ b, S' b → S b ∨ W.heap.size ≤ b) : Chg S W w' :=
  ⟨k.os.trans h.os, k.tape.trans h.tape, k.output.trans h.output, Nat.le_trans h.size k.size, fun i hi hn => (k.block i (Nat.lt_of_lt_of_le hi h.size) fun hs => (hS i hs).elim hn fun e => by omega).trans (h.block i hi hn)⟩
theorem Cur.lt {C : Nat} {w : World} {l : List Int} (h : Cur C w l) : C < w.heap.size := by
  obtain ⟨⟨cs, i, hh, h1, _⟩, _⟩ := h
  exact World.block_lt_of_cell? _ _ h1.1
set_option maxRecDepth 100000 in
theorem var_ret (C : Nat) (l : List Int) (W : World) (hC : Cur C W l) (n : Int) (hn : 0 ≤ n ∧ n ≤ 1000) :
    Ret Try.prog 52 #[.pointer (some ⟨C, 0, none⟩), .int .i64 n] W (fun v w' => (∃ s ∈ lets, v = tv (varL n (s ++ itoaB n)) (.slice none 0 0)) ∧ Drw C l W w') := by
  have x1 : Ext W (bzW W) := bz_ext W
  have r1 := bz_rmy W
  have hlt := hC.lt
  have z1 : (bzW W).heap.size = W.heap.size + 1 := bz_size W
  have x2 : Ext (bzW W) ((bzW W).alloc (.cells [Value.string ⟨#[97]⟩, .string ⟨#[98]⟩, .string ⟨#[120]⟩].toArray 9)) := Ext.new _ _
  have hbx := boxedAll (bzW W) [Value.string ⟨#[97]⟩, .string ⟨#[98]⟩, .string ⟨#[120]⟩] 9
  have hrow : SlR eS (fun b => b ≠ C) ((bzW W).alloc (.cells [Value.string ⟨#[97]⟩, .string ⟨#[98]⟩, .string ⟨#[120]⟩].toArray 9)) (.slice (some ⟨(bzW W).heap.size, 0, none⟩) 3 3) lets :=
    ⟨_, 3, rfl, Nat.le_refl _, by decide, .inr ⟨_, 0, rfl, by omega, ⟨⟨[.string ⟨#[97]⟩], ⟨hbx.1, trivial⟩, rfl⟩, ⟨[.string ⟨#[98]⟩], ⟨hbx.2.1, trivial⟩, rfl⟩, ⟨[.string ⟨#[120]⟩], ⟨hbx.2.2.1, trivial⟩, rfl⟩, trivial⟩⟩⟩
  have hlen := Lib.itoa_length_le n (by omega) (by omega)
  have hl1 : ∀ i (h : i < lets.length), (lets[i]'h).size = 1 := by decide
  refine ret_of_vc ties mixed Try.func52 rfl (by kernel_rfl) rfl rfl ?_
  refine Or.inl ((str_ret C l _ (hC.ext (x1.trans x2)) lets _ hrow (by decide)).mono ?_)
  rintro _ w3 ⟨⟨i, hi, rfl⟩, hd⟩
  refine Or.inl ((spec_FormatNat n (by omega) (by omega) w3).mono ?_)
  rintro _ w4 ⟨rfl, x4⟩
  have hli := hl1 i hi
  have hsz : (itoaB n).size = (Lib.itoa n).length := by show (Lib.itoa n).toArray.size = _; rw [List.size_toArray]
  have r4 := (hd.1.rmy (S := fun b => b = C) (by omega) (r1.ext x2)).ext x4
  have hch : Chg (fun b => b = C) W w4 := ((Chg.of (x1.trans x2)).trans hd.1).trans (.of x4)
  have hst : ∀ s : ByteArray, Chg (fun b => b = W.heap.size) w4 (setCells w4 W.heap.size 0 (tc (varL n s) (.slice none 0 0))) := fun s => Chg.setCells (S := fun b => b = W.heap.size) rfl _ _ _
  have hfin : ∀ s ∈ lets, Drw C l W (setCells w4 W.heap.size 0 (tc (varL n (s ++ itoaB n)) (.slice none 0 0))) := fun s _ => by
    refine ⟨Chg.later hch (hst _) (fun b hb => .inr (by omega)), ?_⟩
    exact (hd.2.ext x4).chg (S := fun b => b = W.heap.size) (fun b h1 h2 => by omega) (hst _)
  refine ⟨by show lets[i].size + (itoaB n).size ≤ _; omega, ?_⟩
  refine ⟨r4.all _ 0 (Nat.le_refl 5) rfl, tc (varL n (lets[i]'hi ++ itoaB n)) (.slice none 0 0), rfl, setCells_at _ _ 0 5 r4 (Nat.le_refl 5), ?_⟩
  exact ⟨⟨_, List.getElem_mem hi, rfl⟩, hfin _ (List.getElem_mem hi)⟩
end Go.Proofs.Ytekddgkgeaolnaa.Dr
