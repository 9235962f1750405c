/- An argument that is a term, opened. An argument that is a row of values, opened. -/
import Derived.Test.YtpaccpajkndlhaaTa
import Derived.WideShapes
import Derived.Test.YtpaccpajkndlhaaTv
namespace Go.Proofs.Ytpaccpajkndlhaa
open Go Go.Vc Go.RowKit

theorem inI_wf {n : Int} (h : (Lit.int .i64 n).wf = true) : inI n := by
  simp only [Lit.wf, Bool.and_eq_true, decide_eq_true_eq] at h
  exact h

/-- A struct of five fields, of one cell each. -/
theorem struct5 {H : Type} {enc : TypeId × Value → H} {P : Program} {w : World} {held : Bool} {t : TypeId} {f0 f1 f2 f3 f4 : Field} {fuel : Nat} {cs : List Value} {y : DataW H × List MemPlace} (ht : P.underlying t = some (.struct #[f0, f1, f2, f3, f4]))
    (o0 : f0.offset = 0) (o1 : f1.offset = 1) (o2 : f2.offset = 2) (o3 : f3.offset = 3) (o4 : f4.offset = 4) (c : P.cellsOf t = 5) (c0 : P.cellsOf f0.type = 1) (c1 : P.cellsOf f1.type = 1) (c2 : P.cellsOf f2.type = 1) (c3 : P.cellsOf f3.type = 1) (c4 : P.cellsOf f4.type = 1)
    (h : DataW.trod enc P w 0 (fun _ => true) held fuel t cs = some y) :
    ∃ v0 v1 v2 v3 v4 y0 y1 y2 y3 y4 k, fuel = k + 1 ∧ cs = [v0, v1, v2, v3, v4] ∧ DataW.trod enc P w 0 (fun _ => true) held k f0.type [v0] = some y0 ∧ DataW.trod enc P w 0 (fun _ => true) held k f1.type [v1] = some y1 ∧
      DataW.trod enc P w 0 (fun _ => true) held k f2.type [v2] = some y2 ∧ DataW.trod enc P w 0 (fun _ => true) held k f3.type [v3] = some y3 ∧ DataW.trod enc P w 0 (fun _ => true) held k f4.type [v4] = some y4 := by
  obtain ⟨xs, k, rfl, _, hl, hxl, hf⟩ := DataW.trod_struct ht h
  rw [c] at hl
  have hxl : xs.length = 5 := hxl
  match cs, hl, xs, hxl with
  | [v0, v1, v2, v3, v4], _, [x0, x1, x2, x3, x4], _ =>
    have g0 := hf 0 f0 rfl
    have g1 := hf 1 f1 rfl
    have g2 := hf 2 f2 rfl
    have g3 := hf 3 f3 rfl
    have g4 := hf 4 f4 rfl
    simp [o0, o1, o2, o3, o4, c0, c1, c2, c3, c4] at g0 g1 g2 g3 g4
    exact ⟨v0, v1, v2, v3, v4, x0, x1, x2, x3, x4, k, rfl, rfl, g0, g1, g2, g3, g4⟩

section
variable {H : Type} {enc : TypeId × Value → H} {W : World}

theorem open_node (n : Nat) (cs : List Value) (y : DataW H × List MemPlace)
    (ih : ∀ n', n' < n → ∀ cs y, DataW.trod enc Try.prog W 0 (fun _ => true) true n' 22 cs = some y → IsForest tlc 5 okL W cs)
    (h : DataW.trod enc Try.prog W 0 (fun _ => true) true n 24 cs = some y) : ∃ x s, cs = tlc x ++ [s] ∧ IsForest tlc 5 okL W [s] ∧ okL x := by
  obtain ⟨v0, v1, v2, v3, s, y0, y1, y2, y3, y4, k, rfl, rfl, g0, g1, g2, g3, g4⟩ := struct5 Try.underlying24 rfl rfl rfl rfl rfl (by kernel_rfl) (by kernel_rfl) (by kernel_rfl) (by kernel_rfl) (by kernel_rfl) (by kernel_rfl) h
  obtain ⟨a0, h0, _, w0⟩ := DataW.trod_int Try.underlying3 g0
  obtain ⟨a1, h1, _, w1⟩ := DataW.trod_int Try.underlying3 g1
  obtain ⟨a2, h2, _, w2⟩ := DataW.trod_int Try.underlying3 g2
  obtain ⟨a3, h3, _, w3⟩ := DataW.trod_string Try.underlying9 g3
  simp only [List.cons.injEq, and_true] at h0 h1 h2 h3
  subst h0
  subst h1
  subst h2
  subst h3
  exact ⟨⟨a0, a1, a2, a3⟩, s, rfl, ih k (by omega) _ _ g4, inI_wf w0, inI_wf w1, inI_wf w2, w3⟩

set_option maxRecDepth 100000 in
theorem open_Term {r : Reach} {b0 : Nat} {v : Value} {d : DataW H} {ps : List MemPlace} (hval : Value.okWide Try.prog W r b0 24 v)
    (hd : DataW.Trod enc Try.prog W 0 (fun _ => true) true 24 v d ps) : ∃ x s f, v = .agg #[.int .i64 x.op, .int .i64 x.w, .int .i64 x.n, .string x.name, s] ∧ TSl anyB W s f ∧ f.All okL ∧ okL x := by
  obtain ⟨cs, rfl⟩ := okWide_struct Try.underlying24 hval
  obtain ⟨fuel, h⟩ := hd
  obtain ⟨x, s, hcs, ⟨s', f, hs', hf, hp⟩, hx⟩ := open_node fuel _ _ (fun n' _ cs y h => forest_of (by decide) Try.underlying22 (by kernel_rfl) (fun n cs y ih h => open_node n cs y ih h) n' _ (Nat.lt_succ_self _) cs y h) h
  simp only [List.cons.injEq, and_true] at hs'
  subst hs'
  refine ⟨x, s, f, ?_, hf, hp, hx⟩
  have : cs.toList = [.int .i64 x.op, .int .i64 x.w, .int .i64 x.n, .string x.name, s] := hcs
  rw [← Array.toArray_toList (xs := cs), this]
end

end Go.Proofs.Ytpaccpajkndlhaa
namespace Go.Proofs.Ytpaccpajkndlhaa
open Go Go.Vc Go.RowKit

/-- A struct of three fields, of one cell each. -/
theorem struct3 {H : Type} {enc : TypeId × Value → H} {P : Program} {w : World} {held : Bool} {t : TypeId} {f0 f1 f2 : Field} {fuel : Nat} {cs : List Value} {y : DataW H × List MemPlace} (ht : P.underlying t = some (.struct #[f0, f1, f2]))
    (o0 : f0.offset = 0) (o1 : f1.offset = 1) (o2 : f2.offset = 2) (c : P.cellsOf t = 3) (c0 : P.cellsOf f0.type = 1) (c1 : P.cellsOf f1.type = 1) (c2 : P.cellsOf f2.type = 1)
    (h : DataW.trod enc P w 0 (fun _ => true) held fuel t cs = some y) :
    ∃ v0 v1 v2 y0 y1 y2 k, fuel = k + 1 ∧ cs = [v0, v1, v2] ∧ DataW.trod enc P w 0 (fun _ => true) held k f0.type [v0] = some y0 ∧ DataW.trod enc P w 0 (fun _ => true) held k f1.type [v1] = some y1 ∧
      DataW.trod enc P w 0 (fun _ => true) held k f2.type [v2] = some y2 := by
  obtain ⟨xs, k, rfl, _, hl, hxl, hf⟩ := DataW.trod_struct ht h
  rw [c] at hl
  have hxl : xs.length = 3 := hxl
  match cs, hl, xs, hxl with
  | [v0, v1, v2], _, [x0, x1, x2], _ =>
    have g0 := hf 0 f0 rfl
    have g1 := hf 1 f1 rfl
    have g2 := hf 2 f2 rfl
    simp [o0, o1, o2, c0, c1, c2] at g0 g1 g2
    exact ⟨v0, v1, v2, x0, x1, x2, k, rfl, rfl, g0, g1, g2⟩

section
variable {H : Type} {enc : TypeId × Value → H} {W : World}

theorem open_vnode (n : Nat) (cs : List Value) (y : DataW H × List MemPlace)
    (h : DataW.trod enc Try.prog W 0 (fun _ => true) true n 64 cs = some y) : ∃ x, cs = vlc x ∧ okV x := by
  obtain ⟨v0, v1, v2, y0, y1, y2, k, rfl, rfl, g0, g1, g2⟩ := struct3 Try.underlying64 rfl rfl rfl (by kernel_rfl) (by kernel_rfl) (by kernel_rfl) (by kernel_rfl) h
  obtain ⟨a0, h0, _, w0⟩ := DataW.trod_string Try.underlying9 g0
  obtain ⟨a1, h1, _, w1⟩ := DataW.trod_int Try.underlying3 g1
  obtain ⟨a2, h2, _, w2⟩ := DataW.trod_int Try.underlying3 g2
  simp only [List.cons.injEq, and_true] at h0 h1 h2
  subst h0
  subst h1
  subst h2
  exact ⟨⟨a0, a1, a2⟩, rfl, w0, inI_wf w1, inI_wf w2⟩

set_option maxRecDepth 100000 in
theorem open_Values {r : Reach} {b0 : Nat} {v : Value} {d : DataW H} {ps : List MemPlace} (hval : Value.okWide Try.prog W r b0 33 v)
    (hd : DataW.Trod enc Try.prog W 0 (fun _ => true) true 33 v d ps) : ∃ l, VSl anyB W v l ∧ ∀ x ∈ l, okV x := by
  obtain ⟨a, len, cap, rfl⟩ := Go.WideShapes.okWide_slice Try.underlying33 hval
  obtain ⟨fuel, h⟩ := hd
  obtain ⟨s, l, hcs, hl, hp⟩ := ls_of vlc_len (by decide) Try.underlying33 (by kernel_rfl) (fun n cs y h => open_vnode n cs y h) h
  have hcs : [Value.slice a len cap] = [s] := hcs
  cases hcs
  exact ⟨l, hl, hp⟩
end

end Go.Proofs.Ytpaccpajkndlhaa
