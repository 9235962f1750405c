/- Terms as results: a variable for the result, slices of kids that are made, kids that are read. Steps towards a simpler form, in the program: unary operations, wider words, cuts. Steps towards a simpler form, in the program: cuts. -/
import Derived.Test.YtekddgkgeaolnaaDoorQt
import Derived.Test.YtekddgkgeaolnaaDoorQk
namespace Go.Proofs.YtekddgkgeaolnaaDoor
open Go Go.Vc Go.RowKit
set_option linter.unusedVariables false

/-- A term as a result: its rows lie where ok says, or are new. -/
def TRes (ok : Nat → Prop) (t : Tm) (W : World) (v : Value) (w : World) : Prop := Ext W w ∧ ∃ s, v = tv t.1 s ∧ TSl (fun b => ok b ∨ W.heap.size ≤ b) w s t.2
/-- What a function may read that keeps its result in block B. -/
def okB (B : Nat) (W : World) (ok : Nat → Prop) : Nat → Prop := fun b => b ≠ B ∧ (ok b ∨ W.heap.size ≤ b)
abbrev bxW (W : World) (x : Lab) (s : Value) : World := W.alloc (.cells (tc x s).toArray 50)
abbrev z5 : List Value := [.int .i64 0, .int .i64 0, .int .i64 0, .string ByteArray.empty, .slice none 0 0]
abbrev bzW (W : World) : World := W.alloc (.cells z5.toArray 50)
theorem bx_at (W : World) (x : Lab) (s : Value) : CellsAt (bxW W x s) W.heap.size 0 (tc x s) := boxedAll W (tc x s) _
theorem bx_ext (W : World) (x : Lab) (s : Value) : Ext W (bxW W x s) := Ext.new _ _
theorem bz_ext (W : World) : Ext W (bzW W) := Ext.new _ _
theorem bz_rmy (W : World) : Rmy (bzW W) W.heap.size 5 := Rmy.new W z5 _
theorem bz_size (W : World) : (bzW W).heap.size = W.heap.size + 1 := by simp
theorem bx_size (W : World) (x : Lab) (s : Value) : (bxW W x s).heap.size = W.heap.size + 1 := by simp
section
variable {ok : Nat → Prop} {W w w' : World} {B : Nat} {x y : Lab} {s s' : Value} {k : TF}
/-- An argument, seen from within: not in the result's block. -/
theorem arg_in (hs : TSl ok W s k) (x : Ext W w) (hB : W.heap.size ≤ B) : TSl (okB B W ok) w s k :=
  (hs.lt.mono fun b hb => ⟨by omega, .inl hb.1⟩).ext x
/-- What a call gave, seen from within. -/
theorem res_in {t : Tm} {v : Value} (h : TRes (okB B W ok) t w v w') (hB : B < w.heap.size) (hW : W.heap.size ≤ w.heap.size) : Ext w w' ∧ ∃ s, v = tv t.1 s ∧ TSl (okB B W ok) w' s t.2 :=
  ⟨h.1, h.2.imp fun s ⟨h1, h2⟩ => ⟨h1, h2.mono fun b hb => hb.elim id fun h => ⟨by omega, .inr (by omega)⟩⟩⟩
/-- The result is kept, and given. -/
theorem fin5 (hr : Rmy w B 5) (hB : W.heap.size ≤ B) (hx : Ext W w) (hs : TSl (okB B W ok) w s k) :
    FreeAll w B 0 (tc y s) ∧ ∃ vs, vs.length = 5 ∧ CellsAt (setCells w B 0 (tc y s)) B 0 vs ∧ TRes ok (y, k) W (.agg vs.toArray) (setCells w B 0 (tc y s)) := by
  have h1 : (tc y s).all oneB = true := tc_one hs
  have hch : Chg (fun b => b = B) w (setCells w B 0 (tc y s)) := Chg.setCells (S := fun b => b = B) rfl _ _ _
  exact ⟨hr.all _ 0 (Nat.le_refl 5) h1, tc y s, rfl, setCells_at _ _ 0 5 hr (Nat.le_refl 5), hx.chg hch (fun b hb => by rw [hb]; exact hB), s, rfl, (Fo.Sl.chg (fun b hb e => hb.1 e) hch hs).mono fun b hb => hb.2⟩
theorem okB_ext {t : TF} (h : TSl (okB B W ok) w s t) (x : Ext w w') : TSl (okB B W ok) w' s t := Fo.Sl.ext x h
/-! kids that are read -/
theorem kids1 {a : Tm} (h : TSl ok W s (mkTF [a])) : ∃ b o c sa, s = .slice (some ⟨b, o, none⟩) 1 c ∧ CellsAt W b o (tc a.1 sa) ∧ TSl ok W sa a.2 := by
  obtain ⟨b, o, c, s', h1, _, _, _, h2, h3⟩ := TSl.kid h (i := 0) (t := a) (by rw [tms_mk]; rfl)
  exact ⟨b, o, c, s', h1, by simpa using h2, h3⟩
theorem kids2 {a b : Tm} (h : TSl ok W s (mkTF [a, b])) : ∃ p o c sa sb, s = .slice (some ⟨p, o, none⟩) 2 c ∧ CellsAt W p o (tc a.1 sa) ∧ CellsAt W p (o + 5) (tc b.1 sb) ∧ TSl ok W sa a.2 ∧ TSl ok W sb b.2 := by
  obtain ⟨p, o, c, s', h1, _, _, _, h2, h3⟩ := TSl.kid h (i := 0) (t := a) (by rw [tms_mk]; rfl)
  obtain ⟨p', o', c', s'', h1', _, _, _, h2', h3'⟩ := TSl.kid h (i := 1) (t := b) (by rw [tms_mk]; rfl)
  rw [h1] at h1'
  cases h1'
  exact ⟨p, o, c, s', s'', h1, by simpa using h2, by simpa using h2', h3, h3'⟩
theorem kids3 {a b d : Tm} (h : TSl ok W s (mkTF [a, b, d])) : ∃ p o c sa sb sd, s = .slice (some ⟨p, o, none⟩) 3 c ∧ CellsAt W p o (tc a.1 sa) ∧ CellsAt W p (o + 5) (tc b.1 sb) ∧ CellsAt W p (o + 10) (tc d.1 sd) ∧ TSl ok W sa a.2 ∧ TSl ok W sb b.2 ∧ TSl ok W sd d.2 := by
  obtain ⟨p, o, c, s', h1, _, _, _, h2, h3⟩ := TSl.kid h (i := 0) (t := a) (by rw [tms_mk]; rfl)
  obtain ⟨p', o', c', s'', h1', _, _, _, h2', h3'⟩ := TSl.kid h (i := 1) (t := b) (by rw [tms_mk]; rfl)
  rw [h1] at h1'
  cases h1'
  obtain ⟨p', o', c', s3, h1'', _, _, _, h2'', h3''⟩ := TSl.kid h (i := 2) (t := d) (by rw [tms_mk]; rfl)
  rw [h1] at h1''
  cases h1''
  exact ⟨p, o, c, s', s'', s3, h1, by simpa using h2, by simpa using h2', by simpa using h2'', h3, h3', h3''⟩
/-! slices of kids that are made -/
variable {a b d : Tm} {sa sb sd : Value}
theorem at1 {p o : Nat} (hc : CellsAt w p o (tc a.1 sa)) (h : TSl ok w sa a.2) {r : TF} (hr : TAt ok w r p (o + 5)) : TAt ok w (.cons a.1 a.2 r) p o := ⟨⟨sa, hc, h⟩, hr⟩
theorem mk1 (h : TSl (okB B W ok) w sa a.2) (hB : B < w.heap.size) (hW : W.heap.size ≤ w.heap.size) :
    Ext w (w.alloc (.cells (tc a.1 sa).toArray 50)) ∧ TSl (okB B W ok) (w.alloc (.cells (tc a.1 sa).toArray 50)) (.slice (some ⟨w.heap.size, 0, none⟩) 1 1) (mkTF [a]) := by
  have x : Ext w (w.alloc (.cells (tc a.1 sa).toArray 50)) := Ext.new _ _
  refine ⟨x, _, 1, rfl, (by decide : 1 ≤ maxLen), .inr ⟨_, 0, rfl, ⟨by omega, .inr hW⟩, ?_⟩⟩
  exact at1 (boxedAll w (tc a.1 sa) _) (h.ext x) trivial
theorem mk2 (h : TSl (okB B W ok) w sa a.2) (h' : TSl (okB B W ok) w sb b.2) (hB : B < w.heap.size) (hW : W.heap.size ≤ w.heap.size) :
    Ext w (w.alloc (.cells (tc a.1 sa ++ tc b.1 sb).toArray 50)) ∧ TSl (okB B W ok) (w.alloc (.cells (tc a.1 sa ++ tc b.1 sb).toArray 50)) (.slice (some ⟨w.heap.size, 0, none⟩) 2 2) (mkTF [a, b]) := by
  have x : Ext w (w.alloc (.cells (tc a.1 sa ++ tc b.1 sb).toArray 50)) := Ext.new _ _
  have hb := boxedAll w (tc a.1 sa ++ tc b.1 sb) 50
  have h1 := CellsAt.split (us := tc a.1 sa) hb
  refine ⟨x, _, 2, rfl, (by decide : 2 ≤ maxLen), .inr ⟨_, 0, rfl, ⟨by omega, .inr hW⟩, ?_⟩⟩
  exact at1 h1.1 (h.ext x) (at1 h1.2 (h'.ext x) trivial)
theorem mk3 (h : TSl (okB B W ok) w sa a.2) (h' : TSl (okB B W ok) w sb b.2) (h'' : TSl (okB B W ok) w sd d.2) (hB : B < w.heap.size) (hW : W.heap.size ≤ w.heap.size) :
    Ext w (w.alloc (.cells (tc a.1 sa ++ (tc b.1 sb ++ tc d.1 sd)).toArray 50)) ∧ TSl (okB B W ok) (w.alloc (.cells (tc a.1 sa ++ (tc b.1 sb ++ tc d.1 sd)).toArray 50)) (.slice (some ⟨w.heap.size, 0, none⟩) 3 3) (mkTF [a, b, d]) := by
  have x : Ext w (w.alloc (.cells (tc a.1 sa ++ (tc b.1 sb ++ tc d.1 sd)).toArray 50)) := Ext.new _ _
  have hb := boxedAll w (tc a.1 sa ++ (tc b.1 sb ++ tc d.1 sd)) 50
  have h1 := CellsAt.split (us := tc a.1 sa) hb
  have h2 := CellsAt.split (us := tc b.1 sb) h1.2
  refine ⟨x, _, 3, rfl, (by decide : 3 ≤ maxLen), .inr ⟨_, 0, rfl, ⟨by omega, .inr hW⟩, ?_⟩⟩
  exact at1 h1.1 (h.ext x) (at1 h2.1 (h'.ext x) (at1 h2.2 (h''.ext x) trivial))
end
/-- A step's result. -/
def outT : St → Tm
  | .inl u => u
  | .inr u => red u
theorem red_out {t : Tm} (h : OkT t) : red t = outT (step t) := by
  cases hs : step t with
  | inl u => exact red_inl hs
  | inr u => exact red_inr h hs
def RedS (g : Nat) (n : Nat) : Prop := ∀ (t : Tm) (s : Value) (ok : Nat → Prop) (W : World), ms t < n → OkT t → TSl ok W s t.2 → Ret Tryd.prog g #[tv t.1 s] W (TRes ok (red t) W)

/-! small tests -/
end Go.Proofs.YtekddgkgeaolnaaDoor
namespace Go.Proofs.YtekddgkgeaolnaaDoor
open Go Go.Vc Go.RowKit
set_option linter.unusedVariables false

theorem fin5' {ok : Nat → Prop} {W w : World} {B : Nat} {y : Lab} {s : Value} {k : TF} (hr : Rmy w B 5) (hB : W.heap.size ≤ B) (hx : Ext W w) (hs : TSl (okB B W ok) w s k) :
    FreeAll w B 0 (tc y s) ∧ ∀ w', Ext (setCells w B 0 (tc y s)) w' → ∃ vs, vs.length = 5 ∧ CellsAt w' B 0 vs ∧ TRes ok (y, k) W (.agg vs.toArray) w' := by
  obtain ⟨h1, vs, h2, h3, h4, s', h5, h6⟩ := fin5 (ok := ok) (y := y) hr hB hx hs
  exact ⟨h1, fun w' x => ⟨vs, h2, h3.ext x, h4.trans x, s', h5, h6.ext x⟩⟩
/-- What stands behind the first lines of a step: the term's box, the result's variable, a variable with the first kid. -/
structure Pre1 (W : World) (x : Lab) (s : Value) (k : TF) (a : Tm) (sa : Value) (ok : Nat → Prop) (B A : Nat) (w : World) : Prop where
  ext : Ext W w
  hb : CellsAt w W.heap.size 0 (tc x s)
  ca : CellsAt w A 0 (tc a.1 sa)
  r : Rmy w B 5
  hB : W.heap.size ≤ B
  lt : B < w.heap.size
  s : TSl (okB B W ok) w s k
  sa : TSl (okB B W ok) w sa a.2
theorem Pre1.step {W : World} {x : Lab} {s : Value} {k : TF} {a : Tm} {sa : Value} {ok : Nat → Prop} {B A : Nat} {w w' : World} (h : Pre1 W x s k a sa ok B A w) (e : Ext w w') : Pre1 W x s k a sa ok B A w' :=
  ⟨h.ext.trans e, h.hb.ext e, h.ca.ext e, h.r.ext e, h.hB, Nat.lt_of_lt_of_le h.lt e.size, h.s.ext e, h.sa.ext e⟩
theorem pre1 {ok : Nat → Prop} (W : World) (x : Lab) {s : Value} {k : TF} {a : Tm} {sa : Value} (hs : TSl ok W s k) (hsa : TSl ok W sa a.2) :
    FreeAll (bzW (bzW (bxW W x s))) (bzW (bxW W x s)).heap.size 0 (tc a.1 sa) ∧ CellsAt (bzW (bxW W x s)) W.heap.size 0 (tc x s) ∧ Ext W (bzW (bxW W x s)) ∧
    Pre1 W x s k a sa ok (bxW W x s).heap.size (bzW (bxW W x s)).heap.size (setCells (bzW (bzW (bxW W x s))) (bzW (bxW W x s)).heap.size 0 (tc a.1 sa)) := by
  have x2 : Ext W (bzW (bxW W x s)) := (bx_ext W x s).trans (bz_ext _)
  have hb2 := (bx_at W x s).ext (bz_ext (bxW W x s))
  obtain ⟨f4, c4, x4⟩ := keep5 (W := bzW (bxW W x s)) (x := a.1) (tc_one hsa)
  have h1 := bx_size W x s
  have h2 := bz_size (bxW W x s)
  have h3 := x4.size
  exact ⟨f4, hb2, x2, x2.trans x4, hb2.ext x4, c4, (bz_rmy _).ext x4, by omega, Nat.lt_of_lt_of_le (by omega) h3, arg_in hs (x2.trans x4) (by omega), arg_in hsa (x2.trans x4) (by omega)⟩
section
variable {n : Nat} {x : Lab} {a b d : Tm} {s : Value} {ok : Nat → Prop} {W : World}
end
end Go.Proofs.YtekddgkgeaolnaaDoor
namespace Go.Proofs.YtekddgkgeaolnaaDoor
open Go Go.Vc Go.RowKit
set_option linter.unusedVariables false
section
variable {n : Nat} {x : Lab} {a b d : Tm} {s : Value} {ok : Nat → Prop} {W : World}
end
end Go.Proofs.YtekddgkgeaolnaaDoor
