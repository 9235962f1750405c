/- Terms as results: a variable for the result, slices of kids that are made, kids that are read. Steps towards a simpler form, in the program: unary operations, wider words, cuts. Steps towards a simpler form, in the program: cuts. -/
import Derived.Test.YtekddgkgeaolnaaQs
import Derived.Test.YtekddgkgeaolnaaQk
namespace Go.Proofs.Ytekddgkgeaolnaa
open Go Go.Vc Go.RowKit
set_option linter.unusedVariables false

/-- A term as a result: its rows lie where ok says, or are new. -/
def TRes (ok : Nat → Prop) (t : Tm) (W : World) (v : Value) (w : World) : Prop := Ext W w ∧ ∃ s, v = tv t.1 s ∧ TSl (fun b => ok b ∨ W.heap.size ≤ b) w s t.2
/-- What a function may read that keeps its result in block B. -/
def okB (B : Nat) (W : World) (ok : Nat → Prop) : Nat → Prop := fun b => b ≠ B ∧ (ok b ∨ W.heap.size ≤ b)
abbrev bxW (W : World) (x : Lab) (s : Value) : World := W.alloc (.cells (tc x s).toArray 25)
abbrev z5 : List Value := [.int .i64 0, .int .i64 0, .int .i64 0, .string ByteArray.empty, .slice none 0 0]
abbrev bzW (W : World) : World := W.alloc (.cells z5.toArray 25)
theorem bx_at (W : World) (x : Lab) (s : Value) : CellsAt (bxW W x s) W.heap.size 0 (tc x s) := boxedAll W (tc x s) _
theorem bx_ext (W : World) (x : Lab) (s : Value) : Ext W (bxW W x s) := Ext.new _ _
theorem bz_ext (W : World) : Ext W (bzW W) := Ext.new _ _
theorem bz_rmy (W : World) : Rmy (bzW W) W.heap.size 5 := Rmy.new W z5 _
theorem bz_size (W : World) : (bzW W).heap.size = W.heap.size + 1 := by simp
theorem bx_size (W : World) (x : Lab) (s : Value) : (bxW W x s).heap.size = W.heap.size + 1 := by simp
section
variable {ok : Nat → Prop} {W w w' : World} {B : Nat} {x y : Lab} {s s' : Value} {k : TF}
/-- An argument, seen from within: not in the result's block. -/
theorem arg_in (hs : TSl ok W s k) (x : Ext W w) (hB : W.heap.size ≤ B) : TSl (okB B W ok) w s k :=
  (hs.lt.mono fun b hb => ⟨by omega, .inl hb.1⟩).ext x
/-- What a call gave, seen from within. -/
theorem res_in {t : Tm} {v : Value} (h : TRes (okB B W ok) t w v w') (hB : B < w.heap.size) (hW : W.heap.size ≤ w.heap.size) : Ext w w' ∧ ∃ s, v = tv t.1 s ∧ TSl (okB B W ok) w' s t.2 :=
  ⟨h.1, h.2.imp fun s ⟨h1, h2⟩ => ⟨h1, h2.mono fun b hb => hb.elim id fun h => ⟨by omega, .inr (by omega)⟩⟩⟩
/-- The result is kept, and given. -/
theorem fin5 (hr : Rmy w B 5) (hB : W.heap.size ≤ B) (hx : Ext W w) (hs : TSl (okB B W ok) w s k) :
    FreeAll w B 0 (tc y s) ∧ ∃ vs, vs.length = 5 ∧ CellsAt (setCells w B 0 (tc y s)) B 0 vs ∧ TRes ok (y, k) W (.agg vs.toArray) (setCells w B 0 (tc y s)) := by
  have h1 : (tc y s).all oneB = true := tc_one hs
  have hch : Chg (fun b => b = B) w (setCells w B 0 (tc y s)) := Chg.setCells (S := fun b => b = B) rfl _ _ _
  exact ⟨hr.all _ 0 (Nat.le_refl 5) h1, tc y s, rfl, setCells_at _ _ 0 5 hr (Nat.le_refl 5), hx.chg hch (fun b hb => by rw [hb]; exact hB), s, rfl, (Fo.Sl.chg (fun b hb e => hb.1 e) hch hs).mono fun b hb => hb.2⟩
theorem okB_ext {t : TF} (h : TSl (okB B W ok) w s t) (x : Ext w w') : TSl (okB B W ok) w' s t := Fo.Sl.ext x h
/-! kids that are read -/
theorem kids1 {a : Tm} (h : TSl ok W s (mkTF [a])) : ∃ b o c sa, s = .slice (some ⟨b, o, none⟩) 1 c ∧ CellsAt W b o (tc a.1 sa) ∧ TSl ok W sa a.2 := by
  obtain ⟨b, o, c, s', h1, _, _, _, h2, h3⟩ := TSl.kid h (i := 0) (t := a) (by rw [tms_mk]; rfl)
  exact ⟨b, o, c, s', h1, by simpa using h2, h3⟩
theorem kids2 {a b : Tm} (h : TSl ok W s (mkTF [a, b])) : ∃ p o c sa sb, s = .slice (some ⟨p, o, none⟩) 2 c ∧ CellsAt W p o (tc a.1 sa) ∧ CellsAt W p (o + 5) (tc b.1 sb) ∧ TSl ok W sa a.2 ∧ TSl ok W sb b.2 := by
  obtain ⟨p, o, c, s', h1, _, _, _, h2, h3⟩ := TSl.kid h (i := 0) (t := a) (by rw [tms_mk]; rfl)
  obtain ⟨p', o', c', s'', h1', _, _, _, h2', h3'⟩ := TSl.kid h (i := 1) (t := b) (by rw [tms_mk]; rfl)
  rw [h1] at h1'
  cases h1'
  exact ⟨p, o, c, s', s'', h1, by simpa using h2, by simpa using h2', h3, h3'⟩
theorem kids3 {a b d : Tm} (h : TSl ok W s (mkTF [a, b, d])) : ∃ p o c sa sb sd, s = .slice (some ⟨p, o, none⟩) 3 c ∧ CellsAt W p o (tc a.1 sa) ∧ CellsAt W p (o + 5) (tc b.1 sb) ∧ CellsAt W p (o + 10) (tc d.1 sd) ∧ TSl ok W sa a.2 ∧ TSl ok W sb b.2 ∧ TSl ok W sd d.2 := by
  obtain ⟨p, o, c, s', h1, _, _, _, h2, h3⟩ := TSl.kid h (i := 0) (t := a) (by rw [tms_mk]; rfl)
  obtain ⟨p', o', c', s'', h1', _, _, _, h2', h3'⟩ := TSl.kid h (i := 1) (t := b) (by rw [tms_mk]; rfl)
  rw [h1] at h1'
  cases h1'
  obtain ⟨p', o', c', s3, h1'', _, _, _, h2'', h3''⟩ := TSl.kid h (i := 2) (t := d) (by rw [tms_mk]; rfl)
  rw [h1] at h1''
  cases h1''
  exact ⟨p, o, c, s', s'', s3, h1, by simpa using h2, by simpa using h2', by simpa using h2'', h3, h3', h3''⟩
/-! slices of kids that are made -/
variable {a b d : Tm} {sa sb sd : Value}
theorem at1 {p o : Nat} (hc : CellsAt w p o (tc a.1 sa)) (h : TSl ok w sa a.2) {r : TF} (hr : TAt ok w r p (o + 5)) : TAt ok w (.cons a.1 a.2 r) p o := ⟨⟨sa, hc, h⟩, hr⟩
theorem mk1 (h : TSl (okB B W ok) w sa a.2) (hB : B < w.heap.size) (hW : W.heap.size ≤ w.heap.size) :
    Ext w (w.alloc (.cells (tc a.1 sa).toArray 25)) ∧ TSl (okB B W ok) (w.alloc (.cells (tc a.1 sa).toArray 25)) (.slice (some ⟨w.heap.size, 0, none⟩) 1 1) (mkTF [a]) := by
  have x : Ext w (w.alloc (.cells (tc a.1 sa).toArray 25)) := Ext.new _ _
  refine ⟨x, _, 1, rfl, (by decide : 1 ≤ maxLen), .inr ⟨_, 0, rfl, ⟨by omega, .inr hW⟩, ?_⟩⟩
  exact at1 (boxedAll w (tc a.1 sa) _) (h.ext x) trivial
theorem mk2 (h : TSl (okB B W ok) w sa a.2) (h' : TSl (okB B W ok) w sb b.2) (hB : B < w.heap.size) (hW : W.heap.size ≤ w.heap.size) :
    Ext w (w.alloc (.cells (tc a.1 sa ++ tc b.1 sb).toArray 25)) ∧ TSl (okB B W ok) (w.alloc (.cells (tc a.1 sa ++ tc b.1 sb).toArray 25)) (.slice (some ⟨w.heap.size, 0, none⟩) 2 2) (mkTF [a, b]) := by
  have x : Ext w (w.alloc (.cells (tc a.1 sa ++ tc b.1 sb).toArray 25)) := Ext.new _ _
  have hb := boxedAll w (tc a.1 sa ++ tc b.1 sb) 25
  have h1 := CellsAt.split (us := tc a.1 sa) hb
  refine ⟨x, _, 2, rfl, (by decide : 2 ≤ maxLen), .inr ⟨_, 0, rfl, ⟨by omega, .inr hW⟩, ?_⟩⟩
  exact at1 h1.1 (h.ext x) (at1 h1.2 (h'.ext x) trivial)
theorem mk3 (h : TSl (okB B W ok) w sa a.2) (h' : TSl (okB B W ok) w sb b.2) (h'' : TSl (okB B W ok) w sd d.2) (hB : B < w.heap.size) (hW : W.heap.size ≤ w.heap.size) :
    Ext w (w.alloc (.cells (tc a.1 sa ++ (tc b.1 sb ++ tc d.1 sd)).toArray 25)) ∧ TSl (okB B W ok) (w.alloc (.cells (tc a.1 sa ++ (tc b.1 sb ++ tc d.1 sd)).toArray 25)) (.slice (some ⟨w.heap.size, 0, none⟩) 3 3) (mkTF [a, b, d]) := by
  have x : Ext w (w.alloc (.cells (tc a.1 sa ++ (tc b.1 sb ++ tc d.1 sd)).toArray 25)) := Ext.new _ _
  have hb := boxedAll w (tc a.1 sa ++ (tc b.1 sb ++ tc d.1 sd)) 25
  have h1 := CellsAt.split (us := tc a.1 sa) hb
  have h2 := CellsAt.split (us := tc b.1 sb) h1.2
  refine ⟨x, _, 3, rfl, (by decide : 3 ≤ maxLen), .inr ⟨_, 0, rfl, ⟨by omega, .inr hW⟩, ?_⟩⟩
  exact at1 h1.1 (h.ext x) (at1 h2.1 (h'.ext x) (at1 h2.2 (h''.ext x) trivial))
end
/-- A step's result. -/
def outT : St → Tm
  | .inl u => u
  | .inr u => red u
theorem red_out {t : Tm} (h : OkT t) : red t = outT (step t) := by
  cases hs : step t with
  | inl u => exact red_inl hs
  | inr u => exact red_inr h hs
def RedS (g : Nat) (n : Nat) : Prop := ∀ (t : Tm) (s : Value) (ok : Nat → Prop) (W : World), ms t < n → OkT t → TSl ok W s t.2 → Ret Try.prog g #[tv t.1 s] W (TRes ok (red t) W)

/-! small tests -/
theorem isConst_ret (x : Lab) (s : Value) (W : World) : Ret Try.prog 80 #[tv x s] W (fun v w' => v = .bool (decide (x.op = 0)) ∧ Ext W w') := by
  refine ret_of_vc ties mixed Try.func80 rfl (by kernel_rfl) rfl rfl ?_
  exact ⟨_, (bx_at W x s).1, rfl, bx_ext W x s⟩
theorem constIs_ret (x : Lab) (k : TF) (s : Value) (n : Int) (W : World) : Ret Try.prog 101 #[tv x s, .int .i64 n] W (fun v w' => v = .bool (isC (x, k) n) ∧ Ext W w') := by
  refine ret_of_vc ties mixed Try.func101 rfl (by kernel_rfl) rfl rfl ?_
  refine ⟨_, (bx_at W x s).1, ?_⟩
  refine br_dec (fun h => ?_) (fun h => ?_)
  · refine ⟨_, (bx_at W x s).2.2.1, vbool ?_, bx_ext W x s⟩
    unfold isC; exact decide_eq_decide.2 ⟨fun h' => ⟨h, h'⟩, fun h' => h'.2⟩
  · exact ⟨vbool (decide_eq_false (fun h' => h h'.1)).symm, bx_ext W x s⟩
theorem swapsKids_ret (op : Int) (W : World) : Ret Try.prog 103 #[.int .i64 op] W (fun v w' => v = .bool (swp op) ∧ w' = W) := by
  have yes : (op = 3 ∨ op = 5 ∨ op = 8 ∨ op = 9 ∨ op = 10 ∨ op = 14) → Value.bool true = .bool (swp op) := fun h => vbool (decide_eq_true h).symm
  refine ret_of_vc ties mixed Try.func103 rfl (by kernel_rfl) rfl rfl ?_
  refine br_dec (fun h => br_dec_true h ⟨yes (by omega), rfl⟩) (fun h3 => ?_)
  refine br_dec (fun h => br_dec_true h ⟨yes (by omega), rfl⟩) (fun h5 => ?_)
  refine br_dec (fun h => br_dec_true h ⟨yes (by omega), rfl⟩) (fun h8 => ?_)
  refine br_dec (fun h => br_dec_true h ⟨yes (by omega), rfl⟩) (fun h9 => ?_)
  refine br_dec (fun h => br_dec_true h ⟨yes (by omega), rfl⟩) (fun h10 => ?_)
  refine br_dec (fun h => ⟨yes (by omega), rfl⟩) (fun h14 => ?_)
  exact ⟨vbool (decide_eq_false (by omega)).symm, rfl⟩
theorem remake_of {n : Nat} (hR : RedS 60 n) (op w m : Int) (l : List Tm) (s : Value) (ok : Nat → Prop) (W : World) (hm : ms (mkn op w m, mkTF l) < n) (h : OkT (mkn op w m, mkTF l)) (hs : TSl ok W s (mkTF l)) :
    Ret Try.prog 102 #[.int .i64 op, .int .i64 w, .int .i64 m, s] W (TRes ok (red (mkn op w m, mkTF l)) W) := by
  have h1 : oneB s = true := hs.oneB
  obtain ⟨a, c, rfl, hx⟩ := id hs
  refine ret_of_vc ties mixed Try.func102 rfl (by kernel_rfl) rfl rfl ?_
  refine Or.inl ((hR (mkn op w m, mkTF l) _ (okB W.heap.size W ok) _ hm h (arg_in hs (bz_ext W) (Nat.le_refl _))).mono ?_)
  rintro _ w2 hres
  obtain ⟨x2, s2, rfl, hs2⟩ := res_in hres (by rw [bz_size]; omega) (bz_ext W).size
  exact fin5 ((bz_rmy W).ext x2) (Nat.le_refl _) ((bz_ext W).trans x2) hs2
end Go.Proofs.Ytekddgkgeaolnaa
namespace Go.Proofs.Ytekddgkgeaolnaa
open Go Go.Vc Go.RowKit
set_option linter.unusedVariables false

theorem fin5' {ok : Nat → Prop} {W w : World} {B : Nat} {y : Lab} {s : Value} {k : TF} (hr : Rmy w B 5) (hB : W.heap.size ≤ B) (hx : Ext W w) (hs : TSl (okB B W ok) w s k) :
    FreeAll w B 0 (tc y s) ∧ ∀ w', Ext (setCells w B 0 (tc y s)) w' → ∃ vs, vs.length = 5 ∧ CellsAt w' B 0 vs ∧ TRes ok (y, k) W (.agg vs.toArray) w' := by
  obtain ⟨h1, vs, h2, h3, h4, s', h5, h6⟩ := fin5 (ok := ok) (y := y) hr hB hx hs
  exact ⟨h1, fun w' x => ⟨vs, h2, h3.ext x, h4.trans x, s', h5, h6.ext x⟩⟩
/-- What stands behind the first lines of a step: the term's box, the result's variable, a variable with the first kid. -/
structure Pre1 (W : World) (x : Lab) (s : Value) (k : TF) (a : Tm) (sa : Value) (ok : Nat → Prop) (B A : Nat) (w : World) : Prop where
  ext : Ext W w
  hb : CellsAt w W.heap.size 0 (tc x s)
  ca : CellsAt w A 0 (tc a.1 sa)
  r : Rmy w B 5
  hB : W.heap.size ≤ B
  lt : B < w.heap.size
  s : TSl (okB B W ok) w s k
  sa : TSl (okB B W ok) w sa a.2
theorem Pre1.step {W : World} {x : Lab} {s : Value} {k : TF} {a : Tm} {sa : Value} {ok : Nat → Prop} {B A : Nat} {w w' : World} (h : Pre1 W x s k a sa ok B A w) (e : Ext w w') : Pre1 W x s k a sa ok B A w' :=
  ⟨h.ext.trans e, h.hb.ext e, h.ca.ext e, h.r.ext e, h.hB, Nat.lt_of_lt_of_le h.lt e.size, h.s.ext e, h.sa.ext e⟩
theorem pre1 {ok : Nat → Prop} (W : World) (x : Lab) {s : Value} {k : TF} {a : Tm} {sa : Value} (hs : TSl ok W s k) (hsa : TSl ok W sa a.2) :
    FreeAll (bzW (bzW (bxW W x s))) (bzW (bxW W x s)).heap.size 0 (tc a.1 sa) ∧ CellsAt (bzW (bxW W x s)) W.heap.size 0 (tc x s) ∧ Ext W (bzW (bxW W x s)) ∧
    Pre1 W x s k a sa ok (bxW W x s).heap.size (bzW (bxW W x s)).heap.size (setCells (bzW (bzW (bxW W x s))) (bzW (bxW W x s)).heap.size 0 (tc a.1 sa)) := by
  have x2 : Ext W (bzW (bxW W x s)) := (bx_ext W x s).trans (bz_ext _)
  have hb2 := (bx_at W x s).ext (bz_ext (bxW W x s))
  obtain ⟨f4, c4, x4⟩ := keep5 (W := bzW (bxW W x s)) (x := a.1) (tc_one hsa)
  have h1 := bx_size W x s
  have h2 := bz_size (bxW W x s)
  have h3 := x4.size
  exact ⟨f4, hb2, x2, x2.trans x4, hb2.ext x4, c4, (bz_rmy _).ext x4, by omega, Nat.lt_of_lt_of_le (by omega) h3, arg_in hs (x2.trans x4) (by omega), arg_in hsa (x2.trans x4) (by omega)⟩
section
variable {n : Nat} {x : Lab} {a b d : Tm} {s : Value} {ok : Nat → Prop} {W : World}
set_option maxHeartbeats 4000000 in
theorem reduceUnary_ret (h : OkT (x, mkTF [a])) (ho : x.op = 1 ∨ x.op = 2) (hs : TSl ok W s (mkTF [a])) :
    Ret Try.prog 81 #[tv x s] W (TRes ok (if a.1.op = x.op then kid a.2 0 else (x, mkTF [a])) W) := by
  obtain ⟨p, o, c, sa, rfl, hca, hsa⟩ := kids1 hs
  obtain ⟨f4, hb2, x2, P⟩ := pre1 W x hs hsa
  by_cases hop : a.1.op = x.op
  · rw [if_pos hop]
    obtain ⟨y, k⟩ := a
    obtain ⟨g, rfl, hg⟩ := ok_1 h.2.1 (by simp only at hop; omega)
    obtain ⟨p', o', c', sg, rfl, hcg, hsg⟩ := kids1 P.sa
    simp only [kid0]
    refine ret_of_vc ties mixed Try.func81 rfl (by kernel_rfl) rfl rfl ?_
    refine ⟨_, hb2.2.2.2.2.1, ⟨by decide, by decide⟩, tc y _, rfl, hca.ext x2, f4, ?_⟩
    refine ⟨_, P.ca.1, _, P.hb.1, ?_⟩
    refine br_dec_true hop ?_
    refine ⟨_, P.ca.2.2.2.2.1, ⟨by decide, by decide⟩, tc g.1 sg, rfl, hcg, ?_⟩
    exact fin5 P.r P.hB P.ext hsg
  · rw [if_neg hop]
    refine ret_of_vc ties mixed Try.func81 rfl (by kernel_rfl) rfl rfl ?_
    refine ⟨_, hb2.2.2.2.2.1, ⟨by decide, by decide⟩, tc a.1 sa, rfl, hca.ext x2, f4, ?_⟩
    refine ⟨_, P.ca.1, _, P.hb.1, ?_⟩
    refine br_dec_false hop ?_
    refine ⟨tc x _, rfl, P.hb, ?_⟩
    exact fin5 P.r P.hB P.ext P.s
set_option maxHeartbeats 4000000 in
theorem reduceWiden_of (hR : RedS 60 n) (h : OkT (x, mkTF [a])) (ho : x.op = 20 ∨ x.op = 21) (hm : ms (x, mkTF [a]) < n + 1) (hs : TSl ok W s (mkTF [a])) :
    Ret Try.prog 84 #[tv x s] W (TRes ok (outT (stWid (x, mkTF [a]) a)) W) := by
  have hg := wid_good h ho
  obtain ⟨p, o, c, sa, rfl, hca, hsa⟩ := kids1 hs
  obtain ⟨f4, hb2, x2, P⟩ := pre1 W x hs hsa
  by_cases c1 : x.w = a.1.w
  · have e : stWid (x, mkTF [a]) a = .inl a := by unfold stWid; rw [if_pos c1]
    rw [e]
    refine ret_of_vc ties mixed Try.func84 rfl (by kernel_rfl) rfl rfl ?_
    refine ⟨_, hb2.2.2.2.2.1, ⟨by decide, by decide⟩, tc a.1 sa, rfl, hca.ext x2, f4, ?_⟩
    refine ⟨_, P.hb.2.1, _, P.ca.2.1, ?_⟩
    refine br_dec_true c1 ?_
    refine ⟨tc a.1 sa, rfl, P.ca, ?_⟩
    exact fin5 P.r P.hB P.ext P.sa
  by_cases c2 : a.1.op = x.op
  · have e : stWid (x, mkTF [a]) a = .inr (mkn x.op x.w 0, mkTF [kid a.2 0]) := by unfold stWid; rw [if_neg c1, if_pos c2]
    rw [e] at hg ⊢
    obtain ⟨y, k⟩ := a
    obtain ⟨g, rfl, hgo⟩ := ok_1 h.2.1 (by simp only at c2; omega)
    simp only [kid0] at hg ⊢
    obtain ⟨p', o', c', sg, rfl, hcg, hsg⟩ := kids1 P.sa
    have hg' : Keeps (x, mkTF [(y, mkTF [g])]) (mkn x.op x.w 0, mkTF [g]) ∧ ms (mkn x.op x.w 0, mkTF [g]) < ms (x, mkTF [(y, mkTF [g])]) ∧ _ := hg
    refine ret_of_vc ties mixed Try.func84 rfl (by kernel_rfl) rfl rfl ?_
    refine ⟨_, hb2.2.2.2.2.1, ⟨by decide, by decide⟩, tc y _, rfl, hca.ext x2, f4, ?_⟩
    refine ⟨_, P.hb.2.1, _, P.ca.2.1, ?_⟩
    refine br_dec_false c1 ?_
    refine ⟨_, P.ca.1, _, P.hb.1, ?_⟩
    refine br_dec_true c2 ?_
    refine .inr (.inr (hyb_rule ties mixed [(0, .quiet), (1, .quiet), (2, .quiet), (3, .quiet), (4, .quiet), (5, .quiet), (6, .quiet), (7, .quiet), (8, .loud), (9, .loud), (10, .wild)] (by kernel_rfl) ?_))
    refine ⟨_, P.hb.1, _, P.hb.2.1, _, P.ca.2.2.2.2.1, ⟨by decide, by decide⟩, tc g.1 sg, rfl, hcg, ?_⟩
    intro w5 x5
    obtain ⟨x6, hk6⟩ := mk1 (a := g) (hsg.ext x5) (P.step x5).lt (P.step x5).ext.size
    refine ⟨x6, ?_⟩
    intro w7 x7
    have P7 := ((P.step x5).step x6).step x7
    refine Or.inl ((remake_of hR x.op x.w 0 [g] _ (okB (bxW W x _).heap.size W ok) w7 (by omega) hg'.1.ok (hk6.ext x7)).mono ?_)
    rintro _ w8 hres
    obtain ⟨x8, s8, rfl, hs8⟩ := res_in hres P7.lt P7.ext.size
    refine ⟨x8, ?_⟩
    intro w9 x9
    have P9 := (P7.step x8).step x9
    exact fin5' P9.r P9.hB P9.ext (hs8.ext x9)
  · have e : stWid (x, mkTF [a]) a = .inl (x, mkTF [a]) := by unfold stWid; rw [if_neg c1, if_neg c2]
    rw [e]
    refine ret_of_vc ties mixed Try.func84 rfl (by kernel_rfl) rfl rfl ?_
    refine ⟨_, hb2.2.2.2.2.1, ⟨by decide, by decide⟩, tc a.1 sa, rfl, hca.ext x2, f4, ?_⟩
    refine ⟨_, P.hb.2.1, _, P.ca.2.1, ?_⟩
    refine br_dec_false c1 ?_
    refine ⟨_, P.ca.1, _, P.hb.1, ?_⟩
    refine br_dec_false c2 ?_
    refine ⟨tc x _, rfl, P.hb, ?_⟩
    exact fin5 P.r P.hB P.ext P.s
end
end Go.Proofs.Ytekddgkgeaolnaa
namespace Go.Proofs.Ytekddgkgeaolnaa
open Go Go.Vc Go.RowKit
set_option linter.unusedVariables false
section
variable {n : Nat} {x : Lab} {a b d : Tm} {s : Value} {ok : Nat → Prop} {W : World}
set_option maxHeartbeats 8000000 in
theorem reduceCut_of (hR : RedS 60 n) (h : OkT (x, mkTF [a])) (ho : x.op = 19) (hm : ms (x, mkTF [a]) < n + 1) (hs : TSl ok W s (mkTF [a])) :
    Ret Try.prog 83 #[tv x s] W (TRes ok (outT (stCut (x, mkTF [a]) a)) W) := by
  have hg := cut_good h ho
  have hfit : 0 ≤ x.n ∧ x.n ≤ a.1.w - x.w := fit_cut h.1 ho
  have hx : 1 ≤ x.w ∧ x.w ≤ 16 := h.1.width
  have ha : OkT a := h.2.1
  have haw := ha.1.width
  obtain ⟨p, o, c, sa, rfl, hca, hsa⟩ := kids1 hs
  by_cases c1 : x.n = 0 ∧ x.w = a.1.w
  · obtain ⟨f4, hb2, x2, P⟩ := pre1 W x hs hsa
    have e : stCut (x, mkTF [a]) a = .inl a := by unfold stCut; rw [if_pos c1]
    rw [e]
    refine ret_of_vc ties mixed Try.func83 rfl (by kernel_rfl) rfl rfl ?_
    refine ⟨_, hb2.2.2.2.2.1, ⟨by decide, by decide⟩, tc a.1 sa, rfl, hca.ext x2, f4, ?_⟩
    refine ⟨_, P.hb.2.2.1, ?_⟩
    refine br_dec_true c1.1 ?_
    refine ⟨_, P.hb.2.1, _, P.ca.2.1, ?_⟩
    refine br_dec_true c1.2 ?_
    refine ⟨tc a.1 sa, rfl, P.ca, ?_⟩
    exact fin5 P.r P.hB P.ext P.sa
  by_cases h19 : a.1.op = 19
  · have e : stCut (x, mkTF [a]) a = .inr (mkn 19 x.w (x.n + a.1.n), mkTF [kid a.2 0]) := by unfold stCut; rw [if_neg c1, if_pos h19]
    rw [e] at hg ⊢
    obtain ⟨y, k⟩ := a
    obtain ⟨g, rfl, hgo⟩ := ok_1 ha (by simp only at h19; omega)
    simp only [kid0] at hg h19 hfit haw c1 ⊢
    have hgw : 0 ≤ y.n ∧ y.n ≤ g.1.w - y.w := fit_cut ha.1 h19
    have hgw' := hgo.1.width
    obtain ⟨p2, o2, c2, sg, rfl, hcg, hsg⟩ := kids1 hsa
    obtain ⟨f4, hb2, x2, P0⟩ := pre1 W x hs hsa
    have hg' : Keeps (x, mkTF [(y, mkTF [g])]) (mkn 19 x.w (x.n + y.n), mkTF [g]) ∧ ms (mkn 19 x.w (x.n + y.n), mkTF [g]) < ms (x, mkTF [(y, mkTF [g])]) ∧ _ := hg
    refine ret_of_vc ties mixed Try.func83 rfl (by kernel_rfl) rfl rfl ?_
    refine seq_k fun K hK => hK _ _ ?_
    refine seq_k fun K hK => ?_
    refine ⟨_, hb2.2.2.2.2.1, ⟨by decide, by decide⟩, tc y _, rfl, hca.ext x2, f4, ?_⟩
    refine hK _ _ ?_
    refine seq_cut (x := .seq (.region 2 _ _) _) (σ := Unit) [] 9 20 (fun _ => []) (fun _ w' => Pre1 W x (.slice (some ⟨p, o, none⟩) 1 c) (mkTF [(y, mkTF [g])]) (y, mkTF [g]) (.slice (some ⟨p2, o2, none⟩) 1 c2) ok (bxW W x (.slice (some ⟨p, o, none⟩) 1 c)).heap.size (bzW (bxW W x (.slice (some ⟨p, o, none⟩) 1 c))).heap.size w') (fun K hK => ?_) (fun _ w2 junk P => ?_)
    · refine ⟨_, P0.hb.2.2.1, ?_⟩
      refine br_dec (fun h1 => ?_) (fun h1 => ?_)
      · refine ⟨_, P0.hb.2.1, _, P0.ca.2.1, ?_⟩
        refine br_dec_false (fun h2 => c1 ⟨h1, h2⟩) ?_
        refine hK () _ _ rfl P0 ?_
        ((repeat (first | (with_reducible exact Only.refl) | (with_reducible refine Only.skip ?_) | ((with_reducible refine Only.upd ?_ ?_); rfl) | ((with_reducible refine Only.over ?_ ?_ _); rfl) | ((with_reducible refine Only.hav ?_ ?_ ?_); rfl; rfl))))
      · refine hK () _ _ rfl P0 ?_
        ((repeat (first | (with_reducible exact Only.refl) | (with_reducible refine Only.skip ?_) | ((with_reducible refine Only.upd ?_ ?_); rfl) | ((with_reducible refine Only.over ?_ ?_ _); rfl) | ((with_reducible refine Only.hav ?_ ?_ ?_); rfl; rfl))))
    refine ⟨_, P.ca.1, ?_⟩
    refine br_dec_true h19 ?_
    have hsg2 := arg_in (B := (bxW W x (.slice (some ⟨p, o, none⟩) 1 c)).heap.size) hsg P.ext P.hB
    refine .inr (.inr (hyb_rule ties mixed [(0, .quiet), (1, .quiet), (2, .quiet), (3, .quiet), (4, .quiet), (5, .quiet), (6, .quiet), (7, .quiet), (8, .quiet), (9, .quiet), (10, .quiet), (11, .loud), (12, .loud), (13, .wild)] (by kernel_rfl) ?_))
    refine ⟨_, P.hb.2.1, _, P.hb.2.2.1, .int .i64 y.n, P.ca.2.2.1, _, IntWalk.i64_in _ (by omega), _, P.ca.2.2.2.2.1, ⟨by decide, by decide⟩, tc g.1 sg, rfl, hcg.ext P.ext, ?_⟩
    intro w5 x5
    obtain ⟨x6, hk6⟩ := mk1 (a := g) (hsg2.ext x5) (P.step x5).lt (P.step x5).ext.size
    refine ⟨x6, ?_⟩
    intro w7 x7
    have P7 := ((P.step x5).step x6).step x7
    refine Or.inl ((remake_of hR 19 x.w (x.n + y.n) [g] _ (okB (bxW W x _).heap.size W ok) w7 (by omega) hg'.1.ok (hk6.ext x7)).mono ?_)
    rintro _ w8 hres
    obtain ⟨x8, s8, rfl, hs8⟩ := res_in hres P7.lt P7.ext.size
    refine ⟨x8, ?_⟩
    intro w9 x9
    have P9 := (P7.step x8).step x9
    exact fin5' P9.r P9.hB P9.ext (hs8.ext x9)
  by_cases h18 : a.1.op = 18
  · obtain ⟨y, k⟩ := a
    obtain ⟨g, r, rfl, hgo, hro⟩ := ok_2 ha (by simp only at h18; omega)
    simp only at h18 h19 hfit haw c1
    have hgw : g.1.w + r.1.w = y.w := fit_join ha.1 h18
    have hgw' := hgo.1.width
    have hrw' := hro.1.width
    obtain ⟨p2, o2, c2, sg, sr, rfl, hcg, hcr, hsg, hsr⟩ := kids2 hsa
    obtain ⟨f4, hb2, x2, P0⟩ := pre1 W x hs hsa
    have e : stCut (x, mkTF [(y, mkTF [g, r])]) (y, mkTF [g, r]) = if x.n + x.w ≤ r.1.w then .inr (mkn 19 x.w x.n, mkTF [r]) else if r.1.w ≤ x.n then .inr (mkn 19 x.w (x.n - r.1.w), mkTF [g]) else .inl (x, mkTF [(y, mkTF [g, r])]) := by
      unfold stCut
      rw [if_neg c1, if_neg h19, if_pos h18]
      simp only [kid0, kid1]
    by_cases c3 : x.n + x.w ≤ r.1.w
    · rw [e, if_pos c3] at hg
      rw [e, if_pos c3]
      have hg' : Keeps (x, mkTF [(y, mkTF [g, r])]) (mkn 19 x.w x.n, mkTF [r]) ∧ ms (mkn 19 x.w x.n, mkTF [r]) < ms (x, mkTF [(y, mkTF [g, r])]) ∧ _ := hg
      refine ret_of_vc ties mixed Try.func83 rfl (by kernel_rfl) rfl rfl ?_
      refine seq_k fun K hK => hK _ _ ?_
      refine seq_k fun K hK => ?_
      refine ⟨_, hb2.2.2.2.2.1, ⟨by decide, by decide⟩, tc y _, rfl, hca.ext x2, f4, ?_⟩
      refine hK _ _ ?_
      refine seq_cut (x := .seq (.region 2 _ _) _) (σ := Unit) [] 9 20 (fun _ => []) (fun _ w' => Pre1 W x (.slice (some ⟨p, o, none⟩) 1 c) (mkTF [(y, mkTF [g, r])]) (y, mkTF [g, r]) (.slice (some ⟨p2, o2, none⟩) 2 c2) ok (bxW W x (.slice (some ⟨p, o, none⟩) 1 c)).heap.size (bzW (bxW W x (.slice (some ⟨p, o, none⟩) 1 c))).heap.size w') (fun K hK => ?_) (fun _ w2 junk P => ?_)
      · refine ⟨_, P0.hb.2.2.1, ?_⟩
        refine br_dec (fun h1 => ?_) (fun h1 => ?_)
        · refine ⟨_, P0.hb.2.1, _, P0.ca.2.1, ?_⟩
          refine br_dec_false (fun h2 => c1 ⟨h1, h2⟩) ?_
          refine hK () _ _ rfl P0 ?_
          ((repeat (first | (with_reducible exact Only.refl) | (with_reducible refine Only.skip ?_) | ((with_reducible refine Only.upd ?_ ?_); rfl) | ((with_reducible refine Only.over ?_ ?_ _); rfl) | ((with_reducible refine Only.hav ?_ ?_ ?_); rfl; rfl))))
        · refine hK () _ _ rfl P0 ?_
          ((repeat (first | (with_reducible exact Only.refl) | (with_reducible refine Only.skip ?_) | ((with_reducible refine Only.upd ?_ ?_); rfl) | ((with_reducible refine Only.over ?_ ?_ _); rfl) | ((with_reducible refine Only.hav ?_ ?_ ?_); rfl; rfl))))
      refine ⟨_, P.ca.1, ?_⟩
      refine br_dec_false h19 ?_
      refine br_dec_true h18 ?_
      have hsr2 := arg_in (B := (bxW W x (.slice (some ⟨p, o, none⟩) 1 c)).heap.size) hsr P.ext P.hB
      have hsg2 := arg_in (B := (bxW W x (.slice (some ⟨p, o, none⟩) 1 c)).heap.size) hsg P.ext P.hB
      obtain ⟨f6, c6, x6'⟩ := keep5 (W := w2) (x := r.1) (tc_one hsr2)
      refine ⟨_, P.ca.2.2.2.2.1, ⟨by decide, by decide⟩, tc r.1 sr, rfl, hcr.ext P.ext, f6, ?_⟩
      replace P := P.step x6'
      replace hsr2 := hsr2.ext x6'
      replace hsg2 := hsg2.ext x6'
      refine ⟨_, P.hb.2.2.1, _, P.hb.2.1, _, IntWalk.i64_in _ (by omega), _, c6.2.1, ?_⟩
      refine br_dec_true c3 ?_
      refine ⟨_, P.hb.2.1, _, P.hb.2.2.1, tc r.1 sr, rfl, c6, ?_⟩
      obtain ⟨x6, hk6⟩ := mk1 (a := r) hsr2 P.lt P.ext.size
      have P7 := P.step x6
      refine Or.inl ((remake_of hR 19 x.w x.n [r] _ (okB (bxW W x _).heap.size W ok) _ (by omega) hg'.1.ok hk6).mono ?_)
      rintro _ w8 hres
      obtain ⟨x8, s8, rfl, hs8⟩ := res_in hres P7.lt P7.ext.size
      have P9 := P7.step x8
      exact fin5 P9.r P9.hB P9.ext hs8
    by_cases c4 : r.1.w ≤ x.n
    · rw [e, if_neg c3, if_pos c4] at hg
      rw [e, if_neg c3, if_pos c4]
      have hg' : Keeps (x, mkTF [(y, mkTF [g, r])]) (mkn 19 x.w (x.n - r.1.w), mkTF [g]) ∧ ms (mkn 19 x.w (x.n - r.1.w), mkTF [g]) < ms (x, mkTF [(y, mkTF [g, r])]) ∧ _ := hg
      refine ret_of_vc ties mixed Try.func83 rfl (by kernel_rfl) rfl rfl ?_
      refine seq_k fun K hK => hK _ _ ?_
      refine seq_k fun K hK => ?_
      refine ⟨_, hb2.2.2.2.2.1, ⟨by decide, by decide⟩, tc y _, rfl, hca.ext x2, f4, ?_⟩
      refine hK _ _ ?_
      refine seq_cut (x := .seq (.region 2 _ _) _) (σ := Unit) [] 9 20 (fun _ => []) (fun _ w' => Pre1 W x (.slice (some ⟨p, o, none⟩) 1 c) (mkTF [(y, mkTF [g, r])]) (y, mkTF [g, r]) (.slice (some ⟨p2, o2, none⟩) 2 c2) ok (bxW W x (.slice (some ⟨p, o, none⟩) 1 c)).heap.size (bzW (bxW W x (.slice (some ⟨p, o, none⟩) 1 c))).heap.size w') (fun K hK => ?_) (fun _ w2 junk P => ?_)
      · refine ⟨_, P0.hb.2.2.1, ?_⟩
        refine br_dec (fun h1 => ?_) (fun h1 => ?_)
        · refine ⟨_, P0.hb.2.1, _, P0.ca.2.1, ?_⟩
          refine br_dec_false (fun h2 => c1 ⟨h1, h2⟩) ?_
          refine hK () _ _ rfl P0 ?_
          ((repeat (first | (with_reducible exact Only.refl) | (with_reducible refine Only.skip ?_) | ((with_reducible refine Only.upd ?_ ?_); rfl) | ((with_reducible refine Only.over ?_ ?_ _); rfl) | ((with_reducible refine Only.hav ?_ ?_ ?_); rfl; rfl))))
        · refine hK () _ _ rfl P0 ?_
          ((repeat (first | (with_reducible exact Only.refl) | (with_reducible refine Only.skip ?_) | ((with_reducible refine Only.upd ?_ ?_); rfl) | ((with_reducible refine Only.over ?_ ?_ _); rfl) | ((with_reducible refine Only.hav ?_ ?_ ?_); rfl; rfl))))
      refine ⟨_, P.ca.1, ?_⟩
      refine br_dec_false h19 ?_
      refine br_dec_true h18 ?_
      have hsr2 := arg_in (B := (bxW W x (.slice (some ⟨p, o, none⟩) 1 c)).heap.size) hsr P.ext P.hB
      have hsg2 := arg_in (B := (bxW W x (.slice (some ⟨p, o, none⟩) 1 c)).heap.size) hsg P.ext P.hB
      obtain ⟨f6, c6, x6'⟩ := keep5 (W := w2) (x := r.1) (tc_one hsr2)
      refine ⟨_, P.ca.2.2.2.2.1, ⟨by decide, by decide⟩, tc r.1 sr, rfl, hcr.ext P.ext, f6, ?_⟩
      replace P := P.step x6'
      replace hsr2 := hsr2.ext x6'
      replace hsg2 := hsg2.ext x6'
      refine ⟨_, P.hb.2.2.1, _, P.hb.2.1, _, IntWalk.i64_in _ (by omega), _, c6.2.1, ?_⟩
      refine br_dec_false c3 ?_
      refine ⟨_, P.hb.2.2.1, _, c6.2.1, ?_⟩
      refine br_dec_true c4 ?_
      refine .inr (.inr (hyb_rule ties mixed [(0, .quiet), (1, .quiet), (2, .quiet), (3, .quiet), (4, .quiet), (5, .quiet), (6, .quiet), (7, .quiet), (8, .quiet), (9, .quiet), (10, .quiet), (11, .loud), (12, .loud), (13, .wild)] (by kernel_rfl) ?_))
      refine ⟨_, P.hb.2.1, _, P.hb.2.2.1, _, c6.2.1, _, IntWalk.i64_in _ (by omega), _, P.ca.2.2.2.2.1, ⟨by decide, by decide⟩, tc g.1 sg, rfl, hcg.ext P.ext, ?_⟩
      intro w5 x5
      obtain ⟨x6, hk6⟩ := mk1 (a := g) (hsg2.ext x5) (P.step x5).lt (P.step x5).ext.size
      refine ⟨x6, ?_⟩
      intro w7 x7
      have P7 := ((P.step x5).step x6).step x7
      refine Or.inl ((remake_of hR 19 x.w (x.n - r.1.w) [g] _ (okB (bxW W x _).heap.size W ok) w7 (by omega) hg'.1.ok (hk6.ext x7)).mono ?_)
      rintro _ w8 hres
      obtain ⟨x8, s8, rfl, hs8⟩ := res_in hres P7.lt P7.ext.size
      refine ⟨x8, ?_⟩
      intro w9 x9
      have P9 := (P7.step x8).step x9
      exact fin5' P9.r P9.hB P9.ext (hs8.ext x9)
    · rw [e, if_neg c3, if_neg c4]
      refine ret_of_vc ties mixed Try.func83 rfl (by kernel_rfl) rfl rfl ?_
      refine seq_k fun K hK => hK _ _ ?_
      refine seq_k fun K hK => ?_
      refine ⟨_, hb2.2.2.2.2.1, ⟨by decide, by decide⟩, tc y _, rfl, hca.ext x2, f4, ?_⟩
      refine hK _ _ ?_
      refine seq_cut (x := .seq (.region 2 _ _) _) (σ := Unit) [] 9 20 (fun _ => []) (fun _ w' => Pre1 W x (.slice (some ⟨p, o, none⟩) 1 c) (mkTF [(y, mkTF [g, r])]) (y, mkTF [g, r]) (.slice (some ⟨p2, o2, none⟩) 2 c2) ok (bxW W x (.slice (some ⟨p, o, none⟩) 1 c)).heap.size (bzW (bxW W x (.slice (some ⟨p, o, none⟩) 1 c))).heap.size w') (fun K hK => ?_) (fun _ w2 junk P => ?_)
      · refine ⟨_, P0.hb.2.2.1, ?_⟩
        refine br_dec (fun h1 => ?_) (fun h1 => ?_)
        · refine ⟨_, P0.hb.2.1, _, P0.ca.2.1, ?_⟩
          refine br_dec_false (fun h2 => c1 ⟨h1, h2⟩) ?_
          refine hK () _ _ rfl P0 ?_
          ((repeat (first | (with_reducible exact Only.refl) | (with_reducible refine Only.skip ?_) | ((with_reducible refine Only.upd ?_ ?_); rfl) | ((with_reducible refine Only.over ?_ ?_ _); rfl) | ((with_reducible refine Only.hav ?_ ?_ ?_); rfl; rfl))))
        · refine hK () _ _ rfl P0 ?_
          ((repeat (first | (with_reducible exact Only.refl) | (with_reducible refine Only.skip ?_) | ((with_reducible refine Only.upd ?_ ?_); rfl) | ((with_reducible refine Only.over ?_ ?_ _); rfl) | ((with_reducible refine Only.hav ?_ ?_ ?_); rfl; rfl))))
      refine ⟨_, P.ca.1, ?_⟩
      refine br_dec_false h19 ?_
      refine br_dec_true h18 ?_
      have hsr2 := arg_in (B := (bxW W x (.slice (some ⟨p, o, none⟩) 1 c)).heap.size) hsr P.ext P.hB
      have hsg2 := arg_in (B := (bxW W x (.slice (some ⟨p, o, none⟩) 1 c)).heap.size) hsg P.ext P.hB
      obtain ⟨f6, c6, x6'⟩ := keep5 (W := w2) (x := r.1) (tc_one hsr2)
      refine ⟨_, P.ca.2.2.2.2.1, ⟨by decide, by decide⟩, tc r.1 sr, rfl, hcr.ext P.ext, f6, ?_⟩
      replace P := P.step x6'
      replace hsr2 := hsr2.ext x6'
      replace hsg2 := hsg2.ext x6'
      refine ⟨_, P.hb.2.2.1, _, P.hb.2.1, _, IntWalk.i64_in _ (by omega), _, c6.2.1, ?_⟩
      refine br_dec_false c3 ?_
      refine ⟨_, P.hb.2.2.1, _, c6.2.1, ?_⟩
      refine br_dec_false c4 ?_
      refine ⟨tc x _, rfl, P.hb, ?_⟩
      exact fin5 P.r P.hB P.ext P.s
  by_cases h20 : a.1.op = 20 ∨ a.1.op = 21
  · obtain ⟨y, k⟩ := a
    obtain ⟨g, rfl, hgo⟩ := ok_1 ha (by simp only at h20; omega)
    simp only at h18 h19 h20 hfit haw c1
    have hgw : g.1.w ≤ y.w := fit_wid ha.1 h20
    have hgw' := hgo.1.width
    obtain ⟨p2, o2, c2, sg, rfl, hcg, hsg⟩ := kids1 hsa
    obtain ⟨f4, hb2, x2, P0⟩ := pre1 W x hs hsa
    have e : stCut (x, mkTF [(y, mkTF [g])]) (y, mkTF [g]) = if x.n + x.w ≤ g.1.w then .inr (mkn 19 x.w x.n, mkTF [g]) else .inl (x, mkTF [(y, mkTF [g])]) := by
      unfold stCut
      rw [if_neg c1, if_neg h19, if_neg h18, if_pos h20]
      simp only [kid0]
    by_cases c3 : x.n + x.w ≤ g.1.w
    · rw [e, if_pos c3] at hg
      rw [e, if_pos c3]
      have hg' : Keeps (x, mkTF [(y, mkTF [g])]) (mkn 19 x.w x.n, mkTF [g]) ∧ ms (mkn 19 x.w x.n, mkTF [g]) < ms (x, mkTF [(y, mkTF [g])]) ∧ _ := hg
      refine ret_of_vc ties mixed Try.func83 rfl (by kernel_rfl) rfl rfl ?_
      refine seq_k fun K hK => hK _ _ ?_
      refine seq_k fun K hK => ?_
      refine ⟨_, hb2.2.2.2.2.1, ⟨by decide, by decide⟩, tc y _, rfl, hca.ext x2, f4, ?_⟩
      refine hK _ _ ?_
      refine seq_cut (x := .seq (.region 2 _ _) _) (σ := Unit) [] 9 20 (fun _ => []) (fun _ w' => Pre1 W x (.slice (some ⟨p, o, none⟩) 1 c) (mkTF [(y, mkTF [g])]) (y, mkTF [g]) (.slice (some ⟨p2, o2, none⟩) 1 c2) ok (bxW W x (.slice (some ⟨p, o, none⟩) 1 c)).heap.size (bzW (bxW W x (.slice (some ⟨p, o, none⟩) 1 c))).heap.size w') (fun K hK => ?_) (fun _ w2 junk P => ?_)
      · refine ⟨_, P0.hb.2.2.1, ?_⟩
        refine br_dec (fun h1 => ?_) (fun h1 => ?_)
        · refine ⟨_, P0.hb.2.1, _, P0.ca.2.1, ?_⟩
          refine br_dec_false (fun h2 => c1 ⟨h1, h2⟩) ?_
          refine hK () _ _ rfl P0 ?_
          ((repeat (first | (with_reducible exact Only.refl) | (with_reducible refine Only.skip ?_) | ((with_reducible refine Only.upd ?_ ?_); rfl) | ((with_reducible refine Only.over ?_ ?_ _); rfl) | ((with_reducible refine Only.hav ?_ ?_ ?_); rfl; rfl))))
        · refine hK () _ _ rfl P0 ?_
          ((repeat (first | (with_reducible exact Only.refl) | (with_reducible refine Only.skip ?_) | ((with_reducible refine Only.upd ?_ ?_); rfl) | ((with_reducible refine Only.over ?_ ?_ _); rfl) | ((with_reducible refine Only.hav ?_ ?_ ?_); rfl; rfl))))
      refine ⟨_, P.ca.1, ?_⟩
      refine br_dec_false h19 ?_
      refine br_dec_false h18 ?_
      have hsg2 := arg_in (B := (bxW W x (.slice (some ⟨p, o, none⟩) 1 c)).heap.size) hsg P.ext P.hB
      have hin : y.op = 20 ∨ y.op = 21 := h20
      refine br_dec (fun h1 => ?yes) (fun h1 => ?no)
      case' yes => refine br_dec_true h1 ?_
      case' no =>
        refine br_dec_true (hin.resolve_left h1) ?_
      all_goals
        refine .inl ⟨by kernel_rfl, _, P.hb.2.2.1, _, P.hb.2.1, _, IntWalk.i64_in _ (by omega), _, P.ca.2.2.2.2.1, ⟨by decide, by decide⟩, _, (hcg.ext P.ext).2.1, ?_⟩
        intro w3 x3
        replace P := P.step x3
        replace hsg2 := hsg2.ext x3
        refine br_dec_true c3 ?_
        refine .inr (.inr (hyb_rule ties mixed [(0, .quiet), (1, .quiet), (2, .quiet), (3, .quiet), (4, .quiet), (5, .quiet), (6, .quiet), (7, .quiet), (8, .loud), (9, .loud), (10, .wild)] (by kernel_rfl) ?_))
        refine ⟨_, P.hb.2.1, _, P.hb.2.2.1, _, P.ca.2.2.2.2.1, ⟨by decide, by decide⟩, tc g.1 sg, rfl, hcg.ext P.ext, ?_⟩
        intro w5 x5
        obtain ⟨x6, hk6⟩ := mk1 (a := g) (hsg2.ext x5) (P.step x5).lt (P.step x5).ext.size
        refine ⟨x6, ?_⟩
        intro w7 x7
        have P7 := ((P.step x5).step x6).step x7
        refine Or.inl ((remake_of hR 19 x.w x.n [g] _ (okB (bxW W x _).heap.size W ok) w7 (by omega) hg'.1.ok (hk6.ext x7)).mono ?_)
        rintro _ w8 hres
        obtain ⟨x8, s8, rfl, hs8⟩ := res_in hres P7.lt P7.ext.size
        refine ⟨x8, ?_⟩
        intro w9 x9
        have P9 := (P7.step x8).step x9
        exact fin5' P9.r P9.hB P9.ext (hs8.ext x9)
    · rw [e, if_neg c3]
      refine ret_of_vc ties mixed Try.func83 rfl (by kernel_rfl) rfl rfl ?_
      refine seq_k fun K hK => hK _ _ ?_
      refine seq_k fun K hK => ?_
      refine ⟨_, hb2.2.2.2.2.1, ⟨by decide, by decide⟩, tc y _, rfl, hca.ext x2, f4, ?_⟩
      refine hK _ _ ?_
      refine seq_cut (x := .seq (.region 2 _ _) _) (σ := Unit) [] 9 20 (fun _ => []) (fun _ w' => Pre1 W x (.slice (some ⟨p, o, none⟩) 1 c) (mkTF [(y, mkTF [g])]) (y, mkTF [g]) (.slice (some ⟨p2, o2, none⟩) 1 c2) ok (bxW W x (.slice (some ⟨p, o, none⟩) 1 c)).heap.size (bzW (bxW W x (.slice (some ⟨p, o, none⟩) 1 c))).heap.size w') (fun K hK => ?_) (fun _ w2 junk P => ?_)
      · refine ⟨_, P0.hb.2.2.1, ?_⟩
        refine br_dec (fun h1 => ?_) (fun h1 => ?_)
        · refine ⟨_, P0.hb.2.1, _, P0.ca.2.1, ?_⟩
          refine br_dec_false (fun h2 => c1 ⟨h1, h2⟩) ?_
          refine hK () _ _ rfl P0 ?_
          ((repeat (first | (with_reducible exact Only.refl) | (with_reducible refine Only.skip ?_) | ((with_reducible refine Only.upd ?_ ?_); rfl) | ((with_reducible refine Only.over ?_ ?_ _); rfl) | ((with_reducible refine Only.hav ?_ ?_ ?_); rfl; rfl))))
        · refine hK () _ _ rfl P0 ?_
          ((repeat (first | (with_reducible exact Only.refl) | (with_reducible refine Only.skip ?_) | ((with_reducible refine Only.upd ?_ ?_); rfl) | ((with_reducible refine Only.over ?_ ?_ _); rfl) | ((with_reducible refine Only.hav ?_ ?_ ?_); rfl; rfl))))
      refine ⟨_, P.ca.1, ?_⟩
      refine br_dec_false h19 ?_
      refine br_dec_false h18 ?_
      have hsg2 := arg_in (B := (bxW W x (.slice (some ⟨p, o, none⟩) 1 c)).heap.size) hsg P.ext P.hB
      have hin : y.op = 20 ∨ y.op = 21 := h20
      refine br_dec (fun h1 => ?yes2) (fun h1 => ?no2)
      case' yes2 => refine br_dec_true h1 ?_
      case' no2 =>
        refine br_dec_true (hin.resolve_left h1) ?_
      all_goals
        refine .inl ⟨by kernel_rfl, _, P.hb.2.2.1, _, P.hb.2.1, _, IntWalk.i64_in _ (by omega), _, P.ca.2.2.2.2.1, ⟨by decide, by decide⟩, _, (hcg.ext P.ext).2.1, ?_⟩
        intro w3 x3
        replace P := P.step x3
        replace hsg2 := hsg2.ext x3
        refine br_dec_false c3 ?_
        refine ⟨tc x _, rfl, P.hb, ?_⟩
        exact fin5 P.r P.hB P.ext P.s
  · have e : stCut (x, mkTF [a]) a = .inl (x, mkTF [a]) := by unfold stCut; rw [if_neg c1, if_neg h19, if_neg h18, if_neg h20]
    rw [e]
    obtain ⟨f4, hb2, x2, P0⟩ := pre1 W x hs hsa
    refine ret_of_vc ties mixed Try.func83 rfl (by kernel_rfl) rfl rfl ?_
    refine seq_k fun K hK => hK _ _ ?_
    refine seq_k fun K hK => ?_
    refine ⟨_, hb2.2.2.2.2.1, ⟨by decide, by decide⟩, tc a.1 _, rfl, hca.ext x2, f4, ?_⟩
    refine hK _ _ ?_
    refine seq_cut (x := .seq (.region 2 _ _) _) (σ := Unit) [] 9 20 (fun _ => []) (fun _ w' => Pre1 W x (.slice (some ⟨p, o, none⟩) 1 c) (mkTF [a]) a sa ok (bxW W x (.slice (some ⟨p, o, none⟩) 1 c)).heap.size (bzW (bxW W x (.slice (some ⟨p, o, none⟩) 1 c))).heap.size w') (fun K hK => ?_) (fun _ w2 junk P => ?_)
    · refine ⟨_, P0.hb.2.2.1, ?_⟩
      refine br_dec (fun h1 => ?_) (fun h1 => ?_)
      · refine ⟨_, P0.hb.2.1, _, P0.ca.2.1, ?_⟩
        refine br_dec_false (fun h2 => c1 ⟨h1, h2⟩) ?_
        refine hK () _ _ rfl P0 ?_
        ((repeat (first | (with_reducible exact Only.refl) | (with_reducible refine Only.skip ?_) | ((with_reducible refine Only.upd ?_ ?_); rfl) | ((with_reducible refine Only.over ?_ ?_ _); rfl) | ((with_reducible refine Only.hav ?_ ?_ ?_); rfl; rfl))))
      · refine hK () _ _ rfl P0 ?_
        ((repeat (first | (with_reducible exact Only.refl) | (with_reducible refine Only.skip ?_) | ((with_reducible refine Only.upd ?_ ?_); rfl) | ((with_reducible refine Only.over ?_ ?_ _); rfl) | ((with_reducible refine Only.hav ?_ ?_ ?_); rfl; rfl))))
    refine ⟨_, P.ca.1, ?_⟩
    refine br_dec_false h19 ?_
    refine br_dec_false h18 ?_
    refine br_dec_false (fun h => h20 (.inl h)) ?_
    refine br_dec_false (fun h => h20 (.inr h)) ?_
    refine ⟨tc x _, rfl, P.hb, ?_⟩
    exact fin5 P.r P.hB P.ext P.s
end
end Go.Proofs.Ytekddgkgeaolnaa
