/- What a term stands for, in the program: evalNode. Steps towards a simpler form, in the program: reduce. The simpler form of a whole term, in the program: simplifyNode. A copy of a term, in the program: its rows lie apart. Simplify and IsSimple, in the program. -/
import Derived.Test.YtekddgkgeaolnaaQ1
import Derived.Test.YtekddgkgeaolnaaQs
import Derived.Test.YtekddgkgeaolnaaTr
import Derived.Test.YtekddgkgeaolnaaQn
namespace Go.Proofs.Ytekddgkgeaolnaa
open Go Go.Vc Go.RowKit
set_option linter.unusedVariables false

/-- A map of words, as a function. -/
def EnvM (w : World) (mv : Value) (e : ByteArray → Int) : Prop := (mv = .map none ∧ ∀ s, e s = 0) ∨ ∃ m al, mv = .map (some m) ∧ MapAt w m al ∧ ∀ s, (al.get s).getD (.int .i64 0) = .int .i64 (e s)
theorem EnvM.ext {w w' : World} {mv : Value} {e : ByteArray → Int} (h : EnvM w mv e) (x : Ext w w') : EnvM w' mv e := h.imp id fun ⟨m, al, h1, h2, h3⟩ => ⟨m, al, h1, h2.ext x, h3⟩
def EvS (n : Nat) : Prop := ∀ (t : Tm) (s mv : Value) (e : ByteArray → Int) (W : World), t.sz ≤ n → OkT t → TSl anyB W s t.2 → EnvM W mv e → Ret Try.prog 37 #[tv t.1 s, mv] W (fun v w' => v = .int .i64 (evT e t) ∧ Ext W w')
theorem nin {x : Lab} {l : List Lab} (h : NodeOk x l) : inI x.n := by
  have h0 := h.width
  by_cases h1 : x.op = 0
  · have := wOk_iff.1 (h.const h1)
    have h2 : (2 : Int) ^ x.w.toNat ≤ 2 ^ 16 := by
      have : (2 : Nat) ^ x.w.toNat ≤ 2 ^ 16 := Nat.pow_le_pow_right (by omega) (by omega)
      exact_mod_cast this
    exact ⟨by omega, by omega⟩
  by_cases h2 : x.op = 19
  · have := fit_cut h h2
    have hk : kw l 0 ≤ 16 := by
      unfold kw
      cases l with
      | nil => decide
      | cons y r => exact (h.kids y (by simp)).2
    exact ⟨by omega, by omega⟩
  · rw [h.num h1 h2]; exact ⟨by decide, by decide⟩
theorem all_mk {p : Lab → Prop} : ∀ {l : List Tm}, (mkTF l).All p → ∀ t ∈ l, p t.1 ∧ t.2.All p := by
  intro l
  induction l with
  | nil => intro _ t h; cases h
  | cons u l ih =>
    rintro ⟨h1, h2, h3⟩ t h
    rcases List.mem_cons.1 h with rfl | h
    · exact ⟨h1, h2⟩
    · exact ih h3 t h
set_option maxRecDepth 100000 in
set_option maxHeartbeats 8000000 in
theorem evalNode_all : ∀ n, EvS n := by
  intro n
  induction n with
  | zero => intro t s mv e W h; have := sz_pos t; omega
  | succ n ih =>
    rintro ⟨x, k⟩ s mv e W hsz h hs he
    have hN : NodeOk x (hdF k) := h.1
    have hxn : inI x.n := nin hN
    have x1 := bx_ext W x s
    have hb := bx_at W x s
    have hs1 := hs.ext x1
    have he1 := he.ext x1
    rcases ops hN with ho | ho | ho | ho | ho | ho | ho | ho | ho
    · rw [ev_con k ho]
      refine ret_of_vc ties mixed Try.func37 rfl (by kernel_rfl) rfl rfl ?_
      refine ⟨_, hb.1, ?_⟩
      refine br_dec_true ho ?_
      exact ⟨_, hb.2.2.1, rfl, x1⟩
    · rw [ev_var k ho]
      rcases he1 with ⟨rfl, h0⟩ | ⟨m, al, rfl, hm, hal⟩
      · refine ret_of_vc ties mixed Try.func37 rfl (by kernel_rfl) rfl rfl ?_
        refine ⟨_, hb.1, ?_⟩
        refine br_dec_false (by omega) ?_
        refine br_dec_true ho ?_
        refine ⟨_, hb.2.2.2.1, ?_⟩
        refine raw_lookup_nil ties rfl rfl rfl rfl (by kernel_rfl) rfl rfl rfl ?_
        exact ⟨vint (h0 _).symm, x1⟩
      · refine ret_of_vc ties mixed Try.func37 rfl (by kernel_rfl) rfl rfl ?_
        refine ⟨_, hb.1, ?_⟩
        refine br_dec_false (by omega) ?_
        refine br_dec_true ho ?_
        refine ⟨_, hb.2.2.2.1, ?_⟩
        refine raw_lookup ties rfl rfl rfl rfl (by kernel_rfl) rfl rfl rfl hm ?_
        exact ⟨hal _, x1⟩
    · obtain ⟨a, rfl, ha⟩ := ok_1 h (by omega)
      obtain ⟨p, o, c, sa, rfl, hca, hsa⟩ := kids1 hs1
      rw [sz1] at hsz
      rw [ev_un ho]
      have hi := fun w (xw : Ext (bxW W x (.slice (some ⟨p, o, none⟩) 1 c)) w) => ih a sa mv e w (by omega) ha (hsa.ext xw) (he1.ext xw)
      refine ret_of_vc ties mixed Try.func37 rfl (by kernel_rfl) rfl rfl ?_
      refine ⟨_, hb.1, ?_⟩
      refine br_dec_false (by omega) ?_
      refine br_dec_false (by omega) ?_
      refine br_dec_false (by omega) ?_
      refine ⟨_, hb.2.2.2.2.1, ⟨by decide, by decide⟩, tc a.1 sa, rfl, hca, ?_⟩
      refine Or.inl ((hi _ (Ext.refl _)).mono ?_)
      rintro _ w2 ⟨rfl, x2⟩
      refine ⟨_, x2.cell hb.2.2.2.2.1, ⟨by decide, by decide⟩, _, x2.cell hca.2.1, _, x2.cell hb.1, ?_⟩
      refine br_dec (fun h1 => ?a1) (fun h1 => ?a2)
      case' a1 => refine br_dec_true h1 ?_
      case' a2 => refine br_dec_true (ho.resolve_left h1) ?_
      all_goals
        refine ⟨_, x2.cell hb.1, ?_⟩
        refine Or.inl ((impl_ApplyUnary _ _ _ _).mono ?_)
        rintro _ _ ⟨rfl, rfl⟩
        exact ⟨rfl, x1.trans x2⟩
    · obtain ⟨a, rfl, ha⟩ := ok_1 h (by omega)
      obtain ⟨p, o, c, sa, rfl, hca, hsa⟩ := kids1 hs1
      rw [sz1] at hsz
      rw [ev_cut ho]
      have hi := fun w (xw : Ext (bxW W x (.slice (some ⟨p, o, none⟩) 1 c)) w) => ih a sa mv e w (by omega) ha (hsa.ext xw) (he1.ext xw)
      refine ret_of_vc ties mixed Try.func37 rfl (by kernel_rfl) rfl rfl ?_
      refine ⟨_, hb.1, ?_⟩
      refine br_dec_false (by omega) ?_
      refine br_dec_false (by omega) ?_
      refine br_dec_false (by omega) ?_
      refine ⟨_, hb.2.2.2.2.1, ⟨by decide, by decide⟩, tc a.1 sa, rfl, hca, ?_⟩
      refine Or.inl ((hi _ (Ext.refl _)).mono ?_)
      rintro _ w2 ⟨rfl, x2⟩
      refine ⟨_, x2.cell hb.2.2.2.2.1, ⟨by decide, by decide⟩, _, x2.cell hca.2.1, _, x2.cell hb.1, ?_⟩
      refine br_dec_false (by omega : ¬ x.op = 1) ?_
      refine br_dec_false (by omega : ¬ x.op = 2) ?_
      refine br_dec_true ho ?_
      refine ⟨_, x2.cell hb.2.2.1, _, x2.cell hb.2.1, ?_⟩
      refine Or.inl ((impl_CutWord _ _ _ _ hxn _).mono ?_)
      rintro _ _ ⟨rfl, rfl⟩
      exact ⟨rfl, x1.trans x2⟩
    · obtain ⟨a, rfl, ha⟩ := ok_1 h (by omega)
      obtain ⟨p, o, c, sa, rfl, hca, hsa⟩ := kids1 hs1
      rw [sz1] at hsz
      rw [ev_wid ho]
      have hi := fun w (xw : Ext (bxW W x (.slice (some ⟨p, o, none⟩) 1 c)) w) => ih a sa mv e w (by omega) ha (hsa.ext xw) (he1.ext xw)
      refine ret_of_vc ties mixed Try.func37 rfl (by kernel_rfl) rfl rfl ?_
      refine ⟨_, hb.1, ?_⟩
      refine br_dec_false (by omega) ?_
      refine br_dec_false (by omega) ?_
      refine br_dec_false (by omega) ?_
      refine ⟨_, hb.2.2.2.2.1, ⟨by decide, by decide⟩, tc a.1 sa, rfl, hca, ?_⟩
      refine Or.inl ((hi _ (Ext.refl _)).mono ?_)
      rintro _ w2 ⟨rfl, x2⟩
      refine ⟨_, x2.cell hb.2.2.2.2.1, ⟨by decide, by decide⟩, _, x2.cell hca.2.1, _, x2.cell hb.1, ?_⟩
      refine br_dec_false (by omega : ¬ x.op = 1) ?_
      refine br_dec_false (by omega : ¬ x.op = 2) ?_
      refine br_dec_false (by omega : ¬ x.op = 19) ?_
      refine br_dec (fun h1 => ?b1) (fun h1 => ?b2)
      case' b1 => refine br_dec_true h1 ?_
      case' b2 => refine br_dec_true (ho.resolve_left h1) ?_
      all_goals
        refine ⟨_, x2.cell hb.2.1, _, x2.cell hb.1, ?_⟩
        refine Or.inl ((impl_WidenWord _ _ _ _ _).mono ?_)
        rintro _ _ ⟨rfl, rfl⟩
        exact ⟨rfl, x1.trans x2⟩
    · obtain ⟨a, b, rfl, ha, hb'⟩ := ok_2 h (by omega)
      obtain ⟨p, o, c, sa, sb, rfl, hca, hcb, hsa, hsb⟩ := kids2 hs1
      rw [sz2] at hsz
      rw [ev_bin (by omega)]
      have hi := fun w (xw : Ext (bxW W x (.slice (some ⟨p, o, none⟩) 2 c)) w) => ih a sa mv e w (by omega) ha (hsa.ext xw) (he1.ext xw)
      have hj := fun w (xw : Ext (bxW W x (.slice (some ⟨p, o, none⟩) 2 c)) w) => ih b sb mv e w (by omega) hb' (hsb.ext xw) (he1.ext xw)
      refine ret_of_vc ties mixed Try.func37 rfl (by kernel_rfl) rfl rfl ?_
      refine ⟨_, hb.1, ?_⟩
      refine br_dec_false (by omega) ?_
      refine br_dec_false (by omega) ?_
      refine br_dec_false (by omega) ?_
      refine ⟨_, hb.2.2.2.2.1, ⟨by decide, by decide⟩, tc a.1 sa, rfl, hca, ?_⟩
      refine Or.inl ((hi _ (Ext.refl _)).mono ?_)
      rintro _ w2 ⟨rfl, x2⟩
      refine ⟨_, x2.cell hb.2.2.2.2.1, ⟨by decide, by decide⟩, _, x2.cell hca.2.1, _, x2.cell hb.1, ?_⟩
      refine br_dec_false (by omega : ¬ x.op = 1) ?_
      refine br_dec_false (by omega : ¬ x.op = 2) ?_
      refine br_dec_false (by omega : ¬ x.op = 19) ?_
      refine br_dec_false (by omega : ¬ x.op = 20) ?_
      refine br_dec_false (by omega : ¬ x.op = 21) ?_
      refine ⟨_, x2.cell hb.2.2.2.2.1, ⟨by decide, by decide⟩, tc b.1 sb, rfl, hcb.ext x2, ?_⟩
      refine Or.inl ((hj _ x2).mono ?_)
      rintro _ w3 ⟨rfl, x3⟩
      refine ⟨_, (x2.trans x3).cell hb.1, ?_⟩
      refine br_dec_false (by omega : ¬ x.op = 18) ?_
      refine ⟨_, (x2.trans x3).cell hb.1, ?_⟩
      refine Or.inl ((impl_ApplyBinary _ _ _ _ _).mono ?_)
      rintro _ _ ⟨rfl, rfl⟩
      exact ⟨rfl, (x1.trans x2).trans x3⟩
    · obtain ⟨a, b, rfl, ha, hb'⟩ := ok_2 h (by omega)
      obtain ⟨p, o, c, sa, sb, rfl, hca, hcb, hsa, hsb⟩ := kids2 hs1
      rw [sz2] at hsz
      rw [ev_bin (by omega)]
      have hi := fun w (xw : Ext (bxW W x (.slice (some ⟨p, o, none⟩) 2 c)) w) => ih a sa mv e w (by omega) ha (hsa.ext xw) (he1.ext xw)
      have hj := fun w (xw : Ext (bxW W x (.slice (some ⟨p, o, none⟩) 2 c)) w) => ih b sb mv e w (by omega) hb' (hsb.ext xw) (he1.ext xw)
      refine ret_of_vc ties mixed Try.func37 rfl (by kernel_rfl) rfl rfl ?_
      refine ⟨_, hb.1, ?_⟩
      refine br_dec_false (by omega) ?_
      refine br_dec_false (by omega) ?_
      refine br_dec_false (by omega) ?_
      refine ⟨_, hb.2.2.2.2.1, ⟨by decide, by decide⟩, tc a.1 sa, rfl, hca, ?_⟩
      refine Or.inl ((hi _ (Ext.refl _)).mono ?_)
      rintro _ w2 ⟨rfl, x2⟩
      refine ⟨_, x2.cell hb.2.2.2.2.1, ⟨by decide, by decide⟩, _, x2.cell hca.2.1, _, x2.cell hb.1, ?_⟩
      refine br_dec_false (by omega : ¬ x.op = 1) ?_
      refine br_dec_false (by omega : ¬ x.op = 2) ?_
      refine br_dec_false (by omega : ¬ x.op = 19) ?_
      refine br_dec_false (by omega : ¬ x.op = 20) ?_
      refine br_dec_false (by omega : ¬ x.op = 21) ?_
      refine ⟨_, x2.cell hb.2.2.2.2.1, ⟨by decide, by decide⟩, tc b.1 sb, rfl, hcb.ext x2, ?_⟩
      refine Or.inl ((hj _ x2).mono ?_)
      rintro _ w3 ⟨rfl, x3⟩
      refine ⟨_, (x2.trans x3).cell hb.1, ?_⟩
      refine br_dec_false (by omega : ¬ x.op = 18) ?_
      refine ⟨_, (x2.trans x3).cell hb.1, ?_⟩
      refine Or.inl ((impl_ApplyBinary _ _ _ _ _).mono ?_)
      rintro _ _ ⟨rfl, rfl⟩
      exact ⟨rfl, (x1.trans x2).trans x3⟩
    · obtain ⟨a, b, rfl, ha, hb'⟩ := ok_2 h (by omega)
      obtain ⟨p, o, c, sa, sb, rfl, hca, hcb, hsa, hsb⟩ := kids2 hs1
      rw [sz2] at hsz
      rw [ev_join ho]
      have hi := fun w (xw : Ext (bxW W x (.slice (some ⟨p, o, none⟩) 2 c)) w) => ih a sa mv e w (by omega) ha (hsa.ext xw) (he1.ext xw)
      have hj := fun w (xw : Ext (bxW W x (.slice (some ⟨p, o, none⟩) 2 c)) w) => ih b sb mv e w (by omega) hb' (hsb.ext xw) (he1.ext xw)
      refine ret_of_vc ties mixed Try.func37 rfl (by kernel_rfl) rfl rfl ?_
      refine ⟨_, hb.1, ?_⟩
      refine br_dec_false (by omega) ?_
      refine br_dec_false (by omega) ?_
      refine br_dec_false (by omega) ?_
      refine ⟨_, hb.2.2.2.2.1, ⟨by decide, by decide⟩, tc a.1 sa, rfl, hca, ?_⟩
      refine Or.inl ((hi _ (Ext.refl _)).mono ?_)
      rintro _ w2 ⟨rfl, x2⟩
      refine ⟨_, x2.cell hb.2.2.2.2.1, ⟨by decide, by decide⟩, _, x2.cell hca.2.1, _, x2.cell hb.1, ?_⟩
      refine br_dec_false (by omega : ¬ x.op = 1) ?_
      refine br_dec_false (by omega : ¬ x.op = 2) ?_
      refine br_dec_false (by omega : ¬ x.op = 19) ?_
      refine br_dec_false (by omega : ¬ x.op = 20) ?_
      refine br_dec_false (by omega : ¬ x.op = 21) ?_
      refine ⟨_, x2.cell hb.2.2.2.2.1, ⟨by decide, by decide⟩, tc b.1 sb, rfl, hcb.ext x2, ?_⟩
      refine Or.inl ((hj _ x2).mono ?_)
      rintro _ w3 ⟨rfl, x3⟩
      refine ⟨_, (x2.trans x3).cell hb.1, ?_⟩
      refine br_dec_true ho ?_
      refine ⟨_, (x2.trans x3).cell hb.2.2.2.2.1, ⟨by decide, by decide⟩, _, (x2.trans x3).cell hcb.2.1, ?_⟩
      refine Or.inl ((impl_JoinWords _ _ _ _ _).mono ?_)
      rintro _ _ ⟨rfl, rfl⟩
      exact ⟨rfl, (x1.trans x2).trans x3⟩
    · obtain ⟨a, b, d, rfl, ha, hb', hd'⟩ := ok_3 h ho
      obtain ⟨p, o, c, sa, sb, sd, rfl, hca, hcb, hcd, hsa, hsb, hsd⟩ := kids3 hs1
      rw [sz3] at hsz
      rw [ev_if ho]
      have hi := fun w (xw : Ext (bxW W x (.slice (some ⟨p, o, none⟩) 3 c)) w) => ih a sa mv e w (by omega) ha (hsa.ext xw) (he1.ext xw)
      have hj := fun w (xw : Ext (bxW W x (.slice (some ⟨p, o, none⟩) 3 c)) w) => ih b sb mv e w (by omega) hb' (hsb.ext xw) (he1.ext xw)
      have hk := fun w (xw : Ext (bxW W x (.slice (some ⟨p, o, none⟩) 3 c)) w) => ih d sd mv e w (by omega) hd' (hsd.ext xw) (he1.ext xw)
      refine ret_of_vc ties mixed Try.func37 rfl (by kernel_rfl) rfl rfl ?_
      refine ⟨_, hb.1, ?_⟩
      refine br_dec_false (by omega) ?_
      refine br_dec_false (by omega) ?_
      refine br_dec_true ho ?_
      refine ⟨_, hb.2.2.2.2.1, ⟨by decide, by decide⟩, tc a.1 sa, rfl, hca, ?_⟩
      refine Or.inl ((hi _ (Ext.refl _)).mono ?_)
      rintro _ w2 ⟨rfl, x2⟩
      refine br_dec (fun h1 => ?_) (fun h1 => ?_)
      · refine ⟨_, x2.cell hb.2.2.2.2.1, ⟨by decide, by decide⟩, tc b.1 sb, rfl, hcb.ext x2, ?_⟩
        refine Or.inl ((hj _ x2).mono ?_)
        rintro _ w3 ⟨rfl, x3⟩
        exact ⟨vint (by rw [if_pos h1]), (x1.trans x2).trans x3⟩
      · refine ⟨_, x2.cell hb.2.2.2.2.1, ⟨by decide, by decide⟩, tc d.1 sd, rfl, hcd.ext x2, ?_⟩
        refine Or.inl ((hk _ x2).mono ?_)
        rintro _ w3 ⟨rfl, x3⟩
        exact ⟨vint (by rw [if_neg h1]), (x1.trans x2).trans x3⟩
end Go.Proofs.Ytekddgkgeaolnaa
namespace Go.Proofs.Ytekddgkgeaolnaa
open Go Go.Vc Go.RowKit
set_option linter.unusedVariables false

/-- The first i kids are all constants. -/
def alC (k : TF) (i : Nat) : Bool := ((tms k).take i).all fun t => decide (t.1.op = 0)
theorem alC_zero (k : TF) : alC k 0 = true := by simp [alC]
theorem alC_succ {k : TF} {i : Nat} {t : Tm} (h : (tms k)[i]? = some t) : alC k (i + 1) = (alC k i && decide (t.1.op = 0)) := by
  unfold alC
  rw [List.take_add_one, h, List.all_append]
  simp
theorem alC_end {k : TF} {i : Nat} (h : k.len ≤ i) : alC k i = allC k := by
  unfold alC allC
  rw [List.take_of_length_le (by rw [tms_len]; exact h), hdF_tms, List.all_map]; rfl
/-- A result, on its way into the result's block. -/
def Fin (B : Nat) (ok : Nat → Prop) (t : Tm) (W : World) (v : Value) (w' : World) : Prop :=
  ∃ s2, v = tv t.1 s2 ∧ FreeAll w' B 0 (tc t.1 s2) ∧ ∃ vs, vs.length = 5 ∧ CellsAt (setCells w' B 0 (tc t.1 s2)) B 0 vs ∧ TRes ok t W (.agg vs.toArray) (setCells w' B 0 (tc t.1 s2))
theorem toFin {B : Nat} {ok : Nat → Prop} {t : Tm} {W w w' : World} {v : Value} (hr : Rmy w B 5) (hB : W.heap.size ≤ B) (hl : B < w.heap.size) (hx : Ext W w) (h : TRes (okB B W ok) t w v w') : Fin B ok t W v w' := by
  obtain ⟨x2, s2, rfl, hs2⟩ := res_in h hl hx.size
  exact ⟨s2, rfl, fin5 (hr.ext x2) hB (hx.trans x2) hs2⟩
theorem fin_of {B g : Nat} {args : Array Value} {ok : Nat → Prop} {t : Tm} {W w : World} (hr : Rmy w B 5) (hB : W.heap.size ≤ B) (hl : B < w.heap.size) (hx : Ext W w) (h : Ret Try.prog g args w (TRes (okB B W ok) t w)) : Ret Try.prog g args w (Fin B ok t W) :=
  h.mono fun v w' hh => toFin hr hB hl hx hh
section
variable {n : Nat} {x : Lab} {k : TF} {s : Value} {ok : Nat → Prop} {W : World}
theorem nil_len (hk : k.len = 0) : k = .nil := by
  cases k with
  | nil => rfl
  | cons => simp [Fo.len] at hk
theorem red_nil (hk : k.len = 0) : red (x, k) = (x, k) := by
  refine red_inl ?_
  unfold step
  exact if_pos (nil_len hk)
theorem red_con (h : OkT (x, k)) (hk : k.len ≠ 0) (hc : allC k = true) : red (x, k) = conT x.w (evT e0 (x, k)) ∧ wOk x.w (evT e0 (x, k)) = true := by
  have hnil : ¬ k = .nil := fun e => hk (by rw [e]; rfl)
  obtain ⟨l, rfl⟩ : ∃ l, k = mkTF l := ⟨tms k, (mk_tms k).symm⟩
  have hop := allC_iff.1 hc
  have hne : ¬ (x.op = 0 ∨ x.op = 22) := fun ho => hnil (ok_nil h ho)
  have hev : ap x (hdF (mkTF l)) ((hdF (mkTF l)).map (·.n)) e0 = evT e0 (x, mkTF l) := by
    rw [ev_mk, hdF_tms, tms_mk]
    have e1 : (l.map (·.1)).map (·.n) = l.map (evT e0) := by
      rw [List.map_map]
      exact List.map_congr_left fun a ha => (ev_op0 (hop a ha)).symm
    rw [e1]
  have hvars : varsT (x, mkTF l) = [] := by
    rw [varsT_mk (fun h => hne (.inr h))]
    refine List.flatMap_eq_nil_iff.2 fun a ha => ?_
    have hok := OkF_mem h.2 a (by rw [show (x, mkTF l).2 = mkTF l from rfl, tms_mk]; exact ha)
    rw [varsT_eq, if_neg (by rw [hop a ha]; decide), ok_nil (x := a.1) (k := a.2) hok (.inl (hop a ha))]; rfl
  have hw : wOk x.w (evT e0 (x, mkTF l)) = true := word_of h (by rw [hvars]; intro p hp; cases hp)
  refine ⟨?_, hw⟩
  refine red_inl ?_
  unfold step
  rw [if_neg hnil, if_pos hc]
  exact congrArg (fun z => Sum.inl (conT x.w z)) hev
variable (h : OkT (x, k)) (hk : k.len ≠ 0) (hc : ¬ allC k = true) (hm : ms (x, k) < n + 1) (hs : TSl ok W s k)
include h hk hc hs
theorem red_un (ho : x.op = 1 ∨ x.op = 2) : Ret Try.prog 81 #[tv x s] W (TRes ok (red (x, k)) W) := by
  have hnil : ¬ k = .nil := fun e => hk (by rw [e]; rfl)
  have e : red (x, k) = if (kid k 0).1.op = x.op then kid (kid k 0).2 0 else (x, k) := by
    refine red_inl ?_
    unfold step
    rw [if_neg hnil, if_neg hc, if_pos ho]
  rw [e]
  obtain ⟨a, rfl, ha⟩ := ok_1 h (by omega)
  rw [kid0]
  exact reduceUnary_ret h ho hs
variable (hR : RedS 60 n)
include hm hR
theorem red_if (ho : x.op = 17) : Ret Try.prog 82 #[tv x s] W (TRes ok (red (x, k)) W) := by
  have hnil : ¬ k = .nil := fun e => hk (by rw [e]; rfl)
  have n12 : ¬ (x.op = 1 ∨ x.op = 2) := by omega
  have e : red (x, k) = outT (stIf (x, k) (kid k 0) (kid k 1) (kid k 2)) := by
    rw [red_out h]
    refine congrArg outT ?_
    unfold step
    rw [if_neg hnil, if_neg hc, if_neg n12, if_pos ho]
  rw [e]
  obtain ⟨a, b, d, rfl, ha, hb, hd⟩ := ok_3 h ho
  rw [kid0, kid1, kid2]
  exact reduceIf_of hR h ho hm hs
theorem red_cut (ho : x.op = 19) : Ret Try.prog 83 #[tv x s] W (TRes ok (red (x, k)) W) := by
  have hnil : ¬ k = .nil := fun e => hk (by rw [e]; rfl)
  have n12 : ¬ (x.op = 1 ∨ x.op = 2) := by omega
  have n17 : ¬ x.op = 17 := by omega
  have e : red (x, k) = outT (stCut (x, k) (kid k 0)) := by
    rw [red_out h]
    refine congrArg outT ?_
    unfold step
    rw [if_neg hnil, if_neg hc, if_neg n12, if_neg n17, if_pos ho]
  rw [e]
  obtain ⟨a, rfl, ha⟩ := ok_1 h (by omega)
  rw [kid0]
  exact reduceCut_of hR h ho hm hs
theorem red_wid (ho : x.op = 20 ∨ x.op = 21) : Ret Try.prog 84 #[tv x s] W (TRes ok (red (x, k)) W) := by
  have hnil : ¬ k = .nil := fun e => hk (by rw [e]; rfl)
  have n12 : ¬ (x.op = 1 ∨ x.op = 2) := by omega
  have n17 : ¬ x.op = 17 := by omega
  have n19 : ¬ x.op = 19 := by omega
  have e : red (x, k) = outT (stWid (x, k) (kid k 0)) := by
    rw [red_out h]
    refine congrArg outT ?_
    unfold step
    rw [if_neg hnil, if_neg hc, if_neg n12, if_neg n17, if_neg n19, if_pos ho]
  rw [e]
  obtain ⟨a, rfl, ha⟩ := ok_1 h (by omega)
  rw [kid0]
  exact reduceWiden_of hR h ho hm hs
theorem red_join (ho : x.op = 18) : Ret Try.prog 85 #[tv x s] W (TRes ok (red (x, k)) W) := by
  have hnil : ¬ k = .nil := fun e => hk (by rw [e]; rfl)
  have n12 : ¬ (x.op = 1 ∨ x.op = 2) := by omega
  have n17 : ¬ x.op = 17 := by omega
  have n19 : ¬ x.op = 19 := by omega
  have n20 : ¬ (x.op = 20 ∨ x.op = 21) := by omega
  have e : red (x, k) = outT (stJoin (x, k) (kid k 0) (kid k 1)) := by
    rw [red_out h]
    refine congrArg outT ?_
    unfold step
    rw [if_neg hnil, if_neg hc, if_neg n12, if_neg n17, if_neg n19, if_neg n20, if_pos ho]
  rw [e]
  obtain ⟨a, b, rfl, ha, hb⟩ := ok_2 h (by omega)
  rw [kid0, kid1]
  exact reduceJoin_of hR h ho hm hs
theorem red_bin (ho : 3 ≤ x.op ∧ x.op ≤ 16) : Ret Try.prog 86 #[tv x s] W (TRes ok (red (x, k)) W) := by
  have hnil : ¬ k = .nil := fun e => hk (by rw [e]; rfl)
  have n12 : ¬ (x.op = 1 ∨ x.op = 2) := by omega
  have n17 : ¬ x.op = 17 := by omega
  have n19 : ¬ x.op = 19 := by omega
  have n20 : ¬ (x.op = 20 ∨ x.op = 21) := by omega
  have n18 : ¬ x.op = 18 := by omega
  have e : red (x, k) = outT (stBin (x, k) (kid k 0) (kid k 1)) := by
    rw [red_out h]
    refine congrArg outT ?_
    unfold step
    rw [if_neg hnil, if_neg hc, if_neg n12, if_neg n17, if_neg n19, if_neg n20, if_neg n18]
  rw [e]
  obtain ⟨a, b, rfl, ha, hb⟩ := ok_2 h (by omega)
  rw [kid0, kid1]
  exact reduceBinary_of hR h ho hm hs
end

set_option maxHeartbeats 8000000 in
theorem reduce_all : ∀ n, RedS 60 n := by
  intro n
  induction n with
  | zero => intro t s ok W h; omega
  | succ n ih =>
    rintro ⟨x, k⟩ s ok W hm h hs
    change TSl ok W s k at hs
    show Ret Try.prog 60 #[tv x s] W (TRes ok (red (x, k)) W)
    have hN : NodeOk x (hdF k) := h.1
    have x1 : Ext W (bzW (bxW W x s)) := (bx_ext W x s).trans (bz_ext _)
    have hb := (bx_at W x s).ext (bz_ext (bxW W x s))
    have hr : Rmy (bzW (bxW W x s)) (bxW W x s).heap.size 5 := bz_rmy _
    have hB : W.heap.size ≤ (bxW W x s).heap.size := (bx_ext W x s).size
    have hlt : (bxW W x s).heap.size < (bzW (bxW W x s)).heap.size := by rw [bz_size]; omega
    have hin : TSl (okB (bxW W x s).heap.size W ok) (bzW (bxW W x s)) s k := arg_in hs x1 hB
    by_cases hk : k.len = 0
    · rw [red_nil hk]
      obtain ⟨a, c, rfl, hl, _⟩ := id hs
      refine ret_of_vc ties mixed Try.func60 rfl (by kernel_rfl) rfl rfl ?_
      refine ⟨_, hb.2.2.2.2.1, ?_⟩
      refine br_dec_true (by omega : (k.len : Int) = 0) ?_
      refine ⟨tc x _, rfl, hb, ?_⟩
      exact fin5 hr hB x1 hin
    · obtain ⟨a, c, rfl, hl, hat⟩ := id hs
      obtain ⟨b, o, rfl, _, _⟩ := hat.resolve_left hk
      have h0 : x.op ≠ 0 := fun e => hk (by rw [ok_nil h (.inl e)]; rfl)
      have h22 : x.op ≠ 22 := fun e => hk (by rw [ok_nil h (.inr e)]; rfl)
      have hrng := hN.op
      have hl' : k.len ≤ 9223372036854775807 := hl
      have kidAt : ∀ (i : Nat) (w : World), Ext (bzW (bxW W x (.slice (some ⟨b, o, none⟩) k.len c))) w → i < k.len → ∃ t s', (tms k)[i]? = some t ∧ CellsAt w b (o + (i : Int).toNat * 5) (tc t.1 s') := fun i w xw hi => by
        obtain ⟨t, ht, _⟩ := tms_get hi
        obtain ⟨b', o', c', s', e, _, _, _, hc, _⟩ := TSl.kid hs ht
        cases e
        exact ⟨t, s', ht, (hc.ext x1).ext xw⟩
      have hK : ∀ (g : Nat) (w : World), Ext (bzW (bxW W x (.slice (some ⟨b, o, none⟩) k.len c))) w → (∀ ok' W', TSl ok' W' (.slice (some ⟨b, o, none⟩) k.len c) k → Ret Try.prog g #[tv x (.slice (some ⟨b, o, none⟩) k.len c)] W' (TRes ok' (red (x, k)) W')) → Ret Try.prog g #[tv x (.slice (some ⟨b, o, none⟩) k.len c)] w (Fin (bxW W x (.slice (some ⟨b, o, none⟩) k.len c)).heap.size ok (red (x, k)) W) := fun g w xw H =>
        fin_of (hr.ext xw) hB (Nat.lt_of_lt_of_le hlt xw.size) (x1.trans xw) (H _ w (hin.ext xw))
      have hCon : allC k = true → ∀ w, Ret Try.prog 17 #[.int .i64 x.w, .int .i64 (evT e0 (x, k))] w (fun v w2 => v = tv (constL x.w (evT e0 (x, k))) (.slice none 0 0) ∧ Ext w w2) := fun hc w => con_ret (red_con h hk hc).2 w
      have hFin : allC k = true → ∀ w, Ext (bzW (bxW W x (.slice (some ⟨b, o, none⟩) k.len c))) w → FreeAll w (bxW W x (.slice (some ⟨b, o, none⟩) k.len c)).heap.size 0 (tc (constL x.w (evT e0 (x, k))) (.slice none 0 0)) ∧ ∀ w', Ext (setCells w (bxW W x (.slice (some ⟨b, o, none⟩) k.len c)).heap.size 0 (tc (constL x.w (evT e0 (x, k))) (.slice none 0 0))) w' → ∃ vs, vs.length = 5 ∧ CellsAt w' (bxW W x (.slice (some ⟨b, o, none⟩) k.len c)).heap.size 0 vs ∧ TRes ok (red (x, k)) W (.agg vs.toArray) w' := fun hc w xw => by
        rw [(red_con h hk hc).1]
        exact fin5' (hr.ext xw) hB (x1.trans xw) (nil_in _ _ _ _)
      have hEv : allC k = true → ∀ w, Ext (bzW (bxW W x (.slice (some ⟨b, o, none⟩) k.len c))) w → Ret Try.prog 37 #[tv x (.slice (some ⟨b, o, none⟩) k.len c), .map none] w (fun v w' => v = .int .i64 (evT e0 (x, k)) ∧ Ext w w') := fun hc w xw =>
        evalNode_all _ (x, k) _ _ e0 w (Nat.le_refl _) h (((hs.ext x1).ext xw).mono fun _ _ => trivial) (.inl ⟨rfl, fun _ => rfl⟩)
      refine ret_of_vc ties mixed Try.func60 rfl (by kernel_rfl) rfl rfl ?_
      refine ⟨_, hb.2.2.2.2.1, ?_⟩
      refine br_dec_false (by omega : ¬ (k.len : Int) = 0) ?_
      refine ⟨_, hb.2.2.2.2.1, ?_⟩
      refine loop_rule (σ := Nat × Bool × Value) [13, 3, 4] 14 26 (fun q => [.int .i64 q.1, .bool q.2.1, q.2.2])
        (fun q w' => Ext (bzW (bxW W x (.slice (some ⟨b, o, none⟩) k.len c))) w' ∧ q.1 ≤ k.len ∧ q.2.1 = alC k q.1)
        (fun q => k.len - q.1) (0, true, undef) rfl ⟨Ext.refl _, Nat.zero_le _, (alC_zero k).symm⟩ ?_
      rintro ⟨i, bb, j4⟩ w3 junk ⟨x3, hi, hbb⟩ K hK'
      simp only at hi hbb
      show vc _ _ _ _ (over [13, 3, 4] [.int .i64 i, .bool bb, j4] _) _
      refine br_dec (fun hlt' => ?_) (fun hge => ?_)
      · obtain ⟨t, s', ht, hc⟩ := kidAt i w3 x3 (by omega)
        have hsucc := alC_succ ht
        rw [← hbb] at hsucc
        cases bb with
        | false =>
          refine ⟨_, IntWalk.i64_in _ (by omega), ?_⟩
          refine hK' (i + 1, false, _) _ _ (vs3 (vint (by show (i : Int) + 1 = ((i + 1 : Nat) : Int); omega)) rfl rfl) ⟨x3, by show i + 1 ≤ k.len; omega, hsucc.symm⟩ (by show k.len - (i + 1) < k.len - i; omega) ?_
          ((repeat (first | (with_reducible exact Only.refl) | (with_reducible refine Only.skip ?_) | ((with_reducible refine Only.upd ?_ ?_); rfl) | ((with_reducible refine Only.over ?_ ?_ _); rfl) | ((with_reducible refine Only.hav ?_ ?_ ?_); rfl; rfl))))
        | true =>
          refine ⟨_, x3.cell hb.2.2.2.2.1, ⟨by omega, by omega⟩, tc t.1 s', rfl, hc, ?_⟩
          refine Or.inl ((isConst_ret _ _ _).mono ?_)
          rintro _ w4 ⟨rfl, x4⟩
          refine ⟨_, IntWalk.i64_in _ (by omega), ?_⟩
          refine hK' (i + 1, decide (t.1.op = 0), _) _ _ (vs3 (vint (by show (i : Int) + 1 = ((i + 1 : Nat) : Int); omega)) rfl rfl) ⟨x3.trans x4, by show i + 1 ≤ k.len; omega, by rw [hsucc, Bool.true_and]⟩ (by show k.len - (i + 1) < k.len - i; omega) ?_
          ((repeat (first | (with_reducible exact Only.refl) | (with_reducible refine Only.skip ?_) | ((with_reducible refine Only.upd ?_ ?_); rfl) | ((with_reducible refine Only.over ?_ ?_ _); rfl) | ((with_reducible refine Only.hav ?_ ?_ ?_); rfl; rfl))))
      · have hbC : bb = allC k := by rw [hbb]; exact alC_end (by omega)
        have hb3 := hb.ext x3
        refine br_split (fun hbt => ?_) (fun hbf => ?_)
        · have hcC : allC k = true := by rw [← hbC]; exact hbt
          refine .inr (.inr (hyb_rule ties mixed [(0, .quiet), (1, .quiet), (2, .quiet), (3, .loud), (4, .loud), (5, .wild)] (by kernel_rfl) ?_))
          refine ⟨_, hb3.2.1, tc x _, rfl, hb3, ?_⟩
          intro w4 x4
          refine Or.inl ((hEv hcC w4 (x3.trans x4)).mono ?_)
          rintro _ w5 ⟨rfl, x5⟩
          refine ⟨x5, ?_⟩
          intro w6 x6
          refine Or.inl ((hCon hcC w6).mono ?_)
          rintro _ w7 ⟨rfl, x7⟩
          refine ⟨x7, ?_⟩
          intro w8 x8
          exact hFin hcC w8 (x3.trans (x4.trans (x5.trans (x6.trans (x7.trans x8)))))
        · have hcC : ¬ allC k = true := by rw [← hbC, hbf]; decide
          refine ⟨_, hb3.1, ?_⟩
          refine br_dec (fun h1 => ?_) (fun h1 => ?_)
          · refine br_dec_true h1 ?_
            refine ⟨tc x _, rfl, hb3, ?_⟩
            refine Or.inl ((hK 81 w3 x3 fun ok' W' hs' => red_un h hk hcC hs' (.inl h1)).mono ?_)
            rintro _ w4 ⟨s2, rfl, hf⟩
            exact hf
          refine br_dec (fun h2 => ?_) (fun h2 => ?_)
          ·
            refine ⟨tc x _, rfl, hb3, ?_⟩
            refine Or.inl ((hK 81 w3 x3 fun ok' W' hs' => red_un h hk hcC hs' (.inr h2)).mono ?_)
            rintro _ w4 ⟨s2, rfl, hf⟩
            exact hf
          refine br_dec (fun h17 => ?_) (fun h17 => ?_)
          ·
            refine ⟨tc x _, rfl, hb3, ?_⟩
            refine Or.inl ((hK 82 w3 x3 fun ok' W' hs' => red_if h hk hcC hm hs' ih h17).mono ?_)
            rintro _ w4 ⟨s2, rfl, hf⟩
            exact hf
          refine br_dec (fun h19 => ?_) (fun h19 => ?_)
          ·
            refine ⟨tc x _, rfl, hb3, ?_⟩
            refine Or.inl ((hK 83 w3 x3 fun ok' W' hs' => red_cut h hk hcC hm hs' ih h19).mono ?_)
            rintro _ w4 ⟨s2, rfl, hf⟩
            exact hf
          refine br_dec (fun h20 => ?_) (fun h20 => ?_)
          · refine br_dec_true h20 ?_
            refine ⟨tc x _, rfl, hb3, ?_⟩
            refine Or.inl ((hK 84 w3 x3 fun ok' W' hs' => red_wid h hk hcC hm hs' ih (.inl h20)).mono ?_)
            rintro _ w4 ⟨s2, rfl, hf⟩
            exact hf
          refine br_dec (fun h21 => ?_) (fun h21 => ?_)
          ·
            refine ⟨tc x _, rfl, hb3, ?_⟩
            refine Or.inl ((hK 84 w3 x3 fun ok' W' hs' => red_wid h hk hcC hm hs' ih (.inr h21)).mono ?_)
            rintro _ w4 ⟨s2, rfl, hf⟩
            exact hf
          refine br_dec (fun h18 => ?_) (fun h18 => ?_)
          ·
            refine ⟨tc x _, rfl, hb3, ?_⟩
            refine Or.inl ((hK 85 w3 x3 fun ok' W' hs' => red_join h hk hcC hm hs' ih h18).mono ?_)
            rintro _ w4 ⟨s2, rfl, hf⟩
            exact hf
          have hrng' : 3 ≤ x.op ∧ x.op ≤ 16 := by omega
          refine ⟨tc x _, rfl, hb3, ?_⟩
          refine Or.inl ((hK 86 w3 x3 fun ok' W' hs' => red_bin h hk hcC hm hs' ih hrng').mono ?_)
          rintro _ w4 ⟨s2, rfl, hf⟩
          exact hf
/-- reduce gives the node's simpler form. -/
theorem reduce_ret (t : Tm) (s : Value) (ok : Nat → Prop) (W : World) (h : OkT t) (hs : TSl ok W s t.2) : Ret Try.prog 60 #[tv t.1 s] W (TRes ok (red t) W) :=
  reduce_all (ms t + 1) t s ok W (Nat.lt_succ_self _) h hs
end Go.Proofs.Ytekddgkgeaolnaa
namespace Go.Proofs.Ytekddgkgeaolnaa
open Go Go.Vc Go.RowKit
set_option linter.unusedVariables false

/-- A term as an element of a row. -/
def eTm : Rep Tm := Rep.tree tlc 5 tlc_len (fun _ => rfl) (by decide)
theorem foOf_mk : ∀ l : List Tm, foOf l = mkTF l
  | [] => rfl
  | x :: l => by simp only [foOf, mkTF, foOf_mk l]
theorem simF_mk : ∀ k : TF, simF k = mkTF ((tms k).map sim) := by
  intro k
  induction k with
  | nil => rfl
  | cons x k r _ ih => simp only [simF, tms, List.map_cons, mkTF, ih, sim]
theorem row_tsl {ok : Nat → Prop} {w : World} {R : Nat} {l : List Tm} {n c : Nat} (h : RAt eTm ok w l R 0) (hn : n = l.length) (hl : n ≤ maxLen) : TSl (fun b => ok b ∨ b = R) w (.slice (some ⟨R, 0, none⟩) n c) (mkTF l) := by
  subst hn
  refine ⟨_, c, by rw [← foOf_mk, foOf_len], by rw [← foOf_mk, foOf_len]; exact hl, .inr ⟨R, 0, rfl, .inr rfl, ?_⟩⟩
  rw [← foOf_mk]
  exact (RAt.fo h).mono fun b hb => .inl hb
/-- A copy of a term whose slice of kids is set to another one. -/
theorem reslice {w : World} {B : Nat} {x : Lab} {s s' : Value} (hr : Rmy w B 5) (hc : CellsAt w B 0 (tc x s)) : CellsAt (setCells w B 4 [s']) B 0 (tc x s') := by
  have ho : ∀ i, i < 4 → (setCells w B 4 [s']).cell? ⟨B, i, none⟩ = w.cell? ⟨B, i, none⟩ := fun i hi => setCells_other _ _ _ _ fun _ => .inl hi
  have h4 := setCells_at [s'] w 4 5 hr (by simp)
  exact ⟨(ho 0 (by decide)).trans hc.1, (ho 1 (by decide)).trans hc.2.1, (ho 2 (by decide)).trans hc.2.2.1, (ho 3 (by decide)).trans hc.2.2.2.1, h4.1, trivial⟩
/-- The row that is being filled. -/
structure SimJ (W w1 : World) (x : Lab) (k : TF) (n : Nat) (ok : Nat → Prop) (B A R : Nat) (i : Nat) (g : Tm → Tm) (w : World) : Prop where
  ext : Ext w1 w
  out : CellsAt w A 0 (tc x (.slice (some ⟨R, 0, none⟩) n n))
  row : Rmy w R (n * 5)
  lt : R < w.heap.size
  le : i ≤ n
  fill : RAt eTm (fun b => b ≠ R ∧ okB B W ok b) w (((tms k).map g).take i) R 0
theorem SimJ.later {W w1 : World} {x : Lab} {k : TF} {n : Nat} {ok : Nat → Prop} {B A R i : Nat} {g : Tm → Tm} {w w' : World} (h : SimJ W w1 x k n ok B A R i g w) (e : Ext w w') : SimJ W w1 x k n ok B A R i g w' :=
  ⟨h.ext.trans e, h.out.ext e, h.row.ext e, Nat.lt_of_lt_of_le h.lt e.size, h.le, h.fill.ext e⟩
theorem SimJ.step {W w1 : World} {x : Lab} {k : TF} {n : Nat} {ok : Nat → Prop} {B A R i : Nat} {g : Tm → Tm} {w w5 : World} {t : Tm} {v : Value} (h : SimJ W w1 x k n ok B A R i g w) (hn : n = k.len) (hi : i < n) (hAR : A ≠ R) (hR1 : w1.heap.size ≤ R) (hB : B < w.heap.size) (hW : W.heap.size ≤ w.heap.size) (ht : (tms k)[i]? = some t)
    (hv : TRes (fun b => b ≠ R ∧ okB B W ok b) (g t) w v w5) : ∃ s', v = tv (g t).1 s' ∧ ∀ w6, Ext w5 w6 → FreeAll w6 R (0 + (i : Int).toNat * 5) (tc (g t).1 s') ∧ ∀ w7, Ext (setCells w6 R (0 + (i : Int).toNat * 5) (tc (g t).1 s')) w7 → SimJ W w1 x k n ok B A R (i + 1) g w7 := by
  obtain ⟨x5, s', rfl, hs'⟩ := hv
  have hlt := h.lt
  refine ⟨s', rfl, fun w6 x6 => ?_⟩
  have x56 := x5.trans x6
  have hr6 := h.row.ext x56
  have hin : 0 + (i : Int).toNat * 5 + 5 ≤ n * 5 := by omega
  have hs6 : TSl (fun b => b ≠ R ∧ okB B W ok b) w6 s' (g t).2 := (hs'.ext x6).mono fun b hb => hb.elim id fun hb => ⟨by omega, by omega, .inr (by omega)⟩
  refine ⟨hr6.all _ _ hin (tc_one hs'), fun w7 x7 => ?_⟩
  have hch : Chg (fun b => b = R) w6 (setCells w6 R (0 + (i : Int).toNat * 5) (tc (g t).1 s')) := Chg.setCells (S := fun b => b = R) rfl _ _ _
  have hz := x56.size
  have hl : ((tms k).map g).length = n := by rw [List.length_map, tms_len, hn]
  refine ⟨((h.ext.trans x56).chg hch (fun b hb => by rw [hb]; exact hR1)).trans x7, (hch.cells (fun e => hAR e) (h.out.ext x56)).ext x7, (Rmy.setCells _ hr6).ext x7, Nat.lt_of_lt_of_le (Nat.lt_of_lt_of_le hlt hz) (Nat.le_trans hch.size x7.size), hi, ?_⟩
  refine RAt.ext x7 ?_
  rw [List.take_add_one, List.getElem?_map, ht]
  refine RAt.fill (E := eTm) (n := n * 5) (fun b hb => hb.1) hr6 (h.fill.ext x56) ⟨s', rfl, hs6⟩ ?_ ?_
  · rw [List.length_take, hl]; show 0 + (i : Int).toNat * 5 = min i n * 5; rw [Nat.min_eq_left (Nat.le_of_lt hi)]; omega
  · rw [List.length_take, hl, Nat.min_eq_left (Nat.le_of_lt hi)]; show (i + 1) * 5 ≤ n * 5; omega
theorem SimJ.done {W w1 : World} {x : Lab} {k : TF} {n : Nat} {ok : Nat → Prop} {B A R : Nat} {g : Tm → Tm} {w : World} (h : SimJ W w1 x k n ok B A R n g w) (hn : n = k.len) (hl : n ≤ maxLen) (hB : B ≠ R) (hW : W.heap.size ≤ R) : TSl (okB B W ok) w (.slice (some ⟨R, 0, none⟩) n n) (mkTF ((tms k).map g)) := by
  have e : ((tms k).map g).length = n := by rw [List.length_map, tms_len, hn]
  have h1 := h.fill
  rw [List.take_of_length_le (Nat.le_of_eq e)] at h1
  exact (row_tsl h1 e.symm hl).mono fun b hb => hb.elim (fun h => h.2) fun h => by subst h; exact ⟨fun e => hB e.symm, .inr hW⟩

def SimS (n : Nat) : Prop := ∀ (t : Tm) (s : Value) (ok : Nat → Prop) (W : World), t.sz ≤ n → OkT t → TSl ok W s t.2 → Ret Try.prog 32 #[tv t.1 s] W (TRes ok (sim t) W)
set_option maxHeartbeats 8000000 in
theorem simplifyNode_all : ∀ n, SimS n := by
  intro n
  induction n with
  | zero => intro t s ok W h; have := sz_pos t; omega
  | succ n ih =>
    rintro ⟨x, k⟩ s ok W hsz h hs
    change TSl ok W s k at hs
    show Ret Try.prog 32 #[tv x s] W (TRes ok (red (x, simF k)) W)
    have hN : NodeOk x (hdF k) := h.1
    have x1 : Ext W (bzW (bxW W x s)) := (bx_ext W x s).trans (bz_ext _)
    have hb := (bx_at W x s).ext (bz_ext (bxW W x s))
    have hr : Rmy (bzW (bxW W x s)) (bxW W x s).heap.size 5 := bz_rmy _
    have hB : W.heap.size ≤ (bxW W x s).heap.size := (bx_ext W x s).size
    have hlt : (bxW W x s).heap.size < (bzW (bxW W x s)).heap.size := by rw [bz_size]; omega
    have hin : TSl (okB (bxW W x s).heap.size W ok) (bzW (bxW W x s)) s k := arg_in hs x1 hB
    by_cases hk : k.len = 0
    · have hnil := nil_len hk
      subst hnil
      have e : red (x, simF .nil) = (x, .nil) := red_nil rfl
      rw [e]
      obtain ⟨a, c, rfl, hl, _⟩ := id hs
      refine ret_of_vc ties mixed Try.func32 rfl (by kernel_rfl) rfl rfl ?_
      refine ⟨_, hb.2.2.2.2.1, ?_⟩
      refine ⟨tc x _, rfl, hb, ?_⟩
      exact fin5 hr hB x1 hin
    · obtain ⟨a, c, rfl, hl, hat⟩ := id hs
      obtain ⟨p, o, rfl, _, _⟩ := hat.resolve_left hk
      have hk3 : k.len ≤ 3 := by
        have := hN.count
        rw [hdF_len] at this
        have h3 : kc x.op ≤ 3 := by unfold kc; repeat' split
                                    all_goals omega
        omega
      obtain ⟨f4, c4, x4⟩ := keep5 (W := (bzW (bxW W x (.slice (some ⟨p, o, none⟩) k.len c)))) (x := x) (s := (.slice (some ⟨p, o, none⟩) k.len c)) (tc_one hin)
      have hb3 := hb.ext x4
      have e0 : (bxW W x (.slice (some ⟨p, o, none⟩) k.len c)).heap.size = W.heap.size + 1 := bx_size _ _ _
      have e1 : (bzW (bxW W x (.slice (some ⟨p, o, none⟩) k.len c))).heap.size = (bxW W x (.slice (some ⟨p, o, none⟩) k.len c)).heap.size + 1 := bz_size _
      have e3 : (setCells (bzW (bzW (bxW W x (.slice (some ⟨p, o, none⟩) k.len c)))) (bzW (bxW W x (.slice (some ⟨p, o, none⟩) k.len c))).heap.size 0 (tc x (.slice (some ⟨p, o, none⟩) k.len c))).heap.size = (bzW (bxW W x (.slice (some ⟨p, o, none⟩) k.len c))).heap.size + 1 := by rw [setCells_size]; exact bz_size _
      have x34 : Ext (setCells (bzW (bzW (bxW W x (.slice (some ⟨p, o, none⟩) k.len c)))) (bzW (bxW W x (.slice (some ⟨p, o, none⟩) k.len c))).heap.size 0 (tc x (.slice (some ⟨p, o, none⟩) k.len c))) ((setCells (bzW (bzW (bxW W x (.slice (some ⟨p, o, none⟩) k.len c)))) (bzW (bxW W x (.slice (some ⟨p, o, none⟩) k.len c))).heap.size 0 (tc x (.slice (some ⟨p, o, none⟩) k.len c))).alloc (.cells (zs k.len zt).toArray 25)) := Ext.new _ _
      have hb4 := hb3.ext x34
      have r4 : Rmy ((setCells (bzW (bzW (bxW W x (.slice (some ⟨p, o, none⟩) k.len c)))) (bzW (bxW W x (.slice (some ⟨p, o, none⟩) k.len c))).heap.size 0 (tc x (.slice (some ⟨p, o, none⟩) k.len c))).alloc (.cells (zs k.len zt).toArray 25)) (bzW (bxW W x (.slice (some ⟨p, o, none⟩) k.len c))).heap.size 5 := (Rmy.setCells _ (bz_rmy (bzW (bxW W x (.slice (some ⟨p, o, none⟩) k.len c))))).ext x34
      have x14 : Ext (bzW (bxW W x (.slice (some ⟨p, o, none⟩) k.len c))) ((setCells (bzW (bzW (bxW W x (.slice (some ⟨p, o, none⟩) k.len c)))) (bzW (bxW W x (.slice (some ⟨p, o, none⟩) k.len c))).heap.size 0 (tc x (.slice (some ⟨p, o, none⟩) k.len c))).alloc (.cells (zs k.len zt).toArray 25)) := x4.trans x34
      have hch5 : Chg (fun b => b = (bzW (bxW W x (.slice (some ⟨p, o, none⟩) k.len c))).heap.size) ((setCells (bzW (bzW (bxW W x (.slice (some ⟨p, o, none⟩) k.len c)))) (bzW (bxW W x (.slice (some ⟨p, o, none⟩) k.len c))).heap.size 0 (tc x (.slice (some ⟨p, o, none⟩) k.len c))).alloc (.cells (zs k.len zt).toArray 25)) (setCells ((setCells (bzW (bzW (bxW W x (.slice (some ⟨p, o, none⟩) k.len c)))) (bzW (bxW W x (.slice (some ⟨p, o, none⟩) k.len c))).heap.size 0 (tc x (.slice (some ⟨p, o, none⟩) k.len c))).alloc (.cells (zs k.len zt).toArray 25)) (bzW (bxW W x (.slice (some ⟨p, o, none⟩) k.len c))).heap.size 4 [(.slice (some ⟨(setCells (bzW (bzW (bxW W x (.slice (some ⟨p, o, none⟩) k.len c)))) (bzW (bxW W x (.slice (some ⟨p, o, none⟩) k.len c))).heap.size 0 (tc x (.slice (some ⟨p, o, none⟩) k.len c))).heap.size, 0, none⟩) k.len k.len)]) := Chg.setCells (S := fun b => b = (bzW (bxW W x (.slice (some ⟨p, o, none⟩) k.len c))).heap.size) rfl _ _ _
      have x15 : Ext (bzW (bxW W x (.slice (some ⟨p, o, none⟩) k.len c))) (setCells ((setCells (bzW (bzW (bxW W x (.slice (some ⟨p, o, none⟩) k.len c)))) (bzW (bxW W x (.slice (some ⟨p, o, none⟩) k.len c))).heap.size 0 (tc x (.slice (some ⟨p, o, none⟩) k.len c))).alloc (.cells (zs k.len zt).toArray 25)) (bzW (bxW W x (.slice (some ⟨p, o, none⟩) k.len c))).heap.size 4 [(.slice (some ⟨(setCells (bzW (bzW (bxW W x (.slice (some ⟨p, o, none⟩) k.len c)))) (bzW (bxW W x (.slice (some ⟨p, o, none⟩) k.len c))).heap.size 0 (tc x (.slice (some ⟨p, o, none⟩) k.len c))).heap.size, 0, none⟩) k.len k.len)]) := x14.chg hch5 (fun b hb => by rw [hb]; exact Nat.le_refl _)
      have room : Rmy (setCells ((setCells (bzW (bzW (bxW W x (.slice (some ⟨p, o, none⟩) k.len c)))) (bzW (bxW W x (.slice (some ⟨p, o, none⟩) k.len c))).heap.size 0 (tc x (.slice (some ⟨p, o, none⟩) k.len c))).alloc (.cells (zs k.len zt).toArray 25)) (bzW (bxW W x (.slice (some ⟨p, o, none⟩) k.len c))).heap.size 4 [(.slice (some ⟨(setCells (bzW (bzW (bxW W x (.slice (some ⟨p, o, none⟩) k.len c)))) (bzW (bxW W x (.slice (some ⟨p, o, none⟩) k.len c))).heap.size 0 (tc x (.slice (some ⟨p, o, none⟩) k.len c))).heap.size, 0, none⟩) k.len k.len)]) (setCells (bzW (bzW (bxW W x (.slice (some ⟨p, o, none⟩) k.len c)))) (bzW (bxW W x (.slice (some ⟨p, o, none⟩) k.len c))).heap.size 0 (tc x (.slice (some ⟨p, o, none⟩) k.len c))).heap.size (k.len * 5) := by
        have := Rmy.new (setCells (bzW (bzW (bxW W x (.slice (some ⟨p, o, none⟩) k.len c)))) (bzW (bxW W x (.slice (some ⟨p, o, none⟩) k.len c))).heap.size 0 (tc x (.slice (some ⟨p, o, none⟩) k.len c))) (zs k.len zt) 25
        rw [zs_length] at this
        exact Rmy.setCells _ this
      have e4 : (setCells ((setCells (bzW (bzW (bxW W x (.slice (some ⟨p, o, none⟩) k.len c)))) (bzW (bxW W x (.slice (some ⟨p, o, none⟩) k.len c))).heap.size 0 (tc x (.slice (some ⟨p, o, none⟩) k.len c))).alloc (.cells (zs k.len zt).toArray 25)) (bzW (bxW W x (.slice (some ⟨p, o, none⟩) k.len c))).heap.size 4 [(.slice (some ⟨(setCells (bzW (bzW (bxW W x (.slice (some ⟨p, o, none⟩) k.len c)))) (bzW (bxW W x (.slice (some ⟨p, o, none⟩) k.len c))).heap.size 0 (tc x (.slice (some ⟨p, o, none⟩) k.len c))).heap.size, 0, none⟩) k.len k.len)]).heap.size = (setCells (bzW (bzW (bxW W x (.slice (some ⟨p, o, none⟩) k.len c)))) (bzW (bxW W x (.slice (some ⟨p, o, none⟩) k.len c))).heap.size 0 (tc x (.slice (some ⟨p, o, none⟩) k.len c))).heap.size + 1 := by rw [setCells_size]; simp
      have j0 : SimJ W (bzW (bxW W x (.slice (some ⟨p, o, none⟩) k.len c))) x k k.len ok (bxW W x (.slice (some ⟨p, o, none⟩) k.len c)).heap.size (bzW (bxW W x (.slice (some ⟨p, o, none⟩) k.len c))).heap.size (setCells (bzW (bzW (bxW W x (.slice (some ⟨p, o, none⟩) k.len c)))) (bzW (bxW W x (.slice (some ⟨p, o, none⟩) k.len c))).heap.size 0 (tc x (.slice (some ⟨p, o, none⟩) k.len c))).heap.size 0 sim (setCells ((setCells (bzW (bzW (bxW W x (.slice (some ⟨p, o, none⟩) k.len c)))) (bzW (bxW W x (.slice (some ⟨p, o, none⟩) k.len c))).heap.size 0 (tc x (.slice (some ⟨p, o, none⟩) k.len c))).alloc (.cells (zs k.len zt).toArray 25)) (bzW (bxW W x (.slice (some ⟨p, o, none⟩) k.len c))).heap.size 4 [(.slice (some ⟨(setCells (bzW (bzW (bxW W x (.slice (some ⟨p, o, none⟩) k.len c)))) (bzW (bxW W x (.slice (some ⟨p, o, none⟩) k.len c))).heap.size 0 (tc x (.slice (some ⟨p, o, none⟩) k.len c))).heap.size, 0, none⟩) k.len k.len)]) :=
        ⟨x15, reslice r4 (c4.ext x34), room, by omega, Nat.zero_le _, trivial⟩
      have hb5 := hb.ext x15
      have kidAt : ∀ (i : Nat), i < k.len → ∃ t s', (tms k)[i]? = some t ∧ ∀ (w : World), Ext (bzW (bxW W x (.slice (some ⟨p, o, none⟩) k.len c))) w → CellsAt w p (o + (i : Int).toNat * 5) (tc t.1 s') ∧ Ret Try.prog 32 #[tv t.1 s'] w (TRes (fun b => b ≠ (setCells (bzW (bzW (bxW W x (.slice (some ⟨p, o, none⟩) k.len c)))) (bzW (bxW W x (.slice (some ⟨p, o, none⟩) k.len c))).heap.size 0 (tc x (.slice (some ⟨p, o, none⟩) k.len c))).heap.size ∧ okB (bxW W x (.slice (some ⟨p, o, none⟩) k.len c)).heap.size W ok b) (sim t) w) := fun i hi => by
        obtain ⟨t, ht, _⟩ := tms_get hi
        obtain ⟨b', o', c', s', e, _, _, _, hc, hs'⟩ := TSl.kid hs.lt ht
        cases e
        have hm : t ∈ tms k := List.mem_of_getElem? ht
        have hts : t.sz ≤ n := by
          have h1 := lt_kid (x := x) (a := t) (l := tms k) hm
          rw [mk_tms] at h1
          omega
        refine ⟨t, s', ht, fun w xw => ⟨(hc.ext x1).ext xw, ih t s' _ w hts (OkF_mem h.2 t hm) (((hs'.ext x1).ext xw).mono fun b hb => ⟨by omega, by omega, .inl hb.1⟩)⟩⟩
      have hkp : Keeps (x, k) (x, simF k) := keeps_node h (simF_good k h.2).1
      have fin : ∀ w, SimJ W (bzW (bxW W x (.slice (some ⟨p, o, none⟩) k.len c))) x k k.len ok (bxW W x (.slice (some ⟨p, o, none⟩) k.len c)).heap.size (bzW (bxW W x (.slice (some ⟨p, o, none⟩) k.len c))).heap.size (setCells (bzW (bzW (bxW W x (.slice (some ⟨p, o, none⟩) k.len c)))) (bzW (bxW W x (.slice (some ⟨p, o, none⟩) k.len c))).heap.size 0 (tc x (.slice (some ⟨p, o, none⟩) k.len c))).heap.size k.len sim w → Ret Try.prog 60 #[tv x (.slice (some ⟨(setCells (bzW (bzW (bxW W x (.slice (some ⟨p, o, none⟩) k.len c)))) (bzW (bxW W x (.slice (some ⟨p, o, none⟩) k.len c))).heap.size 0 (tc x (.slice (some ⟨p, o, none⟩) k.len c))).heap.size, 0, none⟩) k.len k.len)] w (Fin (bxW W x (.slice (some ⟨p, o, none⟩) k.len c)).heap.size ok (red (x, simF k)) W) := fun w hj => by
        have hd := hj.done rfl hl (by omega) (by omega)
        rw [← simF_mk] at hd
        exact fin_of (hr.ext hj.ext) hB (Nat.lt_of_lt_of_le hlt hj.ext.size) (x1.trans hj.ext) (reduce_ret (x, simF k) _ _ w hkp.ok hd)
      have hl64 : (64 : Int) * (k.len : Int) ≤ 192 := by omega
      refine ret_of_vc ties mixed Try.func32 rfl (by kernel_rfl) rfl rfl ?_
      refine ⟨_, hb.2.2.2.2.1, ?_⟩
      refine br_dec_false (by omega : ¬ (k.len : Int) = 0) ?_
      refine ⟨tc x _, rfl, hb, f4, ?_⟩
      refine ⟨_, hb3.2.2.2.2.1, ?_⟩
      refine ⟨⟨by omega, by omega, by omega, by show (64 : Int) * (k.len : Int) ≤ _; omega⟩, r4 4 (by decide), ?_⟩
      refine ⟨_, hb5.2.2.2.2.1, ?_⟩
      refine loop_rule (σ := Nat × Value) [19, 4] 20 33 (fun q => [.int .i64 q.1, q.2])
        (fun q w' => SimJ W (bzW (bxW W x (.slice (some ⟨p, o, none⟩) k.len c))) x k k.len ok (bxW W x (.slice (some ⟨p, o, none⟩) k.len c)).heap.size (bzW (bxW W x (.slice (some ⟨p, o, none⟩) k.len c))).heap.size (setCells (bzW (bzW (bxW W x (.slice (some ⟨p, o, none⟩) k.len c)))) (bzW (bxW W x (.slice (some ⟨p, o, none⟩) k.len c))).heap.size 0 (tc x (.slice (some ⟨p, o, none⟩) k.len c))).heap.size q.1 sim w')
        (fun q => k.len - q.1) (0, undef) rfl j0 ?_
      rintro ⟨i, j4⟩ w junk hj K hK'
      simp only at hj
      show vc _ _ _ _ (over [19, 4] [.int .i64 i, j4] _) _
      refine br_dec (fun hlt' => ?_) (fun hge => ?_)
      · have hi : i < k.len := by omega
        obtain ⟨t, s', ht, hkid⟩ := kidAt i hi
        have hc := (hkid w hj.ext).1
        have hsz1 := hj.ext.size
        have hbw := hb.ext hj.ext
        have hout := hj.out
        have hgo : ∀ w4, Ext w w4 → Ret Try.prog 32 #[tv t.1 s'] w4 (fun v w5 => Ext w4 w5 ∧ ∃ s2, v = tv (sim t).1 s2 ∧ ∀ w6, Ext w5 w6 → FreeAll w6 (setCells (bzW (bzW (bxW W x (.slice (some ⟨p, o, none⟩) k.len c)))) (bzW (bxW W x (.slice (some ⟨p, o, none⟩) k.len c))).heap.size 0 (tc x (.slice (some ⟨p, o, none⟩) k.len c))).heap.size (0 + (i : Int).toNat * 5) (tc (sim t).1 s2) ∧ ∀ w7, Ext (setCells w6 (setCells (bzW (bzW (bxW W x (.slice (some ⟨p, o, none⟩) k.len c)))) (bzW (bxW W x (.slice (some ⟨p, o, none⟩) k.len c))).heap.size 0 (tc x (.slice (some ⟨p, o, none⟩) k.len c))).heap.size (0 + (i : Int).toNat * 5) (tc (sim t).1 s2)) w7 → SimJ W (bzW (bxW W x (.slice (some ⟨p, o, none⟩) k.len c))) x k k.len ok (bxW W x (.slice (some ⟨p, o, none⟩) k.len c)).heap.size (bzW (bxW W x (.slice (some ⟨p, o, none⟩) k.len c))).heap.size (setCells (bzW (bzW (bxW W x (.slice (some ⟨p, o, none⟩) k.len c)))) (bzW (bxW W x (.slice (some ⟨p, o, none⟩) k.len c))).heap.size 0 (tc x (.slice (some ⟨p, o, none⟩) k.len c))).heap.size (i + 1) sim w7) := fun w4 x4 => by
          have hj4 := hj.later x4
          have hz4 := hj4.ext.size
          exact ((hkid w4 hj4.ext).2).mono fun v w5 hv => ⟨hv.1, SimJ.step hj4 rfl hi (by omega) (by omega) (by omega) (by omega) ht hv⟩
        refine .inr (.inr (hyb_rule ties mixed [(0, .quiet), (1, .quiet), (2, .quiet), (3, .quiet), (4, .quiet), (5, .quiet), (6, .quiet), (7, .quiet), (8, .loud), (9, .loud), (10, .wild)] (by kernel_rfl) ?_))
        refine ⟨_, hout.2.2.2.2.1, ?_⟩
        refine ⟨_, hbw.2.2.2.2.1, ?_⟩
        refine ⟨⟨by omega, by omega⟩, tc t.1 s', rfl, hc, ?_⟩
        intro w4 x4'
        refine Or.inl ((hgo w4 x4').mono ?_)
        rintro _ w5 ⟨x5, s2, rfl, hw⟩
        refine ⟨x5, ?_⟩
        intro w6 x6
        refine ⟨⟨by omega, by omega⟩, Ext.refl _, ?_⟩
        intro w7 x7
        refine ⟨(hw w7 (x6.trans x7)).1, ?_⟩
        intro w8 x8
        refine ⟨_, IntWalk.i64_in _ (by omega), ?_⟩
        refine hK' (i + 1, _) _ _ (vs2 (vint (by show (i : Int) + 1 = ((i + 1 : Nat) : Int); omega)) rfl) ((hw w7 (x6.trans x7)).2 w8 x8) (by show k.len - (i + 1) < k.len - i; omega) ?_
        ((repeat (first | (with_reducible exact Only.refl) | (with_reducible refine Only.skip ?_) | ((with_reducible refine Only.upd ?_ ?_); rfl) | ((with_reducible refine Only.over ?_ ?_ _); rfl) | ((with_reducible refine Only.hav ?_ ?_ ?_); rfl; rfl))))
      · refine ⟨tc x _, rfl, hj.out, ?_⟩
        have hik : i = k.len := by have := hj.le; omega
        subst hik
        refine Or.inl ((fin w hj).mono ?_)
        rintro _ w4 ⟨s2, rfl, hf⟩
        exact hf
end Go.Proofs.Ytekddgkgeaolnaa
namespace Go.Proofs.Ytekddgkgeaolnaa
open Go Go.Vc Go.RowKit
set_option linter.unusedVariables false

def CpSep (f : TF) : Prop := ∀ (s : Value) (W : World), TSl anyB W s f → f.size ≤ 1048576 → Ret Try.prog 59 #[s] W (fun v w' => Ext W w' ∧ TSep w' v f W.heap.size w'.heap.size)
theorem copyTerm_sof {k : TF} (hk : CpSep k) (x : Lab) (s : Value) (W : World) (hs : TSl anyB W s k) (hsz : k.size ≤ 1048576) :
    Ret Try.prog 31 #[tv x s] W (fun u w' => Ext W w' ∧ ∃ s', u = tv x s' ∧ TSep w' s' k W.heap.size w'.heap.size) := by
  have x1 : Ext W (bzW (bxW W x s)) := (bx_ext W x s).trans (bz_ext _)
  have hb := (bx_at W x s).ext (bz_ext (bxW W x s))
  obtain ⟨f4, c4, x4⟩ := keep5 (W := bzW (bxW W x s)) (x := x) (s := s) (tc_one hs)
  have hb3 := hb.ext x4
  have e0 : (bxW W x s).heap.size = W.heap.size + 1 := bx_size _ _ _
  have e1 : (bzW (bxW W x s)).heap.size = (bxW W x s).heap.size + 1 := bz_size _
  have e3 : (setCells (bzW (bzW (bxW W x s))) (bzW (bxW W x s)).heap.size 0 (tc x s)).heap.size = W.heap.size + 3 := by rw [setCells_size, bz_size]; omega
  have r3 : Rmy (setCells (bzW (bzW (bxW W x s))) (bzW (bxW W x s)).heap.size 0 (tc x s)) (bzW (bxW W x s)).heap.size 5 := Rmy.setCells _ (bz_rmy _)
  have r2 : Rmy (setCells (bzW (bzW (bxW W x s))) (bzW (bxW W x s)).heap.size 0 (tc x s)) (bxW W x s).heap.size 5 := (bz_rmy _).ext x4
  have hcall := hk s _ (hs.ext (x1.trans x4)) hsz
  have key : ∀ w5 s', Ext (setCells (bzW (bzW (bxW W x s))) (bzW (bxW W x s)).heap.size 0 (tc x s)) w5 → TSep w5 s' k (setCells (bzW (bzW (bxW W x s))) (bzW (bxW W x s)).heap.size 0 (tc x s)).heap.size w5.heap.size →
      CellsAt (setCells w5 (bzW (bxW W x s)).heap.size 4 [s']) (bzW (bxW W x s)).heap.size 0 (tc x s') ∧ FreeAll (setCells w5 (bzW (bxW W x s)).heap.size 4 [s']) (bxW W x s).heap.size 0 (tc x s') ∧
      ∃ vs, vs.length = 5 ∧ CellsAt (setCells (setCells w5 (bzW (bxW W x s)).heap.size 4 [s']) (bxW W x s).heap.size 0 (tc x s')) (bxW W x s).heap.size 0 vs ∧ Ext W (setCells (setCells w5 (bzW (bxW W x s)).heap.size 4 [s']) (bxW W x s).heap.size 0 (tc x s')) ∧
      ∃ s'', Value.agg vs.toArray = tv x s'' ∧ TSep (setCells (setCells w5 (bzW (bxW W x s)).heap.size 4 [s']) (bxW W x s).heap.size 0 (tc x s')) s'' k W.heap.size (setCells (setCells w5 (bzW (bxW W x s)).heap.size 4 [s']) (bxW W x s).heap.size 0 (tc x s')).heap.size := fun w5 s' x5 hsep => by
    have h1 : (tc x s').all oneB = true := by obtain ⟨a, c, rfl, _⟩ := hsep; rfl
    have r6 : Rmy (setCells w5 (bzW (bxW W x s)).heap.size 4 [s']) (bxW W x s).heap.size 5 := Rmy.setCells _ (r2.ext x5)
    have hA : Chg (fun b => b < W.heap.size + 3) w5 (setCells (setCells w5 (bzW (bxW W x s)).heap.size 4 [s']) (bxW W x s).heap.size 0 (tc x s')) :=
      (Chg.setCells (S := fun b => b < W.heap.size + 3) (by omega) _ _ _).trans (Chg.setCells (S := fun b => b < W.heap.size + 3) (by omega) _ _ _)
    have h3 := hA.size
    have x05 := (x1.trans x4).trans x5
    rw [e3] at hsep
    refine ⟨reslice (r3.ext x5) (c4.ext x5), r6.all _ 0 (Nat.le_refl 5) h1, tc x s', rfl, setCells_at _ _ 0 5 r6 (Nat.le_refl 5), Ext.setCells _ (Ext.setCells (o := 4) [s'] x05 (by omega)) (by omega), s', rfl, ?_⟩
    exact (hsep.keep tlc_len fun b g1 g2 => hA.block b g2 (by omega)).wide (by omega) h3
  have h34 := fun w5 (x5 : Ext (setCells (bzW (bzW (bxW W x s))) (bzW (bxW W x s)).heap.size 0 (tc x s)) w5) => (r3.ext x5) 4 (by decide)
  obtain ⟨a0, c0, rfl, _, _⟩ := id hs
  refine ret_of_vc ties mixed Try.func31 rfl (by kernel_rfl) rfl rfl ?_
  refine ⟨tc x _, rfl, hb, f4, ?_⟩
  refine ⟨_, hb3.2.2.2.2.1, ?_⟩
  refine Or.inl ((hcall).mono ?_)
  rintro _ w5 ⟨x5, hsep⟩
  obtain ⟨a', c', rfl, _, _⟩ := id hsep
  refine ⟨h34 w5 x5, ?_⟩
  refine ⟨tc x _, rfl, (key w5 _ x5 hsep).1, ?_⟩
  exact (key w5 _ x5 hsep).2

set_option maxHeartbeats 4000000 in
theorem copyTerms_sep : ∀ (n : Nat) (f : TF), f.size < n → CpSep f := by
  intro n
  induction n with
  | zero => intro f hf; omega
  | succ n ih =>
    intro f hf s W hs hsz
    obtain ⟨a, c, rfl, hl, hat⟩ := hs
    have hfl := f.len_le
    have hlm : (maxLen : Int) ≤ 9223372036854775807 := by decide
    by_cases hz : f.len = 0
    · have hnil := Fo.len_zero hz
      subst hnil
      refine ret_of_vc ties mixed Try.func59 rfl (by kernel_rfl) rfl rfl ?_
      exact ⟨Ext.refl _, none, 0, rfl, Nat.zero_le _, .inl rfl⟩
    have hat := hat.resolve_left hz
    refine ret_of_vc ties mixed Try.func59 rfl (by kernel_rfl) rfl rfl ?_
    refine br_dec_false (by omega : ¬ (f.len : Int) = 0) ?_
    refine ⟨⟨by omega, by omega, by omega, by show (64 : Int) * (f.len : Int) ≤ _; omega⟩, ?_⟩
    have room : Rmy (W.alloc (.cells (zs f.len zt).toArray 25)) W.heap.size (f.len * 5) := by
      have := Rmy.new W (zs f.len zt) 25
      rwa [zs_length] at this
    refine loop_rule (σ := Nat × TF × TF × Value) [13, 4] 14 26 (fun q => [.int .i64 q.1, q.2.2.2])
      (fun q w' => Ext W w' ∧ W.heap.size + 1 ≤ w'.heap.size ∧ Rmy w' W.heap.size (f.len * 5) ∧ q.1 + q.2.2.1.len = f.len ∧ q.2.1.len = q.1 ∧ q.2.1.app q.2.2.1 = f ∧ q.2.2.1.size ≤ f.size ∧
        q.2.1.SepAt tlc 5 w' W.heap.size 0 (W.heap.size + 1) w'.heap.size ∧ (q.2.2.1.len = 0 ∨ ∃ b o, a = some ⟨b, o, none⟩ ∧ TAt anyB W q.2.2.1 b (o + q.1 * 5)))
      (fun q => q.2.2.1.len) (0, .nil, f, undef) rfl ⟨Ext.new _ _, by simp, room, by simp, rfl, rfl, Nat.le_refl _, trivial, ?_⟩ ?_
    · rcases hat with ⟨b, o, ha, _, hat⟩
      exact .inr ⟨b, o, ha, by simpa using hat⟩
    · rintro ⟨k, d, g, j5⟩ w junk ⟨hx, hB, hroom, hk, hd, happ, hg, hda, hga⟩ K hK
      simp only at hk hd happ hg hda hga
      show vc _ _ _ _ (over [13, 4] [.int .i64 k, j5] _) _
      refine br_dec (fun h3 => ?_) (fun h3 => ?_)
      · match g with
        | .nil => simp only [Fo.len] at hk; omega
        | .cons x kk r =>
          obtain ⟨b, o, rfl, hga'⟩ := hga.resolve_left (by simp [Fo.len])
          obtain ⟨⟨s', hc, hs'⟩, hr⟩ := hga'.sl
          simp only [Fo.size, Fo.len] at hk hg
          refine ⟨⟨by omega, by omega⟩, [.int .i64 x.op, .int .i64 x.w, .int .i64 x.n, .string x.name, s'], rfl, ?_, ?_⟩
          · simp only [Int.toNat_natCast]; exact hc.ext hx
          refine Or.inl ((copyTerm_sof (ih kk (by omega)) x s' _ (hs'.ext hx) (by omega)).mono ?_)
          rintro _ w5 ⟨hx5, _, rfl, hs5⟩
          obtain ⟨a', c', rfl, hl', hat'⟩ := id hs5
          refine ⟨⟨by omega, by omega⟩, ?_⟩
          have hr5 := hroom.ext hx5
          have hroomk : 0 + (k : Int).toNat * 5 + 5 ≤ f.len * 5 := by omega
          have hch : Chg (fun b => b = W.heap.size) w5 (Vc.setCells w5 W.heap.size (0 + (k : Int).toNat * 5) [.int .i64 x.op, .int .i64 x.w, .int .i64 x.n, .string x.name, .slice a' kk.len c']) := Chg.setCells (S := fun b => b = W.heap.size) rfl _ _ _
          have hz5 := hx5.size
          have hz6 := hch.size
          have hcn := setCells_at [.int .i64 x.op, .int .i64 x.w, .int .i64 x.n, .string x.name, .slice a' kk.len c'] w5 (0 + (k : Int).toNat * 5) _ hr5 hroomk
          refine ⟨hr5.all _ _ hroomk rfl, ?_⟩
          refine ⟨_, IntWalk.i64_in _ (by omega), ?_⟩
          have hother : ∀ q, (q < 0 + (k : Int).toNat * 5 ∨ 0 + (k : Int).toNat * 5 + 5 ≤ q) → (Vc.setCells w5 W.heap.size (0 + (k : Int).toNat * 5) [.int .i64 x.op, .int .i64 x.w, .int .i64 x.n, .string x.name, .slice a' kk.len c']).cell? ⟨W.heap.size, q, none⟩ = w5.cell? ⟨W.heap.size, q, none⟩ := fun q hq => setCells_other _ _ _ _ (fun _ => hq)
          have hda6 : d.SepAt tlc 5 (Vc.setCells w5 W.heap.size (0 + (k : Int).toNat * 5) [.int .i64 x.op, .int .i64 x.w, .int .i64 x.n, .string x.name, .slice a' kk.len c']) W.heap.size 0 (W.heap.size + 1) w.heap.size := by
            refine hda.keep tlc_len (fun q _ hq => ?_) (fun b g1 g2 g3 => (hch.block b (by omega) g3).trans (hx5.block b g2))
            rw [hd] at hq
            rw [hother q (.inl (by omega))]
            exact World.cell?_of_block (a := ⟨W.heap.size, q, none⟩) (hx5.block W.heap.size (by omega))
          refine hK (k + 1, d.app (.cons x kk .nil), r, _) _ _ (vs2 (vint (by show (k : Int) + 1 = ((k + 1 : Nat) : Int); omega)) rfl)
            ⟨Ext.setCells _ (hx.trans hx5) (Nat.le_refl _), Nat.le_trans (Nat.le_trans hB hz5) hz6, Rmy.setCells _ hr5, by show k + 1 + r.len = f.len; omega, ?_, ?_, by show r.size ≤ f.size; omega, ?_, ?_⟩ (by show r.len < r.len + 1; omega) ?_
          · show (d.app (.cons x kk .nil)).len = k + 1
            rw [Fo.len_app, hd]; rfl
          · show (d.app (.cons x kk .nil)).app r = f
            rw [Fo.app_assoc]; exact happ
          · refine Fo.SepAt.app (mid := w.heap.size) (Nat.le_trans hz5 hz6) hB hda6 ?_
            refine Fo.SepAt.one (.inl hB) (Nat.le_trans hz5 hz6) ?_ ((hs5.keep tlc_len fun b g1 g2 => hch.block b g2 (by omega)).wide (Nat.le_refl _) hz6)
            rw [hd, show 0 + 5 * k = 0 + (k : Int).toNat * 5 from by omega]
            exact hcn
          · right
            refine ⟨b, o, rfl, ?_⟩
            show TAt anyB W r b (o + (k + 1) * 5)
            rw [show o + (k + 1) * 5 = o + k * 5 + 5 from by omega]
            exact hr
          · ((repeat (first | (with_reducible exact Only.refl) | (with_reducible refine Only.skip ?_) | ((with_reducible refine Only.upd ?_ ?_); rfl) | ((with_reducible refine Only.over ?_ ?_ _); rfl) | ((with_reducible refine Only.hav ?_ ?_ ?_); rfl; rfl))))
      · have h5 : g.len = 0 := by omega
        have h6 := Fo.len_zero h5
        subst h6
        rw [Fo.app_nil] at happ
        subst happ
        exact ⟨hx, _, _, rfl, hl, .inr ⟨_, rfl, Nat.le_refl _, hB, by rw [Nat.mul_comm]; exact hroom, hda.wide (Nat.le_succ _) (Nat.le_refl _)⟩⟩

theorem copyTerm_sep (k : TF) (x : Lab) (s : Value) (W : World) (hs : TSl anyB W s k) (hsz : k.size ≤ 1048576) :
    Ret Try.prog 31 #[tv x s] W (fun u w' => Ext W w' ∧ ∃ s', u = tv x s' ∧ TSep w' s' k W.heap.size w'.heap.size) := copyTerm_sof (copyTerms_sep _ k (Nat.lt_succ_self _)) x s W hs hsz
end Go.Proofs.Ytekddgkgeaolnaa
namespace Go.Proofs.Ytekddgkgeaolnaa
open Go Go.Vc Go.RowKit
set_option linter.unusedVariables false

theorem tok_okT {x : Lab} {k : TF} (h : TOk x k) : OkT (x, k) := OkF_one.1 h.2.1
/-- What Simplify gives. -/
noncomputable def simp (t : Tm) : Tm := @ite _ (TOk t.1 t.2) (Classical.propDecidable _) (sim t) zeroT
theorem simp_yes {x : Lab} {k : TF} (h : TOk x k) : simp (x, k) = sim (x, k) := if_pos h
theorem simp_no {x : Lab} {k : TF} (h : ¬ TOk x k) : simp (x, k) = zeroT := if_neg h
noncomputable def isSimp (t : Tm) : Bool := @decide (TOk t.1 t.2 ∧ cmpT (sim t) t = 0) (Classical.propDecidable _)
/-- A result of a call, its rows apart. -/
def CRes (t : Tm) (W : World) (v : Value) (w : World) : Prop := Ext W w ∧ ∃ s, v = tv t.1 s ∧ TSep w s t.2 W.heap.size w.heap.size
theorem fin6 {t : Tm} {W w : World} {B : Nat} {s : Value} (hr : Rmy w B 5) (hB : W.heap.size ≤ B) (hx : Ext W w) {lo : Nat} (hlo : B < lo) (hs : TSep w s t.2 lo w.heap.size) :
    FreeAll w B 0 (tc t.1 s) ∧ ∃ vs, vs.length = 5 ∧ CellsAt (setCells w B 0 (tc t.1 s)) B 0 vs ∧ CRes t W (.agg vs.toArray) (setCells w B 0 (tc t.1 s)) := by
  have h1 : (tc t.1 s).all oneB = true := by obtain ⟨a, c, rfl, _⟩ := hs; rfl
  have hch : Chg (fun b => b = B) w (setCells w B 0 (tc t.1 s)) := Chg.setCells (S := fun b => b = B) rfl _ _ _
  refine ⟨hr.all _ 0 (Nat.le_refl 5) h1, tc t.1 s, rfl, setCells_at _ _ 0 5 hr (Nat.le_refl 5), hx.chg hch (fun b hb => by rw [hb]; exact hB), s, rfl, ?_⟩
  exact (hs.keep tlc_len fun b g1 g2 => hch.block b g2 (by omega)).wide (by omega) hch.size
theorem zero_sep (w : World) (lo hi : Nat) : TSep w (.slice none 0 0) .nil lo hi := ⟨none, 0, rfl, Nat.zero_le _, .inl rfl⟩
set_option maxHeartbeats 4000000 in
theorem impl_Simplify (x : Lab) (k : TF) (s : Value) (W : World) (hs : TSl anyB W s k) (hx : okL x) (hp : k.All okL) : Ret Try.prog 9 #[tv x s] W (CRes (simp (x, k)) W) := by
  have x1 : Ext W (bzW (bxW W x s)) := (bx_ext W x s).trans (bz_ext _)
  have hb := (bx_at W x s).ext (bz_ext (bxW W x s))
  have hr : Rmy (bzW (bxW W x s)) (bxW W x s).heap.size 5 := bz_rmy _
  have hB : W.heap.size ≤ (bxW W x s).heap.size := (bx_ext W x s).size
  have hlt : (bxW W x s).heap.size < (bzW (bxW W x s)).heap.size := by rw [bz_size]; omega
  have hok := fun w (xw : Ext W w) => impl_TermOk x k s w (hs.ext xw) hx hp
  have h1 := hs.oneB
  by_cases ht : TOk x k
  · have e : decide (TOk x k) = true := decide_eq_true ht
    simp only [e] at hok
    rw [simp_yes ht]
    have hO := tok_okT ht
    have hsim := fun w (xw : Ext W w) => simplifyNode_all _ (x, k) s anyB w (Nat.le_refl _) hO (hs.ext xw)
    have hz := (sim_keeps hO).sz
    have hz2 : (sim (x, k)).2.size ≤ 1048576 := by
      have h1 := ht.1
      have h2 : Tm.sz (sim (x, k)) = (sim (x, k)).2.size + 1 := rfl
      have h3 : Tm.sz (x, k) = k.size + 1 := rfl
      omega
    have hcp := fun w s' (h : TSl anyB w s' (sim (x, k)).2) => copyTerm_sep (sim (x, k)).2 (sim (x, k)).1 s' w h hz2
    obtain ⟨a, c, rfl, _, _⟩ := id hs
    refine ret_of_vc ties mixed Try.func9 rfl (by kernel_rfl) rfl rfl ?_
    refine ⟨tc x _, rfl, hb, ?_⟩
    refine Or.inl ((hok _ x1).mono ?_)
    rintro _ w2 ⟨rfl, x2⟩
    refine ⟨tc x _, rfl, hb.ext x2, ?_⟩
    refine Or.inl ((hsim w2 (x1.trans x2)).mono ?_)
    rintro _ w3 ⟨x3, s3, rfl, hs3⟩
    refine Or.inl ((hcp w3 s3 (hs3.mono fun _ _ => trivial)).mono ?_)
    rintro _ w4 ⟨x4, s4, rfl, hs4⟩
    have x24 := x2.trans (x3.trans x4)
    have hz3 := (x2.trans x3).size
    exact fin6 (hr.ext x24) hB (x1.trans x24) (Nat.lt_of_lt_of_le hlt hz3) hs4
  · have e : decide (TOk x k) = false := decide_eq_false ht
    simp only [e] at hok
    rw [simp_no ht]
    obtain ⟨a, c, rfl, _, _⟩ := id hs
    refine ret_of_vc ties mixed Try.func9 rfl (by kernel_rfl) rfl rfl ?_
    refine ⟨tc x _, rfl, hb, ?_⟩
    refine Or.inl ((hok _ x1).mono ?_)
    rintro _ w2 ⟨rfl, x2⟩
    have hz3 := x2.size
    exact fin6 (t := zeroT) (hr.ext x2) hB (x1.trans x2) (Nat.lt_of_lt_of_le hlt hz3) (zero_sep _ _ _)
theorem isSimp_yes {x : Lab} {k : TF} (h : TOk x k) : isSimp (x, k) = decide (cmpT (sim (x, k)) (x, k) = 0) := by
  unfold isSimp
  exact decide_eq_decide.2 ⟨fun h => h.2, fun h' => ⟨h, h'⟩⟩
theorem isSimp_no {x : Lab} {k : TF} (h : ¬ TOk x k) : isSimp (x, k) = false := by
  unfold isSimp
  exact @decide_eq_false _ (Classical.propDecidable _) fun h' => h h'.1
set_option maxHeartbeats 4000000 in
theorem impl_IsSimple (x : Lab) (k : TF) (s : Value) (W : World) (hs : TSl anyB W s k) (hx : okL x) (hp : k.All okL) : Ret Try.prog 10 #[tv x s] W (fun v w' => v = .bool (isSimp (x, k)) ∧ Ext W w') := by
  have x1 := bx_ext W x s
  have hb := bx_at W x s
  have hok := fun w (xw : Ext W w) => impl_TermOk x k s w (hs.ext xw) hx hp
  by_cases ht : TOk x k
  · have e : decide (TOk x k) = true := decide_eq_true ht
    simp only [e] at hok
    rw [isSimp_yes ht]
    have hO := tok_okT ht
    have hsim := fun w (xw : Ext W w) => simplifyNode_all _ (x, k) s anyB w (Nat.le_refl _) hO (hs.ext xw)
    have hsame := fun w s' (xw : Ext W w) (h : TSl anyB w s' (sim (x, k)).2) => sameTerm_ret (sim (x, k)) (x, k) s' s w h (hs.ext xw)
    obtain ⟨a, c, rfl, _, _⟩ := id hs
    refine ret_of_vc ties mixed Try.func10 rfl (by kernel_rfl) rfl rfl ?_
    refine .inr (.inr (hyb_rule ties mixed [(0, .quiet), (1, .quiet), (2, .quiet), (3, .quiet), (5, .quiet), (4, .loud), (6, .loud), (7, .quiet), (8, .quiet)] (by kernel_rfl) ?_))
    refine ⟨tc x _, rfl, hb, .bool true, fun w' xw => hok w' (x1.trans xw), ?_⟩
    refine ⟨tc x _, rfl, hb, tc x _, rfl, hb, ?_⟩
    intro w3 x3
    refine Or.inl ((hsim w3 (x1.trans x3)).mono ?_)
    rintro _ w4 ⟨x4, s4, rfl, hs4⟩
    refine ⟨x4, ?_⟩
    intro w5 x5
    refine Or.inl ((hsame w5 s4 (x1.trans (x3.trans (x4.trans x5))) ((hs4.mono fun _ _ => trivial).ext x5)).mono ?_)
    rintro _ w6 ⟨rfl, x6⟩
    refine ⟨x6, ?_⟩
    intro w7 x7
    exact ⟨rfl, x1.trans (x3.trans (x4.trans (x5.trans (x6.trans x7))))⟩
  · have e : decide (TOk x k) = false := decide_eq_false ht
    simp only [e] at hok
    rw [isSimp_no ht]
    obtain ⟨a, c, rfl, _, _⟩ := id hs
    refine ret_of_vc ties mixed Try.func10 rfl (by kernel_rfl) rfl rfl ?_
    refine .inr (.inr (hyb_rule ties mixed [(0, .quiet), (1, .quiet), (2, .quiet), (3, .quiet), (5, .quiet), (4, .loud), (6, .loud), (7, .quiet), (8, .quiet)] (by kernel_rfl) ?_))
    refine ⟨tc x _, rfl, hb, .bool false, fun w' xw => hok w' (x1.trans xw), ?_⟩
    intro w3 x3
    refine ⟨Ext.refl _, ?_⟩
    intro w4 x4
    refine ⟨Ext.refl _, ?_⟩
    intro w5 x5
    exact ⟨rfl, x1.trans (x3.trans (x4.trans x5))⟩
end Go.Proofs.Ytekddgkgeaolnaa
