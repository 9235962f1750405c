/- Reference: what an operation gives on constants; small tests. Reference: steps towards a simpler form: l02Bit, l02If. (printed by genU2.py) Reference: steps towards a simpler form: l02Cut. (printed by genU3.py) Reference: l02Copy. Reference: l02Simple, from l02Make. Reference: Simplify and IsSimple, from l02Make. Reference: l02Equal. (printed by genU7.py) -/
import Derived.Test.YtekddgkgeaolnaaQ5
import Derived.Test.YtekddgkgeaolnaaIa
import Derived.Test.YtekddgkgeaolnaaQ1
namespace Go.Proofs.Ytekddgkgeaolnaa
open Go Go.Vc Go.RowKit
set_option linter.unusedVariables false

theorem ints1 {ok : Nat → Prop} {w : World} {s : Value} {m : Int} (h : SlR eI ok w s [m]) : ∃ b o c, s = .slice (some ⟨b, o, none⟩) 1 c ∧ w.cell? ⟨b, o, none⟩ = some (.int .i64 m) := by
  obtain ⟨a, c, h1, _, _, h3⟩ := h
  obtain ⟨b, o, rfl, _, ⟨cs, hc, hr⟩, _⟩ := h3.resolve_left (by simp)
  have hr : cs = [.int .i64 m] := hr
  subst hr
  exact ⟨b, o, c, h1, hc.1⟩
theorem ints2 {ok : Nat → Prop} {w : World} {s : Value} {m n : Int} (h : SlR eI ok w s [m, n]) : ∃ b o c, s = .slice (some ⟨b, o, none⟩) 2 c ∧ w.cell? ⟨b, o, none⟩ = some (.int .i64 m) ∧ w.cell? ⟨b, o + 1, none⟩ = some (.int .i64 n) := by
  obtain ⟨a, c, h1, _, _, h3⟩ := h
  obtain ⟨b, o, rfl, _, ⟨cs, hc, hr⟩, ⟨ds, hd, hq⟩, _⟩ := h3.resolve_left (by simp)
  have hr : cs = [.int .i64 m] := hr
  have hq : ds = [.int .i64 n] := hq
  subst hr
  subst hq
  exact ⟨b, o, c, h1, hc.1, hd.1⟩
theorem ints3 {ok : Nat → Prop} {w : World} {s : Value} {m n p : Int} (h : SlR eI ok w s [m, n, p]) : ∃ b o c, s = .slice (some ⟨b, o, none⟩) 3 c ∧ w.cell? ⟨b, o, none⟩ = some (.int .i64 m) ∧ w.cell? ⟨b, o + 1, none⟩ = some (.int .i64 n) ∧ w.cell? ⟨b, o + 2, none⟩ = some (.int .i64 p) := by
  obtain ⟨a, c, h1, _, _, h3⟩ := h
  obtain ⟨b, o, rfl, _, ⟨cs, hc, hr⟩, ⟨ds, hd, hq⟩, ⟨es, he, ht⟩, _⟩ := h3.resolve_left (by simp)
  have hr : cs = [.int .i64 m] := hr
  have hq : ds = [.int .i64 n] := hq
  have ht : es = [.int .i64 p] := ht
  subst hr
  subst hq
  subst ht
  exact ⟨b, o, c, h1, hc.1, hd.1, he.1⟩
theorem inR_yes {n lo hi : Int} (h : lo ≤ n ∧ n ≤ hi) : inR n lo hi = true := by
  unfold inR
  rw [decide_eq_true h.1, decide_eq_true h.2]; rfl
theorem inR_no {n lo hi : Int} (h : ¬ (lo ≤ n ∧ n ≤ hi)) : inR n lo hi = false := by
  unfold inR
  by_cases h1 : lo ≤ n
  · rw [decide_eq_false (fun h2 : n ≤ hi => h ⟨h1, h2⟩), Bool.and_false]
  · rw [decide_eq_false h1, Bool.false_and]
theorem q_of {P : Program} {g : Nat} {args : Array Value} {w : World} {a : Value} (h : Ret P g args w (fun v w' => v = a ∧ w' = w)) : Ret P g args w (fun v w' => v = a ∧ Ext w w') :=
  h.mono fun v w' h => ⟨h.1, by rw [h.2]; exact Ext.refl _⟩
set_option maxHeartbeats 8000000 in
theorem l02Apply_ret (x : Lab) (k : TF) (s v : Value) (W : World) (h : OkT (x, k)) (hk : k.len ≠ 0) (hc : allC k = true) (hs : TSl anyB W s k) (hv : SlR eI anyB W v ((hdF k).map (·.n))) :
    Ret Try.prog 75 #[tv x s, v] W (fun r w' => r = .int .i64 (evT e0 (x, k)) ∧ Ext W w') := by
  have x1 := bx_ext W x s
  have hb := bx_at W x s
  have hN : NodeOk x (hdF k) := h.1
  have h0 : x.op ≠ 0 := fun e => hk (by rw [ok_nil h (.inl e)]; rfl)
  have h22 : x.op ≠ 22 := fun e => hk (by rw [ok_nil h (.inr e)]; rfl)
  have hs1 := hs.ext x1
  have hv1 := hv.ext x1
  have hxn : inI x.n := nin hN
  rcases ops hN with ho | ho | ho | ho | ho | ho | ho | ho | ho
  · exact absurd ho h0
  · exact absurd ho h22
  · obtain ⟨a, rfl, ha⟩ := ok_1 h (by omega)
    obtain ⟨p, o, c, sa, rfl, hca, hsa⟩ := kids1 hs1
    obtain ⟨q, o', c', rfl, hi⟩ := ints1 (m := a.1.n) hv1
    have ha0 := allC_iff.1 hc a (by simp)
    have hE : evT e0 (x, mkTF [a]) = uW x.op x.w a.1.n := by rw [ev_un ho, ev_op0 ha0, show a.1.w = x.w from fit_un h.1 ho]
    rw [hE]
    have hin : inR x.op 1 2 = true := inR_yes (by omega)
    have hI := fun w => l01In_ret x.op 1 2 w
    simp only [hin] at hI
    refine ret_of_vc ties mixed Try.func75 rfl (by kernel_rfl) rfl rfl ?_
    refine ⟨_, hb.1, ?_⟩
    refine Or.inl ((hI _).mono ?_)
    rintro _ _ ⟨rfl, rfl⟩
    refine .inl ⟨by kernel_rfl, ?_⟩
    refine ⟨_, hb.1, _, hb.2.1, ⟨by decide, by decide⟩, _, hi, ?_⟩
    exact ⟨_, fun w' xw => q_of (spec_ApplyUnary _ _ _ w'), fun w' hw' => ⟨rfl, x1.trans hw'⟩⟩
  · obtain ⟨a, rfl, ha⟩ := ok_1 h (by omega)
    obtain ⟨p, o, c, sa, rfl, hca, hsa⟩ := kids1 hs1
    obtain ⟨q, o', c', rfl, hi⟩ := ints1 (m := a.1.n) hv1
    have ha0 := allC_iff.1 hc a (by simp)
    rw [ev_cut ho, ev_op0 ha0]
    have n12 : inR x.op 1 2 = false := inR_no (by omega)
    have hI := fun w => l01In_ret x.op 1 2 w
    simp only [n12] at hI
    have n316 : inR x.op 3 16 = false := inR_no (by omega)
    have hJ := fun w => l01In_ret x.op 3 16 w
    simp only [n316] at hJ
    refine ret_of_vc ties mixed Try.func75 rfl (by kernel_rfl) rfl rfl ?_
    refine ⟨_, hb.1, ?_⟩
    refine Or.inl ((hI _).mono ?_)
    rintro _ _ ⟨rfl, rfl⟩
    refine ⟨_, hb.1, ?_⟩
    refine Or.inl ((hJ _).mono ?_)
    rintro _ _ ⟨rfl, rfl⟩
    refine ⟨_, hb.1, ?_⟩
    refine br_dec_false (by omega : ¬ x.op = 17) ?_
    refine ⟨_, hb.1, ?_⟩
    refine br_dec_false (by omega : ¬ x.op = 18) ?_
    refine ⟨_, hb.1, ?_⟩
    refine br_dec_true ho ?_
    refine .inl ⟨by kernel_rfl, ?_⟩
    refine ⟨_, hb.2.2.2.2.1, ⟨by decide, by decide⟩, _, hca.2.1, ⟨by decide, by decide⟩, _, hi, _, hb.2.2.1, _, hb.2.1, ?_⟩
    exact ⟨_, fun w' xw => q_of (spec_CutWord _ _ _ _ hxn w'), fun w' hw' => ⟨rfl, x1.trans hw'⟩⟩
  · obtain ⟨a, rfl, ha⟩ := ok_1 h (by omega)
    obtain ⟨p, o, c, sa, rfl, hca, hsa⟩ := kids1 hs1
    obtain ⟨q, o', c', rfl, hi⟩ := ints1 (m := a.1.n) hv1
    have ha0 := allC_iff.1 hc a (by simp)
    rw [ev_wid ho, ev_op0 ha0]
    have n12 : inR x.op 1 2 = false := inR_no (by omega)
    have hI := fun w => l01In_ret x.op 1 2 w
    simp only [n12] at hI
    have n316 : inR x.op 3 16 = false := inR_no (by omega)
    have hJ := fun w => l01In_ret x.op 3 16 w
    simp only [n316] at hJ
    refine ret_of_vc ties mixed Try.func75 rfl (by kernel_rfl) rfl rfl ?_
    refine ⟨_, hb.1, ?_⟩
    refine Or.inl ((hI _).mono ?_)
    rintro _ _ ⟨rfl, rfl⟩
    refine ⟨_, hb.1, ?_⟩
    refine Or.inl ((hJ _).mono ?_)
    rintro _ _ ⟨rfl, rfl⟩
    refine ⟨_, hb.1, ?_⟩
    refine br_dec_false (by omega : ¬ x.op = 17) ?_
    refine ⟨_, hb.1, ?_⟩
    refine br_dec_false (by omega : ¬ x.op = 18) ?_
    refine ⟨_, hb.1, ?_⟩
    refine br_dec_false (by omega : ¬ x.op = 19) ?_
    refine .inl ⟨by kernel_rfl, ?_⟩
    refine ⟨_, hb.2.2.2.2.1, ⟨by decide, by decide⟩, _, hca.2.1, ⟨by decide, by decide⟩, _, hi, _, hb.2.1, _, hb.1, ?_⟩
    exact ⟨_, fun w' xw => q_of (spec_WidenWord _ _ _ _ w'), fun w' hw' => ⟨rfl, x1.trans hw'⟩⟩
  · obtain ⟨a, b, rfl, ha, hb'⟩ := ok_2 h (by omega)
    obtain ⟨p, o, c, sa, sb, rfl, hca, hcb, hsa, hsb⟩ := kids2 hs1
    obtain ⟨q, o', c', rfl, hi, hi2⟩ := ints2 (m := a.1.n) (n := b.1.n) hv1
    have ha0 := allC_iff.1 hc a (by simp)
    have hb0 := allC_iff.1 hc b (by simp)
    rw [ev_bin (by omega), ev_op0 ha0, ev_op0 hb0]
    have n12 : inR x.op 1 2 = false := inR_no (by omega)
    have hI := fun w => l01In_ret x.op 1 2 w
    simp only [n12] at hI
    have n316 : inR x.op 3 16 = true := inR_yes (by omega)
    have hJ := fun w => l01In_ret x.op 3 16 w
    simp only [n316] at hJ
    refine ret_of_vc ties mixed Try.func75 rfl (by kernel_rfl) rfl rfl ?_
    refine ⟨_, hb.1, ?_⟩
    refine Or.inl ((hI _).mono ?_)
    rintro _ _ ⟨rfl, rfl⟩
    refine ⟨_, hb.1, ?_⟩
    refine Or.inl ((hJ _).mono ?_)
    rintro _ _ ⟨rfl, rfl⟩
    refine .inl ⟨by kernel_rfl, ?_⟩
    refine ⟨_, hb.1, _, hb.2.2.2.2.1, ⟨by decide, by decide⟩, _, hca.2.1, ⟨by decide, by decide⟩, _, hi, ⟨by decide, by decide⟩, _, hi2, ?_⟩
    exact ⟨_, fun w' xw => q_of (spec_ApplyBinary _ _ _ _ w'), fun w' hw' => ⟨rfl, x1.trans hw'⟩⟩
  · obtain ⟨a, b, rfl, ha, hb'⟩ := ok_2 h (by omega)
    obtain ⟨p, o, c, sa, sb, rfl, hca, hcb, hsa, hsb⟩ := kids2 hs1
    obtain ⟨q, o', c', rfl, hi, hi2⟩ := ints2 (m := a.1.n) (n := b.1.n) hv1
    have ha0 := allC_iff.1 hc a (by simp)
    have hb0 := allC_iff.1 hc b (by simp)
    rw [ev_bin (by omega), ev_op0 ha0, ev_op0 hb0]
    have n12 : inR x.op 1 2 = false := inR_no (by omega)
    have hI := fun w => l01In_ret x.op 1 2 w
    simp only [n12] at hI
    have n316 : inR x.op 3 16 = true := inR_yes (by omega)
    have hJ := fun w => l01In_ret x.op 3 16 w
    simp only [n316] at hJ
    refine ret_of_vc ties mixed Try.func75 rfl (by kernel_rfl) rfl rfl ?_
    refine ⟨_, hb.1, ?_⟩
    refine Or.inl ((hI _).mono ?_)
    rintro _ _ ⟨rfl, rfl⟩
    refine ⟨_, hb.1, ?_⟩
    refine Or.inl ((hJ _).mono ?_)
    rintro _ _ ⟨rfl, rfl⟩
    refine .inl ⟨by kernel_rfl, ?_⟩
    refine ⟨_, hb.1, _, hb.2.2.2.2.1, ⟨by decide, by decide⟩, _, hca.2.1, ⟨by decide, by decide⟩, _, hi, ⟨by decide, by decide⟩, _, hi2, ?_⟩
    exact ⟨_, fun w' xw => q_of (spec_ApplyBinary _ _ _ _ w'), fun w' hw' => ⟨rfl, x1.trans hw'⟩⟩
  · obtain ⟨a, b, rfl, ha, hb'⟩ := ok_2 h (by omega)
    obtain ⟨p, o, c, sa, sb, rfl, hca, hcb, hsa, hsb⟩ := kids2 hs1
    obtain ⟨q, o', c', rfl, hi, hi2⟩ := ints2 (m := a.1.n) (n := b.1.n) hv1
    have ha0 := allC_iff.1 hc a (by simp)
    have hb0 := allC_iff.1 hc b (by simp)
    rw [ev_join ho, ev_op0 ha0, ev_op0 hb0]
    have n12 : inR x.op 1 2 = false := inR_no (by omega)
    have hI := fun w => l01In_ret x.op 1 2 w
    simp only [n12] at hI
    have n316 : inR x.op 3 16 = false := inR_no (by omega)
    have hJ := fun w => l01In_ret x.op 3 16 w
    simp only [n316] at hJ
    refine ret_of_vc ties mixed Try.func75 rfl (by kernel_rfl) rfl rfl ?_
    refine ⟨_, hb.1, ?_⟩
    refine Or.inl ((hI _).mono ?_)
    rintro _ _ ⟨rfl, rfl⟩
    refine ⟨_, hb.1, ?_⟩
    refine Or.inl ((hJ _).mono ?_)
    rintro _ _ ⟨rfl, rfl⟩
    refine ⟨_, hb.1, ?_⟩
    refine br_dec_false (by omega : ¬ x.op = 17) ?_
    refine ⟨_, hb.1, ?_⟩
    refine br_dec_true ho ?_
    refine .inl ⟨by kernel_rfl, ?_⟩
    refine ⟨_, hb.2.2.2.2.1, ⟨by decide, by decide⟩, _, hca.2.1, ⟨by decide, by decide⟩, _, hi, _, hb.2.2.2.2.1, ⟨by decide, by decide⟩, _, hcb.2.1, ⟨by decide, by decide⟩, _, hi2, ?_⟩
    exact ⟨_, fun w' xw => q_of (spec_JoinWords _ _ _ _ w'), fun w' hw' => ⟨rfl, x1.trans hw'⟩⟩
  · obtain ⟨a, b, d, rfl, ha, hb', hd'⟩ := ok_3 h ho
    obtain ⟨p, o, c, sa, sb, sd, rfl, hca, hcb, hcd, hsa, hsb, hsd⟩ := kids3 hs1
    obtain ⟨q, o', c', rfl, hi, hi2, hi3⟩ := ints3 (m := a.1.n) (n := b.1.n) (p := d.1.n) hv1
    have ha0 := allC_iff.1 hc a (by simp)
    have hb0 := allC_iff.1 hc b (by simp)
    have hd0 := allC_iff.1 hc d (by simp)
    rw [ev_if ho, ev_op0 ha0, ev_op0 hb0, ev_op0 hd0]
    have n12 : inR x.op 1 2 = false := inR_no (by omega)
    have hI := fun w => l01In_ret x.op 1 2 w
    simp only [n12] at hI
    have n316 : inR x.op 3 16 = false := inR_no (by omega)
    have hJ := fun w => l01In_ret x.op 3 16 w
    simp only [n316] at hJ
    refine ret_of_vc ties mixed Try.func75 rfl (by kernel_rfl) rfl rfl ?_
    refine ⟨_, hb.1, ?_⟩
    refine Or.inl ((hI _).mono ?_)
    rintro _ _ ⟨rfl, rfl⟩
    refine ⟨_, hb.1, ?_⟩
    refine Or.inl ((hJ _).mono ?_)
    rintro _ _ ⟨rfl, rfl⟩
    refine ⟨_, hb.1, ?_⟩
    refine br_dec_true ho ?_
    refine ⟨⟨by decide, by decide⟩, _, hi, ?_⟩
    refine br_dec (fun h1 => ?_) (fun h1 => ?_)
    · refine ⟨⟨by decide, by decide⟩, _, hi2, ?_⟩
      exact ⟨vint (if_pos h1).symm, x1⟩
    · refine ⟨⟨by decide, by decide⟩, _, hi3, ?_⟩
      exact ⟨vint (if_neg h1).symm, x1⟩
end Go.Proofs.Ytekddgkgeaolnaa
namespace Go.Proofs.Ytekddgkgeaolnaa
open Go Go.Vc Go.RowKit
set_option linter.unusedVariables false
section
variable {n : Nat} {x : Lab} {a b d : Tm} {s : Value} {ok : Nat → Prop} {W : World}
theorem fin_of' {B g : Nat} {args : Array Value} {ok : Nat → Prop} {t : Tm} {W w : World} (hx : Ext W w) (h : Ret Try.prog g args w (TRes (okB B W ok) t w)) (hl : B < w.heap.size) : Ret Try.prog g args w (fun v w' => Ext w w' ∧ ∃ s, v = tv t.1 s ∧ TSl (okB B W ok) w' s t.2) :=
  h.mono fun v w' hh => res_in hh hl hx.size
theorem is_false {t : Tm} {n : Int} (h : ¬ isC t n = true) : isC (t.1, t.2) n = false := by
  cases e : isC (t.1, t.2) n with
  | false => rfl
  | true => exact absurd e h
end
end Go.Proofs.Ytekddgkgeaolnaa
namespace Go.Proofs.Ytekddgkgeaolnaa
open Go Go.Vc Go.RowKit
set_option linter.unusedVariables false
section
variable {n : Nat} {x : Lab} {a b d : Tm} {s : Value} {ok : Nat → Prop} {W : World}
end
end Go.Proofs.Ytekddgkgeaolnaa
namespace Go.Proofs.Ytekddgkgeaolnaa
open Go Go.Vc Go.RowKit
set_option linter.unusedVariables false

/-- The row of kids that grows. -/
structure CpJ (w1 : World) (kv : Value) (l : List Tm) (w : World) : Prop where
  ext : Ext w1 w
  own : OwnR eTm (fun b => w1.heap.size ≤ b ∧ ¬ blk kv b) w kv l
  blk : ∀ b, blk kv b → w1.heap.size ≤ b ∧ b < w.heap.size
theorem CpJ.later {w1 w w' : World} {kv : Value} {l : List Tm} (h : CpJ w1 kv l w) (e : Ext w w') : CpJ w1 kv l w' :=
  ⟨h.ext.trans e, h.own.ext e, fun b hb => ⟨(h.blk b hb).1, Nat.lt_of_lt_of_le (h.blk b hb).2 e.size⟩⟩
theorem CpJ.push {w1 w w' : World} {kv v : Value} {l : List Tm} {t : Tm} (h : CpJ w1 kv l w) (hv : OwnR eTm (fun b => (w1.heap.size ≤ b ∧ ¬ Vc.blk kv b) ∧ b < w.heap.size) w' v (l ++ [t])) (hch : Chg (Vc.blk kv) w w') (hsz : w.heap.size < w'.heap.size) (hb : ∀ b, Vc.blk v b → Vc.blk kv b ∨ w.heap.size < b ∧ b < w'.heap.size) : CpJ w1 v (l ++ [t]) w' where
  ext := h.ext.chg hch fun b hb' => (h.blk b hb').1
  own := hv.mono fun b hb' => ⟨hb'.1.1, fun e => (hb b e).elim hb'.1.2 fun e => by omega⟩
  blk := fun b hb' => (hb b hb').elim (fun e => ⟨(h.blk b e).1, Nat.lt_of_lt_of_le (h.blk b e).2 (Nat.le_of_lt hsz)⟩) fun e => ⟨by have := h.ext.size; omega, e.2⟩
theorem CpJ.done {w1 w : World} {kv : Value} {k : TF} (h : CpJ w1 kv (tms k) w) : TSl (fun b => w1.heap.size ≤ b) w kv k := by
  have h1 : SlR eTm (fun b => w1.heap.size ≤ b) w kv (tms k) := h.own.sl (fun b hb => hb.1) fun b hb => (h.blk b hb).1
  have h2 := SlR.fo h1
  rw [foOf_mk, mk_tms] at h2
  exact h2
def CopS (n : Nat) : Prop := ∀ (t : Tm) (s : Value) (W : World), t.sz ≤ n → t.2.size ≤ 1048576 → TSl anyB W s t.2 → Ret Try.prog 46 #[tv t.1 s] W (fun v w' => Ext W w' ∧ ∃ s', v = tv t.1 s' ∧ TSl (fun b => W.heap.size ≤ b) w' s' t.2)
set_option maxHeartbeats 8000000 in
theorem l02Copy_all : ∀ n, CopS n := by
  intro n
  induction n with
  | zero => intro t s W h; have := sz_pos t; omega
  | succ n ih =>
    rintro ⟨x, k⟩ s W hsz hsk hs
    change TSl anyB W s k at hs
    change k.size ≤ 1048576 at hsk
    have hkl := k.len_le
    show Ret Try.prog 46 #[tv x s] W (fun v w' => Ext W w' ∧ ∃ s', v = tv x s' ∧ TSl (fun b => W.heap.size ≤ b) w' s' k)
    have x1 : Ext W (bzW (bxW W x s)) := (bx_ext W x s).trans (bz_ext _)
    have hb := (bx_at W x s).ext (bz_ext (bxW W x s))
    obtain ⟨a, c, rfl, hl, hat⟩ := id hs
    have x12 : Ext (bzW (bxW W x (.slice a k.len c))) ((bzW (bxW W x (.slice a k.len c))).alloc (.cells #[] 25)) := Ext.new _ _
    have hb2 := hb.ext x12
    have e2 : ((bzW (bxW W x (.slice a k.len c))).alloc (.cells #[] 25)).heap.size = (bzW (bxW W x (.slice a k.len c))).heap.size + 1 := by simp
    have hl' : k.len ≤ 9223372036854775807 := hl
    have j0 : CpJ (bzW (bxW W x (.slice a k.len c))) (.slice (some ⟨(bzW (bxW W x (.slice a k.len c))).heap.size, 0, none⟩) 0 0) [] ((bzW (bxW W x (.slice a k.len c))).alloc (.cells #[] 25)) :=
      ⟨x12, OwnR.nil _ _ _ _, fun b hb => by have hb : (bzW (bxW W x (.slice a k.len c))).heap.size = b := hb; omega⟩
    have kidAt : ∀ (i : Nat), i < k.len → ∃ t p o s', a = some ⟨p, o, none⟩ ∧ (tms k)[i]? = some t ∧ t.sz ≤ n ∧ t.2.size ≤ 1048576 ∧ ∀ w, Ext (bzW (bxW W x (.slice a k.len c))) w → CellsAt w p (o + (i : Int).toNat * 5) (tc t.1 s') ∧ TSl anyB w s' t.2 := fun i hi => by
      obtain ⟨t, ht, _⟩ := tms_get hi
      obtain ⟨p, o, c', s', e, _, _, _, hc, hs'⟩ := TSl.kid hs ht
      cases e
      have hm : t ∈ tms k := List.mem_of_getElem? ht
      have h1 := lt_kid (x := x) (a := t) (l := tms k) hm
      rw [mk_tms] at h1
      have h2 : Tm.sz (x, k) = k.size + 1 := rfl
      have h3 : t.sz = t.2.size + 1 := rfl
      exact ⟨t, p, o, s', rfl, ht, by omega, by omega, fun w xw => ⟨(hc.ext x1).ext xw, (hs'.ext x1).ext xw⟩⟩
    have e0 : (bxW W x (.slice a k.len c)).heap.size = W.heap.size + 1 := bx_size _ _ _
    have e1 : (bzW (bxW W x (.slice a k.len c))).heap.size = (bxW W x (.slice a k.len c)).heap.size + 1 := bz_size _
    have rb : Rmy (bzW (bxW W x (.slice a k.len c))) W.heap.size 5 := (Rmy.new W (tc x (.slice a k.len c)) 25).ext (bz_ext _)
    have r2 : Rmy (bzW (bxW W x (.slice a k.len c))) (bxW W x (.slice a k.len c)).heap.size 5 := bz_rmy _
    have key : ∀ w kv, CpJ (bzW (bxW W x (.slice a k.len c))) kv (tms k) w → Free w ⟨W.heap.size, 4, none⟩ ∧ CellsAt (setCells w W.heap.size 4 [kv]) W.heap.size 0 (tc x kv) ∧ FreeAll (setCells w W.heap.size 4 [kv]) (bxW W x (.slice a k.len c)).heap.size 0 (tc x kv) ∧
        ∃ vs, vs.length = 5 ∧ CellsAt (setCells (setCells w W.heap.size 4 [kv]) (bxW W x (.slice a k.len c)).heap.size 0 (tc x kv)) (bxW W x (.slice a k.len c)).heap.size 0 vs ∧ Ext W (setCells (setCells w W.heap.size 4 [kv]) (bxW W x (.slice a k.len c)).heap.size 0 (tc x kv)) ∧ ∃ s', Value.agg vs.toArray = tv x s' ∧ TSl (fun b => W.heap.size ≤ b) (setCells (setCells w W.heap.size 4 [kv]) (bxW W x (.slice a k.len c)).heap.size 0 (tc x kv)) s' k := fun w kv hj => by
      have hd := hj.done
      have r6 : Rmy (setCells w W.heap.size 4 [kv]) (bxW W x (.slice a k.len c)).heap.size 5 := Rmy.setCells _ (r2.ext hj.ext)
      have hA : Chg (fun b => b < (bzW (bxW W x (.slice a k.len c))).heap.size) w (setCells (setCells w W.heap.size 4 [kv]) (bxW W x (.slice a k.len c)).heap.size 0 (tc x kv)) :=
        (Chg.setCells (S := fun b => b < (bzW (bxW W x (.slice a k.len c))).heap.size) (by omega) _ _ _).trans (Chg.setCells (S := fun b => b < (bzW (bxW W x (.slice a k.len c))).heap.size) (by omega) _ _ _)
      refine ⟨(rb.ext hj.ext) 4 (by decide), reslice (rb.ext hj.ext) (hb.ext hj.ext), r6.all _ 0 (Nat.le_refl 5) (tc_one hd), tc x kv, rfl, setCells_at _ _ 0 5 r6 (Nat.le_refl 5), Ext.setCells _ (Ext.setCells (o := 4) [kv] (x1.trans hj.ext) (Nat.le_refl _)) (by omega), kv, rfl, ?_⟩
      exact (Fo.Sl.chg (fun b hb => by omega) hA hd).mono fun b hb => by omega
    refine ret_of_vc ties mixed Try.func46 rfl (by kernel_rfl) rfl rfl ?_
    refine ⟨_, hb2.2.2.2.2.1, ?_⟩
    refine loop_rule (σ := Nat × Value × Value) [10, 3, 5] 11 20 (fun q => [.int .i64 q.1, q.2.1, q.2.2])
      (fun q w' => CpJ (bzW (bxW W x (.slice a k.len c))) q.2.1 ((tms k).take q.1) w' ∧ q.1 ≤ k.len)
      (fun q => k.len - q.1) (0, _, undef) rfl ⟨j0, Nat.zero_le _⟩ ?_
    rintro ⟨i, kv, j5⟩ w junk ⟨hj, hi⟩ K hK
    simp only at hj hi
    show vc _ _ _ _ (over [10, 3, 5] [.int .i64 i, kv, j5] _) _
    refine br_dec (fun hlt => ?_) (fun hge => ?_)
    · obtain ⟨t, p, o, s', rfl, ht, hts, htz, hkid⟩ := kidAt i (by omega)
      obtain ⟨f4, c4, x4⟩ := keep5 (W := w) (x := t.1) (s := s') (tc_one (hkid w hj.ext).2)
      refine ⟨⟨by omega, by omega⟩, tc t.1 s', rfl, (hkid w hj.ext).1, f4, ?_⟩
      refine ⟨tc t.1 s', rfl, c4, ?_⟩
      have hj4 := hj.later x4
      refine Or.inl ((ih t s' _ hts htz (hkid _ hj4.ext).2).mono ?_)
      rintro _ w5 ⟨x5, s5, rfl, hs5⟩
      have hj5 := hj4.later x5
      have hz4 := x4.size
      have hlen : ((tms k).take i).length = i := by rw [List.length_take, tms_len]; omega
      have hrep : eTm.R (fun b => ((bzW (bxW W x (.slice (some ⟨p, o, none⟩) k.len c))).heap.size ≤ b ∧ ¬ blk kv b) ∧ b < w5.heap.size) w5 t [.int .i64 t.1.op, .int .i64 t.1.w, .int .i64 t.1.n, .string t.1.name, s5] := by
        refine ⟨s5, rfl, hs5.lt.mono fun b hb => ⟨⟨?_, fun e => ?_⟩, hb.2⟩⟩
        · have := hj4.ext.size
          omega
        · have := (hj4.blk b e).2
          omega
      refine raw_push (E := eTm) (x := t) (cs := [.int .i64 t.1.op, .int .i64 t.1.w, .int .i64 t.1.n, .string t.1.name, s5]) ties rfl rfl rfl rfl rfl rfl rfl rfl rfl rfl rfl hj5.own.lt hrep (fun b' hb' => hb'.1.2) (by rw [hlen]; show (i + 1) * 64 ≤ _; omega) (by omega) ?_
      intro v w6 hv hch hsz6 hvb
      have hj6 := hj5.push hv hch hsz6 hvb
      have htake : (tms k).take (i + 1) = (tms k).take i ++ [t] := by rw [List.take_add_one, ht]; rfl
      rw [← htake] at hj6
      refine ⟨_, IntWalk.i64_in _ (by omega), ?_⟩
      refine hK (i + 1, v, _) _ _ (vs3 (vint (by show (i : Int) + 1 = ((i + 1 : Nat) : Int); omega)) rfl rfl) ⟨hj6, by show i + 1 ≤ k.len; omega⟩ (by show k.len - (i + 1) < k.len - i; omega) ?_
      ((repeat (first | (with_reducible exact Only.refl) | (with_reducible refine Only.skip ?_) | ((with_reducible refine Only.upd ?_ ?_); rfl) | ((with_reducible refine Only.over ?_ ?_ _); rfl) | ((with_reducible refine Only.hav ?_ ?_ ?_); rfl; rfl))))
    · have hie : (tms k).take i = tms k := List.take_of_length_le (by rw [tms_len]; omega)
      rw [hie] at hj
      have hkey := key w kv hj
      obtain ⟨a', c', rfl, _⟩ := id hj.own
      refine ⟨hkey.1, ?_⟩
      refine ⟨tc x _, rfl, hkey.2.1, ?_⟩
      exact hkey.2.2
end Go.Proofs.Ytekddgkgeaolnaa
namespace Go.Proofs.Ytekddgkgeaolnaa
open Go Go.Vc Go.RowKit
set_option linter.unusedVariables false

/-- The row of kids that grows; A: old blocks that its kids may lie in. -/
structure CpA (A : Nat → Prop) (w1 : World) (kv : Value) (l : List Tm) (w : World) : Prop where
  ext : Ext w1 w
  own : OwnR eTm (fun b => (A b ∨ w1.heap.size ≤ b) ∧ ¬ blk kv b) w kv l
  blk : ∀ b, blk kv b → w1.heap.size ≤ b ∧ b < w.heap.size
theorem CpA.later {A : Nat → Prop} {w1 w w' : World} {kv : Value} {l : List Tm} (h : CpA A w1 kv l w) (e : Ext w w') : CpA A w1 kv l w' :=
  ⟨h.ext.trans e, h.own.ext e, fun b hb => ⟨(h.blk b hb).1, Nat.lt_of_lt_of_le (h.blk b hb).2 e.size⟩⟩
theorem CpA.push {A : Nat → Prop} {w1 w w' : World} {kv v : Value} {l : List Tm} {t : Tm} (h : CpA A w1 kv l w) (hv : OwnR eTm (fun b => ((A b ∨ w1.heap.size ≤ b) ∧ ¬ Vc.blk kv b) ∧ b < w.heap.size) w' v (l ++ [t])) (hch : Chg (Vc.blk kv) w w') (hsz : w.heap.size < w'.heap.size) (hb : ∀ b, Vc.blk v b → Vc.blk kv b ∨ w.heap.size < b ∧ b < w'.heap.size) : CpA A w1 v (l ++ [t]) w' where
  ext := h.ext.chg hch fun b hb' => (h.blk b hb').1
  own := hv.mono fun b hb' => ⟨hb'.1.1, fun e => (hb b e).elim hb'.1.2 fun e => by omega⟩
  blk := fun b hb' => (hb b hb').elim (fun e => ⟨(h.blk b e).1, Nat.lt_of_lt_of_le (h.blk b e).2 (Nat.le_of_lt hsz)⟩) fun e => ⟨by have := h.ext.size; omega, e.2⟩
theorem CpA.done {A : Nat → Prop} {w1 w : World} {kv : Value} {l : List Tm} (h : CpA A w1 kv l w) : TSl (fun b => A b ∨ w1.heap.size ≤ b) w kv (mkTF l) := by
  have h1 : SlR eTm (fun b => A b ∨ w1.heap.size ≤ b) w kv l := h.own.sl (fun b hb => hb.1) fun b hb => .inr (h.blk b hb).1
  have h2 := SlR.fo h1
  rw [foOf_mk] at h2
  exact h2
end Go.Proofs.Ytekddgkgeaolnaa
namespace Go.Proofs.Ytekddgkgeaolnaa
open Go Go.Vc Go.RowKit
set_option linter.unusedVariables false
theorem fin7 {t : Tm} {W w : World} {B : Nat} {s : Value} (hr : Rmy w B 5) (hB : W.heap.size ≤ B) (hx : Ext W w) (hs : TSl (fun b => B < b) w s t.2) :
    FreeAll w B 0 (tc t.1 s) ∧ ∃ vs, vs.length = 5 ∧ CellsAt (setCells w B 0 (tc t.1 s)) B 0 vs ∧ TRes anyB t W (.agg vs.toArray) (setCells w B 0 (tc t.1 s)) := by
  have hch : Chg (fun b => b = B) w (setCells w B 0 (tc t.1 s)) := Chg.setCells (S := fun b => b = B) rfl _ _ _
  refine ⟨hr.all _ 0 (Nat.le_refl 5) (tc_one hs), tc t.1 s, rfl, setCells_at _ _ 0 5 hr (Nat.le_refl 5), hx.chg hch (fun b hb => by rw [hb]; exact hB), s, rfl, ?_⟩
  exact (Fo.Sl.chg (fun b hb => by omega) hch hs).mono fun b hb => .inl trivial
theorem nil_sl (ok : Nat → Prop) (w : World) : TSl ok w (.slice none 0 0) .nil := ⟨none, 0, rfl, Nat.zero_le _, .inl rfl⟩
end Go.Proofs.Ytekddgkgeaolnaa
namespace Go.Proofs.Ytekddgkgeaolnaa
open Go Go.Vc Go.RowKit
set_option linter.unusedVariables false
section
variable {n : Nat} {x : Lab} {a b : Tm} {s : Value} {ok : Nat → Prop} {W : World}
/-- What two equal kids give. -/
def eqO (x : Lab) (a : Tm) : Option Tm := if x.op = 8 ∨ x.op = 9 then some a else if x.op = 4 ∨ x.op = 10 ∨ x.op = 15 ∨ x.op = 16 then some (conT x.w 0) else if x.op = 14 then some (conT 1 1) else none
end
end Go.Proofs.Ytekddgkgeaolnaa
