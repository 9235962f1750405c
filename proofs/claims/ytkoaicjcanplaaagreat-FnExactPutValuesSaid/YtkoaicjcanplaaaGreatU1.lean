/- Reference: what an operation gives on constants; small tests. Reference: steps towards a simpler form: l02Bit, l02If. (printed by genU2.py) Reference: steps towards a simpler form: l02Cut. (printed by genU3.py) -/
import Derived.Test.YtkoaicjcanplaaaGreatQ5
import Derived.Test.YtkoaicjcanplaaaGreatIa
import Derived.Test.YtkoaicjcanplaaaGreatQ1
namespace Go.Proofs.YtkoaicjcanplaaaGreat
open Go Go.Vc Go.RowKit
set_option linter.unusedVariables false

theorem ints1 {ok : Nat → Prop} {w : World} {s : Value} {m : Int} (h : SlR eI ok w s [m]) : ∃ b o c, s = .slice (some ⟨b, o, none⟩) 1 c ∧ w.cell? ⟨b, o, none⟩ = some (.int .i64 m) := by
  obtain ⟨a, c, h1, _, _, h3⟩ := h
  obtain ⟨b, o, rfl, _, ⟨cs, hc, hr⟩, _⟩ := h3.resolve_left (by simp)
  have hr : cs = [.int .i64 m] := hr
  subst hr
  exact ⟨b, o, c, h1, hc.1⟩
theorem ints2 {ok : Nat → Prop} {w : World} {s : Value} {m n : Int} (h : SlR eI ok w s [m, n]) : ∃ b o c, s = .slice (some ⟨b, o, none⟩) 2 c ∧ w.cell? ⟨b, o, none⟩ = some (.int .i64 m) ∧ w.cell? ⟨b, o + 1, none⟩ = some (.int .i64 n) := by
  obtain ⟨a, c, h1, _, _, h3⟩ := h
  obtain ⟨b, o, rfl, _, ⟨cs, hc, hr⟩, ⟨ds, hd, hq⟩, _⟩ := h3.resolve_left (by simp)
  have hr : cs = [.int .i64 m] := hr
  have hq : ds = [.int .i64 n] := hq
  subst hr
  subst hq
  exact ⟨b, o, c, h1, hc.1, hd.1⟩
theorem ints3 {ok : Nat → Prop} {w : World} {s : Value} {m n p : Int} (h : SlR eI ok w s [m, n, p]) : ∃ b o c, s = .slice (some ⟨b, o, none⟩) 3 c ∧ w.cell? ⟨b, o, none⟩ = some (.int .i64 m) ∧ w.cell? ⟨b, o + 1, none⟩ = some (.int .i64 n) ∧ w.cell? ⟨b, o + 2, none⟩ = some (.int .i64 p) := by
  obtain ⟨a, c, h1, _, _, h3⟩ := h
  obtain ⟨b, o, rfl, _, ⟨cs, hc, hr⟩, ⟨ds, hd, hq⟩, ⟨es, he, ht⟩, _⟩ := h3.resolve_left (by simp)
  have hr : cs = [.int .i64 m] := hr
  have hq : ds = [.int .i64 n] := hq
  have ht : es = [.int .i64 p] := ht
  subst hr
  subst hq
  subst ht
  exact ⟨b, o, c, h1, hc.1, hd.1, he.1⟩
theorem inR_yes {n lo hi : Int} (h : lo ≤ n ∧ n ≤ hi) : inR n lo hi = true := by
  unfold inR
  rw [decide_eq_true h.1, decide_eq_true h.2]; rfl
theorem inR_no {n lo hi : Int} (h : ¬ (lo ≤ n ∧ n ≤ hi)) : inR n lo hi = false := by
  unfold inR
  by_cases h1 : lo ≤ n
  · rw [decide_eq_false (fun h2 : n ≤ hi => h ⟨h1, h2⟩), Bool.and_false]
  · rw [decide_eq_false h1, Bool.false_and]
theorem q_of {P : Program} {g : Nat} {args : Array Value} {w : World} {a : Value} (h : Ret P g args w (fun v w' => v = a ∧ w' = w)) : Ret P g args w (fun v w' => v = a ∧ Ext w w') :=
  h.mono fun v w' h => ⟨h.1, by rw [h.2]; exact Ext.refl _⟩
theorem l02Ones_ret (x : Lab) (k : TF) (s : Value) (W : World) (hN : NodeOk x (hdF k)) : Ret Tryz.prog 117 #[tv x s] W (fun v w' => v = .bool (decide (x.op = 0 ∧ x.n = ones x.w)) ∧ Ext W w') := by
  have x1 := bx_ext W x s
  have hb := bx_at W x s
  have hw := hN.width
  have hp := pow16 (w := x.w) (by omega) hw.2
  by_cases h0 : x.op = 0
  · have e : decide (x.op = 0 ∧ x.n = ones x.w) = decide (x.n = ones x.w) := decide_eq_decide.2 ⟨fun h => h.2, fun h => ⟨h0, h⟩⟩
    rw [e]
    refine ret_of_vc ties mixed Tryz.func117 rfl (by kernel_rfl) rfl rfl ?_
    refine .inl ⟨by kernel_rfl, ?_⟩
    refine ⟨_, hb.1, ?_⟩
    repeat refine br_dec_true h0 ?_
    refine ⟨_, hb.2.2.1, ?_⟩
    repeat refine br_dec_true h0 ?_
    refine ⟨_, hb.2.1, ?_⟩
    repeat refine br_dec_true h0 ?_
    refine ⟨by omega, _, shl1 (by omega) hw.2, ?_⟩
    repeat refine br_dec_true h0 ?_
    refine ⟨_, IntWalk.i64_in _ (by omega), ?_⟩
    repeat refine br_dec_true h0 ?_
    exact fun w' hw' => ⟨rfl, x1.trans hw'⟩
  · have e : decide (x.op = 0 ∧ x.n = ones x.w) = false := decide_eq_false fun h => h0 h.1
    rw [e]
    refine ret_of_vc ties mixed Tryz.func117 rfl (by kernel_rfl) rfl rfl ?_
    refine .inl ⟨by kernel_rfl, ?_⟩
    refine ⟨_, hb.1, ?_⟩
    repeat refine br_dec_false h0 ?_
    exact fun w' hw' => ⟨rfl, x1.trans hw'⟩
set_option maxHeartbeats 8000000 in
theorem l02Apply_ret (x : Lab) (k : TF) (s v : Value) (W : World) (h : OkT (x, k)) (hk : k.len ≠ 0) (hc : allC k = true) (hs : TSl anyB W s k) (hv : SlR eI anyB W v ((hdF k).map (·.n))) :
    Ret Tryz.prog 64 #[tv x s, v] W (fun r w' => r = .int .i64 (evT e0 (x, k)) ∧ Ext W w') := by
  have x1 := bx_ext W x s
  have hb := bx_at W x s
  have hN : NodeOk x (hdF k) := h.1
  have h0 : x.op ≠ 0 := fun e => hk (by rw [ok_nil h (.inl e)]; rfl)
  have h22 : x.op ≠ 22 := fun e => hk (by rw [ok_nil h (.inr e)]; rfl)
  have hs1 := hs.ext x1
  have hv1 := hv.ext x1
  have hxn : inI x.n := nin hN
  rcases ops hN with ho | ho | ho | ho | ho | ho | ho | ho | ho
  · exact absurd ho h0
  · exact absurd ho h22
  · obtain ⟨a, rfl, ha⟩ := ok_1 h (by omega)
    obtain ⟨p, o, c, sa, rfl, hca, hsa⟩ := kids1 hs1
    obtain ⟨q, o', c', rfl, hi⟩ := ints1 (m := a.1.n) hv1
    have ha0 := allC_iff.1 hc a (by simp)
    have hE : evT e0 (x, mkTF [a]) = uW x.op x.w a.1.n := by rw [ev_un ho, ev_op0 ha0, show a.1.w = x.w from fit_un h.1 ho]
    rw [hE]
    have hin : inR x.op 1 2 = true := inR_yes (by omega)
    have hI := fun w => l01In_ret x.op 1 2 w
    simp only [hin] at hI
    refine ret_of_vc ties mixed Tryz.func64 rfl (by kernel_rfl) rfl rfl ?_
    refine ⟨_, hb.1, ?_⟩
    refine Or.inl ((hI _).mono ?_)
    rintro _ _ ⟨rfl, rfl⟩
    refine .inl ⟨by kernel_rfl, ?_⟩
    refine ⟨_, hb.1, _, hb.2.1, ⟨by decide, by decide⟩, _, hi, ?_⟩
    exact ⟨_, fun w' xw => q_of (spec_ApplyUnary _ _ _ w'), fun w' hw' => ⟨rfl, x1.trans hw'⟩⟩
  · obtain ⟨a, rfl, ha⟩ := ok_1 h (by omega)
    obtain ⟨p, o, c, sa, rfl, hca, hsa⟩ := kids1 hs1
    obtain ⟨q, o', c', rfl, hi⟩ := ints1 (m := a.1.n) hv1
    have ha0 := allC_iff.1 hc a (by simp)
    rw [ev_cut ho, ev_op0 ha0]
    have n12 : inR x.op 1 2 = false := inR_no (by omega)
    have hI := fun w => l01In_ret x.op 1 2 w
    simp only [n12] at hI
    have n316 : inR x.op 3 16 = false := inR_no (by omega)
    have hJ := fun w => l01In_ret x.op 3 16 w
    simp only [n316] at hJ
    refine ret_of_vc ties mixed Tryz.func64 rfl (by kernel_rfl) rfl rfl ?_
    refine ⟨_, hb.1, ?_⟩
    refine Or.inl ((hI _).mono ?_)
    rintro _ _ ⟨rfl, rfl⟩
    refine ⟨_, hb.1, ?_⟩
    refine Or.inl ((hJ _).mono ?_)
    rintro _ _ ⟨rfl, rfl⟩
    refine ⟨_, hb.1, ?_⟩
    refine br_dec_false (by omega : ¬ x.op = 17) ?_
    refine ⟨_, hb.1, ?_⟩
    refine br_dec_false (by omega : ¬ x.op = 18) ?_
    refine ⟨_, hb.1, ?_⟩
    refine br_dec_true ho ?_
    refine .inl ⟨by kernel_rfl, ?_⟩
    refine ⟨_, hb.2.2.2.2.1, ⟨by decide, by decide⟩, _, hca.2.1, ⟨by decide, by decide⟩, _, hi, _, hb.2.2.1, _, hb.2.1, ?_⟩
    exact ⟨_, fun w' xw => q_of (spec_CutWord _ _ _ _ hxn w'), fun w' hw' => ⟨rfl, x1.trans hw'⟩⟩
  · obtain ⟨a, rfl, ha⟩ := ok_1 h (by omega)
    obtain ⟨p, o, c, sa, rfl, hca, hsa⟩ := kids1 hs1
    obtain ⟨q, o', c', rfl, hi⟩ := ints1 (m := a.1.n) hv1
    have ha0 := allC_iff.1 hc a (by simp)
    rw [ev_wid ho, ev_op0 ha0]
    have n12 : inR x.op 1 2 = false := inR_no (by omega)
    have hI := fun w => l01In_ret x.op 1 2 w
    simp only [n12] at hI
    have n316 : inR x.op 3 16 = false := inR_no (by omega)
    have hJ := fun w => l01In_ret x.op 3 16 w
    simp only [n316] at hJ
    refine ret_of_vc ties mixed Tryz.func64 rfl (by kernel_rfl) rfl rfl ?_
    refine ⟨_, hb.1, ?_⟩
    refine Or.inl ((hI _).mono ?_)
    rintro _ _ ⟨rfl, rfl⟩
    refine ⟨_, hb.1, ?_⟩
    refine Or.inl ((hJ _).mono ?_)
    rintro _ _ ⟨rfl, rfl⟩
    refine ⟨_, hb.1, ?_⟩
    refine br_dec_false (by omega : ¬ x.op = 17) ?_
    refine ⟨_, hb.1, ?_⟩
    refine br_dec_false (by omega : ¬ x.op = 18) ?_
    refine ⟨_, hb.1, ?_⟩
    refine br_dec_false (by omega : ¬ x.op = 19) ?_
    refine .inl ⟨by kernel_rfl, ?_⟩
    refine ⟨_, hb.2.2.2.2.1, ⟨by decide, by decide⟩, _, hca.2.1, ⟨by decide, by decide⟩, _, hi, _, hb.2.1, _, hb.1, ?_⟩
    exact ⟨_, fun w' xw => q_of (spec_WidenWord _ _ _ _ w'), fun w' hw' => ⟨rfl, x1.trans hw'⟩⟩
  · obtain ⟨a, b, rfl, ha, hb'⟩ := ok_2 h (by omega)
    obtain ⟨p, o, c, sa, sb, rfl, hca, hcb, hsa, hsb⟩ := kids2 hs1
    obtain ⟨q, o', c', rfl, hi, hi2⟩ := ints2 (m := a.1.n) (n := b.1.n) hv1
    have ha0 := allC_iff.1 hc a (by simp)
    have hb0 := allC_iff.1 hc b (by simp)
    rw [ev_bin (by omega), ev_op0 ha0, ev_op0 hb0]
    have n12 : inR x.op 1 2 = false := inR_no (by omega)
    have hI := fun w => l01In_ret x.op 1 2 w
    simp only [n12] at hI
    have n316 : inR x.op 3 16 = true := inR_yes (by omega)
    have hJ := fun w => l01In_ret x.op 3 16 w
    simp only [n316] at hJ
    refine ret_of_vc ties mixed Tryz.func64 rfl (by kernel_rfl) rfl rfl ?_
    refine ⟨_, hb.1, ?_⟩
    refine Or.inl ((hI _).mono ?_)
    rintro _ _ ⟨rfl, rfl⟩
    refine ⟨_, hb.1, ?_⟩
    refine Or.inl ((hJ _).mono ?_)
    rintro _ _ ⟨rfl, rfl⟩
    refine .inl ⟨by kernel_rfl, ?_⟩
    refine ⟨_, hb.1, _, hb.2.2.2.2.1, ⟨by decide, by decide⟩, _, hca.2.1, ⟨by decide, by decide⟩, _, hi, ⟨by decide, by decide⟩, _, hi2, ?_⟩
    exact ⟨_, fun w' xw => q_of (spec_ApplyBinary _ _ _ _ w'), fun w' hw' => ⟨rfl, x1.trans hw'⟩⟩
  · obtain ⟨a, b, rfl, ha, hb'⟩ := ok_2 h (by omega)
    obtain ⟨p, o, c, sa, sb, rfl, hca, hcb, hsa, hsb⟩ := kids2 hs1
    obtain ⟨q, o', c', rfl, hi, hi2⟩ := ints2 (m := a.1.n) (n := b.1.n) hv1
    have ha0 := allC_iff.1 hc a (by simp)
    have hb0 := allC_iff.1 hc b (by simp)
    rw [ev_bin (by omega), ev_op0 ha0, ev_op0 hb0]
    have n12 : inR x.op 1 2 = false := inR_no (by omega)
    have hI := fun w => l01In_ret x.op 1 2 w
    simp only [n12] at hI
    have n316 : inR x.op 3 16 = true := inR_yes (by omega)
    have hJ := fun w => l01In_ret x.op 3 16 w
    simp only [n316] at hJ
    refine ret_of_vc ties mixed Tryz.func64 rfl (by kernel_rfl) rfl rfl ?_
    refine ⟨_, hb.1, ?_⟩
    refine Or.inl ((hI _).mono ?_)
    rintro _ _ ⟨rfl, rfl⟩
    refine ⟨_, hb.1, ?_⟩
    refine Or.inl ((hJ _).mono ?_)
    rintro _ _ ⟨rfl, rfl⟩
    refine .inl ⟨by kernel_rfl, ?_⟩
    refine ⟨_, hb.1, _, hb.2.2.2.2.1, ⟨by decide, by decide⟩, _, hca.2.1, ⟨by decide, by decide⟩, _, hi, ⟨by decide, by decide⟩, _, hi2, ?_⟩
    exact ⟨_, fun w' xw => q_of (spec_ApplyBinary _ _ _ _ w'), fun w' hw' => ⟨rfl, x1.trans hw'⟩⟩
  · obtain ⟨a, b, rfl, ha, hb'⟩ := ok_2 h (by omega)
    obtain ⟨p, o, c, sa, sb, rfl, hca, hcb, hsa, hsb⟩ := kids2 hs1
    obtain ⟨q, o', c', rfl, hi, hi2⟩ := ints2 (m := a.1.n) (n := b.1.n) hv1
    have ha0 := allC_iff.1 hc a (by simp)
    have hb0 := allC_iff.1 hc b (by simp)
    rw [ev_join ho, ev_op0 ha0, ev_op0 hb0]
    have n12 : inR x.op 1 2 = false := inR_no (by omega)
    have hI := fun w => l01In_ret x.op 1 2 w
    simp only [n12] at hI
    have n316 : inR x.op 3 16 = false := inR_no (by omega)
    have hJ := fun w => l01In_ret x.op 3 16 w
    simp only [n316] at hJ
    refine ret_of_vc ties mixed Tryz.func64 rfl (by kernel_rfl) rfl rfl ?_
    refine ⟨_, hb.1, ?_⟩
    refine Or.inl ((hI _).mono ?_)
    rintro _ _ ⟨rfl, rfl⟩
    refine ⟨_, hb.1, ?_⟩
    refine Or.inl ((hJ _).mono ?_)
    rintro _ _ ⟨rfl, rfl⟩
    refine ⟨_, hb.1, ?_⟩
    refine br_dec_false (by omega : ¬ x.op = 17) ?_
    refine ⟨_, hb.1, ?_⟩
    refine br_dec_true ho ?_
    refine .inl ⟨by kernel_rfl, ?_⟩
    refine ⟨_, hb.2.2.2.2.1, ⟨by decide, by decide⟩, _, hca.2.1, ⟨by decide, by decide⟩, _, hi, _, hb.2.2.2.2.1, ⟨by decide, by decide⟩, _, hcb.2.1, ⟨by decide, by decide⟩, _, hi2, ?_⟩
    exact ⟨_, fun w' xw => q_of (spec_JoinWords _ _ _ _ w'), fun w' hw' => ⟨rfl, x1.trans hw'⟩⟩
  · obtain ⟨a, b, d, rfl, ha, hb', hd'⟩ := ok_3 h ho
    obtain ⟨p, o, c, sa, sb, sd, rfl, hca, hcb, hcd, hsa, hsb, hsd⟩ := kids3 hs1
    obtain ⟨q, o', c', rfl, hi, hi2, hi3⟩ := ints3 (m := a.1.n) (n := b.1.n) (p := d.1.n) hv1
    have ha0 := allC_iff.1 hc a (by simp)
    have hb0 := allC_iff.1 hc b (by simp)
    have hd0 := allC_iff.1 hc d (by simp)
    rw [ev_if ho, ev_op0 ha0, ev_op0 hb0, ev_op0 hd0]
    have n12 : inR x.op 1 2 = false := inR_no (by omega)
    have hI := fun w => l01In_ret x.op 1 2 w
    simp only [n12] at hI
    have n316 : inR x.op 3 16 = false := inR_no (by omega)
    have hJ := fun w => l01In_ret x.op 3 16 w
    simp only [n316] at hJ
    refine ret_of_vc ties mixed Tryz.func64 rfl (by kernel_rfl) rfl rfl ?_
    refine ⟨_, hb.1, ?_⟩
    refine Or.inl ((hI _).mono ?_)
    rintro _ _ ⟨rfl, rfl⟩
    refine ⟨_, hb.1, ?_⟩
    refine Or.inl ((hJ _).mono ?_)
    rintro _ _ ⟨rfl, rfl⟩
    refine ⟨_, hb.1, ?_⟩
    refine br_dec_true ho ?_
    refine ⟨⟨by decide, by decide⟩, _, hi, ?_⟩
    refine br_dec (fun h1 => ?_) (fun h1 => ?_)
    · refine ⟨⟨by decide, by decide⟩, _, hi2, ?_⟩
      exact ⟨vint (if_pos h1).symm, x1⟩
    · refine ⟨⟨by decide, by decide⟩, _, hi3, ?_⟩
      exact ⟨vint (if_neg h1).symm, x1⟩
end Go.Proofs.YtkoaicjcanplaaaGreat
namespace Go.Proofs.YtkoaicjcanplaaaGreat
open Go Go.Vc Go.RowKit
set_option linter.unusedVariables false
section
variable {n : Nat} {x : Lab} {a b d : Tm} {s : Value} {ok : Nat → Prop} {W : World}
theorem fin_of' {B g : Nat} {args : Array Value} {ok : Nat → Prop} {t : Tm} {W w : World} (hx : Ext W w) (h : Ret Tryz.prog g args w (TRes (okB B W ok) t w)) (hl : B < w.heap.size) : Ret Tryz.prog g args w (fun v w' => Ext w w' ∧ ∃ s, v = tv t.1 s ∧ TSl (okB B W ok) w' s t.2) :=
  h.mono fun v w' hh => res_in hh hl hx.size
theorem is_false {t : Tm} {n : Int} (h : ¬ isC t n = true) : isC (t.1, t.2) n = false := by
  cases e : isC (t.1, t.2) n with
  | false => rfl
  | true => exact absurd e h
set_option maxHeartbeats 4000000 in
theorem l02Bit_of (hR : RedS 54 n) (w m : Int) (hm : ms (mkn 19 w m, mkTF [a]) < n) (h : OkT (mkn 19 w m, mkTF [a])) (hs : TSl ok W s a.2) :
    Ret Tryz.prog 96 #[.int .i64 w, tv a.1 s, .int .i64 m] W (TRes ok (red (mkn 19 w m, mkTF [a])) W) := by
  have x1 : Ext W (bzW (bxW W a.1 s)) := (bx_ext W a.1 s).trans (bz_ext _)
  have hb := (bx_at W a.1 s).ext (bz_ext (bxW W a.1 s))
  have hr : Rmy (bzW (bxW W a.1 s)) (bxW W a.1 s).heap.size 5 := bz_rmy _
  have hB : W.heap.size ≤ (bxW W a.1 s).heap.size := (bx_ext W a.1 s).size
  have hlt : (bxW W a.1 s).heap.size < (bzW (bxW W a.1 s)).heap.size := by rw [bz_size]; omega
  have hin : TSl (okB (bxW W a.1 s).heap.size W ok) (bzW (bxW W a.1 s)) s a.2 := arg_in hs x1 hB
  obtain ⟨x3, hk3⟩ := mk1 (a := a) hin hlt x1.size
  have hcall := hR (mkn 19 w m, mkTF [a]) _ (okB (bxW W a.1 s).heap.size W ok) _ hm h hk3
  have hfin := fin_of (hr.ext x3) hB (Nat.lt_of_lt_of_le hlt x3.size) (x1.trans x3) hcall
  refine ret_of_vc ties mixed Tryz.func96 rfl (by kernel_rfl) rfl rfl ?_
  refine ⟨tc a.1 s, rfl, hb, ?_⟩
  refine Or.inl ((hfin).mono ?_)
  rintro _ w4 ⟨s2, rfl, hf⟩
  exact hf
set_option maxHeartbeats 16000000 in
theorem l02If_of (hR : RedS 54 n) (h : OkT (x, mkTF [a, b, d])) (ho : x.op = 17) (hm : ms (x, mkTF [a, b, d]) < n + 1) (hs : TSl ok W s (mkTF [a, b, d])) :
    Ret Tryz.prog 66 #[tv x s] W (TRes ok (outT (stIf (x, mkTF [a, b, d]) a b d)) W) := by
  have hg := if_good h ho
  have ha : OkT a := h.2.1
  obtain ⟨p, o, c, sa, sb, sd, hs0, hca, hcb, hcd, hsa, hsb, hsd⟩ := kids3 hs
  obtain ⟨s0, rfl⟩ : ∃ s0, s0 = s := ⟨_, rfl⟩
  have x2 : Ext W (bzW (bxW W x s0)) := (bx_ext W x s0).trans (bz_ext _)
  have hb2 := (bx_at W x s0).ext (bz_ext (bxW W x s0))
  obtain ⟨f3, c3, x3⟩ := keep5 (W := (bzW (bxW W x s0))) (x := a.1) (s := sa) (tc_one hsa)
  obtain ⟨f4, c4, x4⟩ := keep5 (W := (setCells (bzW (bzW (bxW W x s0))) (bzW (bxW W x s0)).heap.size 0 (tc a.1 sa))) (x := b.1) (s := sb) (tc_one hsb)
  obtain ⟨f5, c5, x5⟩ := keep5 (W := (setCells (bzW (setCells (bzW (bzW (bxW W x s0))) (bzW (bxW W x s0)).heap.size 0 (tc a.1 sa))) (setCells (bzW (bzW (bxW W x s0))) (bzW (bxW W x s0)).heap.size 0 (tc a.1 sa)).heap.size 0 (tc b.1 sb))) (x := d.1) (s := sd) (tc_one hsd)
  have hca2 : CellsAt (bzW (bxW W x s0)) p o (tc a.1 sa) := hca.ext x2
  have hcb3 : CellsAt (setCells (bzW (bzW (bxW W x s0))) (bzW (bxW W x s0)).heap.size 0 (tc a.1 sa)) p (o + 5) (tc b.1 sb) := hcb.ext (x2.trans x3)
  have hcd4 : CellsAt (setCells (bzW (setCells (bzW (bzW (bxW W x s0))) (bzW (bxW W x s0)).heap.size 0 (tc a.1 sa))) (setCells (bzW (bzW (bxW W x s0))) (bzW (bxW W x s0)).heap.size 0 (tc a.1 sa)).heap.size 0 (tc b.1 sb)) p (o + 10) (tc d.1 sd) := hcd.ext ((x2.trans x3).trans x4)
  have hb3 := hb2.ext x3
  have hb4 := hb3.ext x4
  have P : Pre3 W x s0 (mkTF [a, b, d]) a b d sa sb sd ok (bxW W x s0).heap.size (bzW (bxW W x s0)).heap.size (setCells (bzW (bzW (bxW W x s0))) (bzW (bxW W x s0)).heap.size 0 (tc a.1 sa)).heap.size (setCells (bzW (setCells (bzW (bzW (bxW W x s0))) (bzW (bxW W x s0)).heap.size 0 (tc a.1 sa))) (setCells (bzW (bzW (bxW W x s0))) (bzW (bxW W x s0)).heap.size 0 (tc a.1 sa)).heap.size 0 (tc b.1 sb)).heap.size (setCells (bzW (setCells (bzW (setCells (bzW (bzW (bxW W x s0))) (bzW (bxW W x s0)).heap.size 0 (tc a.1 sa))) (setCells (bzW (bzW (bxW W x s0))) (bzW (bxW W x s0)).heap.size 0 (tc a.1 sa)).heap.size 0 (tc b.1 sb))) (setCells (bzW (setCells (bzW (bzW (bxW W x s0))) (bzW (bxW W x s0)).heap.size 0 (tc a.1 sa))) (setCells (bzW (bzW (bxW W x s0))) (bzW (bxW W x s0)).heap.size 0 (tc a.1 sa)).heap.size 0 (tc b.1 sb)).heap.size 0 (tc d.1 sd)) := ⟨pre2 hs hsa hsb ((x3.trans x4).trans x5) (c3.ext (x4.trans x5)) (c4.ext x5), c5, arg_in hsd (((x2.trans x3).trans x4).trans x5) (bx_ext W x s0).size⟩
  have l2 := hb2.2.2.2.2.1.trans (congrArg some hs0)
  have l3 := hb3.2.2.2.2.1.trans (congrArg some hs0)
  have l4 := hb4.2.2.2.2.1.trans (congrArg some hs0)
  have hB0 : W.heap.size ≤ (bxW W x s0).heap.size := P.p2.hB
  by_cases h1 : isC a 1 = true
  · rw [show stIf (x, mkTF [a, b, d]) a b d = .inl b from by unfold stIf; rw [if_pos h1]]
    have h1' : isC (a.1, a.2) 1 = true := h1
    have i1 := fun w => l02Is_ret a.1 a.2 sa 1 w
    simp only [h1'] at i1
    refine ret_of_vc ties mixed Tryz.func66 rfl (by kernel_rfl) rfl rfl ?_
    refine ⟨_, l2, ⟨by decide, by decide⟩, tc a.1 sa, rfl, hca2, f3, ?_⟩
    refine ⟨_, l3, ⟨by decide, by decide⟩, tc b.1 sb, rfl, hcb3, f4, ?_⟩
    refine ⟨_, l4, ⟨by decide, by decide⟩, tc d.1 sd, rfl, hcd4, f5, ?_⟩
    refine ⟨tc a.1 sa, rfl, P.p2.ca, ?_⟩
    refine Or.inl ((i1 _).mono ?_)
    rintro _ w6 ⟨rfl, x6⟩
    replace P := P.step x6
    refine ⟨tc b.1 sb, rfl, P.p2.cb, ?_⟩
    exact fin5 P.p2.r P.p2.hB P.p2.ext P.p2.sb
  have i1 := fun w => l02Is_ret a.1 a.2 sa 1 w
  simp only [is_false h1] at i1
  by_cases h2 : a.1.op = 0
  · rw [show stIf (x, mkTF [a, b, d]) a b d = .inl d from by unfold stIf; rw [if_neg h1, if_pos h2]]
    have hw1 : a.1.w = 1 := (fit_if h.1 ho).1
    have h2' : isC (a.1, a.2) 0 = true := by
      have := con_word ha h2
      rw [hw1] at this
      rcases bit1 this with e | e
      · exact isC_iff.2 ⟨h2, e⟩
      · exact absurd (isC_iff.2 ⟨h2, e⟩) h1
    have i0 := fun w => l02Is_ret a.1 a.2 sa 0 w
    simp only [h2'] at i0
    refine ret_of_vc ties mixed Tryz.func66 rfl (by kernel_rfl) rfl rfl ?_
    refine ⟨_, l2, ⟨by decide, by decide⟩, tc a.1 sa, rfl, hca2, f3, ?_⟩
    refine ⟨_, l3, ⟨by decide, by decide⟩, tc b.1 sb, rfl, hcb3, f4, ?_⟩
    refine ⟨_, l4, ⟨by decide, by decide⟩, tc d.1 sd, rfl, hcd4, f5, ?_⟩
    refine ⟨tc a.1 sa, rfl, P.p2.ca, ?_⟩
    refine Or.inl ((i1 _).mono ?_)
    rintro _ w7 ⟨rfl, x7⟩
    replace P := P.step x7
    refine ⟨tc a.1 sa, rfl, P.p2.ca, ?_⟩
    refine Or.inl ((i0 _).mono ?_)
    rintro _ w8 ⟨rfl, x8⟩
    replace P := P.step x8
    refine ⟨tc d.1 sd, rfl, P.cd, ?_⟩
    exact fin5 P.p2.r P.p2.hB P.p2.ext P.sd
  have i0 := fun w => l02Is_ret a.1 a.2 sa 0 w
  simp only [is_false (t := a) (n := 0) (fun e => h2 (isC_iff.1 e).1)] at i0
  by_cases h3 : cmpT b d = 0
  · rw [show stIf (x, mkTF [a, b, d]) a b d = .inl b from by unfold stIf; rw [if_neg h1, if_neg h2, if_pos h3]]
    have h3' : decide (cmpT b d = 0) = true := decide_eq_true h3
    have hS := fun w (hs : TSl anyB w sb b.2) (ht : TSl anyB w sd d.2) => l02Same_ret b d sb sd w hs ht
    simp only [h3'] at hS
    refine ret_of_vc ties mixed Tryz.func66 rfl (by kernel_rfl) rfl rfl ?_
    refine ⟨_, l2, ⟨by decide, by decide⟩, tc a.1 sa, rfl, hca2, f3, ?_⟩
    refine ⟨_, l3, ⟨by decide, by decide⟩, tc b.1 sb, rfl, hcb3, f4, ?_⟩
    refine ⟨_, l4, ⟨by decide, by decide⟩, tc d.1 sd, rfl, hcd4, f5, ?_⟩
    refine ⟨tc a.1 sa, rfl, P.p2.ca, ?_⟩
    refine Or.inl ((i1 _).mono ?_)
    rintro _ w9 ⟨rfl, x9⟩
    replace P := P.step x9
    refine ⟨tc a.1 sa, rfl, P.p2.ca, ?_⟩
    refine Or.inl ((i0 _).mono ?_)
    rintro _ w10 ⟨rfl, x10⟩
    replace P := P.step x10
    refine ⟨tc b.1 sb, rfl, P.p2.cb, tc d.1 sd, rfl, P.cd, ?_⟩
    refine Or.inl ((hS _ (P.p2.sb.mono fun _ _ => trivial) (P.sd.mono fun _ _ => trivial)).mono ?_)
    rintro _ w11 ⟨rfl, x11⟩
    replace P := P.step x11
    refine ⟨tc b.1 sb, rfl, P.p2.cb, ?_⟩
    exact fin5 P.p2.r P.p2.hB P.p2.ext P.p2.sb
  have h3' : decide (cmpT b d = 0) = false := decide_eq_false h3
  have hS := fun w (hs : TSl anyB w sb b.2) (ht : TSl anyB w sd d.2) => l02Same_ret b d sb sd w hs ht
  simp only [h3'] at hS
  by_cases h4 : a.1.op = 1
  · obtain ⟨g, hag, hgo⟩ := ok_1 (x := a.1) (k := a.2) ha (by omega)
    have e : stIf (x, mkTF [a, b, d]) a b d = .inr (mkn 17 x.w 0, mkTF [g, d, b]) := by unfold stIf; rw [if_neg h1, if_neg h2, if_neg h3, if_pos h4, hag, kid0]
    rw [e] at hg ⊢
    have hg' : Keeps (x, mkTF [a, b, d]) (mkn 17 x.w 0, mkTF [g, d, b]) ∧ ms (mkn 17 x.w 0, mkTF [g, d, b]) < ms (x, mkTF [a, b, d]) ∧ _ := hg
    have hsaI := hsa
    rw [hag] at hsaI
    obtain ⟨p2, o2, c2, sg, e2, hcg, hsg⟩ := kids1 hsaI
    have hgi := fun w (xw : Ext W w) => arg_in (B := (bxW W x s0).heap.size) hsg xw hB0
    have hcg' := fun w (xw : Ext W w) => hcg.ext xw
    refine ret_of_vc ties mixed Tryz.func66 rfl (by kernel_rfl) rfl rfl ?_
    refine ⟨_, l2, ⟨by decide, by decide⟩, tc a.1 sa, rfl, hca2, f3, ?_⟩
    refine ⟨_, l3, ⟨by decide, by decide⟩, tc b.1 sb, rfl, hcb3, f4, ?_⟩
    refine ⟨_, l4, ⟨by decide, by decide⟩, tc d.1 sd, rfl, hcd4, f5, ?_⟩
    refine ⟨tc a.1 sa, rfl, P.p2.ca, ?_⟩
    refine Or.inl ((i1 _).mono ?_)
    rintro _ w12 ⟨rfl, x12⟩
    replace P := P.step x12
    refine ⟨tc a.1 sa, rfl, P.p2.ca, ?_⟩
    refine Or.inl ((i0 _).mono ?_)
    rintro _ w13 ⟨rfl, x13⟩
    replace P := P.step x13
    refine ⟨tc b.1 sb, rfl, P.p2.cb, tc d.1 sd, rfl, P.cd, ?_⟩
    refine Or.inl ((hS _ (P.p2.sb.mono fun _ _ => trivial) (P.sd.mono fun _ _ => trivial)).mono ?_)
    rintro _ w14 ⟨rfl, x14⟩
    replace P := P.step x14
    refine ⟨_, P.p2.ca.1, ?_⟩
    refine br_dec_true h4 ?_
    refine .inr (.inr (hyb_rule ties mixed [(0, .quiet), (1, .quiet), (2, .quiet), (3, .quiet), (4, .quiet), (5, .quiet), (6, .quiet), (7, .quiet), (8, .loud), (9, .loud), (10, .loud), (11, .wild)] (by kernel_rfl) ?_))
    refine ⟨_, P.p2.hb.2.1, _, P.p2.ca.2.2.2.2.1.trans (congrArg some e2), ⟨by decide, by decide⟩, tc g.1 sg, rfl, hcg' _ P.p2.ext, tc d.1 sd, rfl, P.cd, tc b.1 sb, rfl, P.p2.cb, ?_⟩
    intro v1 y1
    have P1 := P.step y1
    obtain ⟨y2, hk2⟩ := mk3 (a := g) (b := d) (d := b) (hgi _ P1.p2.ext) P1.sd P1.p2.sb P1.p2.lt P1.p2.ext.size
    refine ⟨y2, ?_⟩
    intro v3 y3
    have P3 := (P1.step y2).step y3
    refine ⟨Ext.refl _, ?_⟩
    intro v4 y4
    have P4 := P3.step y4
    refine Or.inl ((fin_of' P4.p2.ext (hR (mkn 17 x.w 0, mkTF [g, d, b]) _ (okB (bxW W x s0).heap.size W ok) v4 (by omega) hg'.1.ok ((hk2.ext y3).ext y4)) P4.p2.lt).mono ?_)
    rintro _ v5 ⟨y5, s5, rfl, hs5⟩
    refine ⟨y5, ?_⟩
    intro v6 y6
    have P6 := (P4.step y5).step y6
    exact fin5' P6.p2.r P6.p2.hB P6.p2.ext (hs5.ext y6)
  by_cases h5 : x.w = 1
  rotate_left
  ·
    rw [show stIf (x, mkTF [a, b, d]) a b d = .inl (x, mkTF [a, b, d]) from by unfold stIf; rw [if_neg h1, if_neg h2, if_neg h3, if_neg h4, if_neg (fun e => h5 e.1), if_neg (fun e => h5 e.1)]]
    refine ret_of_vc ties mixed Tryz.func66 rfl (by kernel_rfl) rfl rfl ?_
    refine ⟨_, l2, ⟨by decide, by decide⟩, tc a.1 sa, rfl, hca2, f3, ?_⟩
    refine ⟨_, l3, ⟨by decide, by decide⟩, tc b.1 sb, rfl, hcb3, f4, ?_⟩
    refine ⟨_, l4, ⟨by decide, by decide⟩, tc d.1 sd, rfl, hcd4, f5, ?_⟩
    refine ⟨tc a.1 sa, rfl, P.p2.ca, ?_⟩
    refine Or.inl ((i1 _).mono ?_)
    rintro _ w15 ⟨rfl, x15⟩
    replace P := P.step x15
    refine ⟨tc a.1 sa, rfl, P.p2.ca, ?_⟩
    refine Or.inl ((i0 _).mono ?_)
    rintro _ w16 ⟨rfl, x16⟩
    replace P := P.step x16
    refine ⟨tc b.1 sb, rfl, P.p2.cb, tc d.1 sd, rfl, P.cd, ?_⟩
    refine Or.inl ((hS _ (P.p2.sb.mono fun _ _ => trivial) (P.sd.mono fun _ _ => trivial)).mono ?_)
    rintro _ w17 ⟨rfl, x17⟩
    replace P := P.step x17
    refine ⟨_, P.p2.ca.1, ?_⟩
    refine br_dec_false h4 ?_
    refine ⟨_, P.p2.hb.2.1, ?_⟩
    repeat refine br_dec_false h5 ?_
    refine ⟨_, P.p2.hb.2.1, ?_⟩
    repeat refine br_dec_false h5 ?_
    refine ⟨tc x s0, rfl, P.p2.hb, ?_⟩
    exact fin5 P.p2.r P.p2.hB P.p2.ext P.p2.s
  by_cases h6 : isC b 1 = true
  ·
    have h6' : isC (b.1, b.2) 1 = true := h6
    have b1 := fun w => l02Is_ret b.1 b.2 sb 1 w
    simp only [h6'] at b1
    by_cases h7 : isC d 0 = true
    ·
      rw [show stIf (x, mkTF [a, b, d]) a b d = .inl a from by unfold stIf; rw [if_neg h1, if_neg h2, if_neg h3, if_neg h4, if_pos ⟨h5, h6, h7⟩]]
      have h7' : isC (d.1, d.2) 0 = true := h7
      have d0 := fun w => l02Is_ret d.1 d.2 sd 0 w
      simp only [h7'] at d0
      refine ret_of_vc ties mixed Tryz.func66 rfl (by kernel_rfl) rfl rfl ?_
      refine ⟨_, l2, ⟨by decide, by decide⟩, tc a.1 sa, rfl, hca2, f3, ?_⟩
      refine ⟨_, l3, ⟨by decide, by decide⟩, tc b.1 sb, rfl, hcb3, f4, ?_⟩
      refine ⟨_, l4, ⟨by decide, by decide⟩, tc d.1 sd, rfl, hcd4, f5, ?_⟩
      refine ⟨tc a.1 sa, rfl, P.p2.ca, ?_⟩
      refine Or.inl ((i1 _).mono ?_)
      rintro _ w18 ⟨rfl, x18⟩
      replace P := P.step x18
      refine ⟨tc a.1 sa, rfl, P.p2.ca, ?_⟩
      refine Or.inl ((i0 _).mono ?_)
      rintro _ w19 ⟨rfl, x19⟩
      replace P := P.step x19
      refine ⟨tc b.1 sb, rfl, P.p2.cb, tc d.1 sd, rfl, P.cd, ?_⟩
      refine Or.inl ((hS _ (P.p2.sb.mono fun _ _ => trivial) (P.sd.mono fun _ _ => trivial)).mono ?_)
      rintro _ w20 ⟨rfl, x20⟩
      replace P := P.step x20
      refine ⟨_, P.p2.ca.1, ?_⟩
      refine br_dec_false h4 ?_
      refine ⟨_, P.p2.hb.2.1, ?_⟩
      repeat refine br_dec_true h5 ?_
      refine ⟨tc b.1 sb, rfl, P.p2.cb, ?_⟩
      refine Or.inl ((b1 _).mono ?_)
      rintro _ w21 ⟨rfl, x21⟩
      replace P := P.step x21
      refine ⟨tc d.1 sd, rfl, P.cd, ?_⟩
      refine Or.inl ((d0 _).mono ?_)
      rintro _ w22 ⟨rfl, x22⟩
      replace P := P.step x22
      refine ⟨tc a.1 sa, rfl, P.p2.ca, ?_⟩
      exact fin5 P.p2.r P.p2.hB P.p2.ext P.p2.sa
    ·
      have h8 : ¬ isC b 0 = true := fun e => by
        have := (isC_iff.1 e).2
        have := (isC_iff.1 h6).2
        omega
      rw [show stIf (x, mkTF [a, b, d]) a b d = .inl (x, mkTF [a, b, d]) from by unfold stIf; rw [if_neg h1, if_neg h2, if_neg h3, if_neg h4, if_neg (fun e => h7 e.2.2), if_neg (fun e => h8 e.2.1)]]
      have d0 := fun w => l02Is_ret d.1 d.2 sd 0 w
      simp only [is_false h7] at d0
      have b0 := fun w => l02Is_ret b.1 b.2 sb 0 w
      simp only [is_false h8] at b0
      refine ret_of_vc ties mixed Tryz.func66 rfl (by kernel_rfl) rfl rfl ?_
      refine ⟨_, l2, ⟨by decide, by decide⟩, tc a.1 sa, rfl, hca2, f3, ?_⟩
      refine ⟨_, l3, ⟨by decide, by decide⟩, tc b.1 sb, rfl, hcb3, f4, ?_⟩
      refine ⟨_, l4, ⟨by decide, by decide⟩, tc d.1 sd, rfl, hcd4, f5, ?_⟩
      refine ⟨tc a.1 sa, rfl, P.p2.ca, ?_⟩
      refine Or.inl ((i1 _).mono ?_)
      rintro _ w23 ⟨rfl, x23⟩
      replace P := P.step x23
      refine ⟨tc a.1 sa, rfl, P.p2.ca, ?_⟩
      refine Or.inl ((i0 _).mono ?_)
      rintro _ w24 ⟨rfl, x24⟩
      replace P := P.step x24
      refine ⟨tc b.1 sb, rfl, P.p2.cb, tc d.1 sd, rfl, P.cd, ?_⟩
      refine Or.inl ((hS _ (P.p2.sb.mono fun _ _ => trivial) (P.sd.mono fun _ _ => trivial)).mono ?_)
      rintro _ w25 ⟨rfl, x25⟩
      replace P := P.step x25
      refine ⟨_, P.p2.ca.1, ?_⟩
      refine br_dec_false h4 ?_
      refine ⟨_, P.p2.hb.2.1, ?_⟩
      repeat refine br_dec_true h5 ?_
      refine ⟨tc b.1 sb, rfl, P.p2.cb, ?_⟩
      refine Or.inl ((b1 _).mono ?_)
      rintro _ w26 ⟨rfl, x26⟩
      replace P := P.step x26
      refine ⟨tc d.1 sd, rfl, P.cd, ?_⟩
      refine Or.inl ((d0 _).mono ?_)
      rintro _ w27 ⟨rfl, x27⟩
      replace P := P.step x27
      refine ⟨_, P.p2.hb.2.1, ?_⟩
      repeat refine br_dec_true h5 ?_
      refine ⟨tc b.1 sb, rfl, P.p2.cb, ?_⟩
      refine Or.inl ((b0 _).mono ?_)
      rintro _ w28 ⟨rfl, x28⟩
      replace P := P.step x28
      refine ⟨tc x s0, rfl, P.p2.hb, ?_⟩
      exact fin5 P.p2.r P.p2.hB P.p2.ext P.p2.s
  have b1 := fun w => l02Is_ret b.1 b.2 sb 1 w
  simp only [is_false h6] at b1
  by_cases h8 : isC b 0 = true
  ·
    have h8' : isC (b.1, b.2) 0 = true := h8
    have b0 := fun w => l02Is_ret b.1 b.2 sb 0 w
    simp only [h8'] at b0
    by_cases h9 : isC d 1 = true
    ·
      have e : stIf (x, mkTF [a, b, d]) a b d = .inr (mkn 1 1 0, mkTF [a]) := by unfold stIf; rw [if_neg h1, if_neg h2, if_neg h3, if_neg h4, if_neg (fun e => h6 e.2.1), if_pos ⟨h5, h8, h9⟩]
      rw [e] at hg ⊢
      have hg' : Keeps (x, mkTF [a, b, d]) (mkn 1 1 0, mkTF [a]) ∧ ms (mkn 1 1 0, mkTF [a]) < ms (x, mkTF [a, b, d]) ∧ _ := hg
      have h9' : isC (d.1, d.2) 1 = true := h9
      have d1 := fun w => l02Is_ret d.1 d.2 sd 1 w
      simp only [h9'] at d1
      refine ret_of_vc ties mixed Tryz.func66 rfl (by kernel_rfl) rfl rfl ?_
      refine ⟨_, l2, ⟨by decide, by decide⟩, tc a.1 sa, rfl, hca2, f3, ?_⟩
      refine ⟨_, l3, ⟨by decide, by decide⟩, tc b.1 sb, rfl, hcb3, f4, ?_⟩
      refine ⟨_, l4, ⟨by decide, by decide⟩, tc d.1 sd, rfl, hcd4, f5, ?_⟩
      refine ⟨tc a.1 sa, rfl, P.p2.ca, ?_⟩
      refine Or.inl ((i1 _).mono ?_)
      rintro _ w29 ⟨rfl, x29⟩
      replace P := P.step x29
      refine ⟨tc a.1 sa, rfl, P.p2.ca, ?_⟩
      refine Or.inl ((i0 _).mono ?_)
      rintro _ w30 ⟨rfl, x30⟩
      replace P := P.step x30
      refine ⟨tc b.1 sb, rfl, P.p2.cb, tc d.1 sd, rfl, P.cd, ?_⟩
      refine Or.inl ((hS _ (P.p2.sb.mono fun _ _ => trivial) (P.sd.mono fun _ _ => trivial)).mono ?_)
      rintro _ w31 ⟨rfl, x31⟩
      replace P := P.step x31
      refine ⟨_, P.p2.ca.1, ?_⟩
      refine br_dec_false h4 ?_
      refine ⟨_, P.p2.hb.2.1, ?_⟩
      repeat refine br_dec_true h5 ?_
      refine ⟨tc b.1 sb, rfl, P.p2.cb, ?_⟩
      refine Or.inl ((b1 _).mono ?_)
      rintro _ w32 ⟨rfl, x32⟩
      replace P := P.step x32
      refine ⟨_, P.p2.hb.2.1, ?_⟩
      repeat refine br_dec_true h5 ?_
      refine ⟨tc b.1 sb, rfl, P.p2.cb, ?_⟩
      refine Or.inl ((b0 _).mono ?_)
      rintro _ w33 ⟨rfl, x33⟩
      replace P := P.step x33
      refine ⟨tc d.1 sd, rfl, P.cd, ?_⟩
      refine Or.inl ((d1 _).mono ?_)
      rintro _ w34 ⟨rfl, x34⟩
      replace P := P.step x34
      refine ⟨tc a.1 sa, rfl, P.p2.ca, ?_⟩
      obtain ⟨y1, hk1⟩ := mk1 (a := a) P.p2.sa P.p2.lt P.p2.ext.size
      have P1 := P.step y1
      refine Or.inl ((fin_of P1.p2.r P1.p2.hB P1.p2.lt P1.p2.ext (hR (mkn 1 1 0, mkTF [a]) _ (okB (bxW W x s0).heap.size W ok) _ (by omega) hg'.1.ok hk1)).mono ?_)
      rintro _ v5 ⟨s5, rfl, hf⟩
      exact hf
    ·
      rw [show stIf (x, mkTF [a, b, d]) a b d = .inl (x, mkTF [a, b, d]) from by unfold stIf; rw [if_neg h1, if_neg h2, if_neg h3, if_neg h4, if_neg (fun e => h6 e.2.1), if_neg (fun e => h9 e.2.2)]]
      have d1 := fun w => l02Is_ret d.1 d.2 sd 1 w
      simp only [is_false h9] at d1
      refine ret_of_vc ties mixed Tryz.func66 rfl (by kernel_rfl) rfl rfl ?_
      refine ⟨_, l2, ⟨by decide, by decide⟩, tc a.1 sa, rfl, hca2, f3, ?_⟩
      refine ⟨_, l3, ⟨by decide, by decide⟩, tc b.1 sb, rfl, hcb3, f4, ?_⟩
      refine ⟨_, l4, ⟨by decide, by decide⟩, tc d.1 sd, rfl, hcd4, f5, ?_⟩
      refine ⟨tc a.1 sa, rfl, P.p2.ca, ?_⟩
      refine Or.inl ((i1 _).mono ?_)
      rintro _ w35 ⟨rfl, x35⟩
      replace P := P.step x35
      refine ⟨tc a.1 sa, rfl, P.p2.ca, ?_⟩
      refine Or.inl ((i0 _).mono ?_)
      rintro _ w36 ⟨rfl, x36⟩
      replace P := P.step x36
      refine ⟨tc b.1 sb, rfl, P.p2.cb, tc d.1 sd, rfl, P.cd, ?_⟩
      refine Or.inl ((hS _ (P.p2.sb.mono fun _ _ => trivial) (P.sd.mono fun _ _ => trivial)).mono ?_)
      rintro _ w37 ⟨rfl, x37⟩
      replace P := P.step x37
      refine ⟨_, P.p2.ca.1, ?_⟩
      refine br_dec_false h4 ?_
      refine ⟨_, P.p2.hb.2.1, ?_⟩
      repeat refine br_dec_true h5 ?_
      refine ⟨tc b.1 sb, rfl, P.p2.cb, ?_⟩
      refine Or.inl ((b1 _).mono ?_)
      rintro _ w38 ⟨rfl, x38⟩
      replace P := P.step x38
      refine ⟨_, P.p2.hb.2.1, ?_⟩
      repeat refine br_dec_true h5 ?_
      refine ⟨tc b.1 sb, rfl, P.p2.cb, ?_⟩
      refine Or.inl ((b0 _).mono ?_)
      rintro _ w39 ⟨rfl, x39⟩
      replace P := P.step x39
      refine ⟨tc d.1 sd, rfl, P.cd, ?_⟩
      refine Or.inl ((d1 _).mono ?_)
      rintro _ w40 ⟨rfl, x40⟩
      replace P := P.step x40
      refine ⟨tc x s0, rfl, P.p2.hb, ?_⟩
      exact fin5 P.p2.r P.p2.hB P.p2.ext P.p2.s
  ·
    rw [show stIf (x, mkTF [a, b, d]) a b d = .inl (x, mkTF [a, b, d]) from by unfold stIf; rw [if_neg h1, if_neg h2, if_neg h3, if_neg h4, if_neg (fun e => h6 e.2.1), if_neg (fun e => h8 e.2.1)]]
    have b0 := fun w => l02Is_ret b.1 b.2 sb 0 w
    simp only [is_false h8] at b0
    refine ret_of_vc ties mixed Tryz.func66 rfl (by kernel_rfl) rfl rfl ?_
    refine ⟨_, l2, ⟨by decide, by decide⟩, tc a.1 sa, rfl, hca2, f3, ?_⟩
    refine ⟨_, l3, ⟨by decide, by decide⟩, tc b.1 sb, rfl, hcb3, f4, ?_⟩
    refine ⟨_, l4, ⟨by decide, by decide⟩, tc d.1 sd, rfl, hcd4, f5, ?_⟩
    refine ⟨tc a.1 sa, rfl, P.p2.ca, ?_⟩
    refine Or.inl ((i1 _).mono ?_)
    rintro _ w41 ⟨rfl, x41⟩
    replace P := P.step x41
    refine ⟨tc a.1 sa, rfl, P.p2.ca, ?_⟩
    refine Or.inl ((i0 _).mono ?_)
    rintro _ w42 ⟨rfl, x42⟩
    replace P := P.step x42
    refine ⟨tc b.1 sb, rfl, P.p2.cb, tc d.1 sd, rfl, P.cd, ?_⟩
    refine Or.inl ((hS _ (P.p2.sb.mono fun _ _ => trivial) (P.sd.mono fun _ _ => trivial)).mono ?_)
    rintro _ w43 ⟨rfl, x43⟩
    replace P := P.step x43
    refine ⟨_, P.p2.ca.1, ?_⟩
    refine br_dec_false h4 ?_
    refine ⟨_, P.p2.hb.2.1, ?_⟩
    repeat refine br_dec_true h5 ?_
    refine ⟨tc b.1 sb, rfl, P.p2.cb, ?_⟩
    refine Or.inl ((b1 _).mono ?_)
    rintro _ w44 ⟨rfl, x44⟩
    replace P := P.step x44
    refine ⟨_, P.p2.hb.2.1, ?_⟩
    repeat refine br_dec_true h5 ?_
    refine ⟨tc b.1 sb, rfl, P.p2.cb, ?_⟩
    refine Or.inl ((b0 _).mono ?_)
    rintro _ w45 ⟨rfl, x45⟩
    replace P := P.step x45
    refine ⟨tc x s0, rfl, P.p2.hb, ?_⟩
    exact fin5 P.p2.r P.p2.hB P.p2.ext P.p2.s
end
end Go.Proofs.YtkoaicjcanplaaaGreat
namespace Go.Proofs.YtkoaicjcanplaaaGreat
open Go Go.Vc Go.RowKit
set_option linter.unusedVariables false
section
variable {n : Nat} {x : Lab} {a b d : Tm} {s : Value} {ok : Nat → Prop} {W : World}
set_option maxHeartbeats 16000000 in
theorem l02Cut_of (hR : RedS 54 n) (h : OkT (x, mkTF [a])) (ho : x.op = 19) (hm : ms (x, mkTF [a]) < n + 1) (hs : TSl ok W s (mkTF [a])) :
    Ret Tryz.prog 67 #[tv x s] W (TRes ok (outT (stCut (x, mkTF [a]) a)) W) := by
  have hg := cut_good h ho
  have ha : OkT a := h.2.1
  have hf : 0 ≤ x.n ∧ x.n ≤ a.1.w - x.w := fit_cut h.1 ho
  have hxw := h.1.width
  have haw := ha.1.width
  have hxw : 1 ≤ x.w ∧ x.w ≤ 16 := hxw
  obtain ⟨p, o, c, sa, hs0, hca, hsa⟩ := kids1 hs
  obtain ⟨s0, rfl⟩ : ∃ s0, s0 = s := ⟨_, rfl⟩
  obtain ⟨f4, hb2, x2, P⟩ := pre1 W x hs hsa
  have hca2 := hca.ext x2
  have l2 := hb2.2.2.2.2.1.trans (congrArg some hs0)
  by_cases c1 : x.w = a.1.w
  ·
    rw [show stCut (x, mkTF [a]) a = .inl a from by unfold stCut; rw [if_pos ⟨by show x.n = 0; omega, c1⟩]]
    refine ret_of_vc ties mixed Tryz.func67 rfl (by kernel_rfl) rfl rfl ?_
    refine ⟨_, l2, ⟨by decide, by decide⟩, tc a.1 sa, rfl, hca2, f4, ?_⟩
    refine ⟨_, P.hb.2.1, _, P.ca.2.1, ?_⟩
    refine br_dec_true c1 ?_
    refine ⟨tc a.1 sa, rfl, P.ca, ?_⟩
    exact fin5 P.r P.hB P.ext P.sa
  have c1' : ¬ (x.n = 0 ∧ x.w = a.1.w) := fun e => c1 e.2
  by_cases c2 : a.1.op = 19
  ·
    obtain ⟨g, hag, hgo⟩ := ok_1 (x := a.1) (k := a.2) ha (by omega)
    have hsaI := hsa
    rw [hag] at hsaI
    obtain ⟨p2, o2, cp, sg, e2, hcg, hsg⟩ := kids1 hsaI
    have hx : ∀ w, Ext W w → ∀ {t : Tm} {st : Value} {q : Nat}, CellsAt W p2 q (tc t.1 st) → CellsAt w p2 q (tc t.1 st) := fun w xw _ _ _ hc => hc.ext xw
    have e : stCut (x, mkTF [a]) a = .inr (mkn 19 x.w (x.n + a.1.n), mkTF [g]) := by unfold stCut; rw [if_neg c1', if_pos c2, hag, kid0]
    have hgn := fit_cut ha.1 c2
    have hgw := hgo.1.width
    have hgn : 0 ≤ a.1.n ∧ a.1.n ≤ g.1.w - a.1.w := by rw [hag] at hgn; exact hgn
    rw [e] at hg ⊢
    have hg' : Keeps (x, mkTF [a]) (mkn 19 x.w (x.n + a.1.n), mkTF [g]) ∧ ms (mkn 19 x.w (x.n + a.1.n), mkTF [g]) < ms (x, mkTF [a]) ∧ _ := hg
    refine ret_of_vc ties mixed Tryz.func67 rfl (by kernel_rfl) rfl rfl ?_
    refine ⟨_, l2, ⟨by decide, by decide⟩, tc a.1 sa, rfl, hca2, f4, ?_⟩
    refine ⟨_, P.hb.2.1, _, P.ca.2.1, ?_⟩
    refine br_dec_false c1 ?_
    refine ⟨_, P.ca.1, ?_⟩
    refine br_dec_true c2 ?_
    refine .inr (.inr (hyb_rule ties mixed [(0, .quiet), (1, .quiet), (2, .quiet), (3, .quiet), (4, .quiet), (5, .quiet), (6, .quiet), (7, .quiet), (8, .quiet), (9, .quiet), (10, .quiet), (11, .loud), (12, .wild)] (by kernel_rfl) ?_))
    refine ⟨_, P.hb.2.1, _, P.ca.2.2.2.2.1.trans (congrArg some e2), ⟨by decide, by decide⟩, tc g.1 sg, rfl, hx _ P.ext hcg, _, P.hb.2.2.1, _, P.ca.2.2.1, _, IntWalk.i64_in _ (by omega), ?_⟩
    intro v1 y1
    have P1 := P.step y1
    refine Or.inl ((fin_of' P1.ext (l02Bit_of hR x.w (x.n + a.1.n) (by omega) hg'.1.ok (arg_in hsg P1.ext P1.hB)) P1.lt).mono ?_)
    rintro _ v5 ⟨y5, s5, rfl, hs5⟩
    refine ⟨y5, ?_⟩
    intro v6 y6
    have P6 := (P1.step y5).step y6
    exact fin5' P6.r P6.hB P6.ext (hs5.ext y6)
  by_cases c18 : a.1.op = 18
  ·
    obtain ⟨g, r, hag, hgo, hro⟩ := ok_2 (x := a.1) (k := a.2) ha (by omega)
    have hsaI := hsa
    rw [hag] at hsaI
    obtain ⟨p2, o2, cp, sg, sr, e2, hcg, hcr, hsg, hsr⟩ := kids2 hsaI
    have hx : ∀ w, Ext W w → ∀ {t : Tm} {st : Value} {q : Nat}, CellsAt W p2 q (tc t.1 st) → CellsAt w p2 q (tc t.1 st) := fun w xw _ _ _ hc => hc.ext xw
    have hrw := hro.1.width
    have hrw : 1 ≤ r.1.w ∧ r.1.w ≤ 16 := hrw
    by_cases c3 : x.n + x.w ≤ r.1.w
    ·
      have e : stCut (x, mkTF [a]) a = .inr (mkn 19 x.w x.n, mkTF [r]) := by unfold stCut; rw [if_neg c1', if_neg c2, if_pos c18, hag, kid1, if_pos c3]
      rw [e] at hg ⊢
      have hg' : Keeps (x, mkTF [a]) (mkn 19 x.w (x.n), mkTF [r]) ∧ ms (mkn 19 x.w (x.n), mkTF [r]) < ms (x, mkTF [a]) ∧ _ := hg
      refine ret_of_vc ties mixed Tryz.func67 rfl (by kernel_rfl) rfl rfl ?_
      refine ⟨_, l2, ⟨by decide, by decide⟩, tc a.1 sa, rfl, hca2, f4, ?_⟩
      refine ⟨_, P.hb.2.1, _, P.ca.2.1, ?_⟩
      refine br_dec_false c1 ?_
      refine ⟨_, P.ca.1, ?_⟩
      refine br_dec_false c2 ?_
      refine .inl ⟨by kernel_rfl, ?_⟩
      refine ⟨_, P.ca.1, ?_⟩
      repeat refine br_dec_true c18 ?_
      refine ⟨_, P.hb.2.2.1, ?_⟩
      repeat refine br_dec_true c18 ?_
      refine ⟨_, P.hb.2.1, ?_⟩
      repeat refine br_dec_true c18 ?_
      refine ⟨_, IntWalk.i64_in _ (by omega), ?_⟩
      repeat refine br_dec_true c18 ?_
      refine ⟨_, P.ca.2.2.2.2.1.trans (congrArg some e2), ?_⟩
      repeat refine br_dec_true c18 ?_
      refine ⟨⟨by decide, by decide⟩, ?_⟩
      repeat refine br_dec_true c18 ?_
      refine ⟨_, (hx _ P.ext hcr).2.1, ?_⟩
      repeat refine br_dec_true c18 ?_
      intro w5 x5
      replace P := P.step x5
      refine br_dec_true c3 ?_
      refine .inr (.inr (hyb_rule ties mixed [(0, .quiet), (1, .quiet), (2, .quiet), (3, .quiet), (4, .quiet), (5, .quiet), (6, .quiet), (7, .quiet), (8, .loud), (9, .wild)] (by kernel_rfl) ?_))
      refine ⟨_, P.hb.2.1, _, P.ca.2.2.2.2.1.trans (congrArg some e2), ⟨by decide, by decide⟩, tc r.1 sr, rfl, hx _ P.ext hcr, _, P.hb.2.2.1, ?_⟩
      intro v1 y1
      have P1 := P.step y1
      refine Or.inl ((fin_of' P1.ext (l02Bit_of hR x.w (x.n) (by omega) hg'.1.ok (arg_in hsr P1.ext P1.hB)) P1.lt).mono ?_)
      rintro _ v5 ⟨y5, s5, rfl, hs5⟩
      refine ⟨y5, ?_⟩
      intro v6 y6
      have P6 := (P1.step y5).step y6
      exact fin5' P6.r P6.hB P6.ext (hs5.ext y6)
    by_cases c4 : r.1.w ≤ x.n
    ·
      have e : stCut (x, mkTF [a]) a = .inr (mkn 19 x.w (x.n - r.1.w), mkTF [g]) := by unfold stCut; rw [if_neg c1', if_neg c2, if_pos c18, hag, kid1, if_neg c3, if_pos c4, kid0]
      rw [e] at hg ⊢
      have hg' : Keeps (x, mkTF [a]) (mkn 19 x.w (x.n - r.1.w), mkTF [g]) ∧ ms (mkn 19 x.w (x.n - r.1.w), mkTF [g]) < ms (x, mkTF [a]) ∧ _ := hg
      refine ret_of_vc ties mixed Tryz.func67 rfl (by kernel_rfl) rfl rfl ?_
      refine ⟨_, l2, ⟨by decide, by decide⟩, tc a.1 sa, rfl, hca2, f4, ?_⟩
      refine ⟨_, P.hb.2.1, _, P.ca.2.1, ?_⟩
      refine br_dec_false c1 ?_
      refine ⟨_, P.ca.1, ?_⟩
      refine br_dec_false c2 ?_
      refine .inl ⟨by kernel_rfl, ?_⟩
      refine ⟨_, P.ca.1, ?_⟩
      repeat refine br_dec_true c18 ?_
      refine ⟨_, P.hb.2.2.1, ?_⟩
      repeat refine br_dec_true c18 ?_
      refine ⟨_, P.hb.2.1, ?_⟩
      repeat refine br_dec_true c18 ?_
      refine ⟨_, IntWalk.i64_in _ (by omega), ?_⟩
      repeat refine br_dec_true c18 ?_
      refine ⟨_, P.ca.2.2.2.2.1.trans (congrArg some e2), ?_⟩
      repeat refine br_dec_true c18 ?_
      refine ⟨⟨by decide, by decide⟩, ?_⟩
      repeat refine br_dec_true c18 ?_
      refine ⟨_, (hx _ P.ext hcr).2.1, ?_⟩
      repeat refine br_dec_true c18 ?_
      intro w6 x6
      replace P := P.step x6
      refine br_dec_false c3 ?_
      refine .inl ⟨by kernel_rfl, ?_⟩
      refine ⟨_, P.ca.1, ?_⟩
      repeat refine br_dec_true c18 ?_
      refine ⟨_, P.hb.2.2.1, ?_⟩
      repeat refine br_dec_true c18 ?_
      refine ⟨_, P.ca.2.2.2.2.1.trans (congrArg some e2), ?_⟩
      repeat refine br_dec_true c18 ?_
      refine ⟨⟨by decide, by decide⟩, ?_⟩
      repeat refine br_dec_true c18 ?_
      refine ⟨_, (hx _ P.ext hcr).2.1, ?_⟩
      repeat refine br_dec_true c18 ?_
      intro w7 x7
      replace P := P.step x7
      refine br_dec_true c4 ?_
      refine .inr (.inr (hyb_rule ties mixed [(0, .quiet), (1, .quiet), (2, .quiet), (3, .quiet), (4, .quiet), (5, .quiet), (6, .quiet), (7, .quiet), (8, .quiet), (9, .quiet), (10, .quiet), (11, .quiet), (12, .quiet), (13, .quiet), (14, .loud), (15, .wild)] (by kernel_rfl) ?_))
      refine ⟨_, P.hb.2.1, _, P.ca.2.2.2.2.1.trans (congrArg some e2), ⟨by decide, by decide⟩, tc g.1 sg, rfl, hx _ P.ext hcg, _, P.hb.2.2.1, _, P.ca.2.2.2.2.1.trans (congrArg some e2), ⟨by decide, by decide⟩, _, (hx _ P.ext hcr).2.1, _, IntWalk.i64_in _ (by omega), ?_⟩
      intro v1 y1
      have P1 := P.step y1
      refine Or.inl ((fin_of' P1.ext (l02Bit_of hR x.w (x.n - r.1.w) (by omega) hg'.1.ok (arg_in hsg P1.ext P1.hB)) P1.lt).mono ?_)
      rintro _ v5 ⟨y5, s5, rfl, hs5⟩
      refine ⟨y5, ?_⟩
      intro v6 y6
      have P6 := (P1.step y5).step y6
      exact fin5' P6.r P6.hB P6.ext (hs5.ext y6)
    ·
      have e : stCut (x, mkTF [a]) a = .inl (x, mkTF [a]) := by unfold stCut; rw [if_neg c1', if_neg c2, if_pos c18, hag, kid1, if_neg c3, if_neg c4]
      rw [e]
      have hI := fun w => l01In_ret a.1.op 20 21 w
      simp only [inR_no (show ¬ (20 ≤ a.1.op ∧ a.1.op ≤ 21) by omega)] at hI
      refine ret_of_vc ties mixed Tryz.func67 rfl (by kernel_rfl) rfl rfl ?_
      refine ⟨_, l2, ⟨by decide, by decide⟩, tc a.1 sa, rfl, hca2, f4, ?_⟩
      refine ⟨_, P.hb.2.1, _, P.ca.2.1, ?_⟩
      refine br_dec_false c1 ?_
      refine ⟨_, P.ca.1, ?_⟩
      refine br_dec_false c2 ?_
      refine .inl ⟨by kernel_rfl, ?_⟩
      refine ⟨_, P.ca.1, ?_⟩
      repeat refine br_dec_true c18 ?_
      refine ⟨_, P.hb.2.2.1, ?_⟩
      repeat refine br_dec_true c18 ?_
      refine ⟨_, P.hb.2.1, ?_⟩
      repeat refine br_dec_true c18 ?_
      refine ⟨_, IntWalk.i64_in _ (by omega), ?_⟩
      repeat refine br_dec_true c18 ?_
      refine ⟨_, P.ca.2.2.2.2.1.trans (congrArg some e2), ?_⟩
      repeat refine br_dec_true c18 ?_
      refine ⟨⟨by decide, by decide⟩, ?_⟩
      repeat refine br_dec_true c18 ?_
      refine ⟨_, (hx _ P.ext hcr).2.1, ?_⟩
      repeat refine br_dec_true c18 ?_
      intro w8 x8
      replace P := P.step x8
      refine br_dec_false c3 ?_
      refine .inl ⟨by kernel_rfl, ?_⟩
      refine ⟨_, P.ca.1, ?_⟩
      repeat refine br_dec_true c18 ?_
      refine ⟨_, P.hb.2.2.1, ?_⟩
      repeat refine br_dec_true c18 ?_
      refine ⟨_, P.ca.2.2.2.2.1.trans (congrArg some e2), ?_⟩
      repeat refine br_dec_true c18 ?_
      refine ⟨⟨by decide, by decide⟩, ?_⟩
      repeat refine br_dec_true c18 ?_
      refine ⟨_, (hx _ P.ext hcr).2.1, ?_⟩
      repeat refine br_dec_true c18 ?_
      intro w9 x9
      replace P := P.step x9
      refine br_dec_false c4 ?_
      refine .inl ⟨by kernel_rfl, ?_⟩
      refine ⟨_, P.ca.1, _, fun w' xw => q_of (hI w'), ?_⟩
      intro w10 x10
      replace P := P.step x10
      refine ⟨tc x s0, rfl, P.hb, ?_⟩
      exact fin5 P.r P.hB P.ext P.s
  by_cases c20 : a.1.op = 20 ∨ a.1.op = 21
  ·
    obtain ⟨g, hag, hgo⟩ := ok_1 (x := a.1) (k := a.2) ha (by omega)
    have hsaI := hsa
    rw [hag] at hsaI
    obtain ⟨p2, o2, cp, sg, e2, hcg, hsg⟩ := kids1 hsaI
    have hx : ∀ w, Ext W w → ∀ {t : Tm} {st : Value} {q : Nat}, CellsAt W p2 q (tc t.1 st) → CellsAt w p2 q (tc t.1 st) := fun w xw _ _ _ hc => hc.ext xw
    have hI := fun w => l01In_ret a.1.op 20 21 w
    simp only [inR_yes (show 20 ≤ a.1.op ∧ a.1.op ≤ 21 by omega)] at hI
    have hgw := hgo.1.width
    have hgw : 1 ≤ g.1.w ∧ g.1.w ≤ 16 := hgw
    by_cases c3 : x.n + x.w ≤ g.1.w
    ·
      have e : stCut (x, mkTF [a]) a = .inr (mkn 19 x.w x.n, mkTF [g]) := by unfold stCut; rw [if_neg c1', if_neg c2, if_neg c18, if_pos c20, hag, kid0, if_pos c3]
      rw [e] at hg ⊢
      have hg' : Keeps (x, mkTF [a]) (mkn 19 x.w (x.n), mkTF [g]) ∧ ms (mkn 19 x.w (x.n), mkTF [g]) < ms (x, mkTF [a]) ∧ _ := hg
      refine ret_of_vc ties mixed Tryz.func67 rfl (by kernel_rfl) rfl rfl ?_
      refine ⟨_, l2, ⟨by decide, by decide⟩, tc a.1 sa, rfl, hca2, f4, ?_⟩
      refine ⟨_, P.hb.2.1, _, P.ca.2.1, ?_⟩
      refine br_dec_false c1 ?_
      refine ⟨_, P.ca.1, ?_⟩
      refine br_dec_false c2 ?_
      refine .inl ⟨by kernel_rfl, ?_⟩
      refine ⟨_, P.ca.1, ?_⟩
      repeat refine br_dec_false c18 ?_
      intro w12 x12
      replace P := P.step x12
      refine .inl ⟨by kernel_rfl, ?_⟩
      refine ⟨_, P.ca.1, ?_⟩
      repeat refine br_dec_false c18 ?_
      intro w13 x13
      replace P := P.step x13
      refine .inl ⟨by kernel_rfl, ?_⟩
      refine ⟨_, P.ca.1, _, fun w' xw => q_of (hI w'), ?_⟩
      refine ⟨_, P.hb.2.2.1, _, P.hb.2.1, _, IntWalk.i64_in _ (by omega), _, P.ca.2.2.2.2.1.trans (congrArg some e2), ⟨by decide, by decide⟩, _, (hx _ P.ext hcg).2.1, ?_⟩
      intro w14 x14
      replace P := P.step x14
      refine br_dec_true c3 ?_
      refine .inr (.inr (hyb_rule ties mixed [(0, .quiet), (1, .quiet), (2, .quiet), (3, .quiet), (4, .quiet), (5, .quiet), (6, .quiet), (7, .quiet), (8, .loud), (9, .wild)] (by kernel_rfl) ?_))
      refine ⟨_, P.hb.2.1, _, P.ca.2.2.2.2.1.trans (congrArg some e2), ⟨by decide, by decide⟩, tc g.1 sg, rfl, hx _ P.ext hcg, _, P.hb.2.2.1, ?_⟩
      intro v1 y1
      have P1 := P.step y1
      refine Or.inl ((fin_of' P1.ext (l02Bit_of hR x.w (x.n) (by omega) hg'.1.ok (arg_in hsg P1.ext P1.hB)) P1.lt).mono ?_)
      rintro _ v5 ⟨y5, s5, rfl, hs5⟩
      refine ⟨y5, ?_⟩
      intro v6 y6
      have P6 := (P1.step y5).step y6
      exact fin5' P6.r P6.hB P6.ext (hs5.ext y6)
    ·
      have e : stCut (x, mkTF [a]) a = .inl (x, mkTF [a]) := by unfold stCut; rw [if_neg c1', if_neg c2, if_neg c18, if_pos c20, hag, kid0, if_neg c3]
      rw [e]
      refine ret_of_vc ties mixed Tryz.func67 rfl (by kernel_rfl) rfl rfl ?_
      refine ⟨_, l2, ⟨by decide, by decide⟩, tc a.1 sa, rfl, hca2, f4, ?_⟩
      refine ⟨_, P.hb.2.1, _, P.ca.2.1, ?_⟩
      refine br_dec_false c1 ?_
      refine ⟨_, P.ca.1, ?_⟩
      refine br_dec_false c2 ?_
      refine .inl ⟨by kernel_rfl, ?_⟩
      refine ⟨_, P.ca.1, ?_⟩
      repeat refine br_dec_false c18 ?_
      intro w15 x15
      replace P := P.step x15
      refine .inl ⟨by kernel_rfl, ?_⟩
      refine ⟨_, P.ca.1, ?_⟩
      repeat refine br_dec_false c18 ?_
      intro w16 x16
      replace P := P.step x16
      refine .inl ⟨by kernel_rfl, ?_⟩
      refine ⟨_, P.ca.1, _, fun w' xw => q_of (hI w'), ?_⟩
      refine ⟨_, P.hb.2.2.1, _, P.hb.2.1, _, IntWalk.i64_in _ (by omega), _, P.ca.2.2.2.2.1.trans (congrArg some e2), ⟨by decide, by decide⟩, _, (hx _ P.ext hcg).2.1, ?_⟩
      intro w17 x17
      replace P := P.step x17
      refine br_dec_false c3 ?_
      refine ⟨tc x s0, rfl, P.hb, ?_⟩
      exact fin5 P.r P.hB P.ext P.s
  ·
    have e : stCut (x, mkTF [a]) a = .inl (x, mkTF [a]) := by unfold stCut; rw [if_neg c1', if_neg c2, if_neg c18, if_neg c20]
    rw [e]
    have hI := fun w => l01In_ret a.1.op 20 21 w
    simp only [inR_no (show ¬ (20 ≤ a.1.op ∧ a.1.op ≤ 21) by omega)] at hI
    refine ret_of_vc ties mixed Tryz.func67 rfl (by kernel_rfl) rfl rfl ?_
    refine ⟨_, l2, ⟨by decide, by decide⟩, tc a.1 sa, rfl, hca2, f4, ?_⟩
    refine ⟨_, P.hb.2.1, _, P.ca.2.1, ?_⟩
    refine br_dec_false c1 ?_
    refine ⟨_, P.ca.1, ?_⟩
    refine br_dec_false c2 ?_
    refine .inl ⟨by kernel_rfl, ?_⟩
    refine ⟨_, P.ca.1, ?_⟩
    repeat refine br_dec_false c18 ?_
    intro w18 x18
    replace P := P.step x18
    refine .inl ⟨by kernel_rfl, ?_⟩
    refine ⟨_, P.ca.1, ?_⟩
    repeat refine br_dec_false c18 ?_
    intro w19 x19
    replace P := P.step x19
    refine .inl ⟨by kernel_rfl, ?_⟩
    refine ⟨_, P.ca.1, _, fun w' xw => q_of (hI w'), ?_⟩
    intro w20 x20
    replace P := P.step x20
    refine ⟨tc x s0, rfl, P.hb, ?_⟩
    exact fin5 P.r P.hB P.ext P.s
end
end Go.Proofs.YtkoaicjcanplaaaGreat
