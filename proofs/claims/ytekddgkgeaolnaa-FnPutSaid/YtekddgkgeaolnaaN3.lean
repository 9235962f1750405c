/- Reference: what an operation gives on any words. -/
import Derived.Test.YtekddgkgeaolnaaU1
namespace Go.Proofs.Ytekddgkgeaolnaa
open Go Go.Vc Go.RowKit
set_option linter.unusedVariables false
section
variable {e : ByteArray → Int} {x : Lab} {l : List Lab} {v : List Int}
theorem ap_if (h : x.op = 17) : ap x l v e = if v.getD 0 0 = 1 then v.getD 1 0 else v.getD 2 0 := by
  rw [ap, if_neg (by omega), if_neg (by omega), if_pos h]
theorem ap_un (h : x.op = 1 ∨ x.op = 2) : ap x l v e = uW x.op (kw l 0) (v.getD 0 0) := by
  rw [ap, if_neg (by omega), if_neg (by omega), if_neg (by omega), if_pos h]
theorem ap_cut (h : x.op = 19) : ap x l v e = cW (kw l 0) (v.getD 0 0) x.n x.w := by
  rw [ap, if_neg (by omega), if_neg (by omega), if_neg (by omega), if_neg (by omega), if_pos h]
theorem ap_wid (h : x.op = 20 ∨ x.op = 21) : ap x l v e = wiW (kw l 0) (v.getD 0 0) x.w (decide (x.op = 21)) := by
  rw [ap, if_neg (by omega), if_neg (by omega), if_neg (by omega), if_neg (by omega), if_neg (by omega), if_pos h]
theorem ap_join (h : x.op = 18) : ap x l v e = jW (kw l 0) (v.getD 0 0) (kw l 1) (v.getD 1 0) := by
  rw [ap, if_neg (by omega), if_neg (by omega), if_neg (by omega), if_neg (by omega), if_neg (by omega), if_neg (by omega), if_pos h]
theorem ap_bin (h : 3 ≤ x.op ∧ x.op ≤ 16) : ap x l v e = bW x.op (kw l 0) (v.getD 0 0) (v.getD 1 0) := by
  rw [ap, if_neg (by omega), if_neg (by omega), if_neg (by omega), if_neg (by omega), if_neg (by omega), if_neg (by omega), if_neg (by omega)]
end
theorem list1 {l : List Int} (h : l.length = 1) : ∃ a, l = [a] := by
  match l, h with
  | [a], _ => exact ⟨a, rfl⟩
theorem list2 {l : List Int} (h : l.length = 2) : ∃ a b, l = [a, b] := by
  match l, h with
  | [a, b], _ => exact ⟨a, b, rfl⟩
theorem list3 {l : List Int} (h : l.length = 3) : ∃ a b c, l = [a, b, c] := by
  match l, h with
  | [a, b, c], _ => exact ⟨a, b, c, rfl⟩
set_option maxHeartbeats 8000000 in
theorem l02Apply_val (e : ByteArray → Int) (x : Lab) (k : TF) (vs : List Int) (s v : Value) (W : World) (h : OkT (x, k)) (hk : k.len ≠ 0) (hvl : vs.length = k.len) (hs : TSl anyB W s k) (hv : SlR eI anyB W v vs) :
    Ret Try.prog 75 #[tv x s, v] W (fun r w' => r = .int .i64 (ap x (hdF k) vs e) ∧ Ext W w') := by
  have x1 := bx_ext W x s
  have hb := bx_at W x s
  have hN : NodeOk x (hdF k) := h.1
  have h0 : x.op ≠ 0 := fun e => hk (by rw [ok_nil h (.inl e)]; rfl)
  have h22 : x.op ≠ 22 := fun e => hk (by rw [ok_nil h (.inr e)]; rfl)
  have hs1 := hs.ext x1
  have hv1 := hv.ext x1
  have hxn : inI x.n := nin hN
  rcases ops hN with ho | ho | ho | ho | ho | ho | ho | ho | ho
  · exact absurd ho h0
  · exact absurd ho h22
  · obtain ⟨a, rfl, ha⟩ := ok_1 h (by omega)
    obtain ⟨p, o, c, sa, rfl, hca, hsa⟩ := kids1 hs1
    obtain ⟨v0, rfl⟩ := list1 hvl
    obtain ⟨q, o', c', rfl, hi⟩ := ints1 (m := v0) hv1
    have hE : ap x (hdF (mkTF [a])) [v0] e = uW x.op x.w v0 := by rw [ap_un ho, show kw (hdF (mkTF [a])) 0 = x.w from fit_un h.1 ho]; rfl
    rw [hE]
    have hin : inR x.op 1 2 = true := inR_yes (by omega)
    have hI := fun w => l01In_ret x.op 1 2 w
    simp only [hin] at hI
    refine ret_of_vc ties mixed Try.func75 rfl (by kernel_rfl) rfl rfl ?_
    refine ⟨_, hb.1, ?_⟩
    refine Or.inl ((hI _).mono ?_)
    rintro _ _ ⟨rfl, rfl⟩
    refine .inl ⟨by kernel_rfl, ?_⟩
    refine ⟨_, hb.1, _, hb.2.1, ⟨by decide, by decide⟩, _, hi, ?_⟩
    exact ⟨_, fun w' xw => q_of (spec_ApplyUnary _ _ _ w'), fun w' hw' => ⟨rfl, x1.trans hw'⟩⟩
  · obtain ⟨a, rfl, ha⟩ := ok_1 h (by omega)
    obtain ⟨p, o, c, sa, rfl, hca, hsa⟩ := kids1 hs1
    obtain ⟨v0, rfl⟩ := list1 hvl
    obtain ⟨q, o', c', rfl, hi⟩ := ints1 (m := v0) hv1
    rw [show ap x (hdF (mkTF [a])) [v0] e = cW a.1.w v0 x.n x.w from ap_cut ho]
    have n12 : inR x.op 1 2 = false := inR_no (by omega)
    have hI := fun w => l01In_ret x.op 1 2 w
    simp only [n12] at hI
    have n316 : inR x.op 3 16 = false := inR_no (by omega)
    have hJ := fun w => l01In_ret x.op 3 16 w
    simp only [n316] at hJ
    refine ret_of_vc ties mixed Try.func75 rfl (by kernel_rfl) rfl rfl ?_
    refine ⟨_, hb.1, ?_⟩
    refine Or.inl ((hI _).mono ?_)
    rintro _ _ ⟨rfl, rfl⟩
    refine ⟨_, hb.1, ?_⟩
    refine Or.inl ((hJ _).mono ?_)
    rintro _ _ ⟨rfl, rfl⟩
    refine ⟨_, hb.1, ?_⟩
    refine br_dec_false (by omega : ¬ x.op = 17) ?_
    refine ⟨_, hb.1, ?_⟩
    refine br_dec_false (by omega : ¬ x.op = 18) ?_
    refine ⟨_, hb.1, ?_⟩
    refine br_dec_true ho ?_
    refine .inl ⟨by kernel_rfl, ?_⟩
    refine ⟨_, hb.2.2.2.2.1, ⟨by decide, by decide⟩, _, hca.2.1, ⟨by decide, by decide⟩, _, hi, _, hb.2.2.1, _, hb.2.1, ?_⟩
    exact ⟨_, fun w' xw => q_of (spec_CutWord _ _ _ _ hxn w'), fun w' hw' => ⟨rfl, x1.trans hw'⟩⟩
  · obtain ⟨a, rfl, ha⟩ := ok_1 h (by omega)
    obtain ⟨p, o, c, sa, rfl, hca, hsa⟩ := kids1 hs1
    obtain ⟨v0, rfl⟩ := list1 hvl
    obtain ⟨q, o', c', rfl, hi⟩ := ints1 (m := v0) hv1
    rw [show ap x (hdF (mkTF [a])) [v0] e = wiW a.1.w v0 x.w (decide (x.op = 21)) from ap_wid ho]
    have n12 : inR x.op 1 2 = false := inR_no (by omega)
    have hI := fun w => l01In_ret x.op 1 2 w
    simp only [n12] at hI
    have n316 : inR x.op 3 16 = false := inR_no (by omega)
    have hJ := fun w => l01In_ret x.op 3 16 w
    simp only [n316] at hJ
    refine ret_of_vc ties mixed Try.func75 rfl (by kernel_rfl) rfl rfl ?_
    refine ⟨_, hb.1, ?_⟩
    refine Or.inl ((hI _).mono ?_)
    rintro _ _ ⟨rfl, rfl⟩
    refine ⟨_, hb.1, ?_⟩
    refine Or.inl ((hJ _).mono ?_)
    rintro _ _ ⟨rfl, rfl⟩
    refine ⟨_, hb.1, ?_⟩
    refine br_dec_false (by omega : ¬ x.op = 17) ?_
    refine ⟨_, hb.1, ?_⟩
    refine br_dec_false (by omega : ¬ x.op = 18) ?_
    refine ⟨_, hb.1, ?_⟩
    refine br_dec_false (by omega : ¬ x.op = 19) ?_
    refine .inl ⟨by kernel_rfl, ?_⟩
    refine ⟨_, hb.2.2.2.2.1, ⟨by decide, by decide⟩, _, hca.2.1, ⟨by decide, by decide⟩, _, hi, _, hb.2.1, _, hb.1, ?_⟩
    exact ⟨_, fun w' xw => q_of (spec_WidenWord _ _ _ _ w'), fun w' hw' => ⟨rfl, x1.trans hw'⟩⟩
  · obtain ⟨a, b, rfl, ha, hb'⟩ := ok_2 h (by omega)
    obtain ⟨p, o, c, sa, sb, rfl, hca, hcb, hsa, hsb⟩ := kids2 hs1
    obtain ⟨v0, v1, rfl⟩ := list2 hvl
    obtain ⟨q, o', c', rfl, hi, hi2⟩ := ints2 (m := v0) (n := v1) hv1
    rw [show ap x (hdF (mkTF [a, b])) [v0, v1] e = bW x.op a.1.w v0 v1 from ap_bin (by omega)]
    have n12 : inR x.op 1 2 = false := inR_no (by omega)
    have hI := fun w => l01In_ret x.op 1 2 w
    simp only [n12] at hI
    have n316 : inR x.op 3 16 = true := inR_yes (by omega)
    have hJ := fun w => l01In_ret x.op 3 16 w
    simp only [n316] at hJ
    refine ret_of_vc ties mixed Try.func75 rfl (by kernel_rfl) rfl rfl ?_
    refine ⟨_, hb.1, ?_⟩
    refine Or.inl ((hI _).mono ?_)
    rintro _ _ ⟨rfl, rfl⟩
    refine ⟨_, hb.1, ?_⟩
    refine Or.inl ((hJ _).mono ?_)
    rintro _ _ ⟨rfl, rfl⟩
    refine .inl ⟨by kernel_rfl, ?_⟩
    refine ⟨_, hb.1, _, hb.2.2.2.2.1, ⟨by decide, by decide⟩, _, hca.2.1, ⟨by decide, by decide⟩, _, hi, ⟨by decide, by decide⟩, _, hi2, ?_⟩
    exact ⟨_, fun w' xw => q_of (spec_ApplyBinary _ _ _ _ w'), fun w' hw' => ⟨rfl, x1.trans hw'⟩⟩
  · obtain ⟨a, b, rfl, ha, hb'⟩ := ok_2 h (by omega)
    obtain ⟨p, o, c, sa, sb, rfl, hca, hcb, hsa, hsb⟩ := kids2 hs1
    obtain ⟨v0, v1, rfl⟩ := list2 hvl
    obtain ⟨q, o', c', rfl, hi, hi2⟩ := ints2 (m := v0) (n := v1) hv1
    rw [show ap x (hdF (mkTF [a, b])) [v0, v1] e = bW x.op a.1.w v0 v1 from ap_bin (by omega)]
    have n12 : inR x.op 1 2 = false := inR_no (by omega)
    have hI := fun w => l01In_ret x.op 1 2 w
    simp only [n12] at hI
    have n316 : inR x.op 3 16 = true := inR_yes (by omega)
    have hJ := fun w => l01In_ret x.op 3 16 w
    simp only [n316] at hJ
    refine ret_of_vc ties mixed Try.func75 rfl (by kernel_rfl) rfl rfl ?_
    refine ⟨_, hb.1, ?_⟩
    refine Or.inl ((hI _).mono ?_)
    rintro _ _ ⟨rfl, rfl⟩
    refine ⟨_, hb.1, ?_⟩
    refine Or.inl ((hJ _).mono ?_)
    rintro _ _ ⟨rfl, rfl⟩
    refine .inl ⟨by kernel_rfl, ?_⟩
    refine ⟨_, hb.1, _, hb.2.2.2.2.1, ⟨by decide, by decide⟩, _, hca.2.1, ⟨by decide, by decide⟩, _, hi, ⟨by decide, by decide⟩, _, hi2, ?_⟩
    exact ⟨_, fun w' xw => q_of (spec_ApplyBinary _ _ _ _ w'), fun w' hw' => ⟨rfl, x1.trans hw'⟩⟩
  · obtain ⟨a, b, rfl, ha, hb'⟩ := ok_2 h (by omega)
    obtain ⟨p, o, c, sa, sb, rfl, hca, hcb, hsa, hsb⟩ := kids2 hs1
    obtain ⟨v0, v1, rfl⟩ := list2 hvl
    obtain ⟨q, o', c', rfl, hi, hi2⟩ := ints2 (m := v0) (n := v1) hv1
    rw [show ap x (hdF (mkTF [a, b])) [v0, v1] e = jW a.1.w v0 b.1.w v1 from ap_join ho]
    have n12 : inR x.op 1 2 = false := inR_no (by omega)
    have hI := fun w => l01In_ret x.op 1 2 w
    simp only [n12] at hI
    have n316 : inR x.op 3 16 = false := inR_no (by omega)
    have hJ := fun w => l01In_ret x.op 3 16 w
    simp only [n316] at hJ
    refine ret_of_vc ties mixed Try.func75 rfl (by kernel_rfl) rfl rfl ?_
    refine ⟨_, hb.1, ?_⟩
    refine Or.inl ((hI _).mono ?_)
    rintro _ _ ⟨rfl, rfl⟩
    refine ⟨_, hb.1, ?_⟩
    refine Or.inl ((hJ _).mono ?_)
    rintro _ _ ⟨rfl, rfl⟩
    refine ⟨_, hb.1, ?_⟩
    refine br_dec_false (by omega : ¬ x.op = 17) ?_
    refine ⟨_, hb.1, ?_⟩
    refine br_dec_true ho ?_
    refine .inl ⟨by kernel_rfl, ?_⟩
    refine ⟨_, hb.2.2.2.2.1, ⟨by decide, by decide⟩, _, hca.2.1, ⟨by decide, by decide⟩, _, hi, _, hb.2.2.2.2.1, ⟨by decide, by decide⟩, _, hcb.2.1, ⟨by decide, by decide⟩, _, hi2, ?_⟩
    exact ⟨_, fun w' xw => q_of (spec_JoinWords _ _ _ _ w'), fun w' hw' => ⟨rfl, x1.trans hw'⟩⟩
  · obtain ⟨a, b, d, rfl, ha, hb', hd'⟩ := ok_3 h ho
    obtain ⟨p, o, c, sa, sb, sd, rfl, hca, hcb, hcd, hsa, hsb, hsd⟩ := kids3 hs1
    obtain ⟨v0, v1, v2, rfl⟩ := list3 hvl
    obtain ⟨q, o', c', rfl, hi, hi2, hi3⟩ := ints3 (m := v0) (n := v1) (p := v2) hv1
    rw [show ap x (hdF (mkTF [a, b, d])) [v0, v1, v2] e = if v0 = 1 then v1 else v2 from ap_if ho]
    have n12 : inR x.op 1 2 = false := inR_no (by omega)
    have hI := fun w => l01In_ret x.op 1 2 w
    simp only [n12] at hI
    have n316 : inR x.op 3 16 = false := inR_no (by omega)
    have hJ := fun w => l01In_ret x.op 3 16 w
    simp only [n316] at hJ
    refine ret_of_vc ties mixed Try.func75 rfl (by kernel_rfl) rfl rfl ?_
    refine ⟨_, hb.1, ?_⟩
    refine Or.inl ((hI _).mono ?_)
    rintro _ _ ⟨rfl, rfl⟩
    refine ⟨_, hb.1, ?_⟩
    refine Or.inl ((hJ _).mono ?_)
    rintro _ _ ⟨rfl, rfl⟩
    refine ⟨_, hb.1, ?_⟩
    refine br_dec_true ho ?_
    refine ⟨⟨by decide, by decide⟩, _, hi, ?_⟩
    refine br_dec (fun h1 => ?_) (fun h1 => ?_)
    · refine ⟨⟨by decide, by decide⟩, _, hi2, ?_⟩
      exact ⟨vint (if_pos h1).symm, x1⟩
    · refine ⟨⟨by decide, by decide⟩, _, hi3, ?_⟩
      exact ⟨vint (if_neg h1).symm, x1⟩
end Go.Proofs.Ytekddgkgeaolnaa
