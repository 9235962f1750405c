/- FormatFormula: both contracts. -/
import Derived.Test.YtekddgkgeaolnaaDoorGu
import Derived.Test.YtekddgkgeaolnaaDoorGf
import Derived.Test.YtekddgkgeaolnaaDoorFm
namespace Go.Proofs.YtekddgkgeaolnaaDoor.Bu
open Go Go.Vc Go.RowKit Go.Sat
set_option linter.unusedVariables false

def fbody (F : List (List Int)) : List UInt8 := F.flatMap fun c => 124 :: (intsB c).data.toList
def fmF (n : Int) (F : List (List Int)) : ByteArray := if fOk n F = true then ⟨(Lib.itoa n ++ fbody F).toArray⟩ else ⟨#[]⟩
theorem fmF_yes {n : Int} {F : List (List Int)} (h : fOk n F = true) : fmF n F = ⟨(Lib.itoa n ++ fbody F).toArray⟩ := if_pos h
theorem fmF_no {n : Int} {F : List (List Int)} (h : fOk n F = false) : fmF n F = ⟨#[]⟩ := if_neg (by rw [h]; decide)
theorem fbody_snoc (F : List (List Int)) (c : List Int) : fbody (F ++ [c]) = fbody F ++ 124 :: (intsB c).data.toList := by simp [fbody]
theorem ints_size {c : List Int} (h : ∀ x ∈ c, inI x) : (intsB c).size ≤ 22 * c.length := by
  have h1 := joinB_size (c.map itoaB) ⟨#[32]⟩
  have h2 := tot_itoa c h
  rw [List.length_map] at h1
  have h3 : (⟨#[32]⟩ : ByteArray).size = 1 := rfl
  rw [h3] at h1
  unfold intsB
  omega
theorem fbody_len : ∀ (F : List (List Int)), (∀ c ∈ F, ∀ x ∈ c, inI x) → (fbody F).length ≤ F.length + 22 * tot F := by
  intro F
  induction F with
  | nil => intro _; exact Nat.le_refl _
  | cons c F ih =>
    intro h
    have h1 := ih fun d hd => h d (by simp [hd])
    have h2 := ints_size (h c (by simp))
    have h3 : (intsB c).data.toList.length = (intsB c).size := rfl
    show ((124 :: (intsB c).data.toList) ++ fbody F).length ≤ _
    rw [List.length_append, List.length_cons, List.length_cons]
    show _ ≤ _ + 22 * (c.length + tot F)
    omega
theorem tot_take_le (F : List (List Int)) (k : Nat) : tot (F.take k) ≤ tot F := by
  induction F generalizing k with
  | nil => simp [tot]
  | cons c F ih =>
    cases k with
    | zero => simp [tot]
    | succ k => have := ih k; simp only [List.take_succ_cons, tot]; omega
structure FOk (n : Int) (F : List (List Int)) : Prop where
  n : inI n
  c : ∀ c ∈ F, ∀ x ∈ c, inI x
theorem fok_of {n : Int} {F : List (List Int)} (h : fOk n F = true) : FOk n F := by
  unfold fOk at h
  rw [Bool.and_eq_true, decide_eq_true_eq, List.all_eq_true] at h
  refine ⟨⟨by omega, by omega⟩, fun c hc x hx => ?_⟩
  have := litOk_iff.1 (clOk_lits (h.2 c hc) x hx)
  exact ⟨by omega, by omega⟩
theorem part_len {n : Int} {F : List (List Int)} (h : FOk n F) (i : Nat) : (Lib.itoa n ++ fbody (F.take i)).length ≤ 21 + F.length + 22 * tot F := by
  have h1 := Lib.itoa_length_le n h.n.1 h.n.2
  have h2 := fbody_len (F.take i) fun c hc => h.c c (List.mem_of_mem_take hc)
  have h3 := tot_take_le F i
  have h4 : (F.take i).length ≤ F.length := by rw [List.length_take]; omega
  rw [List.length_append]
  omega
theorem spec_FormatFormula (n : Int) (F : List (List Int)) (s : Value) (W : World) (hs : SlR eL allB W s F) (hl : F.length + tot F ≤ 1048576) :
    Ret Tryd.prog 22 #[fv n s] W (fun v w' => v = .string (fmF n F) ∧ Ext W w') := by
  have hlm : (maxLen : Int) ≤ 9223372036854775807 := by decide
  have h1s : oneB s = true := hs.oneB
  obtain ⟨a, c, rfl, hlc, hcm, -⟩ := id hs
  have hb := boxedAll W [.int .i64 n, .slice a F.length c] 37
  have x1 : Ext W (W.alloc (.cells [.int .i64 n, .slice a F.length c].toArray 37)) := Ext.new _ _
  have hyes := fun h => @fmF_yes n F h
  have hno := fun h => @fmF_no n F h
  refine ret_of_vc ties mixed Tryd.func22 rfl (by kernel_rfl) rfl rfl ?_
  refine ⟨[.int .i64 n, .slice a F.length c], rfl, hb, ?_⟩
  refine Or.inl ((spec_FormulaOk n F _ _ (hs.ext x1)).mono ?_)
  rintro _ w2 ⟨rfl, x2⟩
  refine br_not (fun hf => ?_) (fun hf => ?_)
  · exact ⟨vstr (hno hf).symm, x1.trans x2⟩
  have hF := fok_of hf
  have x12 := x1.trans x2
  refine ⟨_, (hb.ext x2).1, ?_⟩
  refine Or.inl ((spec_FormatInt (n.natAbs + 1) n hF.n (by omega) w2).mono ?_)
  rintro _ w3 ⟨rfl, x3⟩
  have x13 := x12.trans x3
  refine ⟨_, (hb.ext (x2.trans x3)).2.1, ?_⟩
  refine loop_rule (σ := Nat × ByteArray × Value × Value) [3, 4, 5, 15] 16 26 (fun q => [.string q.2.1, q.2.2.1, q.2.2.2, .int .i64 q.1])
    (fun q w' => Ext W w' ∧ q.1 ≤ F.length ∧ q.2.1.data.toList = Lib.itoa n ++ fbody (F.take q.1)) (fun q => F.length - q.1) (0, _, undef, undef) rfl ⟨x13, Nat.zero_le _, by show (itoaB n).data.toList = _; simp [itoaB, fbody]⟩ ?_
  rintro ⟨i, r, g4, g5⟩ w junk ⟨hx, hi, hr⟩ K hK
  simp only at hi hr
  show vc _ _ _ _ (over [3, 4, 5, 15] [.string r, g4, g5, .int .i64 i] _) _
  have hrl : r.size ≤ 21 + F.length + 22 * tot F := by
    have h1 := part_len hF i
    rw [← hr] at h1
    exact h1
  refine br_dec (fun h3 => ?_) (fun h3 => ?_)
  · have hil : i < F.length := by omega
    obtain ⟨b, o, c1, cs, he, -, hc, hcs⟩ := hs.at hil
    cases he
    obtain ⟨u, rfl, hu⟩ := hcs
    have hci := hF.c _ (List.getElem_mem hil)
    have htm := tot_mem (List.getElem_mem hil)
    have hsz := ints_size hci
    have hp1 : (r ++ (⟨#[124]⟩ : ByteArray)).size = r.size + 1 := ByteArray.size_append
    refine ⟨⟨by omega, by omega⟩, _, hx.cell hc.1, by show r.size + 1 ≤ _; omega, ?_⟩
    refine Or.inl ((spec_FormatInts (F[i]'hil) u w ((hu.ext hx).mono fun _ _ => trivial) hci (by omega)).mono ?_)
    rintro _ w4 ⟨rfl, x4⟩
    refine ⟨by show (r ++ (⟨#[124]⟩ : ByteArray)).size + (intsB (F[i]'hil)).size ≤ _; omega, ?_⟩
    refine ⟨_, IntWalk.i64_in _ (by omega), ?_⟩
    refine hK (i + 1, r ++ ⟨#[124]⟩ ++ intsB (F[i]'hil), _, _) _ _ (vs4 rfl rfl rfl (vint (by show (i : Int) + 1 = ((i + 1 : Nat) : Int); omega))) ⟨hx.trans x4, by show i + 1 ≤ _; omega, ?_⟩ (by show F.length - (i + 1) < F.length - i; omega) ?_
    · show (r ++ (⟨#[124]⟩ : ByteArray) ++ intsB (F[i]'hil)).data.toList = Lib.itoa n ++ fbody (F.take (i + 1))
      rw [take_snoc hil, fbody_snoc, data_app, data_app, hr]
      simp
    · ((repeat (first | (with_reducible exact Only.refl) | (with_reducible refine Only.skip ?_) | ((with_reducible refine Only.upd ?_ ?_); rfl) | ((with_reducible refine Only.over ?_ ?_ _); rfl) | ((with_reducible refine Only.hav ?_ ?_ ?_); rfl; rfl))))
  · have hie : i = F.length := by omega
    subst hie
    rw [List.take_length] at hr
    refine ⟨vstr ?_, hx⟩
    rw [hyes hf, ← hr]
theorem impl_FormatFormula (n : Int) (F : List (List Int)) (s : Value) (W : World) (hs : SlR eL allB W s F) (hl : F.length + tot F ≤ 1048576) (htab : TabP W) :
    Ret Tryd.prog 24 #[fv n s] W (fun v w' => v = .string (fmF n F) ∧ Ext W w') := by
  have hlm : (maxLen : Int) ≤ 9223372036854775807 := by decide
  have h1s : oneB s = true := hs.oneB
  obtain ⟨a, c, rfl, hlc, hcm, -⟩ := id hs
  have hb := boxedAll W [.int .i64 n, .slice a F.length c] 37
  have x1 : Ext W (W.alloc (.cells [.int .i64 n, .slice a F.length c].toArray 37)) := Ext.new _ _
  have hyes := fun h => @fmF_yes n F h
  have hno := fun h => @fmF_no n F h
  refine ret_of_vc ties mixed Tryd.func24 rfl (by kernel_rfl) rfl rfl ?_
  refine ⟨[.int .i64 n, .slice a F.length c], rfl, hb, ?_⟩
  refine Or.inl ((impl_FormulaOk n F _ _ (hs.ext x1)).mono ?_)
  rintro _ w2 ⟨rfl, x2⟩
  refine br_not (fun hf => ?_) (fun hf => ?_)
  · exact ⟨vstr (hno hf).symm, x1.trans x2⟩
  have hF := fok_of hf
  have x12 := x1.trans x2
  have hbl := Bl.new w2
  have x3 : Ext w2 (w2.alloc (.cells #[.pointer none, .slice none 0 0] 66)) := Ext.new _ _
  have x13 := x12.trans x3
  refine ⟨_, ((hb.ext x2).ext x3).1, ?_⟩
  refine Or.inl ((impl_FormatInt n hF.n _ (Lib.tabBelow_of_tabIs htab _ x13)).mono ?_)
  rintro _ w4 ⟨rfl, x4⟩
  have e4 : Ext w2 w4 := x3.trans x4
  refine Or.inl ((write_ret w2.heap.size w2.heap.size [] (itoaB n) w4 (hbl.ext x4) (by have := itoaB_size hF.n; simp only [List.length_nil]; omega) e4.size).mono ?_)
  rintro _ w5 ⟨rfl, hb5, k5⟩
  have e5 : Ext w2 w5 := Below.trans e4 k5
  refine ⟨_, (hb.ext (x2.trans e5)).2.1, ?_⟩
  refine loop_rule (σ := Nat × Value × Value) [4, 5, 16] 17 26 (fun q => [q.2.1, q.2.2, .int .i64 q.1])
    (fun q w' => Ext w2 w' ∧ q.1 ≤ F.length ∧ Bl w2.heap.size w2.heap.size (Lib.itoa n ++ fbody (F.take q.1)) w') (fun q => F.length - q.1) (0, undef, undef) rfl ⟨e5, Nat.zero_le _, ?_⟩ ?_
  · have e : [] ++ (itoaB n).data.toList = Lib.itoa n ++ fbody (F.take 0) := by simp [itoaB, fbody]
    rw [e] at hb5
    exact hb5
  rintro ⟨i, g4, g5⟩ w junk ⟨hx, hi, hr⟩ K hK
  simp only at hi hr
  show vc _ _ _ _ (over [4, 5, 16] [g4, g5, .int .i64 i] _) _
  have hrl := part_len hF i
  refine br_dec (fun h3 => ?_) (fun h3 => ?_)
  · have hil : i < F.length := by omega
    obtain ⟨b, o, c1, cs, he, -, hc, hcs⟩ := hs.at hil
    cases he
    obtain ⟨u, rfl, hu⟩ := hcs
    have hci := hF.c _ (List.getElem_mem hil)
    have htm := tot_mem (List.getElem_mem hil)
    have hsz := ints_size hci
    have hxW := x12.trans hx
    have hp1 : ((⟨#[124]⟩ : ByteArray) ++ intsB (F[i]'hil)).size = 1 + (intsB (F[i]'hil)).size := ByteArray.size_append
    refine ⟨⟨by omega, by omega⟩, _, hxW.cell hc.1, ?_⟩
    refine Or.inl ((impl_FormatInts (F[i]'hil) u w ((hu.ext hxW).mono fun _ _ => trivial) hci (by omega) (Lib.tabBelow_of_tabIs htab w hxW)).mono ?_)
    rintro _ w6 ⟨rfl, x6⟩
    refine ⟨by show 1 + (intsB (F[i]'hil)).size ≤ _; omega, ?_⟩
    refine Or.inl ((write_ret w2.heap.size w2.heap.size _ ((⟨#[124]⟩ : ByteArray) ++ intsB (F[i]'hil)) w6 (hr.ext x6) (by omega) (hx.trans x6).size).mono ?_)
    rintro _ w7 ⟨rfl, hb7, k7⟩
    refine ⟨_, IntWalk.i64_in _ (by omega), ?_⟩
    refine hK (i + 1, _, _) _ _ (vs3 rfl rfl (vint (by show (i : Int) + 1 = ((i + 1 : Nat) : Int); omega))) ⟨Below.trans (hx.trans x6) k7, by show i + 1 ≤ _; omega, ?_⟩ (by show F.length - (i + 1) < F.length - i; omega) ?_
    · show Bl _ _ (Lib.itoa n ++ fbody (F.take (i + 1))) _
      rw [take_snoc hil, fbody_snoc]
      have e : Lib.itoa n ++ fbody (F.take i) ++ ((⟨#[124]⟩ : ByteArray) ++ intsB (F[i]'hil)).data.toList = Lib.itoa n ++ (fbody (F.take i) ++ 124 :: (intsB (F[i]'hil)).data.toList) := by rw [data_app]; simp
      rw [e] at hb7
      exact hb7
    · ((repeat (first | (with_reducible exact Only.refl) | (with_reducible refine Only.skip ?_) | ((with_reducible refine Only.upd ?_ ?_); rfl) | ((with_reducible refine Only.over ?_ ?_ _); rfl) | ((with_reducible refine Only.hav ?_ ?_ ?_); rfl; rfl))))
  · have hie : i = F.length := by omega
    subst hie
    rw [List.take_length] at hr
    refine Or.inl ((string_ret w2.heap.size w2.heap.size _ w hr hx.size).mono ?_)
    rintro _ w8 ⟨rfl, k8⟩
    exact ⟨vstr (hyes hf).symm, x12.trans (Below.trans hx k8)⟩
end Go.Proofs.YtekddgkgeaolnaaDoor.Bu
