/- The text of a term, by the reference: l02Name, l02Format, FormatTerm. -/
import Derived.Test.YtekddgkgeaolnaaGk
import Derived.Test.YtekddgkgeaolnaaN5
import Derived.Test.YtekddgkgeaolnaaWc
import Derived.Test.YtekddgkgeaolnaaQn
import Derived.Test.YtekddgkgeaolnaaQx
namespace Go.Proofs.Ytekddgkgeaolnaa
open Go Go.Vc Go.RowKit
set_option linter.unusedVariables false

theorem tnm_size (op : Int) : (tnm op).size ≤ 7 := by
  have h : ∀ i : Nat, (names.getD i ByteArray.empty).size ≤ 7 := by
    intro i
    by_cases hi : i < names.length
    · have : ∀ j : Fin 17, (names.getD j.val ByteArray.empty).size ≤ 7 := by decide
      exact this ⟨i, hi⟩
    · rw [List.getD_eq_getElem?_getD, List.getElem?_eq_none (by omega)]; decide
  unfold tnm
  split
  · decide
  · split
    · decide
    · split
      · decide
      · split
        · decide
        · split
          · decide
          · unfold opNm
            split
            · exact h _
            · decide
theorem itoa_len {n : Int} (h : inI n) : (Lib.itoa n).length ≤ 21 := Lib.itoa_length_le n h.1 h.2
theorem nin_w {x : Lab} {l : List Lab} (h : NodeOk x l) : inI x.w := (w_range h).2
theorem nin_n {x : Lab} {l : List Lab} (h : NodeOk x l) : inI x.n := by
  by_cases h0 : x.op = 0
  · have := wOk_iff.1 (h.const h0)
    have h2 := pow16 (w := x.w) (by omega) (by omega)
    unfold inI; omega
  · by_cases h19 : x.op = 19
    · have h1 := fit_cut h h19
      have hk : kw l 0 ≤ 16 ∨ kw l 0 = 0 := by
        unfold kw
        cases l with
        | nil => exact .inr rfl
        | cons y l => exact .inl (h.kids y (by simp)).2
      have := h.width
      unfold inI; omega
    · rw [h.num h0 h19]; unfold inI; omega
theorem leafB_len {x : Lab} {l : List Lab} (h : NodeOk x l) (ho : x.op = 0 ∨ x.op = 22) : (leafB x).length ≤ 43 := by
  have h1 := itoa_len (nin_w h)
  have h2 := itoa_len (nin_n h)
  unfold leafB
  split
  · rw [List.length_append, List.length_cons]; omega
  · have hn := of_decide_eq_true (h.name (by omega))
    have h3 : x.name.data.toList.length = x.name.size := rfl
    rw [List.length_append, List.length_cons]; omega
theorem numB_len {x : Lab} {l : List Lab} (h : NodeOk x l) : (numB x).length ≤ 44 := by
  have h1 := itoa_len (nin_w h)
  have h2 := itoa_len (nin_n h)
  unfold numB
  rw [List.length_append]
  have h3 : (if x.op = 19 then 32 :: Lib.itoa x.n else []).length ≤ 22 := by split <;> simp <;> omega
  have h4 : (if 19 ≤ x.op ∧ x.op ≤ 21 then 32 :: Lib.itoa x.w else []).length ≤ 22 := by split <;> simp <;> omega
  omega
theorem fmF_len : ∀ k : TF, OkF k → (fmF k).length ≤ 64 * k.size
  | .nil, _ => Nat.le_refl _
  | .cons x k r, h => by
    have h1 := fmF_len k h.1.2
    have h2 := fmF_len r h.2
    have h3 : (fmT (x, k)).length ≤ 64 * k.size + 60 := by
      unfold fmT
      split
      · rename_i ho
        have := leafB_len h.1.1 ho
        show (leafB x).length ≤ _
        omega
      · have h4 := numB_len h.1.1
        have h5 : (nmB x.op).length ≤ 7 := tnm_size x.op
        show (40 :: (nmB x.op ++ (numB x ++ (fmF k ++ [41])))).length ≤ _
        simp only [List.length_cons, List.length_append, List.length_nil]
        omega
    rw [fmF_cons, List.length_cons, List.length_append]
    show _ ≤ 64 * (k.size + r.size + 1)
    omega
theorem fmT_len {t : Tm} (h : OkT t) : (fmT t).length ≤ 64 * t.sz := by
  have h1 := fmF_len (.cons t.1 t.2 .nil) ⟨h, trivial⟩
  rw [fmF_cons, List.length_cons, List.length_append] at h1
  have h2 : (Fo.cons t.1 t.2 .nil).size = t.sz := by show t.2.size + 0 + 1 = _; rfl
  rw [h2] at h1
  show (fmT (t.1, t.2)).length ≤ _
  omega
def toB (l : List UInt8) : ByteArray := ⟨l.toArray⟩
theorem toB_list (l : List UInt8) : (toB l).data.toList = l := by simp [toB]
theorem toB_app (l m : List UInt8) : toB (l ++ m) = toB l ++ toB m := by
  apply ByteArray.ext; simp [toB, ByteArray.data_append]
theorem toB_of (s : ByteArray) : toB s.data.toList = s := by simp [toB]
theorem toB_size (l : List UInt8) : (toB l).size = l.length := by show l.toArray.size = _; rw [List.size_toArray]
theorem l02Name_ret (op : Int) (W : World) : Ret Try.prog 74 #[.int .i64 op] W (fun v w' => v = .string (tnm op) ∧ Ext W w') := by
  have key : ∀ s, tnm op = s → Value.string s = .string (tnm op) := fun s h => by rw [h]
  refine ret_of_vc ties mixed Try.func74 rfl (by kernel_rfl) rfl rfl ?_
  refine br_dec (fun h => ?_) (fun h1 => ?_)
  · exact ⟨key _ (by unfold tnm; rw [if_pos h]), Ext.refl _⟩
  refine br_dec (fun h => ?_) (fun h2 => ?_)
  · exact ⟨key _ (by unfold tnm; rw [if_neg h1, if_pos h]), Ext.refl _⟩
  refine br_dec (fun h => ?_) (fun h3 => ?_)
  · exact ⟨key _ (by unfold tnm; rw [if_neg h1, if_neg h2, if_pos h]), Ext.refl _⟩
  refine br_dec (fun h => ?_) (fun h4 => ?_)
  · exact ⟨key _ (by unfold tnm; rw [if_neg h1, if_neg h2, if_neg h3, if_pos h]), Ext.refl _⟩
  refine br_dec (fun h => ?_) (fun h5 => ?_)
  · exact ⟨key _ (by unfold tnm; rw [if_neg h1, if_neg h2, if_neg h3, if_neg h4, if_pos h]), Ext.refl _⟩
  refine Or.inl ((spec_OpName op W).mono ?_)
  rintro _ w2 ⟨rfl, x2⟩
  exact ⟨key _ (by unfold tnm; rw [if_neg h1, if_neg h2, if_neg h3, if_neg h4, if_neg h5]), x2⟩
theorem fmF_app' : ∀ l m : List Tm, fmF (mkTF (l ++ m)) = fmF (mkTF l) ++ fmF (mkTF m) := by
  intro l m
  induction l with
  | nil => rfl
  | cons t l ih =>
    show fmF (.cons t.1 t.2 (mkTF (l ++ m))) = fmF (.cons t.1 t.2 (mkTF l)) ++ _
    rw [fmF_cons, fmF_cons, ih]
    simp
theorem fmF_single (t : Tm) : fmF (mkTF [t]) = 32 :: fmT t := by
  show fmF (.cons t.1 t.2 .nil) = _
  rw [fmF_cons]
  show 32 :: (fmT t ++ []) = _
  rw [List.append_nil]
def FmR (t : Tm) (W : World) (v : Value) (w' : World) : Prop := v = .string (toB (fmT t)) ∧ Ext W w'
def FmS (n : Nat) : Prop := ∀ (t : Tm) (s : Value) (W : World), t.sz ≤ n → OkT t → t.sz ≤ 1000000 → TSl anyB W s t.2 → Ret Try.prog 43 #[tv t.1 s] W (FmR t W)
theorem fm_leaf {t : Tm} (ho : t.1.op = 0 ∨ t.1.op = 22) : fmT t = leafB t.1 := if_pos ho
theorem fm_node {t : Tm} (ho : ¬ (t.1.op = 0 ∨ t.1.op = 22)) : fmT t = 40 :: (nmB t.1.op ++ (numB t.1 ++ (fmF t.2 ++ [41]))) := if_neg ho
set_option maxHeartbeats 1000000 in
theorem l02Format_all : ∀ n, FmS n := by
  intro n
  induction n with
  | zero => intro t s W h; have : t.sz = t.2.size + 1 := rfl; omega
  | succ n ih =>
    rintro ⟨x, k⟩ s W hn hok hsz hs
    change TSl anyB W s k at hs
    have hlm : (maxLen : Int) ≤ 9223372036854775807 := by decide
    have hw : inI x.w := nin_w hok.1
    have hnn : inI x.n := nin_n hok.1
    have hw0 : 0 ≤ x.w := (w_range hok.1).1
    have hlw := itoa_len hw
    have hln := itoa_len hnn
    have hb := bx_at W x s
    have x1 := bx_ext W x s
    have hlen := fmT_len hok
    have hnm : x.op = 22 → x.name.size ≤ 8 := fun h => (of_decide_eq_true (hok.1.name h)).2.1
    have hfull : fmT (x, k) = if x.op = 0 ∨ x.op = 22 then leafB x else 40 :: (nmB x.op ++ (numB x ++ (fmF k ++ [41]))) := rfl
    obtain ⟨a, c, rfl, hl, hat⟩ := id hs
    refine ret_of_vc ties mixed Try.func43 rfl (by kernel_rfl) rfl rfl ?_
    refine ⟨_, hb.1, ?_⟩
    refine br_dec (fun h0 => ?_) (fun h0 => ?_)
    · have hn0 : 0 ≤ x.n := n_range hok.1 (.inl h0)
      refine .inl ⟨by kernel_rfl, _, hb.2.1, .string (toB (Lib.itoa x.w)), fun w' _ => Fn.fmtN x.w hw (by omega) w', by show (toB (Lib.itoa x.w)).size + 1 ≤ _; rw [toB_size]; omega, _, hb.2.2.1, .string (toB (Lib.itoa x.n)), fun w' _ => Fn.fmtN x.n hnn (by omega) w', ?_⟩
      refine ⟨by show (toB (Lib.itoa x.w) ++ ⟨#[58]⟩).size + (toB (Lib.itoa x.n)).size ≤ _; rw [ByteArray.size_append, toB_size, toB_size]; show _ + 1 + _ ≤ _; omega, ?_⟩
      intro w2 x2
      refine ⟨vstr ?_, x1.trans x2⟩
      rw [fm_leaf (t := (x, k)) (.inl h0)]
      show _ = toB (leafB x)
      unfold leafB
      rw [if_pos h0, show (58 :: Lib.itoa x.n) = [58] ++ Lib.itoa x.n from rfl, ← List.append_assoc, toB_app, toB_app]
      rfl
    refine br_dec (fun h22 => ?_) (fun h22 => ?_)
    · have hns := hnm h22
      refine .inl ⟨by kernel_rfl, _, hb.2.2.2.1, by show x.name.size + 1 ≤ _; omega, _, hb.2.1, .string (toB (Lib.itoa x.w)), fun w' _ => Fn.fmtN x.w hw (by omega) w', ?_⟩
      refine ⟨by show (x.name ++ ⟨#[58]⟩).size + (toB (Lib.itoa x.w)).size ≤ _; rw [ByteArray.size_append, toB_size]; show _ + 1 + _ ≤ _; omega, ?_⟩
      intro w2 x2
      refine ⟨vstr ?_, x1.trans x2⟩
      rw [fm_leaf (t := (x, k)) (.inr h22)]
      show _ = toB (leafB x)
      unfold leafB
      rw [if_neg h0, show (58 :: Lib.itoa x.w) = [58] ++ Lib.itoa x.w from rfl, ← List.append_assoc, toB_app, toB_app, toB_of]
      rfl
    have hno : ¬ (x.op = 0 ∨ x.op = 22) := by omega
    have hts := tnm_size x.op
    have hnl : (nmB x.op).length = (tnm x.op).size := rfl
    rw [fm_node (t := (x, k)) hno] at hlen
    have hlen : (40 :: (nmB x.op ++ (numB x ++ (fmF k ++ [41])))).length ≤ 64 * Tm.sz (x, k) := hlen
    simp only [List.length_cons, List.length_append, List.length_nil] at hlen
    refine ⟨_, hb.1, ?_⟩
    refine Or.inl ((l02Name_ret x.op _).mono ?_)
    rintro _ w2 ⟨rfl, x2⟩
    have hb2 := hb.ext x2
    refine ⟨by show 1 + (tnm x.op).size ≤ _; omega, ?_⟩
    refine ⟨_, hb2.1, ?_⟩
    have e0 : ((⟨#[40]⟩ : ByteArray) ++ tnm x.op).data.toList = 40 :: nmB x.op := by simp [ByteArray.data_append, nmB]
    have z0 : ((⟨#[40]⟩ : ByteArray) ++ tnm x.op).size = 1 + (tnm x.op).size := ByteArray.size_append
    have x12 := x1.trans x2
    refine br_dec (fun h19 => ?a) (fun h19 => ?b)
    case' a =>
      have hn0 : 0 ≤ x.n := n_range hok.1 (.inr h19)
      have hin : inR x.op 19 21 = true := inR_iff.2 (by omega)
      refine ⟨by show ((⟨#[40]⟩ : ByteArray) ++ tnm x.op).size + 1 ≤ _; omega, ?_⟩
      refine ⟨_, hb2.2.2.1, ?_⟩
      refine Or.inl ((Fn.fmtN x.n hnn (by omega) _).mono ?_)
      rintro _ w3 ⟨rfl, x3⟩
      refine ⟨by show ((⟨#[40]⟩ : ByteArray) ++ tnm x.op ++ ⟨#[32]⟩).size + (toB (Lib.itoa x.n)).size ≤ _; rw [ByteArray.size_append, toB_size, z0]; show _ + 1 + _ ≤ _; omega, ?_⟩
      refine ⟨_, (hb2.ext x3).1, ?_⟩
      refine Or.inl ((l01In_ret x.op 19 21 w3).mono ?_)
      rintro _ _ ⟨rfl, rfl⟩
      refine br_true hin ?_
      refine ⟨by show ((⟨#[40]⟩ : ByteArray) ++ tnm x.op ++ ⟨#[32]⟩ ++ toB (Lib.itoa x.n)).size + 1 ≤ _; rw [ByteArray.size_append, ByteArray.size_append, toB_size, z0]; show _ + 1 + _ + 1 ≤ _; omega, ?_⟩
      refine ⟨_, (hb2.ext x3).2.1, ?_⟩
      refine Or.inl ((Fn.fmtN x.w hw (by omega) _).mono ?_)
      rintro _ w5 ⟨rfl, x5⟩
      refine ⟨by show ((⟨#[40]⟩ : ByteArray) ++ tnm x.op ++ ⟨#[32]⟩ ++ toB (Lib.itoa x.n) ++ ⟨#[32]⟩).size + (toB (Lib.itoa x.w)).size ≤ _; rw [ByteArray.size_append, ByteArray.size_append, ByteArray.size_append, toB_size, toB_size, z0]; show _ + 1 + _ + 1 + _ ≤ _; omega, ?_⟩
      have x15 := (x12.trans x3).trans x5
      have hb5 := (hb2.ext x3).ext x5
      have e5 : ((⟨#[40]⟩ : ByteArray) ++ tnm x.op ++ ⟨#[32]⟩ ++ toB (Lib.itoa x.n) ++ ⟨#[32]⟩ ++ toB (Lib.itoa x.w)).data.toList = 40 :: (nmB x.op ++ numB x) := by
        have hd : ∀ a b : ByteArray, (a ++ b).data.toList = a.data.toList ++ b.data.toList := fun a b => by simp [ByteArray.data_append]
        rw [hd, hd, hd, hd, e0, toB_list, toB_list]
        unfold numB
        rw [if_pos h19, if_pos (by omega)]
        simp
    case' b =>
      refine ⟨_, hb2.1, ?_⟩
      refine Or.inl ((l01In_ret x.op 19 21 w2).mono ?_)
      rintro _ _ ⟨rfl, rfl⟩
      refine br_split (fun hin => ?c) (fun hin => ?d)
    case' c =>
      have hin := inR_iff.1 hin
      refine ⟨by show ((⟨#[40]⟩ : ByteArray) ++ tnm x.op).size + 1 ≤ _; omega, ?_⟩
      refine ⟨_, hb2.2.1, ?_⟩
      refine Or.inl ((Fn.fmtN x.w hw (by omega) _).mono ?_)
      rintro _ w5 ⟨rfl, x5⟩
      refine ⟨by show ((⟨#[40]⟩ : ByteArray) ++ tnm x.op ++ ⟨#[32]⟩).size + (toB (Lib.itoa x.w)).size ≤ _; rw [ByteArray.size_append, toB_size, z0]; show _ + 1 + _ ≤ _; omega, ?_⟩
      have x15 := x12.trans x5
      have hb5 := hb2.ext x5
      have e5 : ((⟨#[40]⟩ : ByteArray) ++ tnm x.op ++ ⟨#[32]⟩ ++ toB (Lib.itoa x.w)).data.toList = 40 :: (nmB x.op ++ numB x) := by
        have hd : ∀ a b : ByteArray, (a ++ b).data.toList = a.data.toList ++ b.data.toList := fun a b => by simp [ByteArray.data_append]
        rw [hd, hd, e0, toB_list]
        unfold numB
        rw [if_neg h19, if_pos (by omega)]
        simp
    case' d =>
      have hin := inR_not.1 hin
      have x15 := x12
      have hb5 := hb2
      have e5 : ((⟨#[40]⟩ : ByteArray) ++ tnm x.op).data.toList = 40 :: (nmB x.op ++ numB x) := by
        rw [e0]
        unfold numB
        rw [if_neg h19, if_neg (by omega)]
        simp
    all_goals
      refine ⟨_, hb5.2.2.2.2.1, ?_⟩
      refine loop_rule (σ := Nat × ByteArray × Value × Value) [3, 4, 5, 52] 53 64 (fun q => [.string q.2.1, q.2.2.1, q.2.2.2, .int .i64 q.1])
        (fun q w' => Ext W w' ∧ q.1 ≤ k.len ∧ q.2.1.data.toList = 40 :: (nmB x.op ++ (numB x ++ fmF (mkTF ((tms k).take q.1))))) (fun q => k.len - q.1) (0, _, undef, undef) rfl
        ⟨x15, Nat.zero_le _, by show _ = 40 :: (nmB x.op ++ (numB x ++ [])); rw [List.append_nil]; exact e5⟩ ?_
      rintro ⟨i, r, g4, g5⟩ w junk ⟨hx, hi, hr⟩ K hK
      simp only at hi hr
      show vc _ _ _ _ (over [3, 4, 5, 52] [.string r, g4, g5, .int .i64 i] _) _
      have hfl : (fmF (mkTF ((tms k).take i))).length ≤ (fmF k).length := by
        have h1 : fmF k = fmF (mkTF ((tms k).take i)) ++ fmF (mkTF ((tms k).drop i)) := by rw [← fmF_app', List.take_append_drop, mk_tms]
        rw [h1, List.length_append]; omega
      have hrl : r.size ≤ 64 * Tm.sz (x, k) := by
        have h1 : r.data.toList.length = r.size := rfl
        rw [hr] at h1
        simp only [List.length_cons, List.length_append] at h1
        omega
      refine br_dec (fun h3 => ?_) (fun h3 => ?_)
      · have hil : i < k.len := by omega
        have hil' : i < (tms k).length := by rw [tms_len]; exact hil
        obtain ⟨t, ht⟩ : ∃ t, (tms k)[i]? = some t := ⟨_, List.getElem?_eq_getElem hil'⟩
        have hmem : t ∈ tms k := List.mem_of_getElem? ht
        have hti : (tms k)[i]'hil' = t := by rw [List.getElem?_eq_getElem hil'] at ht; exact Option.some.inj ht
        obtain ⟨b, o, c1, s', he, -, -, -, hct, hst⟩ := TSl.kid hs ht
        cases he
        have hk5 := keep5 (W := w) (x := t.1) (tc_one hst)
        have hsz1 : t.sz < Tm.sz (x, k) := by have := lt_kid (x := x) hmem; rwa [mk_tms] at this
        have hokt : OkT t := OkF_mem hok.2 t hmem
        have hlt := fmT_len hokt
        have htl : (fmT t).length ≤ (fmF k).length := by
          have h1 : fmF k = fmF (mkTF ((tms k).take i)) ++ fmF (mkTF ((tms k).drop i)) := by rw [← fmF_app', List.take_append_drop, mk_tms]
          rw [h1, List.drop_eq_getElem_cons hil', hti]
          show _ ≤ (_ ++ fmF (.cons t.1 t.2 _)).length
          rw [fmF_cons, List.length_append, List.length_cons, List.length_append]
          show (fmT t).length ≤ _ + ((fmT t).length + _ + 1)
          omega
        have hrz : (r ++ (⟨#[32]⟩ : ByteArray)).size = r.size + 1 := ByteArray.size_append
        refine ⟨⟨by omega, by omega⟩, tc t.1 s', rfl, hct.ext hx, hk5.1, ?_⟩
        refine ⟨by show r.size + 1 ≤ _; omega, ?_⟩
        refine ⟨tc t.1 s', rfl, hk5.2.1, ?_⟩
        refine Or.inl ((ih t s' _ (by omega) hokt (by omega) (hst.ext (hx.trans hk5.2.2))).mono ?_)
        rintro _ w7 ⟨rfl, x7⟩
        refine ⟨by show (r ++ (⟨#[32]⟩ : ByteArray)).size + (toB (fmT t)).size ≤ _; rw [hrz, toB_size]; omega, ?_⟩
        refine ⟨_, IntWalk.i64_in _ (by omega), ?_⟩
        refine hK (i + 1, r ++ ⟨#[32]⟩ ++ toB (fmT t), _, _) _ _ (vs4 rfl rfl rfl (vint (by show (i : Int) + 1 = ((i + 1 : Nat) : Int); omega))) ⟨(hx.trans hk5.2.2).trans x7, by show i + 1 ≤ k.len; omega, ?_⟩ (by show k.len - (i + 1) < k.len - i; omega) ?_
        · show (r ++ (⟨#[32]⟩ : ByteArray) ++ toB (fmT t)).data.toList = 40 :: (nmB x.op ++ (numB x ++ fmF (mkTF ((tms k).take (i + 1)))))
          have hd : ∀ a b : ByteArray, (a ++ b).data.toList = a.data.toList ++ b.data.toList := fun a b => by simp [ByteArray.data_append]
          rw [hd, hd, hr, toB_list, take_snoc hil', hti, fmF_app', show fmF (mkTF [t]) = 32 :: fmT t from fmF_single t]
          simp
        · ((repeat (first | (with_reducible exact Only.refl) | (with_reducible refine Only.skip ?_) | ((with_reducible refine Only.upd ?_ ?_); rfl) | ((with_reducible refine Only.over ?_ ?_ _); rfl) | ((with_reducible refine Only.hav ?_ ?_ ?_); rfl; rfl))))
      · have hie : i = k.len := by omega
        subst hie
        rw [← tms_len, List.take_length, mk_tms] at hr
        refine ⟨by show r.size + 1 ≤ _; omega, ?_⟩
        refine ⟨vstr ?_, hx⟩
        rw [fm_node (t := (x, k)) hno]
        apply ByteArray.ext
        apply Array.ext'
        have hd : ∀ a b : ByteArray, (a ++ b).data.toList = a.data.toList ++ b.data.toList := fun a b => by simp [ByteArray.data_append]
        rw [hd, hr, toB_list]
        simp
theorem l02Format_ret (t : Tm) (s : Value) (W : World) (hok : OkT t) (hsz : t.sz ≤ 1000000) (hs : TSl anyB W s t.2) : Ret Try.prog 43 #[tv t.1 s] W (FmR t W) := l02Format_all t.sz t s W (Nat.le_refl _) hok hsz hs
noncomputable def fmO (x : Lab) (k : TF) : ByteArray := if TOk x k then toB (fmT (x, k)) else ⟨#[]⟩
theorem fmO_yes {x : Lab} {k : TF} (h : TOk x k) : fmO x k = toB (fmT (x, k)) := if_pos h
theorem fmO_no {x : Lab} {k : TF} (h : ¬ TOk x k) : fmO x k = ⟨#[]⟩ := if_neg h
theorem spec_FormatTerm (x : Lab) (k : TF) (s : Value) (W : World) (hs : TSl anyB W s k) (hx : okL x) (hp : k.All okL) :
    Ret Try.prog 19 #[tv x s] W (fun v w' => v = .string (fmO x k) ∧ Ext W w') := by
  have hb := bx_at W x s
  have x1 := bx_ext W x s
  have h1s : oneB s = true := hs.oneB
  obtain ⟨a, c, rfl, hl, hat⟩ := id hs
  have hyes := fun h => @fmO_yes x k h
  have hno := fun h => @fmO_no x k h
  refine ret_of_vc ties mixed Try.func19 rfl (by kernel_rfl) rfl rfl ?_
  refine ⟨tc x _, rfl, hb, ?_⟩
  refine Or.inl ((spec_TermOk x k _ _ (hs.ext x1) hx hp).mono ?_)
  rintro _ w2 ⟨rfl, x2⟩
  refine br_ndec (fun h => ?_) (fun h => ?_)
  · exact ⟨vstr (hno h).symm, x1.trans x2⟩
  refine ⟨tc x _, rfl, hb.ext x2, ?_⟩
  refine Or.inl ((l02Format_ret (x, k) _ w2 (OkF_one.1 h.2.1) (by have := h.1; show k.size + 1 ≤ _; omega) (hs.ext (x1.trans x2))).mono ?_)
  rintro _ w3 ⟨rfl, x3⟩
  exact ⟨vstr (hyes h).symm, (x1.trans x2).trans x3⟩
end Go.Proofs.Ytekddgkgeaolnaa
