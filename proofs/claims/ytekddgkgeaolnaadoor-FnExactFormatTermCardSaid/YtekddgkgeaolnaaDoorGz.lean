/- writeTerm, FormatTerm of the program. -/
import Derived.Test.YtekddgkgeaolnaaDoorGy
namespace Go.Proofs.YtekddgkgeaolnaaDoor.Bu
open Go Go.Vc Go.RowKit
set_option linter.unusedVariables false

theorem app_d (a b : ByteArray) : (a ++ b).data.toList = a.data.toList ++ b.data.toList := by simp [ByteArray.data_append]
set_option maxHeartbeats 2000000 in
theorem writeTerm_all (W0 : World) (htab : TabP W0) : ∀ n, WtS W0 n := by
  intro n
  induction n with
  | zero => intro t s b l w h; have : t.sz = t.2.size + 1 := rfl; omega
  | succ n ih =>
    rintro ⟨x, k⟩ s b l w0 hn hok hsz hll hs hx0 hb0
    change TSl anyB W0 s k at hs
    have hlm : (maxLen : Int) ≤ 9223372036854775807 := by decide
    have hw : inI x.w := nin_w hok.1
    have hnn : inI x.n := nin_n hok.1
    have hlw := itoa_len hw
    have hln := itoa_len hnn
    have hlen := fmT_len hok
    have hnm : x.op = 22 → x.name.size ≤ 8 := fun h => (of_decide_eq_true (hok.1.name h)).2.1
    have hge := hb0.ge
    obtain ⟨a, c, rfl, hl, hat⟩ := id hs
    have h1 := Wr.make (s := .slice a k.len c) x hx0 hb0
    have hcb := h1.cells
    have hnS := h1.notS
    have hlS := h1.lowS hge.1
    have tabOf : ∀ w', Chg (Sw W0.heap.size b (bxW w0 x (.slice a k.len c))) (bxW w0 x (.slice a k.len c)) w' → TabP w' := fun w' hc => tab_chg htab h1.ext hc hlS
    have tabE : ∀ w', Ext W0 w' → TabP w' := fun w' hc => Lib.tabBelow_of_tabIs htab w' hc
    have hfin : ∀ {w : World} {m : List UInt8}, Wr W0 b w0.heap.size x (.slice a k.len c) w0 m w → m = l ++ fmT (x, k) → WtR W0 b (l ++ fmT (x, k)) w0 (.tuple #[]) w := fun h e => h.fin e
    refine ret_of_vc ties mixed Tryd.func58 rfl (by kernel_rfl) rfl rfl ?_
    refine ⟨_, hcb.1, ?_⟩
    refine br_dec (fun h0 => ?_) (fun h0 => ?_)
    · refine .inr (.inr (hyb_ruleS (Sw W0.heap.size b (bxW w0 x (.slice a k.len c))) ties mixed [(0, .quiet), (1, .quiet), (2, .quiet), (3, .quiet), (4, .quiet), (5, .quiet), (6, .quiet), (7, .quiet), (8, .quiet), (9, .loud)] (by kernel_rfl) ?_))
      refine ⟨hnS, _, hcb.2.1, .string (itoaB x.w), fun w' hc => impl_FormatInt x.w hw w' (tabOf w' hc), ?_⟩
      have z1 := itoaB_size hw
      have z2 := itoaB_size hnn
      have z3 : (itoaB x.w ++ (⟨#[58]⟩ : ByteArray)).size = (itoaB x.w).size + 1 := ByteArray.size_append
      have z4 : (itoaB x.w ++ (⟨#[58]⟩ : ByteArray) ++ itoaB x.n).size = (itoaB x.w).size + 1 + (itoaB x.n).size := by rw [ByteArray.size_append, z3]
      refine ⟨by show (itoaB x.w).size + 1 ≤ _; omega, hnS, _, hcb.2.2.1, .string (itoaB x.n), fun w' hc => impl_FormatInt x.n hnn w' (tabOf w' hc), by show (itoaB x.w ++ (⟨#[58]⟩ : ByteArray)).size + (itoaB x.n).size ≤ _; omega, ?_⟩
      intro w2 x2
      refine Or.inl ((write_ret W0.heap.size b l (itoaB x.w ++ (⟨#[58]⟩ : ByteArray) ++ itoaB x.n) w2 (h1.more x2).bl (by omega) (h1.more x2).ext.size).mono ?_)
      rintro _ w3 ⟨rfl, hb3, e3, k3⟩
      refine ⟨chg_write x2 e3 k3, ?_⟩
      intro w4 x4
      refine hfin (((h1.more x2).wrote hb3 e3 k3).more x4) ?_
      rw [fm_leaf (t := (x, k)) (.inl h0)]
      show _ = l ++ leafB x
      unfold leafB
      rw [if_pos h0, app_d, app_d]
      simp [itoaB]
    refine br_dec (fun h22 => ?_) (fun h22 => ?_)
    · have hns := hnm h22
      have z1 := itoaB_size hw
      have z3 : (x.name ++ (⟨#[58]⟩ : ByteArray)).size = x.name.size + 1 := ByteArray.size_append
      have z4 : (x.name ++ (⟨#[58]⟩ : ByteArray) ++ itoaB x.w).size = x.name.size + 1 + (itoaB x.w).size := by rw [ByteArray.size_append, z3]
      refine .inr (.inr (hyb_ruleS (Sw W0.heap.size b (bxW w0 x (.slice a k.len c))) ties mixed [(0, .quiet), (1, .quiet), (2, .quiet), (3, .quiet), (4, .quiet), (5, .quiet), (6, .quiet), (7, .quiet), (8, .loud)] (by kernel_rfl) ?_))
      refine ⟨hnS, _, hcb.2.2.2.1, by show x.name.size + 1 ≤ _; omega, hnS, _, hcb.2.1, .string (itoaB x.w), fun w' hc => impl_FormatInt x.w hw w' (tabOf w' hc), by show (x.name ++ (⟨#[58]⟩ : ByteArray)).size + (itoaB x.w).size ≤ _; omega, ?_⟩
      intro w2 x2
      refine Or.inl ((write_ret W0.heap.size b l (x.name ++ (⟨#[58]⟩ : ByteArray) ++ itoaB x.w) w2 (h1.more x2).bl (by omega) (h1.more x2).ext.size).mono ?_)
      rintro _ w3 ⟨rfl, hb3, e3, k3⟩
      refine ⟨chg_write x2 e3 k3, ?_⟩
      intro w4 x4
      refine hfin (((h1.more x2).wrote hb3 e3 k3).more x4) ?_
      rw [fm_leaf (t := (x, k)) (.inr h22)]
      show _ = l ++ leafB x
      unfold leafB
      rw [if_neg h0, app_d, app_d]
      simp [itoaB]
    have hno : ¬ (x.op = 0 ∨ x.op = 22) := by omega
    have hts := tnm_size x.op
    have hnl : (nmB x.op).length = (tnm x.op).size := rfl
    rw [fm_node (t := (x, k)) hno] at hlen
    have hlen : (40 :: (nmB x.op ++ (numB x ++ (fmF k ++ [41])))).length ≤ 64 * Tm.sz (x, k) := hlen
    simp only [List.length_cons, List.length_append, List.length_nil] at hlen
    have hnum : (numB x).length ≤ 44 := numB_len hok.1
    refine ⟨_, hcb.1, ?_⟩
    refine Or.inl ((termWord_ret x.op _).mono ?_)
    rintro _ w2 ⟨rfl, x2⟩
    have h2 := h1.more x2
    have z0 : ((⟨#[40]⟩ : ByteArray) ++ tnm x.op).size = 1 + (tnm x.op).size := ByteArray.size_append
    refine ⟨by show 1 + (tnm x.op).size ≤ _; omega, ?_⟩
    refine Or.inl ((write_ret W0.heap.size b l ((⟨#[40]⟩ : ByteArray) ++ tnm x.op) w2 h2.bl (by omega) h2.ext.size).mono ?_)
    rintro _ w3 ⟨rfl, hb3, e3, k3⟩
    have h3 := h2.wrote hb3 e3 k3
    have e0 : l ++ ((⟨#[40]⟩ : ByteArray) ++ tnm x.op).data.toList = l ++ 40 :: nmB x.op := by rw [app_d]; simp [nmB]
    rw [e0] at h3
    refine ⟨_, h3.cells.1, ?_⟩
    refine br_dec (fun h19 => ?ca) (fun h19 => ?cb)
    case' ca =>
      have z1 := itoaB_size hw
      have z2 := itoaB_size hnn
      have z5 : ((⟨#[32]⟩ : ByteArray) ++ itoaB x.n).size = 1 + (itoaB x.n).size := ByteArray.size_append
      have z6 : ((⟨#[32]⟩ : ByteArray) ++ itoaB x.w).size = 1 + (itoaB x.w).size := ByteArray.size_append
      refine ⟨_, h3.cells.2.2.1, ?_⟩
      refine Or.inl ((impl_FormatInt x.n hnn w3 (tabE w3 h3.ext)).mono ?_)
      rintro _ w4 ⟨rfl, x4⟩
      have h4 := h3.more x4
      refine ⟨by show 1 + (itoaB x.n).size ≤ _; omega, ?_⟩
      refine Or.inl ((write_ret W0.heap.size b _ ((⟨#[32]⟩ : ByteArray) ++ itoaB x.n) w4 h4.bl (by simp only [List.length_append, List.length_cons]; omega) h4.ext.size).mono ?_)
      rintro _ w5 ⟨rfl, hb5, e5, k5⟩
      have h5 := h4.wrote hb5 e5 k5
      refine ⟨_, h5.cells.1, ?_⟩
      repeat refine br_dec_true h19 ?_
      refine ⟨_, h5.cells.2.1, ?_⟩
      refine Or.inl ((impl_FormatInt x.w hw w5 (tabE w5 h5.ext)).mono ?_)
      rintro _ w6 ⟨rfl, x6⟩
      have h6 := h5.more x6
      refine ⟨by show 1 + (itoaB x.w).size ≤ _; omega, ?_⟩
      refine Or.inl ((write_ret W0.heap.size b _ ((⟨#[32]⟩ : ByteArray) ++ itoaB x.w) w6 h6.bl (by rw [app_d]; simp only [List.length_append, List.length_cons]; show l.length + _ + (1 + _) + _ ≤ _; rw [show (itoaB x.n).data.toList.length = (itoaB x.n).size from rfl]; omega) h6.ext.size).mono ?_)
      rintro _ w9 ⟨rfl, hb9, e9, k9⟩
      have h9 := h6.wrote hb9 e9 k9
      have q9 : l ++ 40 :: nmB x.op ++ ((⟨#[32]⟩ : ByteArray) ++ itoaB x.n).data.toList ++ ((⟨#[32]⟩ : ByteArray) ++ itoaB x.w).data.toList = l ++ 40 :: (nmB x.op ++ numB x) := by
        rw [app_d, app_d]
        unfold numB
        rw [if_pos h19, if_pos (by omega)]
        simp [itoaB]
      rw [q9] at h9
    case' cb =>
      refine ⟨_, h3.cells.1, ?_⟩
      repeat refine br_dec_false h19 ?_
      refine ⟨_, h3.cells.1, ?_⟩
      refine br_dec (fun h20 => ?cc) (fun h20 => ?cd)
    case' cc =>
      repeat refine br_dec_true h20 ?_
      have z1 := itoaB_size hw
      have z6 : ((⟨#[32]⟩ : ByteArray) ++ itoaB x.w).size = 1 + (itoaB x.w).size := ByteArray.size_append
      refine ⟨_, h3.cells.2.1, ?_⟩
      refine Or.inl ((impl_FormatInt x.w hw w3 (tabE w3 h3.ext)).mono ?_)
      rintro _ w6 ⟨rfl, x6⟩
      have h6 := h3.more x6
      refine ⟨by show 1 + (itoaB x.w).size ≤ _; omega, ?_⟩
      refine Or.inl ((write_ret W0.heap.size b _ ((⟨#[32]⟩ : ByteArray) ++ itoaB x.w) w6 h6.bl (by simp only [List.length_append, List.length_cons]; omega) h6.ext.size).mono ?_)
      rintro _ w9 ⟨rfl, hb9, e9, k9⟩
      have h9 := h6.wrote hb9 e9 k9
      have q9 : l ++ 40 :: nmB x.op ++ ((⟨#[32]⟩ : ByteArray) ++ itoaB x.w).data.toList = l ++ 40 :: (nmB x.op ++ numB x) := by
        rw [app_d]
        unfold numB
        rw [if_neg h19, if_pos (by omega)]
        simp [itoaB]
      rw [q9] at h9
    case' cd =>
      repeat refine br_dec_false h20 ?_
      refine ⟨_, h3.cells.1, ?_⟩
      refine br_dec (fun h21 => ?ce) (fun h21 => ?cf)
    case' ce =>
      have z1 := itoaB_size hw
      have z6 : ((⟨#[32]⟩ : ByteArray) ++ itoaB x.w).size = 1 + (itoaB x.w).size := ByteArray.size_append
      refine ⟨_, h3.cells.2.1, ?_⟩
      refine Or.inl ((impl_FormatInt x.w hw w3 (tabE w3 h3.ext)).mono ?_)
      rintro _ w6 ⟨rfl, x6⟩
      have h6 := h3.more x6
      refine ⟨by show 1 + (itoaB x.w).size ≤ _; omega, ?_⟩
      refine Or.inl ((write_ret W0.heap.size b _ ((⟨#[32]⟩ : ByteArray) ++ itoaB x.w) w6 h6.bl (by simp only [List.length_append, List.length_cons]; omega) h6.ext.size).mono ?_)
      rintro _ w9 ⟨rfl, hb9, e9, k9⟩
      have h9 := h6.wrote hb9 e9 k9
      have q9 : l ++ 40 :: nmB x.op ++ ((⟨#[32]⟩ : ByteArray) ++ itoaB x.w).data.toList = l ++ 40 :: (nmB x.op ++ numB x) := by
        rw [app_d]
        unfold numB
        rw [if_neg h19, if_pos (by omega)]
        simp [itoaB]
      rw [q9] at h9
    case' cf =>
      have h9 := h3
      have q9 : l ++ 40 :: nmB x.op = l ++ 40 :: (nmB x.op ++ numB x) := by
        unfold numB
        rw [if_neg h19, if_neg (by omega)]
        simp
      rw [q9] at h9
    all_goals
      refine ⟨_, h9.cells.2.2.2.2.1, ?_⟩
      refine loop_rule (σ := Nat × Value) [4, 67] 68 82 (fun q => [q.2, .int .i64 q.1])
        (fun q w' => q.1 ≤ k.len ∧ Wr W0 b w0.heap.size x (.slice a k.len c) w0 (l ++ 40 :: (nmB x.op ++ (numB x ++ fmF (mkTF ((tms k).take q.1))))) w') (fun q => k.len - q.1) (0, undef) rfl
        ⟨Nat.zero_le _, by show Wr _ _ _ _ _ _ (l ++ 40 :: (nmB x.op ++ (numB x ++ []))) _; rw [List.append_nil]; exact h9⟩ ?_
      rintro ⟨i, g4⟩ w junk ⟨hi, hr⟩ K hK
      simp only at hi hr
      show vc _ _ _ _ (over [4, 67] [g4, .int .i64 i] _) _
      have hfl : (fmF (mkTF ((tms k).take i))).length ≤ (fmF k).length := by
        have h1 : fmF k = fmF (mkTF ((tms k).take i)) ++ fmF (mkTF ((tms k).drop i)) := by rw [← fmF_app', List.take_append_drop, mk_tms]
        rw [h1, List.length_append]; omega
      refine br_dec (fun h5 => ?_) (fun h5 => ?_)
      · have hil : i < k.len := by omega
        have hil' : i < (tms k).length := by rw [tms_len]; exact hil
        obtain ⟨t, ht⟩ : ∃ t, (tms k)[i]? = some t := ⟨_, List.getElem?_eq_getElem hil'⟩
        have hmem : t ∈ tms k := List.mem_of_getElem? ht
        have hti : (tms k)[i]'hil' = t := by rw [List.getElem?_eq_getElem hil'] at ht; exact Option.some.inj ht
        obtain ⟨b', o, c1, s', he, -, -, -, hct, hst⟩ := TSl.kid hs ht
        cases he
        have hsz1 : t.sz < Tm.sz (x, k) := by have := lt_kid (x := x) hmem; rwa [mk_tms] at this
        have hokt : OkT t := OkF_mem hok.2 t hmem
        have hsum : t.sz + ((mkTF ((tms k).take i)).size) ≤ k.size := by
          have h1 : k.size = (mkTF ((tms k).take i)).size + (mkTF ((tms k).drop i)).size := by
            rw [size_mk, size_mk, ← List.sum_append_nat, ← List.map_append, List.take_append_drop, ← size_mk, mk_tms]
          rw [h1, List.drop_eq_getElem_cons hil', hti]
          show t.2.size + 1 + _ ≤ _ + (t.2.size + _ + 1)
          omega
        have hpre := fmF_len (mkTF ((tms k).take i)) (OkF_mk fun u hu => OkF_mem hok.2 u (List.mem_of_mem_take hu))
        have hks : Tm.sz (x, k) = k.size + 1 := rfl
        refine Or.inl ((write_ret W0.heap.size b _ (⟨#[32]⟩ : ByteArray) w hr.bl (by show _ + 1 ≤ _; simp only [List.length_append, List.length_cons]; omega) hr.ext.size).mono ?_)
        rintro _ w7 ⟨rfl, hb7, e7, k7⟩
        have h7 := hr.wrote hb7 e7 k7
        refine ⟨_, h7.cells.2.2.2.2.1, ⟨by omega, by omega⟩, tc t.1 s', rfl, hct.ext h7.ext, ?_⟩
        refine Or.inl ((ih t s' b _ w7 (by omega) hokt (by omega) (by show ((l ++ 40 :: (nmB x.op ++ (numB x ++ fmF (mkTF ((tms k).take i))))) ++ [32]).length + _ ≤ _; simp only [List.length_append, List.length_cons, List.length_nil]; omega) hst h7.ext h7.bl).mono ?_)
        rintro _ w8 ⟨rfl, x8, hb8, k8⟩
        have h8 := h7.sub x8 hb8 k8
        refine ⟨_, IntWalk.i64_in _ (by omega), ?_⟩
        refine hK (i + 1, _) _ _ (vs2 rfl (vint (by show (i : Int) + 1 = ((i + 1 : Nat) : Int); omega))) ⟨by show i + 1 ≤ k.len; omega, ?_⟩ (by show k.len - (i + 1) < k.len - i; omega) ?_
        · have e8 : l ++ 40 :: (nmB x.op ++ (numB x ++ fmF (mkTF ((tms k).take i)))) ++ (⟨#[32]⟩ : ByteArray).data.toList ++ fmT t = l ++ 40 :: (nmB x.op ++ (numB x ++ fmF (mkTF ((tms k).take (i + 1))))) := by
            rw [take_snoc hil', hti, fmF_app', fmF_single]
            simp
          rw [e8] at h8
          exact h8
        · ((repeat (first | (with_reducible exact Only.refl) | (with_reducible refine Only.skip ?_) | ((with_reducible refine Only.upd ?_ ?_); rfl) | ((with_reducible refine Only.over ?_ ?_ _); rfl) | ((with_reducible refine Only.hav ?_ ?_ ?_); rfl; rfl))))
      · have hie : i = k.len := by omega
        subst hie
        have etk : (tms k).take k.len = tms k := by rw [← tms_len, List.take_length]
        rw [etk, mk_tms] at hr
        refine Or.inl ((write_ret W0.heap.size b _ (⟨#[41]⟩ : ByteArray) w hr.bl (by show _ + 1 ≤ _; simp only [List.length_append, List.length_cons]; omega) hr.ext.size).mono ?_)
        rintro _ w7 ⟨rfl, hb7, e7, k7⟩
        refine hfin (hr.wrote hb7 e7 k7) ?_
        rw [fm_node (t := (x, k)) hno]
        simp
theorem impl_FormatTerm (x : Lab) (k : TF) (s : Value) (W : World) (hs : TSl anyB W s k) (hx : okL x) (hp : k.All okL) (htab : TabP W) :
    Ret Tryd.prog 31 #[tv x s] W (fun v w' => v = .string (fmO x k) ∧ Ext W w') := by
  have hb := bx_at W x s
  have x1 := bx_ext W x s
  have h1s : oneB s = true := hs.oneB
  obtain ⟨a, c, rfl, hl, hat⟩ := id hs
  have hyes := fun h => @fmO_yes x k h
  have hno := fun h => @fmO_no x k h
  refine ret_of_vc ties mixed Tryd.func31 rfl (by kernel_rfl) rfl rfl ?_
  refine ⟨tc x _, rfl, hb, ?_⟩
  refine Or.inl ((impl_TermOk x k _ _ (hs.ext x1) hx hp).mono ?_)
  rintro _ w2 ⟨rfl, x2⟩
  have x12 := x1.trans x2
  refine br_ndec (fun h => ?_) (fun h => ?_)
  · exact ⟨vstr (hno h).symm, x12⟩
  have hbl := Bl.new w2
  have x3 : Ext w2 (w2.alloc (.cells #[.pointer none, .slice none 0 0] 66)) := Ext.new _ _
  have hsz : k.size + 1 ≤ 240 := h.1
  refine ⟨tc x _, rfl, (hb.ext x2).ext x3, ?_⟩
  refine Or.inl ((writeTerm_all w2 (Lib.tabBelow_of_tabIs htab w2 x12) (k.size + 1) (x, k) _ w2.heap.size [] _ (Nat.le_refl _) (OkF_one.1 h.2.1) (by show k.size + 1 ≤ _; omega) (by show 0 + 64 * (k.size + 1) ≤ _; omega) (hs.ext x12) x3 hbl).mono ?_)
  rintro _ w4 ⟨rfl, x4, hb4, k4⟩
  refine Or.inl ((string_ret w2.heap.size w2.heap.size _ w4 hb4 x4.size).mono ?_)
  rintro _ w5 ⟨rfl, k5⟩
  exact ⟨vstr (by rw [hyes h]; rfl), x12.trans (Below.trans x4 k5)⟩
end Go.Proofs.YtekddgkgeaolnaaDoor.Bu
