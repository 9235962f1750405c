/- The reference's Search. -/
import Derived.Test.YtfmflffggcphjaaSf
namespace Go.Sat
open Go.Vc
theorem take_snoc' {α : Type} {l : List α} {k : Nat} (h : k < l.length) : l.take (k + 1) = l.take k ++ [l[k]'h] := List.take_succ_eq_append_getElem h
theorem srch_vals {F : Cnf} {n limit : Nat} : ∀ (k : Nat) (v : List Int) (made : Nat), Vals n v → (∀ c ∈ F, Fine v c) → (srch F n limit k v made).code = 1 → Vals n (srch F n limit k v made).vals := by
  intro k
  induction k with
  | zero => intro v made _ _ h; cases h
  | succ k ih =>
    intro v made hv hf
    have hbr : ∀ u m, (branch F n (srch F n limit k) u m).code = 1 → Vals n (branch F n (srch F n limit k) u m).vals := fun u m => by
      unfold branch
      split
      · intro h; cases h
      · rename_i o he
        have : ∃ o, upF F n u = some o := ⟨_, he⟩
        unfold upF at he
        split at he
        · rename_i h'
          have hu := h'.choose_spec
          cases he
          cases hu with
          | yes h1 h2 _ _ => exact ih _ _ h1 h2
        · cases he
    rw [srch]
    split
    · intro _; exact hv
    · split
      · intro h; cases h
      · dsimp only
        split
        · split
          · intro h; cases h
          · exact hbr _ _
        · exact hbr _ _
end Go.Sat
namespace Go.Proofs.Ytfmflffggcphjaa
open Go Go.Vc Go.RowKit Go.Sat
set_option linter.unusedVariables false

theorem SeaO.len {n : Int} {F : Cnf} {lits : List Int} {limit : Int} {r : Res} (h : SeaO n F lits limit r) : (modL r).length ≤ 100000000 := by
  unfold SeaO at h
  split at h
  · rename_i hc
    have hn := fOk_n' hc.1
    obtain ⟨o, ho, rfl⟩ := h
    unfold modL
    split
    · rename_i h1
      have hv : Vals n.toNat (seaRes F n.toNat limit.toNat o).vals := by
        cases ho with
        | no h => cases h1
        | yes g1 g2 _ _ => exact srch_vals _ _ _ g1 g2 h1
      have := hv.len
      simp only [modelOf, List.length_map, List.length_tail]
      omega
    · simp
  · rw [h]; simp [modL]
/-- A search of the reference from the start. -/
theorem try_top (n : Nat) (F : Cnf) (m : Nat) (hF : fOk n F = true) (hlim : m ≤ 3000) (B0 : Nat) (lits v : List Int) (s vs : Value) (W : World) (hB : B0 ≤ W.heap.size) (hs : SlR eL (oldB B0) W s F) (hown : OwnR eI noB W vs v) (hv : Vals n v) (hm : ∀ l, tr v l ↔ l ∈ lits) (hvb : ∀ b, blk vs b → B0 ≤ b) :
    Ret Try.prog 99 #[.pointer (some ⟨W.heap.size, 0, none⟩), vs] (W.alloc (.cells #[.int .i64 n, s, .int .i64 m, .int .i64 0, .bool false] 113)) (fun r w' => ∃ o R rs x ps, Upr F n (fun l => l ∈ lits) o ∧ R = seaRes F n m o ∧ (R.code = 1 ∨ R.code = 2 ∨ R.code = 3) ∧ (R.code = 1 → Vals n R.vals) ∧
      Chg (fun b => b = W.heap.size ∨ blk vs b) W w' ∧ Wrk W.heap.size w' n s m R.made (decide (R.code = 3)) ∧ r = .tuple #[rs, .agg #[.int .i64 x, ps], .bool (decide (R.code = 1))] ∧ oneB ps = true ∧ (R.code = 1 → SlR eI allB w' rs R.vals) ∧ (R.code = 2 → x = R.tree.1 ∧ PSl (freshB W) w' ps R.tree.2)) := by
  have x5 : Ext W (W.alloc (.cells #[.int .i64 n, s, .int .i64 m, .int .i64 0, .bool false] 113)) := Ext.new _ _
  have hw5 : Wrk W.heap.size (W.alloc (.cells #[.int .i64 n, s, .int .i64 m, .int .i64 0, .bool false] 113)) n s m 0 false := ⟨boxedAll W [.int .i64 n, s, .int .i64 m, .int .i64 0, .bool false] _, Rmy.new W [.int .i64 n, s, .int .i64 m, .int .i64 0, .bool false] _⟩
  have hvl := hv.len
  have hvsW := hown.blk_lt (by omega)
  have hzv := zeros_le v
  refine (try_ret n F m hF hlim B0 W.heap.size s hB (n + 2) v 0 (by omega) hv (Nat.zero_le _) vs _ hw5 (hs.ext x5) (hown.ext x5) (fun b hb => ⟨hvb b hb, by have := hvsW b hb; omega⟩)).mono ?_
  rintro r w' ⟨⟨o, ho⟩, hch, hw, rs, x, ps, rfl, hone, hyes, hno⟩
  have hR : branch F n (srch F n m (n + 2)) v 0 = seaRes F n m o := by
    unfold branch
    rw [upF_eq ho]
    cases o <;> rfl
  have hcode := branch_code (F := F) (n := n) (limit := m) (k := n + 2) (u := v) (m := 0)
  have hvals : (seaRes F n m o).code = 1 → Vals n (seaRes F n m o).vals := by
    cases ho with
    | no h => intro h; cases h
    | yes h1 h2 _ _ => exact srch_vals _ _ _ h1 h2
  rw [hR] at hw hyes hcode hno ⊢
  refine ⟨o, _, rs, x, ps, Upr.base (A := fun l => l ∈ lits) (fun l h => (hm l).2 h) (fun l h => .base ((hm l).1 h)) ho, rfl, hcode, hvals, (Chg.of x5).trans hch, hw, rfl, hone, fun h => (hyes h).any, fun h => ⟨(hno h).1, ?_⟩⟩
  refine (hno h).2.mono fun b hb => ?_
  have := x5.size
  unfold freshB at *
  omega

set_option maxHeartbeats 4000000 in
theorem spec_Search (n : Int) (F : Cnf) (lits : List Int) (limit : Int) (s t : Value) (W : World) (hs : SlR eL allB W s F) (ht : SlR eI allB W t lits) :
    Ret Try.prog 57 #[fv n s, t, .int .i64 limit] W (SeaR n F lits limit W) := by
  have hlm : (maxLen : Int) ≤ 9223372036854775807 := by decide
  have x1 : Ext W (W.alloc (.cells #[.int .i64 n, s] 25)) := Ext.new _ _
  have hb := boxedAll W [.int .i64 n, s] 25
  have nothing : ∀ {w' : World}, Ext W w' → ¬ (fOk n F = true ∧ litsOk n lits = true ∧ 0 ≤ limit ∧ limit ≤ 3000) → SeaR n F lits limit W (.tuple #[.int .i64 0, .slice none 0 0, .int .i64 0]) w' := fun hx h => ⟨hx, ⟨0, [], 0, (0, .nil)⟩, (by unfold SeaO; rw [if_neg h]), .slice none 0 0, rfl, OwnR.nil _ _ _ _, fun b hb => hb.elim⟩
  refine ret_of_vc ties mixed Try.func57 rfl (by kernel_rfl) rfl rfl ?_
  refine ⟨[.int .i64 n, s], rfl, hb, ?_⟩
  refine Or.inl ((spec_FormulaOk n F s _ (hs.ext x1)).mono ?_)
  rintro _ w2 ⟨rfl, x2⟩
  have x12 := x1.trans x2
  refine br_not (fun h => ?_) (fun hF => ?_)
  · exact nothing x12 (by simp [h])
  have hn := fOk_n' hF
  refine ⟨_, (hb.ext x2).1, ?_⟩
  refine Or.inl ((spec_l03Lits lits t n _ (ht.ext x12) hn.1 hn.2.1).mono ?_)
  rintro _ w3 ⟨rfl, e⟩
  subst e
  refine br_not (fun h => ?_) (fun hL => ?_)
  · exact nothing x12 (by simp [h])
  have hlits := litsOk_iff.1 hL
  refine Or.inl ((l01In_ret limit 0 3000 _).mono ?_)
  rintro _ _ ⟨rfl, rfl⟩
  refine br_ndec (fun h => ?_) (fun hlm => ?_)
  · exact nothing x12 fun h' => h h'.2.2
  obtain ⟨N, rfl⟩ : ∃ N : Nat, n = N := ⟨n.toNat, by omega⟩
  obtain ⟨m, rfl⟩ : ∃ m : Nat, limit = m := ⟨limit.toNat, by omega⟩
  have hsea : ∀ o, Upr F N (fun l => l ∈ lits) o → SeaO N F lits m (seaRes F N m o) := fun o ho => by
    unfold SeaO
    rw [if_pos ⟨hF, hL, hlm⟩]
    exact ⟨o, by rwa [Int.toNat_natCast], by rw [Int.toNat_natCast, Int.toNat_natCast]⟩
  refine ⟨_, (hb.ext x2).1, ?_⟩
  refine Or.inl ((l03Set_ret N lits t _ (ht.ext x12) (by omega) hlits).mono ?_)
  rintro r w4 ⟨x4, ⟨rfl, l, h1, h2⟩ | ⟨vs, v, rfl, hown, hv, hm, hvb⟩⟩
  · exact ⟨x12.trans x4, _, hsea none (.no (.inl ⟨l, .base h1, .base h2⟩)), .slice none 0 0, rfl, OwnR.nil _ _ _ _, fun b hb => hb.elim⟩
  have x14 := x12.trans x4
  refine ⟨[.int .i64 N, s], rfl, hb.ext (x2.trans x4), ?_⟩
  refine Or.inl ((try_top N F m hF (by omega) w2.heap.size lits v s vs w4 x4.size (((hs.ext x12).lt.mono fun b hb => hb.2).ext x4) hown hv hm hvb).mono ?_)
  rintro r w6 ⟨o, R, rs, x6, ps, hup', hRR, hcode, hvals, hch6, hw6, rfl, hone6, hyes, -⟩
  have hsR := hsea o hup'
  rw [← hRR] at hsR
  clear hRR hsea
  have x6a : Ext W w6 := (x14.chg hch6 fun b hb => hb.elim (fun e => by have := x14.size; omega) (fun e => Nat.le_trans x12.size (hvb b e)))
  have r7 := Rmy.new w6 [.int .i64 0, .slice none 0 0] 39
  refine ⟨r7.all [.int .i64 x6, ps] 0 (Nat.le_refl 2) (by simp only [List.all_cons, hone6]; rfl), ?_⟩
  have x7 : Ext w6 (setCells (w6.alloc (.cells #[.int .i64 0, .slice none 0 0] 39)) w6.heap.size 0 [.int .i64 x6, ps]) := Ext.setCells _ (Ext.new _ _) (Nat.le_refl _)
  have hw7 := hw6.ext x7
  have x7a := x6a.trans x7
  refine br_ndec (fun h1 => ?_) (fun h1 => ?_)
  · have hmod : modL R = [] := by unfold modL; rw [if_neg h1]
    have hcg : ∀ c : Int, R.code = c → Value.tuple #[.int .i64 c, .slice none 0 0, .int .i64 R.made] = Value.tuple #[.int .i64 R.code, .slice none 0 0, .int .i64 R.made] := by rintro _ rfl; rfl
    have hnil : ∀ w', OwnR eB noB w' (.slice none 0 0) (modL R) := fun w' => by rw [hmod]; exact OwnR.nil _ _ _ _
    refine ⟨_, hw7.cells.2.2.2.2.1, ?_⟩
    refine br_dec (fun h3 => ?_) (fun h3 => ?_)
    · refine .inl ⟨by kernel_rfl, _, hw7.cells.2.2.2.1, ?_⟩
      intro w8 hx8
      exact ⟨x7a.trans hx8, R, hsR, .slice none 0 0, Eq.trans (b := Value.tuple #[.int .i64 3, .slice none 0 0, .int .i64 R.made]) rfl (hcg 3 h3), hnil w8, fun b hb => hb.elim⟩
    · refine .inl ⟨by kernel_rfl, _, hw7.cells.2.2.2.1, ?_⟩
      intro w8 hx8
      exact ⟨x7a.trans hx8, R, hsR, .slice none 0 0, Eq.trans (b := Value.tuple #[.int .i64 2, .slice none 0 0, .int .i64 R.made]) rfl (hcg 2 (by omega)), hnil w8, fun b hb => hb.elim⟩
  have hmod : modL R = modelOf R.vals := by unfold modL; rw [if_pos h1]
  have hv' := hvals h1
  have hsl := ((hyes h1).ext x7)
  have hul := hv'.len
  refine Exists.elim hsl fun va h => Exists.elim h fun vcp hv2 => ?_
  have he := hv2.1
  subst he
  have hat := hv2.2.2.2.resolve_left (by omega)
  refine Exists.elim hat fun b h => Exists.elim h fun o' hb' => ?_
  have hva := hb'.1
  subst hva
  have hra := hb'.2.2
  have hvcp := hv2.2.1
  have hvcm := hv2.2.2.1
  refine Exists.elim (show ∃ o2, (if vcp = (1 : Int).toNat then some (⟨b, o', none⟩ : Addr) else (some (⟨b, o', none⟩ : Addr)).map (·.add ((1 : Int).toNat * 1))) = some ⟨b, o2, none⟩ ∧ (N ≠ 0 → o2 = o' + 1) from ?_) fun o2 ho2 => ?_
  · by_cases h : vcp = (1 : Int).toNat
    · exact ⟨o', by rw [if_pos h], fun h' => by have : (1 : Int).toNat = 1 := rfl; omega⟩
    · exact ⟨o' + 1, by rw [if_neg h]; rfl, fun _ => rfl⟩
  have h68 : Value.slice (if vcp = (1 : Int).toNat then some (⟨b, o', none⟩ : Addr) else (some (⟨b, o', none⟩ : Addr)).map (·.add ((1 : Int).toNat * 1))) ((R.vals.length : Int).toNat - (1 : Int).toNat) (vcp - (1 : Int).toNat) = .slice (some ⟨b, o2, none⟩) N (vcp - 1) := by
    rw [ho2.1, show (R.vals.length : Int).toNat - (1 : Int).toNat = N from by have : (1 : Int).toNat = 1 := rfl; omega]
    rfl
  have hml : (modelOf R.vals).length = N := by simp [modelOf, hul]
  have hcellAt : ∀ k : Nat, k < N → (setCells (w6.alloc (.cells #[.int .i64 0, .slice none 0 0] 39)) w6.heap.size 0 [.int .i64 x6, ps]).cell? ⟨b, o2 + (k : Int).toNat * 1, none⟩ = some (.int .i64 (R.vals.getD (k + 1) 0)) ∧ (modelOf R.vals).take (k + 1) = (modelOf R.vals).take k ++ [decide (0 < R.vals.getD (k + 1) 0)] := by
    intro k hk
    have hkl : k + 1 < R.vals.length := by omega
    have hko : o2 = o' + 1 := ho2.2 (by omega)
    obtain ⟨cs1, hcell, hcs1⟩ := hra.get (List.getElem?_eq_getElem hkl)
    cases hcs1
    have hgd : R.vals.getD (k + 1) 0 = R.vals[k + 1]'hkl := by rw [List.getD_eq_getElem?_getD, List.getElem?_eq_getElem hkl]; rfl
    have hml' : k < (modelOf R.vals).length := by omega
    have hsn := take_snoc hml'
    have hgm : (modelOf R.vals)[k]'hml' = decide (0 < R.vals[k + 1]'hkl) := by simp [modelOf]
    rw [hgm] at hsn
    rw [hgd]
    refine ⟨?_, hsn⟩
    have := hcell.1
    rwa [show o' + (k + 1) * eI.m = o2 + (k : Int).toNat * 1 from by show o' + (k + 1) * 1 = _; omega] at this
  refine ⟨by omega, ?_⟩
  refine loop_rule (σ := Nat × Value × Value) [14, 16, 68, 70] 71 80 (fun q => [q.2.1, q.2.2, .slice (some ⟨b, o2, none⟩) N (vcp - 1), .int .i64 q.1])
    (fun q w' => Ext (setCells (w6.alloc (.cells #[.int .i64 0, .slice none 0 0] 39)) w6.heap.size 0 [.int .i64 x6, ps]) w' ∧ q.1 ≤ N ∧ OwnR eB noB w' q.2.1 ((modelOf R.vals).take q.1) ∧ ∀ b, blk q.2.1 b → (setCells (w6.alloc (.cells #[.int .i64 0, .slice none 0 0] 39)) w6.heap.size 0 [.int .i64 x6, ps]).heap.size ≤ b)
    (fun q => N - q.1) (0, _, undef) (vs4 rfl rfl h68 rfl) ⟨Ext.new _ _, Nat.zero_le _, OwnR.nil _ _ _ _, fun b hb => by cases hb; exact Nat.le_refl _⟩ ?_
  rintro ⟨k, ov, j1⟩ w junk ⟨hx, hk, ho, hob⟩ K hK
  simp only at hk ho hob
  show vc _ _ _ _ (over [14, 16, 68, 70] [ov, j1, .slice (some ⟨b, o2, none⟩) N (vcp - 1), .int .i64 k] _) _
  refine br_dec (fun h3 => ?_) (fun h3 => ?_)
  · have hkN : k < N := by omega
    have hc := hcellAt k hkN
    refine ⟨⟨by omega, by omega⟩, _, hx.cell hc.1, ?_⟩
    refine raw_push (E := eB) (ok := noB) (x := decide (0 < R.vals.getD (k + 1) 0)) ties rfl rfl rfl rfl rfl rfl rfl rfl rfl rfl rfl ho rfl noB_blk (by show (((modelOf R.vals).take k).length + 1) * 1 ≤ _; rw [List.length_take]; omega) (by rw [List.length_take]; omega) ?_
    intro v' w' hv' hch' hsz' hvb'
    refine ⟨_, IntWalk.i64_in _ (by omega), ?_⟩
    refine hK (k + 1, v', _) _ _ (vs4 rfl rfl rfl (vint (by show (k : Int) + 1 = ((k + 1 : Nat) : Int); omega))) ⟨hx.chg hch' hob, by show k + 1 ≤ _; omega, ?_, fun b hb => ?_⟩ (by show N - (k + 1) < N - k; omega) ?_
    · show OwnR eB noB w' v' ((modelOf R.vals).take (k + 1))
      rw [hc.2]; exact hv'
    · rcases hvb' b hb with h | h
      · exact hob b h
      · exact Nat.le_trans hx.size (Nat.le_of_lt h.1)
    · ((repeat (first | (with_reducible exact Only.refl) | (with_reducible refine Only.skip ?_) | ((with_reducible refine Only.upd ?_ ?_); rfl) | ((with_reducible refine Only.over ?_ ?_ _); rfl) | ((with_reducible refine Only.hav ?_ ?_ ?_); rfl; rfl))))
  · have : k = N := by omega
    subst this
    rw [← hml, List.take_length] at ho
    refine .inl ⟨by kernel_rfl, _, (hw7.ext hx).cells.2.2.2.1, ?_⟩
    intro w9 hx9
    refine ⟨(x7a.trans hx).trans hx9, R, hsR, ov, Eq.trans (b := Value.tuple #[.int .i64 1, ov, .int .i64 R.made]) rfl (by rw [h1]), by rw [hmod]; exact ho.ext hx9, fun b hb => Nat.le_trans x7a.size (hob b hb)⟩

end Go.Proofs.Ytfmflffggcphjaa
