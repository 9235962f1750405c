/- PutValues (the program's). PutValues, plainly: one variable after the other; the reference's PutValues (only where the seat has it: OPT=1). -/
import Derived.Test.YtekddgkgeaolnaaEd
import Derived.Test.YtekddgkgeaolnaaEh
namespace Go.Proofs.Ytekddgkgeaolnaa
open Go Go.Vc Go.RowKit
set_option linter.unusedVariables false

/-- No variable has a value of another width. -/
def fitV (vs : Vs) (l : List VLab) : Prop := ∀ v ∈ l, ∀ u, fnd (vls vs) v.name = some u → u.w = v.w
def pvC (x : Lab) (k : TF) (l : List VLab) : Prop := (TOk x k ∧ vOk l = true) ∧ fitV (vsT (x, k)) l
noncomputable def pvO (x : Lab) (k : TF) (l : List VLab) : Option Tm := @ite _ (pvC x k l) (Classical.propDecidable _) (some (simp (putT (valC l) (x, k)))) none
theorem pvO_yes {x : Lab} {k : TF} {l : List VLab} (h : pvC x k l) : pvO x k l = some (simp (putT (valC l) (x, k))) := by unfold pvO; exact if_pos h
theorem pvO_no {x : Lab} {k : TF} {l : List VLab} (h : ¬ pvC x k l) : pvO x k l = none := by unfold pvO; exact if_neg h
theorem pv_lt : ∀ {vs : Vs}, Asc vs → ∀ i j, (hij : i < j) → (hj : j < vs.length) → less (vs[i]'(by omega)).1 (vs[j]'hj).1 = true
  | p :: vs, h, 0, j + 1, _, hj => h.1 _ (List.getElem_mem (Nat.lt_of_succ_lt_succ hj))
  | p :: vs, h, i + 1, j + 1, hij, hj => pv_lt (vs := vs) h.2 i j (by omega) (Nat.lt_of_succ_lt_succ hj)
theorem pv_snoc {vs : Vs} (ha : Asc vs) {i : Nat} (hi : i < vs.length) (s : ByteArray) : fnd ((vls vs).take (i + 1)) s = if (vs[i]'hi).1 = s then some (vl0 (vs[i]'hi)) else fnd ((vls vs).take i) s := by
  have hi' : i < (vls vs).length := by rw [vls_len]; exact hi
  have e : (vls vs)[i]'hi' = vl0 (vs[i]'hi) := List.getElem_map _
  rw [take_snoc hi', e]
  unfold fnd
  rw [List.find?_append]
  by_cases hs : (vs[i]'hi).1 = s
  · rw [if_pos hs]
    have : List.find? (fun v : VLab => decide (v.name = s)) ((vls vs).take i) = none := by
      refine List.find?_eq_none.2 fun v hv e => ?_
      obtain ⟨j, hj, rfl⟩ := List.mem_iff_getElem.1 hv
      have hj' : j < i := by rw [List.length_take] at hj; omega
      have e := of_decide_eq_true e
      rw [List.getElem_take] at e
      have e2 : ((vls vs)[j]'(by omega)).name = (vs[j]'(by omega)).1 := by rw [show (vls vs)[j]'(by omega) = vl0 (vs[j]'(by omega)) from List.getElem_map _]; rfl
      rw [e2] at e
      exact less_ne (pv_lt ha j i hj' hi) (e.trans hs.symm)
    rw [this, Option.none_or, List.find?_cons]
    have : decide ((vl0 (vs[i]'hi)).name = s) = true := decide_eq_true hs
    simp only [this]
  · rw [if_neg hs, List.find?_cons]
    have : decide ((vl0 (vs[i]'hi)).name = s) = false := decide_eq_false hs
    simp only [this]
    cases List.find? (fun v : VLab => decide (v.name = s)) ((vls vs).take i) <;> rfl
theorem valC_all {l : List VLab} (hl : ∀ v ∈ l, okV v) : ∀ s u, valC l s = some u → okL u.1 ∧ u.2.All okL := fun s u hu => by
  unfold valC at hu
  cases hf : fnd l s with
  | none => rw [hf] at hu; cases hu
  | some v =>
    rw [hf] at hu
    have h := hl v (fnd_name hf).2
    rw [← Option.some.inj hu]
    exact ⟨⟨(show inI (0 : Int) from ⟨by decide, by decide⟩), h.2.1, h.2.2, Nat.zero_le _⟩, trivial⟩
set_option maxRecDepth 100000 in
set_option maxHeartbeats 16000000 in
theorem impl_PutValues (x : Lab) (k : TF) (l : List VLab) (s sl : Value) (W : World) (hs : TSl anyB W s k) (hx : okL x) (hp : k.All okL) (hl : VSl anyB W sl l) (hlv : ∀ v ∈ l, okV v) :
    Ret Try.prog 15 #[tv x s, sl] W (CFir (pvO x k l).isSome ((pvO x k l).getD zeroT) W) := by
  have x1 : Ext W (bzW (bxW W x s)) := (bx_ext W x s).trans (bz_ext _)
  have hb := (bx_at W x s).ext (bz_ext (bxW W x s))
  have hr : Rmy (bzW (bxW W x s)) (bxW W x s).heap.size 5 := bz_rmy _
  have hB : W.heap.size ≤ (bxW W x s).heap.size := (bx_ext W x s).size
  have hlt : (bxW W x s).heap.size < (bzW (bxW W x s)).heap.size := by rw [bz_size]; omega
  have no : ∀ w, Ext (bzW (bxW W x s)) w → pvO x k l = none → FreeAll w (bxW W x s).heap.size 0 (tc zeroL (.slice none 0 0)) ∧ ∃ vs, vs.length = 5 ∧ CellsAt (setCells w (bxW W x s).heap.size 0 (tc zeroL (.slice none 0 0))) (bxW W x s).heap.size 0 vs ∧ CFir (pvO x k l).isSome ((pvO x k l).getD zeroT) W (.tuple #[.agg vs.toArray, .bool false]) (setCells w (bxW W x s).heap.size 0 (tc zeroL (.slice none 0 0))) := fun w xw e => by
    rw [e]
    exact fin6t (t := zeroT) false (hr.ext xw) hB (x1.trans xw) (Nat.lt_succ_self _) (zero_sep _ _ _)
  have hok := fun w (xw : Ext W w) => impl_TermOk x k s w (hs.ext xw) hx hp
  have hvs := fun w (xw : Ext W w) => impl_ValuesOk l sl w (hl.ext xw) hlv
  have hlm : (maxLen : Int) ≤ 9223372036854775807 := by decide
  by_cases ht : TOk x k
  rotate_left
  · simp only [decide_eq_false ht] at hok
    have e := pvO_no (x := x) (k := k) (l := l) (fun h => ht h.1.1)
    obtain ⟨a, c, rfl, _, _⟩ := id hs
    refine ret_of_vc ties mixed Try.func15 rfl (by kernel_rfl) rfl rfl ?_
    refine ⟨tc x _, rfl, hb, ?_⟩
    refine Or.inl ((hok _ x1).mono ?_)
    rintro _ w2 ⟨rfl, x2⟩
    exact no w2 x2 e
  simp only [decide_eq_true ht] at hok
  by_cases hvo : vOk l = true
  rotate_left
  · have hvf : vOk l = false := by simpa using hvo
    simp only [hvf] at hvs
    have e := pvO_no (x := x) (k := k) (l := l) (fun h => hvo h.1.2)
    obtain ⟨a, c, rfl, _, _⟩ := id hs
    refine ret_of_vc ties mixed Try.func15 rfl (by kernel_rfl) rfl rfl ?_
    refine ⟨tc x _, rfl, hb, ?_⟩
    refine Or.inl ((hok _ x1).mono ?_)
    rintro _ w2 ⟨rfl, x2⟩
    refine Or.inl ((hvs w2 (x1.trans x2)).mono ?_)
    rintro _ w3 ⟨rfl, x3⟩
    exact no w3 (x2.trans x3) e
  simp only [hvo] at hvs
  have hvars := fun w (xw : Ext W w) => impl_VarsOf x k s w (hs.ext xw) hx hp
  rw [varsP_yes ht] at hvars
  obtain ⟨vs, hvse⟩ : ∃ vs, vsT (x, k) = vs := ⟨_, rfl⟩
  have hg := vsT_asc (x, k)
  have hput := fun w m (xw : Ext W w) hm => replaceVars_all (valC l) _ (x, k) s m anyB w (Nat.le_refl _) (tok_okT ht) (hs.ext xw) hm
  obtain ⟨o, ho⟩ : ∃ o, putT (valC l) (x, k) = o := ⟨_, rfl⟩
  have hol := putT_all (p := okL) (valC_all hlv) (t := (x, k)) hx hp
  have hyes : fitV vs l → pvO x k l = some (simp o) := fun h => by rw [pvO_yes ⟨⟨ht, hvo⟩, by rw [hvse]; exact h⟩, ho]
  have hno : ¬ fitV vs l → pvO x k l = none := fun h => pvO_no fun e => h (by rw [← hvse]; exact e.2)
  rw [ho] at hput hol
  rw [hvse] at hvars hg
  have hsi := fun w so (h : TSl anyB w so o.2) => impl_Simplify o.1 o.2 so w h hol.1 hol.2
  have hvlen := vls_len vs
  have hslr : SlR eV allB W sl l := VSl.slr hl
  have hword := vOk_word hvo
  have fin : ∀ w7 w s8 lo, Ext (bzW (bxW W x s)) w7 → lo = w7.heap.size → Ext w7 w → fitV vs l → TSep w s8 (simp o).2 lo w.heap.size → FreeAll w (bxW W x s).heap.size 0 (tc (simp o).1 s8) ∧ ∃ vs, vs.length = 5 ∧ CellsAt (setCells w (bxW W x s).heap.size 0 (tc (simp o).1 s8)) (bxW W x s).heap.size 0 vs ∧ CFir (pvO x k l).isSome ((pvO x k l).getD zeroT) W (.tuple #[.agg vs.toArray, .bool true]) (setCells w (bxW W x s).heap.size 0 (tc (simp o).1 s8)) := fun w7 w s8 lo xa e7 xb hf h => by
    rw [hyes hf]
    subst e7
    exact fin6t (t := simp o) true (hr.ext (xa.trans xb)) hB (x1.trans (xa.trans xb)) (Nat.lt_of_lt_of_le hlt xa.size) h
  obtain ⟨a, c, rfl, _, _⟩ := id hs
  obtain ⟨al, cl, rfl, hll, hlc, hlat⟩ := id hl
  refine ret_of_vc ties mixed Try.func15 rfl (by kernel_rfl) rfl rfl ?_
  refine ⟨tc x _, rfl, hb, ?_⟩
  refine Or.inl ((hok _ x1).mono ?_)
  rintro _ w2 ⟨rfl, x2⟩
  refine Or.inl ((hvs w2 (x1.trans x2)).mono ?_)
  rintro _ w3 ⟨rfl, x3⟩
  have X3 := x2.trans x3
  have m3 := MapV.new w3 (·.w)
  have y3 : Ext w3 (w3.alloc (.map #[] 0)) := Ext.new _ _
  have zm : w3.heap.size < (w3.alloc (.map #[] 0)).heap.size := by rw [World.size_alloc]; omega
  refine ⟨tc x _, rfl, hb.ext (X3.trans y3), ?_⟩
  refine Or.inl ((hvars _ (x1.trans (X3.trans y3))).mono ?_)
  rintro v4 w4 ⟨x4, hv4, hb4⟩
  have X4 := (X3.trans y3).trans x4
  have hv4s : SlR eV allB w4 v4 (vls vs) := hv4.sl (fun _ _ => trivial) (fun _ _ => trivial)
  have hv4l : SlR eV (fun b => b ≠ w3.heap.size) w4 v4 (vls vs) := hv4.sl (fun _ h => h.elim) (fun b hb => by have := hb4 b hb; omega)
  obtain ⟨a4, c4, rfl, _, hc4, _⟩ := id hv4s
  have m4 := m3.ext x4
  clear hv4 hv4s hok hvs hvars
  have zx3 := X3.size
  refine loop_rule (σ := Nat × Value) [27, 8] 28 37 (fun q => [.int .i64 q.1, q.2])
    (fun q w' => ((Ext (bzW (bxW W x (.slice a k.len c))) w' ∧ SlR eV (fun b => b ≠ w3.heap.size) w' (.slice a4 (vls vs).length c4) (vls vs)) ∧ MapV w' w3.heap.size (·.w) ((vls vs).take q.1)) ∧ q.1 ≤ (vls vs).length) (fun q => (vls vs).length - q.1) (0, undef) rfl ⟨⟨⟨X4, hv4l⟩, m4⟩, Nat.zero_le _⟩ ?_
  rintro ⟨i, j8⟩ w5 junk ⟨⟨⟨X5, hv5⟩, m5⟩, hi⟩ K hK
  simp only at hi m5
  show vc _ _ _ _ (over [27, 8] [.int .i64 i, j8] _) _
  refine br_dec (fun hlt' => ?_) (fun hge => ?_)
  ·
    as_aux_lemma =>
      have hil : i < (vls vs).length := by omega
      have hil' : i < vs.length := by omega
      obtain ⟨b, o', c', e, _, hcv⟩ := eV_at hv5 hil
      cases e
      have hgv : (vls vs)[i]'hil = vl0 (vs[i]'hil') := List.getElem_map _
      rw [hgv] at hcv
      have hsn := pv_snoc hg hil'
      obtain ⟨p, hpp⟩ : ∃ p, vs[i]'hil' = p := ⟨_, rfl⟩
      rw [hpp] at hcv hsn
      have k7 := keep3 w5 (vl0 p)
      obtain ⟨al5, a5, b5⟩ := m5
      have hput5 : ∀ t, (al5.put p.1 (.int .i64 p.2)).get t = (fnd ((vls vs).take (i + 1)) t).map fun v => iv v.w := fun t => by
        rw [Al.get_put, b5, hsn]
        by_cases h : t = p.1
        · rw [if_pos h, if_pos h.symm]; rfl
        · rw [if_neg h, if_neg (fun e => h e.symm)]
      refine ⟨⟨by omega, by omega⟩, vlc (vl0 p), rfl, hcv, k7.1, ?_⟩
      refine ⟨_, k7.2.1.1, _, k7.2.1.2.1, ?_⟩
      refine raw_update ties (.inl rfl) rfl rfl rfl (by kernel_rfl) rfl rfl (a5.ext k7.2.2) (fun w6 ch6 z6 hm6 => ?_)
      refine ⟨_, IntWalk.i64_in _ (by omega), ?_⟩
      refine hK (i + 1, _) _ _ (vs2 (vint (by show (i : Int) + 1 = ((i + 1 : Nat) : Int); omega)) rfl) ⟨⟨⟨(X5.trans k7.2.2).chg ch6 (fun b hb => by omega), SlR.chg (fun b h e => h e) ch6 (hv5.ext k7.2.2)⟩, _, hm6, hput5⟩, by show i + 1 ≤ (vls vs).length; omega⟩ (by show (vls vs).length - (i + 1) < (vls vs).length - i; omega) ?_
      ((repeat (first | (with_reducible exact Only.refl) | (with_reducible refine Only.skip ?_) | ((with_reducible refine Only.upd ?_ ?_); rfl) | ((with_reducible refine Only.over ?_ ?_ _); rfl) | ((with_reducible refine Only.hav ?_ ?_ ?_); rfl; rfl))))
  have hti : (vls vs).take i = vls vs := List.take_of_length_le (by omega)
  rw [hti] at m5
  have y5 : Ext w5 (w5.alloc (.map #[] 0)) := Ext.new _ _
  have zm5 : w3.heap.size < w5.heap.size := m5.lt
  have zx5 := X5.size
  clear hv5 hv4l m4 m3
  refine loop_rule (σ := Nat × Value × Value × Value) [40, 11, 12, 13] 41 68 (fun q => [.int .i64 q.1, q.2.1, q.2.2.1, q.2.2.2])
    (fun q w' => (Ext (bzW (bxW W x (.slice a k.len c))) w' ∧ MapV w' w3.heap.size (·.w) (vls vs) ∧ ∃ al9, MapAt w' w5.heap.size al9 ∧ ∀ t, al9.get t = (fnd (l.take q.1) t).map fun v => tv (constL v.w v.n) (.slice none 0 0)) ∧ q.1 ≤ l.length ∧ ∀ j (h : j < l.length), j < q.1 → ∀ u, fnd (vls vs) (l[j]'h).name = some u → u.w = (l[j]'h).w)
    (fun q => l.length - q.1) (0, undef, undef, undef) rfl ⟨⟨X5.trans y5, m5.ext y5, [], MapAt.new w5, fun t => rfl⟩, Nat.zero_le _, fun j h hj => absurd hj (Nat.not_lt_zero j)⟩ ?_
  rintro ⟨n, j11, j12, j13⟩ w6 junk ⟨⟨X6, m6, al9, a9, b9⟩, hn, hall⟩ K2 hK2
  simp only at hn hall b9
  show vc _ _ _ _ (over [40, 11, 12, 13] [.int .i64 n, j11, j12, j13] _) _
  refine br_dec (fun hlt' => ?_) (fun hge => ?_)
  ·
    as_aux_lemma =>
      have hil : n < l.length := by omega
      obtain ⟨b, o', c', e, _, hcv⟩ := eV_at hslr hil
      cases e
      have hw := hword _ (List.getElem_mem hil)
      have hsn := fnd_snoc hvo hil
      have hne : ∀ u, fnd (vls vs) (l[n]'hil).name = some u → u.w ≠ (l[n]'hil).w → ¬ fitV vs l := fun u hu h e => h (e _ (List.getElem_mem hil) u hu)
      obtain ⟨v, hv⟩ : ∃ v, l[n]'hil = v := ⟨_, rfl⟩
      obtain ⟨al6, a6, b6⟩ := m6
      have hput9 : ∀ t, (al9.put (l[n]'hil).name (tv (constL (l[n]'hil).w (l[n]'hil).n) (.slice none 0 0))).get t = (fnd (l.take (n + 1)) t).map fun v => tv (constL v.w v.n) (.slice none 0 0) := fun t => by
        rw [Al.get_put, b9, hsn]
        by_cases h : t = (l[n]'hil).name
        · rw [if_pos h, if_pos h.symm]; rfl
        · rw [if_neg h, if_neg (fun e => h e.symm)]
      have k7 := keep3 w6 (l[n]'hil)
      have hcon : ∀ w, Ret Try.prog 17 #[.int .i64 (l[n]'hil).w, .int .i64 (l[n]'hil).n] w (fun r w' => r = tv (constL (l[n]'hil).w (l[n]'hil).n) (.slice none 0 0) ∧ Ext w w') := fun w => by
        have h := impl_ConstTerm (l[n]'hil).w (l[n]'hil).n w
        rw [constT_ok hw] at h
        exact h
      have za6 := a6.lt
      have za9 := a9.lt
      by_cases hf : fnd (vls vs) (l[n]'hil).name = none
      ·
          have hu : al6.get (l[n]'hil).name = none := by rw [b6, hf]; rfl
          have hfits : ∀ u, fnd (vls vs) (l[n]'hil).name = some u → u.w = (l[n]'hil).w := fun u hu => by rw [hf] at hu; cases hu
          refine ⟨⟨by omega, by omega⟩, vlc (l[n]'hil), rfl, hcv.ext (x1.trans X6), k7.1, ?_⟩
          refine ⟨_, k7.2.1.1, ?_⟩
          refine raw_look (u := .tuple #[.int .i64 0, .bool false]) (b := w3.heap.size) (s := (l[n]'hil).name) (l := al6) ties rfl rfl rfl rfl (by kernel_rfl) rfl rfl rfl (a6.ext k7.2.2) (congrArg (fun o : Option Value => Value.tuple #[o.getD (.int .i64 0), .bool o.isSome]) hu) ?_
          refine .inr (.inr (hyb_rule ties mixed [(0, .quiet), (1, .quiet), (2, .quiet), (3, .quiet), (4, .quiet), (5, .quiet), (6, .quiet), (7, .loud), (8, .wild)] (by kernel_rfl) ?_))
          refine ⟨_, k7.2.1.1, _, k7.2.1.2.1, _, k7.2.1.2.2.1, ?_⟩
          intro w8 x8
          refine Or.inl ((hcon w8).mono ?_)
          rintro _ w9 ⟨rfl, x9⟩
          refine ⟨x9, ?_⟩
          intro w10 x10
          have X710 := k7.2.2.trans ((x8.trans x9).trans x10)
          refine raw_update ties (.inl rfl) rfl rfl rfl (by kernel_rfl) rfl rfl (a9.ext X710) (fun w11 ch11 z11 hm11 => ?_)
          intro w12 x12
          refine ⟨_, IntWalk.i64_in _ (by omega), ?_⟩
          refine hK2 (n + 1, _, _, _) _ _ (vs4 (vint (by show (n : Int) + 1 = ((n + 1 : Nat) : Int); omega)) rfl rfl rfl) ⟨⟨((X6.trans X710).chg ch11 (fun b hb => by omega)).trans x12, MapV.ext x12 (MapV.chg (S := fun b => b = w5.heap.size) (by omega) ch11 (MapV.ext X710 ⟨al6, a6, b6⟩)), _, hm11.ext x12, hput9⟩, by show n + 1 ≤ l.length; omega, fun j hj hjn u2 hu2 => ?_⟩ (by show l.length - (n + 1) < l.length - n; omega) ?_
          · by_cases e : j = n
            · subst e; exact hfits u2 hu2
            · exact hall j hj (by have : j < n + 1 := hjn; omega) u2 hu2
          · ((repeat (first | (with_reducible exact Only.refl) | (with_reducible refine Only.skip ?_) | ((with_reducible refine Only.upd ?_ ?_); rfl) | ((with_reducible refine Only.over ?_ ?_ _); rfl) | ((with_reducible refine Only.hav ?_ ?_ ?_); rfl; rfl))))
      refine Exists.elim (Option.ne_none_iff_exists'.1 hf) fun u hfu => ?_
      have hu : al6.get (l[n]'hil).name = some (.int .i64 u.w) := by rw [b6, hfu]; rfl
      by_cases hw2 : u.w = (l[n]'hil).w
      ·
          have hfits : ∀ u, fnd (vls vs) (l[n]'hil).name = some u → u.w = (l[n]'hil).w := fun u' hu' => by rw [hfu] at hu'; rw [← Option.some.inj hu']; exact hw2
          refine ⟨⟨by omega, by omega⟩, vlc (l[n]'hil), rfl, hcv.ext (x1.trans X6), k7.1, ?_⟩
          refine ⟨_, k7.2.1.1, ?_⟩
          refine raw_look (u := .tuple #[.int .i64 u.w, .bool true]) (b := w3.heap.size) (s := (l[n]'hil).name) (l := al6) ties rfl rfl rfl rfl (by kernel_rfl) rfl rfl rfl (a6.ext k7.2.2) (congrArg (fun o : Option Value => Value.tuple #[o.getD (.int .i64 0), .bool o.isSome]) hu) ?_
          refine ⟨_, k7.2.1.2.1, ?_⟩
          refine br_dec_false (fun h => h hw2) ?_
          refine .inr (.inr (hyb_rule ties mixed [(0, .quiet), (1, .quiet), (2, .quiet), (3, .quiet), (4, .quiet), (5, .quiet), (6, .quiet), (7, .loud), (8, .wild)] (by kernel_rfl) ?_))
          refine ⟨_, k7.2.1.1, _, k7.2.1.2.1, _, k7.2.1.2.2.1, ?_⟩
          intro w8 x8
          refine Or.inl ((hcon w8).mono ?_)
          rintro _ w9 ⟨rfl, x9⟩
          refine ⟨x9, ?_⟩
          intro w10 x10
          have X710 := k7.2.2.trans ((x8.trans x9).trans x10)
          refine raw_update ties (.inl rfl) rfl rfl rfl (by kernel_rfl) rfl rfl (a9.ext X710) (fun w11 ch11 z11 hm11 => ?_)
          intro w12 x12
          refine ⟨_, IntWalk.i64_in _ (by omega), ?_⟩
          refine hK2 (n + 1, _, _, _) _ _ (vs4 (vint (by show (n : Int) + 1 = ((n + 1 : Nat) : Int); omega)) rfl rfl rfl) ⟨⟨((X6.trans X710).chg ch11 (fun b hb => by omega)).trans x12, MapV.ext x12 (MapV.chg (S := fun b => b = w5.heap.size) (by omega) ch11 (MapV.ext X710 ⟨al6, a6, b6⟩)), _, hm11.ext x12, hput9⟩, by show n + 1 ≤ l.length; omega, fun j hj hjn u2 hu2 => ?_⟩ (by show l.length - (n + 1) < l.length - n; omega) ?_
          · by_cases e : j = n
            · subst e; exact hfits u2 hu2
            · exact hall j hj (by have : j < n + 1 := hjn; omega) u2 hu2
          · ((repeat (first | (with_reducible exact Only.refl) | (with_reducible refine Only.skip ?_) | ((with_reducible refine Only.upd ?_ ?_); rfl) | ((with_reducible refine Only.over ?_ ?_ _); rfl) | ((with_reducible refine Only.hav ?_ ?_ ?_); rfl; rfl))))
      · have e := hno (hne u hfu hw2)
        refine ⟨⟨by omega, by omega⟩, vlc (l[n]'hil), rfl, hcv.ext (x1.trans X6), k7.1, ?_⟩
        refine ⟨_, k7.2.1.1, ?_⟩
        refine raw_look (u := .tuple #[.int .i64 u.w, .bool true]) (b := w3.heap.size) (s := (l[n]'hil).name) (l := al6) ties rfl rfl rfl rfl (by kernel_rfl) rfl rfl rfl (a6.ext k7.2.2) (congrArg (fun o : Option Value => Value.tuple #[o.getD (.int .i64 0), .bool o.isSome]) hu) ?_
        refine ⟨_, k7.2.1.2.1, ?_⟩
        refine br_dec_true hw2 ?_
        exact no _ (X6.trans k7.2.2) e
  ·
    as_aux_lemma =>
      have e : l.take n = l := List.take_of_length_le (by omega)
      rw [e] at b9
      have hfit : fitV vs l := fun v hv u hu => by
        obtain ⟨j, hj, rfl⟩ := List.mem_iff_getElem.1 hv
        exact hall j hj (by omega) u hu
      have hm : MapT w6 w5.heap.size (valC l) anyB := ⟨al9, a9, fun t => by
        rw [b9]
        unfold valC
        cases fnd l t with
        | none => exact .inl ⟨rfl, rfl⟩
        | some v => exact .inr ⟨_, _, rfl, rfl, nil_sl _ _⟩⟩
      refine ⟨tc x _, rfl, hb.ext X6, ?_⟩
      refine Or.inl ((hput w6 _ (x1.trans X6) hm).mono ?_)
      rintro _ w7 ⟨x7, so, rfl, hso⟩
      refine Or.inl ((hsi w7 so (hso.mono fun _ _ => trivial)).mono ?_)
      rintro _ w8 ⟨x8, s8, rfl, hs8⟩
      exact fin w7 w8 s8 _ (X6.trans x7) rfl x8 hfit hs8
end Go.Proofs.Ytekddgkgeaolnaa
namespace Go.Proofs.Ytekddgkgeaolnaa
open Go Go.Vc Go.RowKit
set_option linter.unusedVariables false

def fR (vs : Vs) (l : List VLab) (i : Nat) : ByteArray → Option Tm := fun s => if ((vs.take i).any fun p => decide (p.1 = s)) = true then valC l s else none
def fitN (vs : Vs) (l : List VLab) (i : Nat) : Prop := ∀ j (h : j < vs.length), j < i → ∀ v, fnd l (vs[j]'h).1 = some v → v.w = (vs[j]'h).2
theorem fR_zero (vs : Vs) (l : List VLab) (t : Tm) : putT (fR vs l 0) t = t := by
  have h : fR vs l 0 = fun _ => none := rfl
  have h2 := put_none (.cons t.1 t.2 .nil)
  rw [putF_cons] at h2
  injection h2 with h3 h4 _
  rw [h]
  exact Prod.ext h3 h4
theorem fR_any {vs : Vs} {i : Nat} (hi : i < vs.length) (s : ByteArray) : ((vs.take (i + 1)).any fun p => decide (p.1 = s)) = (((vs.take i).any fun p => decide (p.1 = s)) || decide ((vs[i]'hi).1 = s)) := by
  rw [take_snoc hi, List.any_append]; simp
theorem fR_skip {vs : Vs} {l : List VLab} {i : Nat} (hi : i < vs.length) (h : fnd l (vs[i]'hi).1 = none) : fR vs l (i + 1) = fR vs l i := by
  funext s
  unfold fR
  rw [fR_any hi]
  by_cases hs : (vs[i]'hi).1 = s
  · have hv : valC l s = none := by unfold valC; rw [← hs, h]; rfl
    rw [hv]; split <;> split <;> rfl
  · rw [decide_eq_false hs, Bool.or_false]
theorem fR_step {vs : Vs} {l : List VLab} {i : Nat} (hi : i < vs.length) {v : VLab} (h : fnd l (vs[i]'hi).1 = some v) (hw : v.w = (vs[i]'hi).2) (t : Tm) :
    putT (onePut (vs[i]'hi).1 (conT (vs[i]'hi).2 v.n)) (putT (fR vs l i) t) = putT (fR vs l (i + 1)) t := by
  rw [putT_put _ _ (fun s u hu => by
    unfold fR valC at hu
    split at hu
    · cases hf : fnd l s with
      | none => rw [hf] at hu; cases hu
      | some v => rw [hf] at hu; rw [← Option.some.inj hu]; rfl
    · cases hu)]
  congr 1
  funext s
  unfold fR onePut
  rw [fR_any hi]
  by_cases hs : s = (vs[i]'hi).1
  · have hv : valC l s = some (conT (vs[i]'hi).2 v.n) := by unfold valC; rw [hs, h, ← hw]; rfl
    rw [hv, if_pos hs, decide_eq_true hs.symm, Bool.or_true, if_pos rfl]
    split <;> rfl
  · rw [if_neg hs, decide_eq_false (fun e => hs e.symm), Bool.or_false, Option.or_none]
theorem fR_end {x : Lab} {k : TF} (h : TOk x k) (l : List VLab) : putT (fR (vsT (x, k)) l (vsT (x, k)).length) (x, k) = putT (valC l) (x, k) := by
  refine putT_congr _ _ _ fun p hp => ?_
  unfold fR
  rw [List.take_length, if_pos]
  rw [List.any_eq_true]
  exact ⟨p, (mem_vsT (t := (x, k)) h.2.2 p).2 hp, decide_eq_true rfl⟩
theorem fR_con {vs : Vs} {l : List VLab} {i : Nat} (hl : ∀ v ∈ l, wOk v.w v.n = true) : ConF (fR vs l i) := fun s u hu => by
  unfold fR at hu
  split at hu
  · exact valC_con hl s u hu
  · cases hu
theorem fR_fit {x : Lab} {k : TF} (h : TOk x k) {l : List VLab} {i : Nat} (hf : fitN (vsT (x, k)) l i) : FitP (fR (vsT (x, k)) l i) (varsT (x, k)) := fun p hp u hu => by
  unfold fR at hu
  split at hu
  · rename_i ha
    obtain ⟨q, hq, e⟩ := List.any_eq_true.1 ha
    have e := of_decide_eq_true e
    obtain ⟨j, hj⟩ := List.mem_iff_getElem?.1 hq
    have hj1 : j < i := by
      have := (List.getElem?_eq_some_iff.1 hj).1
      rw [List.length_take] at this; omega
    rw [List.getElem?_take, if_pos hj1] at hj
    obtain ⟨hj2, hj3⟩ := List.getElem?_eq_some_iff.1 hj
    have hqv : q ∈ varsT (x, k) := (mem_vsT (t := (x, k)) h.2.2 q).1 (by rw [← hj3]; exact List.getElem_mem hj2)
    have hpq : p.2 = q.2 := by
      have h1 := lk_of_mem (l := varsT (x, k)) h.2.2 hp
      have h2 := lk_of_mem (l := varsT (x, k)) h.2.2 hqv
      rw [← e] at h1
      rw [h1] at h2
      exact Option.some.inj h2
    unfold valC at hu
    cases hfn : fnd l p.1 with
    | none => rw [hfn] at hu; cases hu
    | some v =>
      rw [hfn] at hu
      have h3 := hf j hj2 hj1 v (by rw [hj3, e]; exact hfn)
      rw [← Option.some.inj hu, hpq, ← hj3]
      exact h3
  · cases hu
theorem fit_iff {vs : Vs} {l : List VLab} (ha : Asc vs) (hv : vOk l = true) : fitV vs l ↔ fitN vs l vs.length := by
  have hin : ∀ j (h : j < vs.length), fnd (vls vs) (vs[j]'h).1 = some (vl0 (vs[j]'h)) := fun j h => by
    have h1 := pv_snoc ha h (vs[j]'h).1
    rw [if_pos rfl] at h1
    unfold fnd at h1 ⊢
    rw [← List.take_append_drop (j + 1) (vls vs), List.find?_append, h1]; rfl
  constructor
  · intro h j hj _ v hf
    obtain ⟨h1, h2⟩ := fnd_name hf
    exact (h v h2 _ (by rw [h1]; exact hin j hj)).symm
  · intro h v hv' u hu
    obtain ⟨h1, h2⟩ := fnd_name hu
    obtain ⟨p, hp, rfl⟩ := List.mem_map.1 h2
    obtain ⟨j, hj, rfl⟩ := List.mem_iff_getElem.1 hp
    obtain ⟨i, hi, rfl⟩ := List.mem_iff_getElem.1 hv'
    have h3 := fnd_at hv hi
    have h1 : (vs[j]'hj).1 = (l[i]'hi).name := h1
    exact (h j hj hj _ (by rw [h1]; exact h3)).symm
theorem fitN_succ {vs : Vs} {l : List VLab} {i : Nat} (h : fitN vs l i) (hi : i < vs.length) (hv : ∀ v, fnd l (vs[i]'hi).1 = some v → v.w = (vs[i]'hi).2) : fitN vs l (i + 1) := fun j hj hji v hf => by
  by_cases e : j = i
  · subst e; exact hv v hf
  · exact h j hj (by omega) v hf
theorem fin8 {t : Tm} {W w : World} {B : Nat} {s : Value} (hr : Rmy w B 5) (hB : W.heap.size ≤ B) (hx : Ext W w) (hs : TSl (fun b => B < b) w s t.2) :
    FreeAll w B 0 (tc t.1 s) ∧ ∃ vs, vs.length = 5 ∧ CellsAt (setCells w B 0 (tc t.1 s)) B 0 vs ∧ TRes noF t W (.agg vs.toArray) (setCells w B 0 (tc t.1 s)) := by
  have hch : Chg (fun b => b = B) w (setCells w B 0 (tc t.1 s)) := Chg.setCells (S := fun b => b = B) rfl _ _ _
  refine ⟨hr.all _ 0 (Nat.le_refl 5) (tc_one hs), tc t.1 s, rfl, setCells_at _ _ 0 5 hr (Nat.le_refl 5), hx.chg hch (fun b hb => by rw [hb]; exact hB), s, rfl, ?_⟩
  exact (Fo.Sl.chg (fun b hb => by omega) hch hs).mono fun b hb => .inr (by omega)
theorem simp_sz (x : Lab) (k : TF) : (simp (x, k)).2.size ≤ 240 := by
  by_cases ht : TOk x k
  · rw [simp_yes ht]
    have h1 := (sim_keeps (tok_okT ht)).sz
    have h2 : Tm.sz (sim (x, k)) = (sim (x, k)).2.size + 1 := rfl
    have h3 : Tm.sz (x, k) = k.size + 1 := rfl
    have h4 := ht.1
    omega
  · rw [simp_no ht]; exact Nat.zero_le _
theorem pvO_sz (x : Lab) (k : TF) (l : List VLab) : ((pvO x k l).getD zeroT).2.size ≤ 240 := by
  by_cases h : pvC x k l
  · rw [pvO_yes h]; exact simp_sz _ _
  · rw [pvO_no h]; exact Nat.zero_le _
structure PvJ (W : World) (D : Nat) (vs : Vs) (l : List VLab) (row : Value) (t : Tm) (i : Nat) (w : World) : Prop where
  ext : Ext W w
  rb : Rmy w W.heap.size 5
  rd : Rmy w D 5
  lt : D < w.heap.size
  row : SlR eV (fun b => b ≠ W.heap.size) w row (vls vs)
  fit : fitN vs l i
  le : i ≤ (vls vs).length
  cur : ∃ s', CellsAt w W.heap.size 0 (tc (putT (fR vs l i) t).1 s') ∧ TSl (fun b => b ≠ W.heap.size) w s' (putT (fR vs l i) t).2
theorem PvJ.next {W : World} {D : Nat} {vs : Vs} {l : List VLab} {row : Value} {t : Tm} {i : Nat} {w w' : World} (h : PvJ W D vs l row t i w) (x : Ext w w') : PvJ W D vs l row t i w' := by
  obtain ⟨s', h1, h2⟩ := h.cur
  exact ⟨h.ext.trans x, h.rb.ext x, h.rd.ext x, Nat.lt_of_lt_of_le h.lt x.size, h.row.ext x, h.fit, h.le, s', h1.ext x, h2.ext x⟩
theorem PvJ.skip {W : World} {D : Nat} {vs : Vs} {l : List VLab} {row : Value} {t : Tm} {i : Nat} {w : World} (h : PvJ W D vs l row t i w) (hi : i < vs.length) (hn : fnd l (vs[i]'hi).1 = none) : PvJ W D vs l row t (i + 1) w :=
  ⟨h.ext, h.rb, h.rd, h.lt, h.row, fitN_succ h.fit hi (fun v hv => by rw [hn] at hv; cases hv), by rw [vls_len]; exact hi, by rw [fR_skip hi hn]; exact h.cur⟩
theorem PvJ.put {W : World} {D : Nat} {vs : Vs} {l : List VLab} {row : Value} {t : Tm} {i : Nat} {w : World} {s : Value} (h : PvJ W D vs l row t i w) (hi : i < vs.length) (hv : ∀ v, fnd l (vs[i]'hi).1 = some v → v.w = (vs[i]'hi).2)
    (hs : TSl (fun b => b ≠ W.heap.size) w s (putT (fR vs l (i + 1)) t).2) : FreeAll w W.heap.size 0 (tc (putT (fR vs l (i + 1)) t).1 s) ∧ PvJ W D vs l row t (i + 1) (setCells w W.heap.size 0 (tc (putT (fR vs l (i + 1)) t).1 s)) := by
  have hch : Chg (fun b => b = W.heap.size) w (setCells w W.heap.size 0 (tc (putT (fR vs l (i + 1)) t).1 s)) := Chg.setCells (S := fun b => b = W.heap.size) rfl _ _ _
  refine ⟨h.rb.all _ 0 (Nat.le_refl 5) (tc_one hs), Ext.setCells _ h.ext (Nat.le_refl _), Rmy.setCells _ h.rb, Rmy.setCells _ h.rd, Nat.lt_of_lt_of_le h.lt hch.size, SlR.chg (fun b hb => hb) hch h.row, fitN_succ h.fit hi hv, by rw [vls_len]; exact hi, s, setCells_at _ _ 0 5 h.rb (Nat.le_refl 5), Fo.Sl.chg (fun b hb => hb) hch hs⟩
end Go.Proofs.Ytekddgkgeaolnaa
