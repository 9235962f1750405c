/- EvalTerm (the program's). -/
import Derived.Test.YtkoaicjcanplaaaEa
namespace Go.Vc
open Go Go.RowKit
variable {P : Program} {T : Tab} {o : Oper} {ρ : Fr} {K : Value → World → Prop} {w : World} {t k e : Nat} {r q : TRow} {x i : Operand} {c : Bool} {b : Nat} {s : ByteArray} {l : Al}
theorem raw_look {u : Value} (hT : Ties P T) (ho : o.op = .lookup t x i c) (hr : look T t = some r) (ha : r.agg = false) (hd : r.desc = .map k e) (hk : P.underlying k = some .string) (hq : look T e = some q)
    (hx : ev ρ x = .map (some b)) (hi : ev ρ i = .string s) (hm : MapAt w b l) (hu : (if c then .tuple #[(l.get s).getD q.zero, .bool (l.get s).isSome] else (l.get s).getD q.zero) = u) (hK : K u w) : Raw P o ρ w K :=
  ⟨.value u, _, w, exec_look hT ho hr ha hd hk hq hx hi hm hu, rfl, hK⟩
end Go.Vc
namespace Go.Proofs.Ytkoaicjcanplaaa
open Go Go.Vc Go.RowKit
set_option linter.unusedVariables false
/-- A map that holds a field of the first values. -/
def MapV (w : World) (m : Nat) (g : VLab → Int) (l : List VLab) : Prop := ∃ al, MapAt w m al ∧ ∀ s, al.get s = (fnd l s).map fun v => iv (g v)
theorem MapV.ext {w w' : World} {m : Nat} {g : VLab → Int} {l : List VLab} (x : Ext w w') (h : MapV w m g l) : MapV w' m g l := by
  obtain ⟨al, h1, h2⟩ := h
  exact ⟨al, h1.ext x, h2⟩
theorem MapV.chg {S : Nat → Prop} {w w' : World} {m : Nat} {g : VLab → Int} {l : List VLab} (hS : ¬ S m) (x : Chg S w w') (h : MapV w m g l) : MapV w' m g l := by
  obtain ⟨al, h1, h2⟩ := h
  exact ⟨al, h1.chg hS x, h2⟩
theorem MapV.new (w : World) (g : VLab → Int) : MapV (w.alloc (.map #[] 0)) w.heap.size g [] := ⟨[], MapAt.new w, fun s => rfl⟩
theorem MapV.lt {w : World} {m : Nat} {g : VLab → Int} {l : List VLab} (h : MapV w m g l) : m < w.heap.size := by
  obtain ⟨al, h1, h2⟩ := h
  exact h1.lt
set_option maxRecDepth 100000 in
set_option maxHeartbeats 16000000 in
theorem impl_EvalTerm (x : Lab) (k : TF) (l : List VLab) (s sl : Value) (W : World) (hs : TSl anyB W s k) (hx : okL x) (hp : k.All okL) (hl : VSl anyB W sl l) (hv : ∀ v ∈ l, okV v) :
    Ret Try.prog 24 #[tv x s, sl] W (fun v w' => v = .tuple #[.int .i64 (evalP x k l).1, .bool (evalP x k l).2] ∧ Ext W w') := by
  have x1 := bx_ext W x s
  have hb := bx_at W x s
  have hok := fun w (xw : Ext W w) => impl_TermOk x k s w ((hs.ext xw).mono fun _ _ => trivial) hx hp
  have hvs := fun w (xw : Ext W w) => impl_ValuesOk l sl w (hl.ext xw) hv
  have hlm : (maxLen : Int) ≤ 9223372036854775807 := by decide
  by_cases ht : TOk x k
  · have e : decide (TOk x k) = true := decide_eq_true ht
    simp only [e] at hok
    by_cases hvo : vOk l = true
    · simp only [hvo] at hvs
      rw [evalP_yes ht hvo]
      have hcons : Cons (varsT (x, k)) := ((TOk_iff x k).1 ht).2.2
      have hcv := cov_vsT hcons l
      have hvars := fun w (xw : Ext W w) => impl_VarsOf x k s w (hs.ext xw) hx hp
      rw [varsP_yes ht] at hvars
      have hev := fun w mv (xw : Ext W w) hm => evalNode_all _ (x, k) s mv (envL l) w (Nat.le_refl _) (tok_okT ht) (hs.ext xw) hm
      have hslr : SlR eV allB W sl l := VSl.slr hl
      obtain ⟨a, c, rfl, _, _⟩ := id hs
      obtain ⟨al, cl, rfl, hll, hlc, hlat⟩ := id hl
      refine ret_of_vc ties mixed Try.func24 rfl (by kernel_rfl) rfl rfl ?_
      refine ⟨tc x _, rfl, hb, ?_⟩
      refine Or.inl ((hok _ x1).mono ?_)
      rintro _ w2 ⟨rfl, x2⟩
      refine Or.inl ((hvs w2 (x1.trans x2)).mono ?_)
      rintro _ w3 ⟨rfl, x3⟩
      have X3 := x1.trans (x2.trans x3)
      have e1 := MapV.new w3 (·.n)
      have y1 : Ext w3 (w3.alloc (.map #[] 0)) := Ext.new _ _
      have e2 := MapV.new (w3.alloc (.map #[] 0)) (·.w)
      have y2 : Ext (w3.alloc (.map #[] 0)) ((w3.alloc (.map #[] 0)).alloc (.map #[] 0)) := Ext.new _ _
      have z3 := X3.size
      have zm : (w3.alloc (.map #[] 0)).heap.size = w3.heap.size + 1 := World.size_alloc _ _
      have zb := (x2.trans x3).size
      have Xb := x2.trans x3
      refine loop_rule (σ := Nat × Value) [26, 9] 27 41 (fun q => [.int .i64 q.1, q.2])
        (fun q w' => (Ext (bxW W x (.slice a k.len c)) w' ∧ MapV w' w3.heap.size (·.n) (l.take q.1) ∧ MapV w' (w3.alloc (.map #[] 0)).heap.size (·.w) (l.take q.1)) ∧ q.1 ≤ l.length) (fun q => l.length - q.1) (0, undef) rfl ⟨⟨Xb.trans (y1.trans y2), e1.ext y2, e2⟩, Nat.zero_le _⟩ ?_
      rintro ⟨i, j9⟩ w4 junk ⟨⟨X4, m1, m2⟩, hi⟩ K hK
      simp only at hi m1 m2
      show vc _ _ _ _ (over [26, 9] [.int .i64 i, j9] _) _
      refine br_dec (fun hlt => ?_) (fun hge => ?_)
      ·
        as_aux_lemma =>
          have hil : i < l.length := by omega
          obtain ⟨b, o, c', e, _, hcv⟩ := eV_at hslr hil
          cases e
          have k5 := keep3 w4 (l[i]'hil)
          have x5 := k5.2.2
          have c5 := k5.2.1
          refine ⟨⟨by omega, by omega⟩, vlc (l[i]'hil), rfl, hcv.ext (x1.trans X4), k5.1, ?_⟩
          refine ⟨_, c5.1, _, c5.2.2.1, ?_⟩
          obtain ⟨al1, a1, b1⟩ := m1.ext x5
          obtain ⟨al2, a2, b2⟩ := m2.ext x5
          refine raw_update ties (.inl rfl) rfl rfl rfl (by kernel_rfl) rfl rfl a1 (fun w6 ch6 z6 hm6 => ?_)
          have c6 := ch6.cells (S := fun b => b = w3.heap.size) (b := w4.heap.size) (by have := m2.lt; omega) c5
          refine ⟨_, c6.1, _, c6.2.1, ?_⟩
          have a2' := a2.chg (S := fun b => b = w3.heap.size) (by omega) ch6
          refine raw_update ties (.inl rfl) rfl rfl rfl (by kernel_rfl) rfl rfl a2' (fun w7 ch7 z7 hm7 => ?_)
          have a1' := hm6.chg (S := fun b => b = (w3.alloc (.map #[] 0)).heap.size) (by omega) ch7
          refine ⟨_, IntWalk.i64_in _ (by omega), ?_⟩
          refine hK (i + 1, _) _ _ (vs2 (vint (by show (i : Int) + 1 = ((i + 1 : Nat) : Int); omega)) rfl) ⟨⟨(((X4.trans x5).chg ch6 (fun b hb => by omega)).chg ch7 (fun b hb => by omega)), ⟨_, a1', fun t => ?_⟩, ⟨_, hm7, fun t => ?_⟩⟩, by show i + 1 ≤ l.length; omega⟩ (by show l.length - (i + 1) < l.length - i; omega) ?_
          · rw [Al.get_put, b1, fnd_snoc hvo hil]
            by_cases h : t = (l[i]'hil).name
            · rw [if_pos h, if_pos h.symm]; rfl
            · rw [if_neg h, if_neg (fun e => h e.symm)]
          · rw [Al.get_put, b2, fnd_snoc hvo hil]
            by_cases h : t = (l[i]'hil).name
            · rw [if_pos h, if_pos h.symm]; rfl
            · rw [if_neg h, if_neg (fun e => h e.symm)]
          · ((repeat (first | (with_reducible exact Only.refl) | (with_reducible refine Only.skip ?_) | ((with_reducible refine Only.upd ?_ ?_); rfl) | ((with_reducible refine Only.over ?_ ?_ _); rfl) | ((with_reducible refine Only.hav ?_ ?_ ?_); rfl; rfl))))
      ·
        have hti : l.take i = l := List.take_of_length_le (by omega)
        rw [hti] at m1 m2
        refine ⟨tc x _, rfl, hb.ext X4, ?_⟩
        refine Or.inl ((hvars w4 (x1.trans X4)).mono ?_)
        rintro v5 w5 ⟨x5, hv5, hb5⟩
        have hv5s : SlR eV allB w5 v5 (vls (vsT (x, k))) := hv5.sl (fun _ _ => trivial) (fun _ _ => trivial)
        obtain ⟨a5, c5, rfl, _, hc5, _⟩ := id hv5s
        have hvl := vls_len (vsT (x, k))
        have m1' := m1.ext x5
        have m2' := m2.ext x5
        have X5 := X4.trans x5
        clear m1 m2 hvars hvs hok
        refine loop_rule (σ := Nat × Value × Value × Value) [44, 11, 12, 13] 45 64 (fun q => [.int .i64 q.1, q.2.1, q.2.2.1, q.2.2.2])
          (fun q w' => Ext w5 w' ∧ q.1 ≤ (vls (vsT (x, k))).length ∧ ∀ j, j < q.1 → ∀ p, (vsT (x, k))[j]? = some p → covP l p = true) (fun q => (vls (vsT (x, k))).length - q.1) (0, undef, undef, undef) rfl ⟨Ext.refl _, Nat.zero_le _, fun j hj => absurd hj (Nat.not_lt_zero j)⟩ ?_
        rintro ⟨i2, j11, j12, j13⟩ w6 junk ⟨x6, hi2, hall⟩ K hK
        simp only at hi2 hall
        show vc _ _ _ _ (over [44, 11, 12, 13] [.int .i64 i2, j11, j12, j13] _) _
        have hi2m : (vls (vsT (x, k))).length ≤ 9223372036854775807 := by have := hv5s; omega
        refine br_dec (fun hlt => ?_) (fun hge => ?_)
        ·
          as_aux_lemma =>
            have hil : i2 < (vls (vsT (x, k))).length := by omega
            have hil' : i2 < (vsT (x, k)).length := by omega
            obtain ⟨b, o, c', e, _, hcv6⟩ := eV_at hv5s hil
            cases e
            have hg : (vls (vsT (x, k)))[i2]'hil = vl0 ((vsT (x, k))[i2]'hil') := List.getElem_map _
            rw [hg] at hcv6
            obtain ⟨p, hpp⟩ : ∃ p, (vsT (x, k))[i2]'hil' = p := ⟨_, rfl⟩
            rw [hpp] at hcv6
            have hpm : (vsT (x, k))[i2]? = some p := by rw [List.getElem?_eq_getElem hil', hpp]
            have k7 := keep3 w6 (vl0 p)
            have c7 := k7.2.1
            have x7 := k7.2.2
            obtain ⟨al2, a2, b2⟩ := m2'.ext (x6.trans x7)
            have X7 := (X5.trans x6).trans x7
            have no : ¬ covP l p = true → evO l (x, k) = (0, false) := fun hn => evO_no (by rw [← hcv]; exact fun e => hn (List.all_eq_true.1 e p (List.mem_of_getElem? hpm)))
            by_cases hf : fnd l p.1 = none
            ·
              have hno := no (fun e => by have := of_decide_eq_true e; rw [hf] at this; cases this)
              refine ⟨⟨by omega, by omega⟩, vlc (vl0 p), rfl, hcv6.ext x6, k7.1, ?_⟩
              refine ⟨_, c7.1, ?_⟩
              have hu : al2.get p.1 = none := by rw [b2, hf]; rfl
              refine raw_look (u := .tuple #[.int .i64 0, .bool false]) (b := (w3.alloc (.map #[] 0)).heap.size) (s := p.1) (l := al2) ties rfl rfl rfl rfl (by kernel_rfl) rfl rfl rfl a2 (congrArg (fun o : Option Value => Value.tuple #[o.getD (.int .i64 0), .bool o.isSome]) hu) ?_
              exact ⟨Eq.trans (b := Value.tuple #[.int .i64 0, .bool false]) rfl (congrArg (fun o : Int × Bool => Value.tuple #[.int .i64 o.1, .bool o.2]) hno).symm, x1.trans X7⟩
            refine Exists.elim (Option.ne_none_iff_exists'.1 hf) fun v hf => ?_
            have hu : al2.get p.1 = some (.int .i64 v.w) := by rw [b2, hf]; rfl
            by_cases hw : v.w = p.2
            · have hcp : covP l p = true := by unfold covP; rw [hf]; exact decide_eq_true (congrArg some hw)
              refine ⟨⟨by omega, by omega⟩, vlc (vl0 p), rfl, hcv6.ext x6, k7.1, ?_⟩
              refine ⟨_, c7.1, ?_⟩
              refine raw_look (u := .tuple #[.int .i64 v.w, .bool true]) (b := (w3.alloc (.map #[] 0)).heap.size) (s := p.1) (l := al2) ties rfl rfl rfl rfl (by kernel_rfl) rfl rfl rfl a2 (congrArg (fun o : Option Value => Value.tuple #[o.getD (.int .i64 0), .bool o.isSome]) hu) ?_
              refine ⟨_, c7.2.1, ?_⟩
              refine br_dec_false (fun h => h hw) ?_
              refine ⟨_, IntWalk.i64_in _ (by omega), ?_⟩
              refine hK (i2 + 1, _, _, _) _ _ (vs4 (vint (by show (i2 : Int) + 1 = ((i2 + 1 : Nat) : Int); omega)) rfl rfl rfl) ⟨x6.trans x7, by show i2 + 1 ≤ _; omega, fun j hj q hq => ?_⟩ (by show _ - (i2 + 1) < _ - i2; omega) ?_
              · by_cases e : j = i2
                · subst e; rw [hpm] at hq; rw [← Option.some.inj hq]; exact hcp
                · exact hall j (by have : j < i2 + 1 := hj; omega) q hq
              · ((repeat (first | (with_reducible exact Only.refl) | (with_reducible refine Only.skip ?_) | ((with_reducible refine Only.upd ?_ ?_); rfl) | ((with_reducible refine Only.over ?_ ?_ _); rfl) | ((with_reducible refine Only.hav ?_ ?_ ?_); rfl; rfl))))
            · have hno := no (fun e => by have := of_decide_eq_true e; rw [hf] at this; exact hw (Option.some.inj this))
              refine ⟨⟨by omega, by omega⟩, vlc (vl0 p), rfl, hcv6.ext x6, k7.1, ?_⟩
              refine ⟨_, c7.1, ?_⟩
              refine raw_look (u := .tuple #[.int .i64 v.w, .bool true]) (b := (w3.alloc (.map #[] 0)).heap.size) (s := p.1) (l := al2) ties rfl rfl rfl rfl (by kernel_rfl) rfl rfl rfl a2 (congrArg (fun o : Option Value => Value.tuple #[o.getD (.int .i64 0), .bool o.isSome]) hu) ?_
              refine ⟨_, c7.2.1, ?_⟩
              refine br_dec_true hw ?_
              exact ⟨Eq.trans (b := Value.tuple #[.int .i64 0, .bool false]) rfl (congrArg (fun o : Int × Bool => Value.tuple #[.int .i64 o.1, .bool o.2]) hno).symm, x1.trans X7⟩
        ·
          as_aux_lemma =>
            have hcov : cov l (varsT (x, k)) = true := by
              rw [← hcv]
              refine List.all_eq_true.2 fun p hp => ?_
              obtain ⟨j, hj⟩ := List.mem_iff_getElem?.1 hp
              exact hall j (by have := (List.getElem?_eq_some_iff.1 hj).1; omega) p hj
            have X6 := X5.trans x6
            obtain ⟨al1, a1, b1⟩ := m1'.ext x6
            refine ⟨tc x _, rfl, hb.ext X6, ?_⟩
            refine Or.inl ((hev w6 (.map (some w3.heap.size)) (x1.trans X6) (.inr ⟨_, al1, rfl, a1, fun t => by rw [b1]; unfold envL; cases fnd l t <;> rfl⟩)).mono ?_)
            rintro _ w7 ⟨rfl, x7⟩
            exact ⟨Eq.trans (b := Value.tuple #[.int .i64 (evT (envL l) (x, k)), .bool true]) rfl (congrArg (fun o : Int × Bool => Value.tuple #[.int .i64 o.1, .bool o.2]) (evO_yes hcov)).symm, (x1.trans X6).trans x7⟩
    · have hvf : vOk l = false := by simpa using hvo
      simp only [hvf] at hvs
      rw [evalP_no (fun h => hvo h.2)]
      obtain ⟨a, c, rfl, _, _⟩ := id hs
      refine ret_of_vc ties mixed Try.func24 rfl (by kernel_rfl) rfl rfl ?_
      refine ⟨tc x _, rfl, hb, ?_⟩
      refine Or.inl ((hok _ x1).mono ?_)
      rintro _ w2 ⟨rfl, x2⟩
      refine Or.inl ((hvs w2 (x1.trans x2)).mono ?_)
      rintro _ w3 ⟨rfl, x3⟩
      exact ⟨rfl, x1.trans (x2.trans x3)⟩
  · have e : decide (TOk x k) = false := decide_eq_false ht
    simp only [e] at hok
    rw [evalP_no (fun h => ht h.1)]
    obtain ⟨a, c, rfl, _, _⟩ := id hs
    refine ret_of_vc ties mixed Try.func24 rfl (by kernel_rfl) rfl rfl ?_
    refine ⟨tc x _, rfl, hb, ?_⟩
    refine Or.inl ((hok _ x1).mono ?_)
    rintro _ w2 ⟨rfl, x2⟩
    exact ⟨rfl, x1.trans x2⟩
end Go.Proofs.Ytkoaicjcanplaaa
