/- Contracts of both CompareTerms. Contracts of CompareTerms in the reference; of sameTerm. -/
import Derived.Test.YtekddgkgeaolnaaQd
import Derived.Laws.Externs
namespace Go.Proofs.Ytekddgkgeaolnaa
open Go Go.Vc Go.RowKit
set_option linter.unusedVariables false

theorem isNaNI_ret (x : Int) (W : World) : Ret Try.prog 72 #[.int .i64 x] W (fun v w' => v = .bool false ∧ w' = W) := by
  refine ret_of_vc ties mixed Try.func72 rfl (by kernel_rfl) rfl rfl ?_
  exact ⟨vbool (by simp), rfl⟩
theorem cmpInt_ret (x y : Int) (W : World) : Ret Try.prog 41 #[.int .i64 x, .int .i64 y] W (fun v w' => v = .int .i64 (cmpI x y) ∧ w' = W) := by
  refine ret_of_vc ties mixed Try.func41 rfl (by kernel_rfl) rfl rfl ?_
  refine Or.inl ((isNaNI_ret x W).mono ?_)
  rintro _ _ ⟨rfl, rfl⟩
  refine Or.inl ((isNaNI_ret y _).mono ?_)
  rintro _ _ ⟨rfl, rfl⟩
  refine br_dec (fun h => ?_) (fun h => ?_)
  · exact ⟨vint (by unfold cmpI; rw [if_pos h]), rfl⟩
  refine br_dec (fun h' => ?_) (fun h' => ?_)
  · exact ⟨vint (by unfold cmpI; rw [if_neg h, if_pos h']), rfl⟩
  · exact ⟨vint (by unfold cmpI; rw [if_neg h, if_neg h']), rfl⟩
theorem cmpStr_ret (a b : ByteArray) (W : World) : Ret Try.prog 73 #[.string a, .string b] W (fun v w' => v = .int .i64 (cmpS a b) ∧ w' = W) := by
  refine ret_of_vc ties mixed Try.func73 rfl (by kernel_rfl) rfl rfl ?_
  have hrun : Sem.run Try.prog (callFunc 94 #[.string a, .string b]) W = .ok (.value (.int .i64 (cmpS a b))) W :=
    (run_callFunc_extern Try.func94 (by kernel_rfl) (by kernel_rfl) (by kernel_rfl) (e := Extern.BytealgCompare.compare) (by kernel_rfl) ..).trans (congrArg (fun r : Result Value => r.andThen fun v w' => Result.ok (Next.value v) w') (Lib.run_compareString (P := Try.prog) a b W))
  refine Or.inr ⟨.value (.int .i64 (cmpS a b)), _, W, Eq.trans (by kernel_rfl) hrun, rfl, ?_⟩
  exact ⟨rfl, rfl⟩
theorem cmpString_ret (a b : ByteArray) (W : World) : Ret Try.prog 42 #[.string a, .string b] W (fun v w' => v = .int .i64 (cmpS a b) ∧ w' = W) := by
  refine ret_of_vc ties mixed Try.func42 rfl (by kernel_rfl) rfl rfl ?_
  refine Or.inl ((cmpStr_ret a b W).mono ?_)
  rintro _ _ ⟨rfl, rfl⟩
  exact ⟨rfl, rfl⟩
/-- What is still to be compared. -/
def CmR (f g p q : TF) (k : Nat) : Prop := cmpF f g = cmpF p q ∧ k + p.len = f.len ∧ k + q.len = g.len
theorem cmp_end {f g p q : TF} {k : Nat} (h : CmR f g p q k) (he : p.len = 0 ∨ q.len = 0) : cmpI f.len g.len = cmpF f g := by
  obtain ⟨h1, h2, h3⟩ := h
  rw [h1]
  unfold cmpI
  cases p with
  | nil =>
    simp only [Fo.len] at h2
    cases q with
    | nil => simp only [Fo.len] at h3; rw [if_neg (by omega), if_neg (by omega)]; rfl
    | cons y l r => simp only [Fo.len] at h3; rw [if_pos (by omega)]; rfl
  | cons x l r =>
    simp only [Fo.len] at h2
    cases q with
    | nil => simp only [Fo.len] at h3; rw [if_neg (by omega), if_pos (by omega)]; rfl
    | cons y l' r' => simp [Fo.len] at he
theorem cmp_step {f g : TF} {x y : Lab} {p q r r' : TF} {k : Nat} (h : CmR f g (.cons x p r) (.cons y q r') k) : (cmpT (x, p) (y, q) ≠ 0 → cmpF f g = cmpT (x, p) (y, q)) ∧ (cmpT (x, p) (y, q) = 0 → CmR f g r r' (k + 1)) := by
  obtain ⟨h1, h2, h3⟩ := h
  rw [cmpF_cons] at h1
  simp only [Fo.len] at h2 h3
  exact ⟨fun h => by rw [h1, if_pos h], fun h => ⟨by rw [h1, if_neg (fun e => e h)], by omega, by omega⟩⟩
theorem cmpT_eq (x y : Lab) (f g : TF) : cmpT (x, f) (y, g) = if cmpI x.op y.op ≠ 0 then cmpI x.op y.op else if cmpI x.w y.w ≠ 0 then cmpI x.w y.w else if cmpI x.n y.n ≠ 0 then cmpI x.n y.n else if cmpS x.name y.name ≠ 0 then cmpS x.name y.name else cmpF f g := by
  unfold cmpT cmpL
  simp only
  by_cases h1 : cmpI x.op y.op = 0 <;> by_cases h2 : cmpI x.w y.w = 0 <;> by_cases h3 : cmpI x.n y.n = 0 <;> simp [h1, h2, h3]

set_option maxHeartbeats 4000000 in
theorem impl_Compare_all : ∀ (n : Nat) (f g : TF), f.size < n → ∀ (x y : Lab) (s t : Value) (W : World), TSl anyB W s f → TSl anyB W t g →
    Ret Try.prog 18 #[tv x s, tv y t] W (fun v w' => v = .int .i64 (cmpT (x, f) (y, g)) ∧ Ext W w') := by
  intro n
  induction n with
  | zero => intro f g hf; omega
  | succ n ih =>
    intro f g hf x y s t W hs ht
    obtain ⟨a, c, rfl, hl, hat⟩ := hs
    obtain ⟨a', c', rfl, hl', hat'⟩ := ht
    have hlm : (maxLen : Int) ≤ 9223372036854775807 := by decide
    rw [cmpT_eq]
    refine ret_of_vc ties mixed Try.func18 rfl (by kernel_rfl) rfl rfl ?_
    have hx := (Ext.new W (.cells #[.int .i64 x.op, .int .i64 x.w, .int .i64 x.n, .string x.name, .slice a f.len c] 25)).alloc (.cells #[.int .i64 y.op, .int .i64 y.w, .int .i64 y.n, .string y.name, .slice a' g.len c'] 25)
    refine ⟨_, (Ext.new _ _).cell (boxed _ _ _ _ _ rfl), _, boxed _ _ _ _ _ rfl, ?_⟩
    refine Or.inl ((cmpInt_ret _ _ _).mono ?_)
    rintro _ _ ⟨rfl, rfl⟩
    refine br_dec (fun h => ?_) (fun h0 => ?_)
    · exact ⟨vint (by rw [if_pos h]), hx⟩
    rw [if_neg h0]
    refine ⟨_, (Ext.new _ _).cell (boxed _ _ _ _ _ rfl), _, boxed _ _ _ _ _ rfl, ?_⟩
    refine Or.inl ((cmpInt_ret _ _ _).mono ?_)
    rintro _ _ ⟨rfl, rfl⟩
    refine br_dec (fun h => ?_) (fun h1 => ?_)
    · exact ⟨vint (by rw [if_pos h]), hx⟩
    rw [if_neg h1]
    refine ⟨_, (Ext.new _ _).cell (boxed _ _ _ _ _ rfl), _, boxed _ _ _ _ _ rfl, ?_⟩
    refine Or.inl ((cmpInt_ret _ _ _).mono ?_)
    rintro _ _ ⟨rfl, rfl⟩
    refine br_dec (fun h => ?_) (fun h2 => ?_)
    · exact ⟨vint (by rw [if_pos h]), hx⟩
    rw [if_neg h2]
    refine ⟨_, (Ext.new _ _).cell (boxed _ _ _ _ _ rfl), _, boxed _ _ _ _ _ rfl, ?_⟩
    refine Or.inl ((cmpString_ret _ _ _).mono ?_)
    rintro _ _ ⟨rfl, rfl⟩
    refine br_dec (fun h => ?_) (fun h3 => ?_)
    · exact ⟨vint (by rw [if_pos h]), hx⟩
    rw [if_neg h3]
    have c4 := (Ext.new (W.alloc (.cells #[.int .i64 x.op, .int .i64 x.w, .int .i64 x.n, .string x.name, .slice a f.len c] 25)) (.cells #[.int .i64 y.op, .int .i64 y.w, .int .i64 y.n, .string y.name, .slice a' g.len c'] 25)).cell (boxed W #[.int .i64 x.op, .int .i64 x.w, .int .i64 x.n, .string x.name, .slice a f.len c] 25 4 _ rfl)
    have d4 := boxed (W.alloc (.cells #[.int .i64 x.op, .int .i64 x.w, .int .i64 x.n, .string x.name, .slice a f.len c] 25)) #[.int .i64 y.op, .int .i64 y.w, .int .i64 y.n, .string y.name, .slice a' g.len c'] 25 4 _ rfl
    refine loop_rule (σ := Nat × TF × TF × Value) [9, 10] 43 71 (fun q => [.int .i64 q.1, q.2.2.2])
      (fun q w' => Ext _ w' ∧ CmR f g q.2.1 q.2.2.1 q.1 ∧ q.2.1.size ≤ f.size ∧
        (q.2.1.len = 0 ∨ ∃ b o, a = some ⟨b, o, none⟩ ∧ TAt anyB W q.2.1 b (o + q.1 * 5)) ∧ (q.2.2.1.len = 0 ∨ ∃ b o, a' = some ⟨b, o, none⟩ ∧ TAt anyB W q.2.2.1 b (o + q.1 * 5)))
      (fun q => q.2.1.len) (0, f, g, undef) rfl ⟨Ext.refl _, ⟨rfl, by simp, by simp⟩, Nat.le_refl _, ?_, ?_⟩ ?_
    · rcases hat with hat | ⟨b, o, ha, _, hat⟩
      · exact .inl hat
      · exact .inr ⟨b, o, ha, by simpa using hat⟩
    · rcases hat' with hat | ⟨b, o, ha, _, hat⟩
      · exact .inl hat
      · exact .inr ⟨b, o, ha, by simpa using hat⟩
    rintro ⟨k, p, q, jv⟩ w junk ⟨hx', hcm, hp, hpa, hqa⟩ K hK
    simp only at hcm hp hpa hqa
    have hk1 : k + p.len = f.len := hcm.2.1
    have hk2 : k + q.len = g.len := hcm.2.2
    show vc _ _ _ _ (over [9, 10] [.int .i64 k, jv] _) _
    refine ⟨_, hx'.cell c4, ?_⟩
    refine br_dec (fun h4 => ?_) (fun h4 => ?_)
    · refine ⟨_, hx'.cell d4, ?_⟩
      refine br_dec (fun h5 => ?_) (fun h5 => ?_)
      · match p, q with
        | .nil, _ => simp only [Fo.len] at hk1; omega
        | .cons x' kk r, .nil => simp only [Fo.len] at hk2; omega
        | .cons x' kk r, .cons y' ll r' =>
          obtain ⟨b, o, rfl, hpa'⟩ := hpa.resolve_left (by simp [Fo.len])
          obtain ⟨b', o', rfl, hqa'⟩ := hqa.resolve_left (by simp [Fo.len])
          obtain ⟨⟨s', hc, hs'⟩, hr⟩ := hpa'.sl
          obtain ⟨⟨t', hc', ht'⟩, hr'⟩ := hqa'.sl
          simp only [Fo.size, Fo.len] at hk1 hk2 hp
          have hxx := hx.trans hx'
          have ei : o + (k : Int).toNat * 5 = o + k * 5 := by omega
          have ei' : o' + (k : Int).toNat * 5 = o' + k * 5 := by omega
          refine .inl ⟨by kernel_rfl, _, hx'.cell c4, ⟨by omega, by omega⟩, [.int .i64 x'.op, .int .i64 x'.w, .int .i64 x'.n, .string x'.name, s'], rfl, by rw [ei]; exact hc.ext hxx, _, hx'.cell d4, ⟨by omega, by omega⟩, [.int .i64 y'.op, .int .i64 y'.w, .int .i64 y'.n, .string y'.name, t'], rfl, by rw [ei']; exact hc'.ext hxx, .int .i64 (cmpT (x', kk) (y', ll)), ?_, ?_⟩
          · intro w1 hx1
            exact ih kk ll (by omega) x' y' s' t' w1 (hs'.ext (hxx.trans hx1)) (ht'.ext (hxx.trans hx1))
          intro w1 hx1
          have hst := cmp_step hcm
          refine br_dec (fun h4 => ?_) (fun h4 => ?_)
          · exact ⟨vint (hst.1 h4).symm, hxx.trans hx1⟩
          · refine ⟨_, IntWalk.i64_in _ (by omega), ?_⟩
            refine hK (k + 1, r, r', _) _ _ (vs2 (vint (by show (k : Int) + 1 = ((k + 1 : Nat) : Int); omega)) rfl) ⟨hx'.trans hx1, hst.2 (Classical.not_not.1 h4), by show r.size ≤ f.size; omega, ?_, ?_⟩ (by show r.len < r.len + 1; omega) ?_
            · right
              refine ⟨b, o, rfl, ?_⟩
              show TAt anyB W r b (o + (k + 1) * 5)
              rw [show o + (k + 1) * 5 = o + k * 5 + 5 from by omega]
              exact hr
            · right
              refine ⟨b', o', rfl, ?_⟩
              show TAt anyB W r' b' (o' + (k + 1) * 5)
              rw [show o' + (k + 1) * 5 = o' + k * 5 + 5 from by omega]
              exact hr'
            · ((repeat (first | (with_reducible exact Only.refl) | (with_reducible refine Only.skip ?_) | ((with_reducible refine Only.upd ?_ ?_); rfl) | ((with_reducible refine Only.over ?_ ?_ _); rfl) | ((with_reducible refine Only.hav ?_ ?_ ?_); rfl; rfl))))
      · refine ⟨_, hx'.cell c4, _, hx'.cell d4, ?_⟩
        refine Or.inl ((cmpInt_ret _ _ _).mono ?_)
        rintro _ _ ⟨rfl, rfl⟩
        exact ⟨vint (cmp_end hcm (.inr (by omega))), hx.trans hx'⟩
    · refine ⟨_, hx'.cell c4, _, hx'.cell d4, ?_⟩
      refine Or.inl ((cmpInt_ret _ _ _).mono ?_)
      rintro _ _ ⟨rfl, rfl⟩
      exact ⟨vint (cmp_end hcm (.inl (by omega))), hx.trans hx'⟩
end Go.Proofs.Ytekddgkgeaolnaa
namespace Go.Proofs.Ytekddgkgeaolnaa
open Go Go.Vc Go.RowKit
set_option linter.unusedVariables false

theorem cmpS_name (a b : ByteArray) : cmpS a b = if a = b then 0 else if less a b = true then -1 else 1 := by
  by_cases h : a = b
  · rw [if_pos h]; exact cmpS_zero.2 h
  · rw [if_neg h, less_cmp]
    have := cmpS_val a b
    have : cmpS a b ≠ 0 := fun e => h (cmpS_zero.1 e)
    by_cases h1 : cmpS a b = -1
    · rw [if_pos (decide_eq_true h1)]; exact h1
    · rw [if_neg (by simpa using h1)]; omega
theorem impl_Compare (a b : Tm) (s t : Value) (W : World) (hs : TSl anyB W s a.2) (ht : TSl anyB W t b.2) : Ret Try.prog 18 #[tv a.1 s, tv b.1 t] W (fun v w' => v = .int .i64 (cmpT a b) ∧ Ext W w') := impl_Compare_all _ a.2 b.2 (Nat.lt_succ_self _) a.1 b.1 s t W hs ht
end Go.Proofs.Ytekddgkgeaolnaa
