/- Contracts of both CompareTerms. Contracts of CompareTerms in the reference; of sameTerm. -/
import Derived.Test.YtkoaicjcanplaaaQd
import Derived.Laws.Externs
namespace Go.Proofs.Ytkoaicjcanplaaa
open Go Go.Vc Go.RowKit
set_option linter.unusedVariables false

theorem isNaNI_ret (x : Int) (W : World) : Ret Try.prog 122 #[.int .i64 x] W (fun v w' => v = .bool false ∧ w' = W) := by
  refine ret_of_vc ties mixed Try.func122 rfl (by kernel_rfl) rfl rfl ?_
  exact ⟨vbool (by simp), rfl⟩
theorem cmpInt_ret (x y : Int) (W : World) : Ret Try.prog 78 #[.int .i64 x, .int .i64 y] W (fun v w' => v = .int .i64 (cmpI x y) ∧ w' = W) := by
  refine ret_of_vc ties mixed Try.func78 rfl (by kernel_rfl) rfl rfl ?_
  refine Or.inl ((isNaNI_ret x W).mono ?_)
  rintro _ _ ⟨rfl, rfl⟩
  refine Or.inl ((isNaNI_ret y _).mono ?_)
  rintro _ _ ⟨rfl, rfl⟩
  refine br_dec (fun h => ?_) (fun h => ?_)
  · exact ⟨vint (by unfold cmpI; rw [if_pos h]), rfl⟩
  refine br_dec (fun h' => ?_) (fun h' => ?_)
  · exact ⟨vint (by unfold cmpI; rw [if_neg h, if_pos h']), rfl⟩
  · exact ⟨vint (by unfold cmpI; rw [if_neg h, if_neg h']), rfl⟩
theorem sign_ret (x y : Int) (W : World) : Ret Try.prog 77 #[.int .i64 x, .int .i64 y] W (fun v w' => v = .int .i64 (cmpI x y) ∧ w' = W) := by
  refine ret_of_vc ties mixed Try.func77 rfl (by kernel_rfl) rfl rfl ?_
  refine br_dec (fun h => ?_) (fun h => ?_)
  · exact ⟨vint (by unfold cmpI; rw [if_pos h]), rfl⟩
  refine br_dec (fun h' => ?_) (fun h' => ?_)
  · exact ⟨vint (by unfold cmpI; rw [if_neg h, if_pos h']), rfl⟩
  · exact ⟨vint (by unfold cmpI; rw [if_neg h, if_neg h']), rfl⟩
theorem cmpStr_ret (a b : ByteArray) (W : World) : Ret Try.prog 123 #[.string a, .string b] W (fun v w' => v = .int .i64 (cmpS a b) ∧ w' = W) := by
  refine ret_of_vc ties mixed Try.func123 rfl (by kernel_rfl) rfl rfl ?_
  have hrun : Sem.run Try.prog (callFunc 147 #[.string a, .string b]) W = .ok (.value (.int .i64 (cmpS a b))) W :=
    (run_callFunc_extern Try.func147 (by kernel_rfl) (by kernel_rfl) (by kernel_rfl) (e := Extern.BytealgCompare.compare) (by kernel_rfl) ..).trans (congrArg (fun r : Result Value => r.andThen fun v w' => Result.ok (Next.value v) w') (Lib.run_compareString (P := Try.prog) a b W))
  refine Or.inr ⟨.value (.int .i64 (cmpS a b)), _, W, Eq.trans (by kernel_rfl) hrun, rfl, ?_⟩
  exact ⟨rfl, rfl⟩
theorem cmpString_ret (a b : ByteArray) (W : World) : Ret Try.prog 79 #[.string a, .string b] W (fun v w' => v = .int .i64 (cmpS a b) ∧ w' = W) := by
  refine ret_of_vc ties mixed Try.func79 rfl (by kernel_rfl) rfl rfl ?_
  refine Or.inl ((cmpStr_ret a b W).mono ?_)
  rintro _ _ ⟨rfl, rfl⟩
  exact ⟨rfl, rfl⟩
/-- What is still to be compared. -/
def CmR (f g p q : TF) (k : Nat) : Prop := cmpF f g = cmpF p q ∧ k + p.len = f.len ∧ k + q.len = g.len
theorem cmp_end {f g p q : TF} {k : Nat} (h : CmR f g p q k) (he : p.len = 0 ∨ q.len = 0) : cmpI f.len g.len = cmpF f g := by
  obtain ⟨h1, h2, h3⟩ := h
  rw [h1]
  unfold cmpI
  cases p with
  | nil =>
    simp only [Fo.len] at h2
    cases q with
    | nil => simp only [Fo.len] at h3; rw [if_neg (by omega), if_neg (by omega)]; rfl
    | cons y l r => simp only [Fo.len] at h3; rw [if_pos (by omega)]; rfl
  | cons x l r =>
    simp only [Fo.len] at h2
    cases q with
    | nil => simp only [Fo.len] at h3; rw [if_neg (by omega), if_pos (by omega)]; rfl
    | cons y l' r' => simp [Fo.len] at he
theorem cmp_step {f g : TF} {x y : Lab} {p q r r' : TF} {k : Nat} (h : CmR f g (.cons x p r) (.cons y q r') k) : (cmpT (x, p) (y, q) ≠ 0 → cmpF f g = cmpT (x, p) (y, q)) ∧ (cmpT (x, p) (y, q) = 0 → CmR f g r r' (k + 1)) := by
  obtain ⟨h1, h2, h3⟩ := h
  rw [cmpF_cons] at h1
  simp only [Fo.len] at h2 h3
  exact ⟨fun h => by rw [h1, if_pos h], fun h => ⟨by rw [h1, if_neg (fun e => e h)], by omega, by omega⟩⟩
theorem cmpT_eq (x y : Lab) (f g : TF) : cmpT (x, f) (y, g) = if cmpI x.op y.op ≠ 0 then cmpI x.op y.op else if cmpI x.w y.w ≠ 0 then cmpI x.w y.w else if cmpI x.n y.n ≠ 0 then cmpI x.n y.n else if cmpS x.name y.name ≠ 0 then cmpS x.name y.name else cmpF f g := by
  unfold cmpT cmpL
  simp only
  by_cases h1 : cmpI x.op y.op = 0 <;> by_cases h2 : cmpI x.w y.w = 0 <;> by_cases h3 : cmpI x.n y.n = 0 <;> simp [h1, h2, h3]

set_option maxHeartbeats 4000000 in
theorem impl_Compare_all : ∀ (n : Nat) (f g : TF), f.size < n → ∀ (x y : Lab) (s t : Value) (W : World), TSl anyB W s f → TSl anyB W t g →
    Ret Try.prog 31 #[tv x s, tv y t] W (fun v w' => v = .int .i64 (cmpT (x, f) (y, g)) ∧ Ext W w') := by
  intro n
  induction n with
  | zero => intro f g hf; omega
  | succ n ih =>
    intro f g hf x y s t W hs ht
    obtain ⟨a, c, rfl, hl, hat⟩ := hs
    obtain ⟨a', c', rfl, hl', hat'⟩ := ht
    have hlm : (maxLen : Int) ≤ 9223372036854775807 := by decide
    rw [cmpT_eq]
    refine ret_of_vc ties mixed Try.func31 rfl (by kernel_rfl) rfl rfl ?_
    have hx := (Ext.new W (.cells #[.int .i64 x.op, .int .i64 x.w, .int .i64 x.n, .string x.name, .slice a f.len c] 25)).alloc (.cells #[.int .i64 y.op, .int .i64 y.w, .int .i64 y.n, .string y.name, .slice a' g.len c'] 25)
    refine ⟨_, (Ext.new _ _).cell (boxed _ _ _ _ _ rfl), _, boxed _ _ _ _ _ rfl, ?_⟩
    refine Or.inl ((cmpInt_ret _ _ _).mono ?_)
    rintro _ _ ⟨rfl, rfl⟩
    refine br_dec (fun h => ?_) (fun h0 => ?_)
    · exact ⟨vint (by rw [if_pos h]), hx⟩
    rw [if_neg h0]
    refine ⟨_, (Ext.new _ _).cell (boxed _ _ _ _ _ rfl), _, boxed _ _ _ _ _ rfl, ?_⟩
    refine Or.inl ((cmpInt_ret _ _ _).mono ?_)
    rintro _ _ ⟨rfl, rfl⟩
    refine br_dec (fun h => ?_) (fun h1 => ?_)
    · exact ⟨vint (by rw [if_pos h]), hx⟩
    rw [if_neg h1]
    refine ⟨_, (Ext.new _ _).cell (boxed _ _ _ _ _ rfl), _, boxed _ _ _ _ _ rfl, ?_⟩
    refine Or.inl ((cmpInt_ret _ _ _).mono ?_)
    rintro _ _ ⟨rfl, rfl⟩
    refine br_dec (fun h => ?_) (fun h2 => ?_)
    · exact ⟨vint (by rw [if_pos h]), hx⟩
    rw [if_neg h2]
    refine ⟨_, (Ext.new _ _).cell (boxed _ _ _ _ _ rfl), _, boxed _ _ _ _ _ rfl, ?_⟩
    refine Or.inl ((cmpString_ret _ _ _).mono ?_)
    rintro _ _ ⟨rfl, rfl⟩
    refine br_dec (fun h => ?_) (fun h3 => ?_)
    · exact ⟨vint (by rw [if_pos h]), hx⟩
    rw [if_neg h3]
    have c4 := (Ext.new (W.alloc (.cells #[.int .i64 x.op, .int .i64 x.w, .int .i64 x.n, .string x.name, .slice a f.len c] 25)) (.cells #[.int .i64 y.op, .int .i64 y.w, .int .i64 y.n, .string y.name, .slice a' g.len c'] 25)).cell (boxed W #[.int .i64 x.op, .int .i64 x.w, .int .i64 x.n, .string x.name, .slice a f.len c] 25 4 _ rfl)
    have d4 := boxed (W.alloc (.cells #[.int .i64 x.op, .int .i64 x.w, .int .i64 x.n, .string x.name, .slice a f.len c] 25)) #[.int .i64 y.op, .int .i64 y.w, .int .i64 y.n, .string y.name, .slice a' g.len c'] 25 4 _ rfl
    refine loop_rule (σ := Nat × TF × TF × Value) [9, 10] 43 71 (fun q => [.int .i64 q.1, q.2.2.2])
      (fun q w' => Ext _ w' ∧ CmR f g q.2.1 q.2.2.1 q.1 ∧ q.2.1.size ≤ f.size ∧
        (q.2.1.len = 0 ∨ ∃ b o, a = some ⟨b, o, none⟩ ∧ TAt anyB W q.2.1 b (o + q.1 * 5)) ∧ (q.2.2.1.len = 0 ∨ ∃ b o, a' = some ⟨b, o, none⟩ ∧ TAt anyB W q.2.2.1 b (o + q.1 * 5)))
      (fun q => q.2.1.len) (0, f, g, undef) rfl ⟨Ext.refl _, ⟨rfl, by simp, by simp⟩, Nat.le_refl _, ?_, ?_⟩ ?_
    · rcases hat with hat | ⟨b, o, ha, _, hat⟩
      · exact .inl hat
      · exact .inr ⟨b, o, ha, by simpa using hat⟩
    · rcases hat' with hat | ⟨b, o, ha, _, hat⟩
      · exact .inl hat
      · exact .inr ⟨b, o, ha, by simpa using hat⟩
    rintro ⟨k, p, q, jv⟩ w junk ⟨hx', hcm, hp, hpa, hqa⟩ K hK
    simp only at hcm hp hpa hqa
    have hk1 : k + p.len = f.len := hcm.2.1
    have hk2 : k + q.len = g.len := hcm.2.2
    show vc _ _ _ _ (over [9, 10] [.int .i64 k, jv] _) _
    refine ⟨_, hx'.cell c4, ?_⟩
    refine br_dec (fun h4 => ?_) (fun h4 => ?_)
    · refine ⟨_, hx'.cell d4, ?_⟩
      refine br_dec (fun h5 => ?_) (fun h5 => ?_)
      · match p, q with
        | .nil, _ => simp only [Fo.len] at hk1; omega
        | .cons x' kk r, .nil => simp only [Fo.len] at hk2; omega
        | .cons x' kk r, .cons y' ll r' =>
          obtain ⟨b, o, rfl, hpa'⟩ := hpa.resolve_left (by simp [Fo.len])
          obtain ⟨b', o', rfl, hqa'⟩ := hqa.resolve_left (by simp [Fo.len])
          obtain ⟨⟨s', hc, hs'⟩, hr⟩ := hpa'.sl
          obtain ⟨⟨t', hc', ht'⟩, hr'⟩ := hqa'.sl
          simp only [Fo.size, Fo.len] at hk1 hk2 hp
          have hxx := hx.trans hx'
          have ei : o + (k : Int).toNat * 5 = o + k * 5 := by omega
          have ei' : o' + (k : Int).toNat * 5 = o' + k * 5 := by omega
          refine .inl ⟨by kernel_rfl, _, hx'.cell c4, ⟨by omega, by omega⟩, [.int .i64 x'.op, .int .i64 x'.w, .int .i64 x'.n, .string x'.name, s'], rfl, by rw [ei]; exact hc.ext hxx, _, hx'.cell d4, ⟨by omega, by omega⟩, [.int .i64 y'.op, .int .i64 y'.w, .int .i64 y'.n, .string y'.name, t'], rfl, by rw [ei']; exact hc'.ext hxx, .int .i64 (cmpT (x', kk) (y', ll)), ?_, ?_⟩
          · intro w1 hx1
            exact ih kk ll (by omega) x' y' s' t' w1 (hs'.ext (hxx.trans hx1)) (ht'.ext (hxx.trans hx1))
          intro w1 hx1
          have hst := cmp_step hcm
          refine br_dec (fun h4 => ?_) (fun h4 => ?_)
          · exact ⟨vint (hst.1 h4).symm, hxx.trans hx1⟩
          · refine ⟨_, IntWalk.i64_in _ (by omega), ?_⟩
            refine hK (k + 1, r, r', _) _ _ (vs2 (vint (by show (k : Int) + 1 = ((k + 1 : Nat) : Int); omega)) rfl) ⟨hx'.trans hx1, hst.2 (Classical.not_not.1 h4), by show r.size ≤ f.size; omega, ?_, ?_⟩ (by show r.len < r.len + 1; omega) ?_
            · right
              refine ⟨b, o, rfl, ?_⟩
              show TAt anyB W r b (o + (k + 1) * 5)
              rw [show o + (k + 1) * 5 = o + k * 5 + 5 from by omega]
              exact hr
            · right
              refine ⟨b', o', rfl, ?_⟩
              show TAt anyB W r' b' (o' + (k + 1) * 5)
              rw [show o' + (k + 1) * 5 = o' + k * 5 + 5 from by omega]
              exact hr'
            · ((repeat (first | (with_reducible exact Only.refl) | (with_reducible refine Only.skip ?_) | ((with_reducible refine Only.upd ?_ ?_); rfl) | ((with_reducible refine Only.over ?_ ?_ _); rfl) | ((with_reducible refine Only.hav ?_ ?_ ?_); rfl; rfl))))
      · refine ⟨_, hx'.cell c4, _, hx'.cell d4, ?_⟩
        refine Or.inl ((cmpInt_ret _ _ _).mono ?_)
        rintro _ _ ⟨rfl, rfl⟩
        exact ⟨vint (cmp_end hcm (.inr (by omega))), hx.trans hx'⟩
    · refine ⟨_, hx'.cell c4, _, hx'.cell d4, ?_⟩
      refine Or.inl ((cmpInt_ret _ _ _).mono ?_)
      rintro _ _ ⟨rfl, rfl⟩
      exact ⟨vint (cmp_end hcm (.inl (by omega))), hx.trans hx'⟩
end Go.Proofs.Ytkoaicjcanplaaa
namespace Go.Proofs.Ytkoaicjcanplaaa
open Go Go.Vc Go.RowKit
set_option linter.unusedVariables false

theorem cmpS_name (a b : ByteArray) : cmpS a b = if a = b then 0 else if less a b = true then -1 else 1 := by
  by_cases h : a = b
  · rw [if_pos h]; exact cmpS_zero.2 h
  · rw [if_neg h, less_cmp]
    have := cmpS_val a b
    have : cmpS a b ≠ 0 := fun e => h (cmpS_zero.1 e)
    by_cases h1 : cmpS a b = -1
    · rw [if_pos (decide_eq_true h1)]; exact h1
    · rw [if_neg (by simpa using h1)]; omega
set_option maxHeartbeats 4000000 in
theorem spec_Compare_all : ∀ (n : Nat) (f g : TF), f.size < n → ∀ (x y : Lab) (s t : Value) (W : World), TSl anyB W s f → TSl anyB W t g →
    Ret Try.prog 29 #[tv x s, tv y t] W (fun v w' => v = .int .i64 (cmpT (x, f) (y, g)) ∧ Ext W w') := by
  intro n
  induction n with
  | zero => intro f g hf; omega
  | succ n ih =>
    intro f g hf x y s t W hs ht
    obtain ⟨a, c, rfl, hl, hat⟩ := hs
    obtain ⟨a', c', rfl, hl', hat'⟩ := ht
    have hlm : (maxLen : Int) ≤ 9223372036854775807 := by decide
    rw [cmpT_eq]
    refine ret_of_vc ties mixed Try.func29 rfl (by kernel_rfl) rfl rfl ?_
    have hx1 : Ext W (W.alloc (.cells [.int .i64 x.op, .int .i64 x.w, .int .i64 x.n, .string x.name, .slice a f.len c].toArray 25)) := Ext.new _ _
    have hx2 : Ext (W.alloc (.cells [.int .i64 x.op, .int .i64 x.w, .int .i64 x.n, .string x.name, .slice a f.len c].toArray 25)) ((W.alloc (.cells [.int .i64 x.op, .int .i64 x.w, .int .i64 x.n, .string x.name, .slice a f.len c].toArray 25)).alloc (.cells [.int .i64 y.op, .int .i64 y.w, .int .i64 y.n, .string y.name, .slice a' g.len c'].toArray 25)) := Ext.new _ _
    have bx := (boxedAll W [.int .i64 x.op, .int .i64 x.w, .int .i64 x.n, .string x.name, .slice a f.len c] 25).ext hx2
    have by' := boxedAll (W.alloc (.cells [.int .i64 x.op, .int .i64 x.w, .int .i64 x.n, .string x.name, .slice a f.len c].toArray 25)) [.int .i64 y.op, .int .i64 y.w, .int .i64 y.n, .string y.name, .slice a' g.len c'] 25
    have hx := hx1.trans hx2
    refine .inr (.inr (hyb_rule ties mixed [(0, .quiet), (1, .quiet), (2, .quiet), (3, .quiet), (4, .quiet), (5, .quiet), (6, .quiet), (7, .quiet), (8, .quiet), (9, .quiet), (10, .quiet), (11, .quiet), (12, .quiet), (13, .quiet), (14, .quiet), (17, .quiet), (15, .loud), (16, .quiet)] (by kernel_rfl) ?_))
    refine ⟨_, bx.1, _, by'.1, .int .i64 (cmpI x.op y.op), fun w1 hw => (sign_ret _ _ _).mono fun v w' h => ⟨h.1, by rw [h.2]; exact Ext.refl _⟩, ?_⟩
    refine ⟨_, bx.2.1, _, by'.2.1, .int .i64 (cmpI x.w y.w), fun w1 hw => (sign_ret _ _ _).mono fun v w' h => ⟨h.1, by rw [h.2]; exact Ext.refl _⟩, ?_⟩
    refine ⟨_, bx.2.2.1, _, by'.2.2.1, .int .i64 (cmpI x.n y.n), fun w1 hw => (sign_ret _ _ _).mono fun v w' h => ⟨h.1, by rw [h.2]; exact Ext.refl _⟩, ?_⟩
    intro w3 hw3
    refine ⟨Ext.new _ _, ?_⟩
    have cB := (boxedAll w3 [.int .i64 (cmpI x.op y.op), .int .i64 (cmpI x.w y.w), .int .i64 (cmpI x.n y.n)] 3)
    intro w4 hw4
    have hx4 := (hw3.trans (Ext.new _ _)).trans hw4
    replace cB := cB.ext hw4
    replace bx := bx.ext hx4
    replace by' := by'.ext hx4
    replace hx := hx.trans hx4
    refine loop_rule (σ := Nat × Value) [27, 6] 28 35 (fun q => [.int .i64 q.1, q.2])
      (fun q w' => w' = w4 ∧ q.1 ≤ 3 ∧ (1 ≤ q.1 → cmpI x.op y.op = 0) ∧ (2 ≤ q.1 → cmpI x.w y.w = 0) ∧ (3 ≤ q.1 → cmpI x.n y.n = 0))
      (fun q => 3 - q.1) (0, undef) rfl ⟨rfl, by simp, by simp, by simp, by simp⟩ ?_
    rintro ⟨i, jv⟩ w junk ⟨rfl, hi3, h1, h2, h3⟩ K hK
    simp only at hi3 h1 h2 h3
    show vc _ _ _ _ (over [27, 6] [.int .i64 i, jv] _) _
    refine br_dec (fun h => ?_) (fun h => ?_)
    · have hi : i = 0 ∨ i = 1 ∨ i = 2 := by omega
      rcases hi with rfl | rfl | rfl
      · refine ⟨⟨by decide, by decide⟩, _, cB.1, ?_⟩
        refine br_dec (fun h => ?_) (fun h => ?_)
        · exact ⟨vint (by rw [if_pos h]), hx⟩
        · refine ⟨_, IntWalk.i64_in _ (by decide), ?_⟩
          refine hK (1, _) _ _ (vs2 rfl rfl) ⟨rfl, by simp, fun _ => Classical.not_not.1 h, by simp, by simp⟩ (by simp) ?_
          ((repeat (first | (with_reducible exact Only.refl) | (with_reducible refine Only.skip ?_) | ((with_reducible refine Only.upd ?_ ?_); rfl) | ((with_reducible refine Only.over ?_ ?_ _); rfl) | ((with_reducible refine Only.hav ?_ ?_ ?_); rfl; rfl))))
      · refine ⟨⟨by decide, by decide⟩, _, cB.2.1, ?_⟩
        refine br_dec (fun h => ?_) (fun h => ?_)
        · exact ⟨vint (by rw [if_neg (fun e => e (h1 (by decide))), if_pos h]), hx⟩
        · refine ⟨_, IntWalk.i64_in _ (by decide), ?_⟩
          refine hK (2, _) _ _ (vs2 rfl rfl) ⟨rfl, by simp, fun _ => h1 (by decide), fun _ => Classical.not_not.1 h, by simp⟩ (by simp) ?_
          ((repeat (first | (with_reducible exact Only.refl) | (with_reducible refine Only.skip ?_) | ((with_reducible refine Only.upd ?_ ?_); rfl) | ((with_reducible refine Only.over ?_ ?_ _); rfl) | ((with_reducible refine Only.hav ?_ ?_ ?_); rfl; rfl))))
      · refine ⟨⟨by decide, by decide⟩, _, cB.2.2.1, ?_⟩
        refine br_dec (fun h => ?_) (fun h => ?_)
        · exact ⟨vint (by rw [if_neg (fun e => e (h1 (by decide))), if_neg (fun e => e (h2 (by decide))), if_pos h]), hx⟩
        · refine ⟨_, IntWalk.i64_in _ (by decide), ?_⟩
          refine hK (3, _) _ _ (vs2 rfl rfl) ⟨rfl, by simp, fun _ => h1 (by decide), fun _ => h2 (by decide), fun _ => Classical.not_not.1 h⟩ (by simp) ?_
          ((repeat (first | (with_reducible exact Only.refl) | (with_reducible refine Only.skip ?_) | ((with_reducible refine Only.upd ?_ ?_); rfl) | ((with_reducible refine Only.over ?_ ?_ _); rfl) | ((with_reducible refine Only.hav ?_ ?_ ?_); rfl; rfl))))
    have h1 := h1 (by omega)
    have h2 := h2 (by omega)
    have h3 := h3 (by omega)
    rw [if_neg (fun e => e h1), if_neg (fun e => e h2), if_neg (fun e => e h3)]
    refine ⟨_, bx.2.2.2.1, _, by'.2.2.2.1, ?_⟩
    refine br_dec (fun hn => ?_) (fun hn => ?_)
    · refine ⟨_, bx.2.2.2.1, _, by'.2.2.2.1, ?_⟩
      have hS := cmpS_name x.name y.name
      rw [if_neg hn] at hS
      refine br_split (fun hb => ?_) (fun hb => ?_)
      · have hS : cmpS x.name y.name = -1 := by rw [hS, if_pos (show less x.name y.name = true from hb)]
        exact ⟨vint (by rw [hS]; rfl), hx⟩
      · have hS : cmpS x.name y.name = 1 := by rw [hS, if_neg (by rw [show less x.name y.name = false from hb]; decide)]
        exact ⟨vint (by rw [hS]; rfl), hx⟩
    have hn := Classical.not_not.1 hn
    rw [if_neg (fun e => e (cmpS_zero.2 hn))]
    refine ⟨_, bx.2.2.2.2.1, ?_⟩
    refine loop_rule (σ := Nat × TF × TF × Value × Value × Value) [48, 7, 8, 9] 49 69 (fun q => [.int .i64 q.1, q.2.2.2.1, q.2.2.2.2.1, q.2.2.2.2.2])
      (fun q w' => Ext w w' ∧ CmR f g q.2.1 q.2.2.1 q.1 ∧ q.2.1.size ≤ f.size ∧
        (q.2.1.len = 0 ∨ ∃ b o, a = some ⟨b, o, none⟩ ∧ TAt anyB W q.2.1 b (o + q.1 * 5)) ∧ (q.2.2.1.len = 0 ∨ ∃ b o, a' = some ⟨b, o, none⟩ ∧ TAt anyB W q.2.2.1 b (o + q.1 * 5)))
      (fun q => q.2.1.len) (0, f, g, undef, undef, undef) rfl ⟨Ext.refl _, ⟨rfl, by simp, by simp⟩, Nat.le_refl _, ?_, ?_⟩ ?_
    · rcases hat with hat | ⟨b, o, ha, _, hat⟩
      · exact .inl hat
      · exact .inr ⟨b, o, ha, by simpa using hat⟩
    · rcases hat' with hat | ⟨b, o, ha, _, hat⟩
      · exact .inl hat
      · exact .inr ⟨b, o, ha, by simpa using hat⟩
    rintro ⟨k, p, q, j7, j8, j9⟩ w5 junk' ⟨hx', hcm, hp, hpa, hqa⟩ K' hK'
    simp only at hcm hp hpa hqa
    have hk1 : k + p.len = f.len := hcm.2.1
    have hk2 : k + q.len = g.len := hcm.2.2
    show vc _ _ _ _ (over [48, 7, 8, 9] [.int .i64 k, j7, j8, j9] _) _
    replace bx := bx.ext hx'
    replace by' := by'.ext hx'
    have hxx := hx.trans hx'
    refine br_dec (fun h4 => ?_) (fun h4 => ?_)
    · match p with
      | .nil => simp only [Fo.len] at hk1; omega
      | .cons x' kk r =>
        obtain ⟨b, o, rfl, hpa'⟩ := hpa.resolve_left (by simp [Fo.len])
        obtain ⟨⟨s', hc, hs'⟩, hr⟩ := hpa'.sl
        simp only [Fo.size, Fo.len] at hk1 hp
        have ei : o + (k : Int).toNat * 5 = o + k * 5 := by omega
        have hone : oneB s' = true := by obtain ⟨a1, c1, rfl, _⟩ := hs'; rfl
        have r6 := Rmy.new w5 [.int .i64 0, .int .i64 0, .int .i64 0, .string ByteArray.empty, .slice none 0 0] 25
        have hx6 : Ext w5 (setCells (w5.alloc (.cells #[.int .i64 0, .int .i64 0, .int .i64 0, .string ByteArray.empty, .slice none 0 0] 25)) w5.heap.size 0 [.int .i64 x'.op, .int .i64 x'.w, .int .i64 x'.n, .string x'.name, s']) := Ext.setCells _ (Ext.new _ _) (Nat.le_refl _)
        have hc6 := setCells_at [.int .i64 x'.op, .int .i64 x'.w, .int .i64 x'.n, .string x'.name, s'] _ 0 5 r6 (Nat.le_refl 5)
        refine ⟨⟨by omega, by omega⟩, [.int .i64 x'.op, .int .i64 x'.w, .int .i64 x'.n, .string x'.name, s'], rfl, by rw [ei]; exact hc.ext hxx, ?_⟩
        refine ⟨r6.all [.int .i64 x'.op, .int .i64 x'.w, .int .i64 x'.n, .string x'.name, s'] 0 (Nat.le_refl 5) (by simp only [List.all_cons, hone]; rfl), ?_⟩
        replace bx := bx.ext hx6
        replace by' := by'.ext hx6
        refine ⟨_, by'.2.2.2.2.1, ?_⟩
        refine br_dec (fun h5 => ?_) (fun h5 => ?_)
        · exact ⟨vint (by rw [← cmp_end hcm (.inr (by omega))]; unfold cmpI; rw [if_neg (by omega), if_pos (by omega)]), hxx.trans hx6⟩
        match q with
        | .nil => simp only [Fo.len] at hk2; omega
        | .cons y' ll r' =>
          obtain ⟨b', o', rfl, hqa'⟩ := hqa.resolve_left (by simp [Fo.len])
          obtain ⟨⟨t', hc', ht'⟩, hr'⟩ := hqa'.sl
          simp only [Fo.len] at hk2
          have ei' : o' + (k : Int).toNat * 5 = o' + k * 5 := by omega
          have hx7 := hxx.trans hx6
          refine .inl ⟨by kernel_rfl, _, rfl, hc6, _, by'.2.2.2.2.1, ⟨by omega, by omega⟩, [.int .i64 y'.op, .int .i64 y'.w, .int .i64 y'.n, .string y'.name, t'], rfl, by rw [ei']; exact hc'.ext hx7, .int .i64 (cmpT (x', kk) (y', ll)), ?_, ?_⟩
          · intro w1 hx1
            exact ih kk ll (by omega) x' y' s' t' w1 (hs'.ext (hx7.trans hx1)) (ht'.ext (hx7.trans hx1))
          intro w1 hx1
          have hst := cmp_step hcm
          refine br_dec (fun h4 => ?_) (fun h4 => ?_)
          · exact ⟨vint (hst.1 h4).symm, hx7.trans hx1⟩
          · refine ⟨_, IntWalk.i64_in _ (by omega), ?_⟩
            refine hK' (k + 1, r, r', _, _, _) _ _ (vs4 (vint (by show (k : Int) + 1 = ((k + 1 : Nat) : Int); omega)) rfl rfl rfl) ⟨(hx'.trans hx6).trans hx1, hst.2 (Classical.not_not.1 h4), by show r.size ≤ f.size; omega, ?_, ?_⟩ (by show r.len < r.len + 1; omega) ?_
            · right
              refine ⟨b, o, rfl, ?_⟩
              show TAt anyB W r b (o + (k + 1) * 5)
              rw [show o + (k + 1) * 5 = o + k * 5 + 5 from by omega]
              exact hr
            · right
              refine ⟨b', o', rfl, ?_⟩
              show TAt anyB W r' b' (o' + (k + 1) * 5)
              rw [show o' + (k + 1) * 5 = o' + k * 5 + 5 from by omega]
              exact hr'
            · ((repeat (first | (with_reducible exact Only.refl) | (with_reducible refine Only.skip ?_) | ((with_reducible refine Only.upd ?_ ?_); rfl) | ((with_reducible refine Only.over ?_ ?_ _); rfl) | ((with_reducible refine Only.hav ?_ ?_ ?_); rfl; rfl))))
    · refine ⟨_, bx.2.2.2.2.1, _, by'.2.2.2.2.1, ?_⟩
      refine Or.inl ((sign_ret _ _ _).mono ?_)
      rintro _ _ ⟨rfl, rfl⟩
      exact ⟨vint (cmp_end hcm (.inl (by omega))), hxx⟩
theorem impl_Compare (a b : Tm) (s t : Value) (W : World) (hs : TSl anyB W s a.2) (ht : TSl anyB W t b.2) : Ret Try.prog 31 #[tv a.1 s, tv b.1 t] W (fun v w' => v = .int .i64 (cmpT a b) ∧ Ext W w') := impl_Compare_all _ a.2 b.2 (Nat.lt_succ_self _) a.1 b.1 s t W hs ht
theorem spec_Compare (a b : Tm) (s t : Value) (W : World) (hs : TSl anyB W s a.2) (ht : TSl anyB W t b.2) : Ret Try.prog 29 #[tv a.1 s, tv b.1 t] W (fun v w' => v = .int .i64 (cmpT a b) ∧ Ext W w') := spec_Compare_all _ a.2 b.2 (Nat.lt_succ_self _) a.1 b.1 s t W hs ht
end Go.Proofs.Ytkoaicjcanplaaa
