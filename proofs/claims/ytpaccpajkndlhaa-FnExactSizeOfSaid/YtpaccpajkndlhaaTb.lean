/- Contracts of SizeOf. (OPTIONAL) -/
import Derived.Test.YtpaccpajkndlhaaTa
namespace Go.Proofs.Ytpaccpajkndlhaa
open Go Go.Vc Go.RowKit

theorem impl_SizeOf_all : ∀ (n : Nat) (f : TF), f.size < n → ∀ (v : Lab) (s : Value) (W : World), TSl anyB W s f → f.size ≤ 1048576 →
    Ret Try.prog 12 #[.agg #[.int .i64 v.op, .int .i64 v.w, .int .i64 v.n, .string v.name, s]] W (fun u w' => u = .int .i64 (f.size + 1) ∧ Ext W w') := by
  intro n
  induction n with
  | zero => intro f hf; omega
  | succ n ih =>
    intro f hf v s W hs hsz
    obtain ⟨a, c, rfl, hl, hat⟩ := hs
    have hfl := f.len_le
    have hlm : (maxLen : Int) ≤ 9223372036854775807 := by decide
    refine ret_of_vc ties mixed Try.func12 rfl (by kernel_rfl) rfl rfl ?_
    refine ⟨_, boxed _ _ _ _ _ rfl, ?_⟩
    refine loop_rule (σ := Nat × Int × Value × TF) [3, 4, 8] 9 21 (fun q => [.int .i64 q.2.1, q.2.2.1, .int .i64 q.1])
      (fun q w' => Ext (W.alloc (.cells #[.int .i64 v.op, .int .i64 v.w, .int .i64 v.n, .string v.name, .slice a f.len c] 29)) w' ∧ q.1 + q.2.2.2.len = f.len ∧ q.2.2.2.size ≤ f.size ∧ q.2.1 + q.2.2.2.size = f.size + 1 ∧ (q.2.2.2.len = 0 ∨ ∃ b o, a = some ⟨b, o, none⟩ ∧ TAt anyB W q.2.2.2 b (o + q.1 * 5)))
      (fun q => q.2.2.2.len) (0, 1, undef, f) rfl ⟨Ext.refl _, by simp, Nat.le_refl _, by simp only; omega, ?_⟩ ?_
    · rcases hat with hat | ⟨b, o, ha, _, hat⟩
      · exact .inl hat
      · exact .inr ⟨b, o, ha, by simpa using hat⟩
    · rintro ⟨k, m, jv, g⟩ w junk ⟨hx, hk, hg, hle, hga⟩ K hK
      simp only at hk hg hle hga
      refine br_dec (fun h3 => ?_) (fun h3 => ?_)
      · match g with
        | .nil => simp only [Fo.len] at hk; omega
        | .cons x kk r =>
          obtain ⟨b, o, rfl, hga'⟩ := hga.resolve_left (by simp [Fo.len])
          obtain ⟨⟨s', hc, hs'⟩, hr⟩ := hga'.sl
          simp only [Fo.size, Fo.len] at hk hg hle
          refine ⟨_, hx.cell (boxed _ _ _ _ _ rfl), ⟨by omega, by omega⟩, [.int .i64 x.op, .int .i64 x.w, .int .i64 x.n, .string x.name, s'], rfl, ?_, ?_⟩
          · simp only [Int.toNat_natCast]; exact hc.ext ((Ext.new _ _).trans hx)
          refine Or.inl ((ih kk (by omega) x s' _ (hs'.ext ((Ext.new _ _).trans hx)) (by omega)).mono ?_)
          rintro _ w' ⟨rfl, hx'⟩
          refine ⟨_, IntWalk.i64_in _ (by simp only; omega), ?_⟩
          refine ⟨_, IntWalk.i64_in _ (by omega), ?_⟩
          refine hK (k + 1, m + (kk.size + 1), _, r) _ _ (vs3 rfl rfl (vint (by show (k : Int) + 1 = ((k + 1 : Nat) : Int); omega)))
            ⟨hx.trans hx', by show k + 1 + r.len = f.len; omega, by show r.size ≤ f.size; omega, by show m + (kk.size + 1) + r.size = f.size + 1; omega, ?_⟩ (by show r.len < r.len + 1; omega) ?_
          · right
            refine ⟨b, o, rfl, ?_⟩
            show TAt anyB W r b (o + (k + 1) * 5)
            rw [show o + (k + 1) * 5 = o + k * 5 + 5 from by omega]
            exact hr
          · ((repeat (first | (with_reducible exact Only.refl) | (with_reducible refine Only.skip ?_) | ((with_reducible refine Only.upd ?_ ?_); rfl) | ((with_reducible refine Only.over ?_ ?_ _); rfl) | ((with_reducible refine Only.hav ?_ ?_ ?_); rfl; rfl))))
      · have := Fo.len_zero (f := g) (by omega)
        subst this
        exact ⟨vint (by simpa [Fo.size] using hle), (Ext.new _ _).trans hx⟩

theorem spec_SizeOf_all : ∀ (n : Nat) (f : TF), f.size < n → ∀ (v : Lab) (s : Value) (W : World), TSl anyB W s f → f.size ≤ 1048576 →
    Ret Try.prog 10 #[.agg #[.int .i64 v.op, .int .i64 v.w, .int .i64 v.n, .string v.name, s]] W (fun u w' => u = .int .i64 (f.size + 1) ∧ Ext W w') := by
  intro n
  induction n with
  | zero => intro f hf; omega
  | succ n ih =>
    intro f hf v s W hs hsz
    obtain ⟨a, c, rfl, hl, hat⟩ := hs
    have hfl := f.len_le
    have hlm : (maxLen : Int) ≤ 9223372036854775807 := by decide
    refine ret_of_vc ties mixed Try.func10 rfl (by kernel_rfl) rfl rfl ?_
    refine ⟨_, boxed _ _ _ _ _ rfl, ?_⟩
    refine loop_rule (σ := Nat × Int × Value × TF) [3, 5, 9] 10 19 (fun q => [.int .i64 q.2.1, q.2.2.1, .int .i64 q.1])
      (fun q w' => Ext W w' ∧ q.1 + q.2.2.2.len = f.len ∧ q.2.2.2.size ≤ f.size ∧ q.2.1 + q.2.2.2.size = f.size + 1 ∧ (q.2.2.2.len = 0 ∨ ∃ b o, a = some ⟨b, o, none⟩ ∧ TAt anyB W q.2.2.2 b (o + q.1 * 5)))
      (fun q => q.2.2.2.len) (0, 1, undef, f) rfl ⟨Ext.new _ _, by simp, Nat.le_refl _, by simp only; omega, ?_⟩ ?_
    · rcases hat with hat | ⟨b, o, ha, _, hat⟩
      · exact .inl hat
      · exact .inr ⟨b, o, ha, by simpa using hat⟩
    · rintro ⟨k, m, jv, g⟩ w junk ⟨hx, hk, hg, hle, hga⟩ K hK
      simp only at hk hg hle hga
      refine br_dec (fun h3 => ?_) (fun h3 => ?_)
      · match g with
        | .nil => simp only [Fo.len] at hk; omega
        | .cons x kk r =>
          obtain ⟨b, o, rfl, hga'⟩ := hga.resolve_left (by simp [Fo.len])
          obtain ⟨⟨s', hc, hs'⟩, hr⟩ := hga'.sl
          simp only [Fo.size, Fo.len] at hk hg hle
          refine ⟨⟨by omega, by omega⟩, [.int .i64 x.op, .int .i64 x.w, .int .i64 x.n, .string x.name, s'], rfl, ?_, ?_⟩
          · simp only [Int.toNat_natCast]; exact hc.ext hx
          have r1 := Rmy.new w [.int .i64 0, .int .i64 0, .int .i64 0, .string ByteArray.empty, .slice none 0 0] 29
          have hone : oneB s' = true := by obtain ⟨a', c', rfl, _⟩ := hs'; rfl
          refine ⟨r1.all [.int .i64 x.op, .int .i64 x.w, .int .i64 x.n, .string x.name, s'] 0 (Nat.le_refl 5) (by simp only [List.all_cons, hone]; rfl), ?_⟩
          refine ⟨[.int .i64 x.op, .int .i64 x.w, .int .i64 x.n, .string x.name, s'], rfl, setCells_at _ _ 0 5 r1 (Nat.le_refl 5), ?_⟩
          have hx2 : Ext w (setCells (w.alloc (.cells #[.int .i64 0, .int .i64 0, .int .i64 0, .string ByteArray.empty, .slice none 0 0] 29)) w.heap.size 0 [.int .i64 x.op, .int .i64 x.w, .int .i64 x.n, .string x.name, s']) := Ext.setCells _ (Ext.new _ _) (Nat.le_refl _)
          refine Or.inl ((ih kk (by omega) x s' _ (hs'.ext (hx.trans hx2)) (by omega)).mono ?_)
          rintro _ w' ⟨rfl, hx'⟩
          refine ⟨_, IntWalk.i64_in _ (by simp only; omega), ?_⟩
          refine ⟨_, IntWalk.i64_in _ (by omega), ?_⟩
          refine hK (k + 1, m + (kk.size + 1), _, r) _ _ (vs3 rfl rfl (vint (by show (k : Int) + 1 = ((k + 1 : Nat) : Int); omega)))
            ⟨(hx.trans hx2).trans hx', by show k + 1 + r.len = f.len; omega, by show r.size ≤ f.size; omega, by show m + (kk.size + 1) + r.size = f.size + 1; omega, ?_⟩ (by show r.len < r.len + 1; omega) ?_
          · right
            refine ⟨b, o, rfl, ?_⟩
            show TAt anyB W r b (o + (k + 1) * 5)
            rw [show o + (k + 1) * 5 = o + k * 5 + 5 from by omega]
            exact hr
          · ((repeat (first | (with_reducible exact Only.refl) | (with_reducible refine Only.skip ?_) | ((with_reducible refine Only.upd ?_ ?_); rfl) | ((with_reducible refine Only.over ?_ ?_ _); rfl) | ((with_reducible refine Only.hav ?_ ?_ ?_); rfl; rfl))))
      · have := Fo.len_zero (f := g) (by omega)
        subst this
        exact ⟨vint (by simpa [Fo.size] using hle), hx⟩

theorem impl_SizeOf (f : TF) (v : Lab) (s : Value) (W : World) (hs : TSl anyB W s f) (hsz : f.size ≤ 1048576) :
    Ret Try.prog 12 #[.agg #[.int .i64 v.op, .int .i64 v.w, .int .i64 v.n, .string v.name, s]] W (fun u w' => u = .int .i64 (f.size + 1) ∧ Ext W w') := impl_SizeOf_all _ f (Nat.lt_succ_self _) v s W hs hsz

theorem spec_SizeOf (f : TF) (v : Lab) (s : Value) (W : World) (hs : TSl anyB W s f) (hsz : f.size ≤ 1048576) :
    Ret Try.prog 10 #[.agg #[.int .i64 v.op, .int .i64 v.w, .int .i64 v.n, .string v.name, s]] W (fun u w' => u = .int .i64 (f.size + 1) ∧ Ext W w') := spec_SizeOf_all _ f (Nat.lt_succ_self _) v s W hs hsz

end Go.Proofs.Ytpaccpajkndlhaa
