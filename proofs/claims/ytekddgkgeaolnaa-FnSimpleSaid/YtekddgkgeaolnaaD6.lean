/- laws.same and laws.all at terms without kids. -/
import Derived.Test.YtekddgkgeaolnaaQx
namespace Go.Proofs.Ytekddgkgeaolnaa
open Go Go.Vc Go.RowKit
set_option linter.unusedVariables false

theorem all_nil (a a' : Option Addr) (c c' : Nat) (W : World) : Ret Try.prog 39 #[.slice a 0 c, .slice a' 0 c'] W (fun v w' => v = .bool true ∧ Ext W w') := by
  refine ret_of_vc ties mixed Try.func39 rfl (by kernel_rfl) rfl rfl ?_
  refine loop_rule (σ := Nat × Value × Value) [5, 6, 9] 10 33 (fun q => [q.2.1, q.2.2, .int .i64 q.1]) (fun q w' => Ext W w' ∧ q.1 = 0) (fun q => 0) (0, undef, undef) rfl ⟨Ext.refl _, rfl⟩ ?_
  rintro ⟨i, g5, g6⟩ w junk ⟨hx, hi⟩ K hK
  simp only at hi
  subst hi
  show vc _ _ _ _ (over [5, 6, 9] [g5, g6, .int .i64 ((0 : Nat) : Int)] _) _
  exact ⟨rfl, hx⟩
theorem same_leaf (x : Lab) (a a' : Option Addr) (c c' : Nat) (W : World) : Ret Try.prog 16 #[tv x (.slice a 0 c), tv x (.slice a' 0 c')] W (fun v w' => v = .bool true ∧ Ext W w') := by
  have hb := bx_at W x (.slice a 0 c)
  have x1 := bx_ext W x (.slice a 0 c)
  have hb2 := bx_at (bxW W x (.slice a 0 c)) x (.slice a' 0 c')
  have x2 := bx_ext (bxW W x (.slice a 0 c)) x (.slice a' 0 c')
  have hb1 := hb.ext x2
  refine ret_of_vc ties mixed Try.func16 rfl (by kernel_rfl) rfl rfl ?_
  refine ⟨_, hb1.1, _, hb2.1, ?_⟩
  repeat refine br_dec_true rfl ?_
  refine ⟨_, hb1.2.1, ?_⟩
  repeat refine br_dec_true rfl ?_
  refine ⟨_, hb2.2.1, ?_⟩
  repeat refine br_dec_true rfl ?_
  refine ⟨_, hb1.2.2.1, ?_⟩
  repeat refine br_dec_true rfl ?_
  refine ⟨_, hb2.2.2.1, ?_⟩
  repeat refine br_dec_true rfl ?_
  refine ⟨_, hb1.2.2.2.1, ?_⟩
  repeat refine br_dec_true rfl ?_
  refine ⟨_, hb2.2.2.2.1, ?_⟩
  repeat refine br_dec_true rfl ?_
  refine ⟨_, hb1.2.2.2.2.1, ?_⟩
  repeat refine br_dec_true rfl ?_
  refine ⟨_, hb2.2.2.2.2.1, ?_⟩
  repeat refine br_dec_true rfl ?_
  refine Or.inl ((all_nil a a' c c' _).mono ?_)
  rintro _ w3 ⟨rfl, x3⟩
  repeat refine br_dec_true rfl ?_
  exact ⟨rfl, (x1.trans x2).trans x3⟩
end Go.Proofs.Ytekddgkgeaolnaa
