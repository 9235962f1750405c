/- ParseInt: both contracts. -/
import Derived.Test.YtekddgkgeaolnaaDoorGa
import Derived.Test.YtekddgkgeaolnaaDoorGt
import Derived.Test.YtekddgkgeaolnaaDoorDn
import Derived.Test.YtekddgkgeaolnaaDoorDj
import Derived.WideLaws
namespace Go.Vc
open Go Go.RowKit
theorem eqGuard_nil (t : TypeId) (X : Operand) (v : Value) (hv : v = .nilIface ∨ ∃ u x, v = .iface u x) (P : Program) (w : World) : (eqGuard .neq t X (.const .nilIface) v .nilIface).run P w = .ok () w := by
  rcases hv with rfl | ⟨u, x, rfl⟩
  · unfold eqGuard; simp
  · unfold eqGuard; simp
/-- 'err != nil'. -/
theorem raw_neq_nil {P : Program} {o : Oper} {ρ : Fr} {w : World} {K : Value → World → Prop} {X : Operand} {t yt : TypeId} {v : Value} {b : Bool} (ho : o.op = .binOp .neq t X (.const .nilIface) yt) (ht : P.underlying t = some (.interface (P.methodsAt t)))
    (hX : ev ρ X = v) (hv : v = .nilIface ∧ b = false ∨ (∃ u x, v = .iface u x) ∧ b = true) (hK : K (.bool b) w) : Raw P o ρ w K := by
  have hY : ev ρ (.const .nilIface) = .nilIface := rfl
  have hg := eqGuard_nil t X v (hv.imp (fun h => h.1) fun h => h.1) P w
  have hb : (binOp .neq t v .nilIface).run P w = .ok (.bool b) w := by
    rcases hv with ⟨rfl, rfl⟩ | ⟨⟨u, x, rfl⟩, rfl⟩
    · exact run_neq_nil_nil (P := P) (w := w) t ht
    · exact run_neq_held_nil (P := P) (w := w) t u x ht
  refine ⟨.value (.bool b), _, w, ?_, rfl, hK⟩
  simp only [execOp, ho, hX, hY]
  simp only [Sem.run_bind, hg, hb, Result.andThen_ok, Sem.run_pure]
end Go.Vc
namespace Go.Proofs.YtekddgkgeaolnaaDoor
open Go Go.Vc Go.RowKit
set_option linter.unusedVariables false

theorem atoi_ret (s : ByteArray) (W : World) (hs : s.size ≤ 1048576) (he : ErrP W) : Ret Tryd.prog 51 #[.string s] W (fun v w' => Ext W w' ∧
    ((∃ n, Lib.atoiAll s.data.toList = .ok n ∧ v = .tuple #[.int .i64 n, .nilIface]) ∨ ((∀ n, Lib.atoiAll s.data.toList ≠ .ok n) ∧ ∃ x t p, v = .tuple #[.int .i64 x, .iface t p]))) := by
  refine ⟨⟨_, Tryd.func51, by kernel_rfl, by kernel_rfl⟩, ?_⟩
  obtain ⟨⟨u, x, h1⟩, ⟨u', x', h2⟩⟩ := he
  rcases h : Lib.atoiAll s.data.toList with n | _ | _
  · refine (Any.strconv_Atoi_ok (P := Tryd.prog) (ρ := Tryd.atoiL_ren) Tryd.atoiL s (by omega) n h W).mono fun e w' hh => ⟨_, hh.1, ?_, .inl ⟨n, rfl, rfl⟩⟩
    rcases hh.2 with rfl | ⟨t, rfl⟩
    · exact Ext.refl _
    · exact Lib.bytesWorld_below _ _ _
  · refine (Any.strconv_Atoi_syntax (P := Tryd.prog) (ρ := Tryd.atoiL_ren) Tryd.atoiL s (by omega) h _ W h1 (.inr ⟨_, _, rfl⟩)).mono fun e w' hh => ?_
    obtain ⟨N, g1, _, _, g2⟩ := hh
    exact ⟨_, g1, g2, .inr ⟨fun n e => (by cases e), _, _, _, rfl⟩⟩
  · refine (Any.strconv_Atoi_range (P := Tryd.prog) (ρ := Tryd.atoiL_ren) Tryd.atoiL s (by omega) h _ W h2 (.inr ⟨_, _, rfl⟩)).mono fun e w' hh => ?_
    obtain ⟨N, g1, _, _, g2⟩ := hh
    exact ⟨_, g1, g2, .inr ⟨fun n e => (by cases e), _, _, _, rfl⟩⟩
theorem num_atoi {s : ByteArray} {n : Int} (h : Num s n) : Lib.atoiAll s.data.toList = .ok n := by
  rw [← h.2, itoaS_list]
  exact atoi_itoa h.1.1 h.1.2
theorem itoa_call (n : Int) (hn : inI n) (W : World) (htab : TabP W) : Ret Tryd.prog 52 #[.int .i64 n] W (fun v w' => v = .string (itoaB n) ∧ Ext W w') := by
  refine ⟨⟨_, Tryd.func52, by kernel_rfl, by kernel_rfl⟩, ?_⟩
  refine (Any.strconv_Itoa (P := Tryd.prog) (ρ := Tryd.itoaL_ren) Tryd.itoaL n hn.1 hn.2 W htab).mono fun e w' h => ⟨_, h.1, rfl, ?_⟩
  obtain ⟨_, k, os, rfl⟩ := h
  exact Lib.below_grow _ _ (Nat.le_refl _) k os
def PiR (s : ByteArray) (W : World) (v : Value) (w' : World) : Prop := v = .tuple #[.int .i64 (pI s).1, .bool (pI s).2] ∧ Ext W w'
theorem piR_yes {s : ByteArray} {n : Int} {W w : World} (h : Num s n) (x : Ext W w) : PiR s W (.tuple #[.int .i64 n, .bool true]) w := ⟨by rw [pI_yes h], x⟩
theorem piR_no {s : ByteArray} {W w : World} (h : ∀ n, ¬ Num s n) (x : Ext W w) : PiR s W (.tuple #[.int .i64 0, .bool false]) w := ⟨by rw [pI_no h], x⟩
theorem impl_ParseInt (s : ByteArray) (W : World) (hs : s.size ≤ 1048576) (htab : TabP W) (he : ErrP W) : Ret Tryd.prog 27 #[.string s] W (PiR s W) := by
  refine ret_of_vc ties mixed Tryd.func27 rfl (by kernel_rfl) rfl rfl ?_
  refine Or.inl ((atoi_ret s W hs he).mono ?_)
  rintro _ w1 ⟨x1, ⟨n, hn, rfl⟩ | ⟨hno, x, t, p, rfl⟩⟩
  · have hb := Lib.atoiAll_bounds hn
    refine raw_neq_nil rfl (by kernel_rfl) rfl (.inl ⟨rfl, rfl⟩) ?_
    refine Or.inl ((itoa_call n hb w1 (Lib.tabBelow_of_tabIs htab w1 x1)).mono ?_)
    rintro _ w2 ⟨rfl, x2⟩
    refine br_dec (fun h => ?_) (fun h => ?_)
    · refine piR_no (fun m hm => h ?_) (x1.trans x2)
      have := (num_atoi hm).symm.trans hn
      cases this
      exact hm.2
    · exact piR_yes ⟨hb, Decidable.byContradiction h⟩ (x1.trans x2)
  · refine raw_neq_nil rfl (by kernel_rfl) rfl (.inr ⟨⟨_, _, rfl⟩, rfl⟩) ?_
    exact piR_no (fun m hm => hno m (num_atoi hm)) x1
end Go.Proofs.YtekddgkgeaolnaaDoor
