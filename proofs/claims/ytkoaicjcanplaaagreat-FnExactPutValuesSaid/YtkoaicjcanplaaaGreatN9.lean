/- Reference: l02Find, l02Eval, EvalTerm. -/
import Derived.Test.YtkoaicjcanplaaaGreatN3
import Derived.Test.YtkoaicjcanplaaaGreatN6
namespace Go.Proofs.YtkoaicjcanplaaaGreat
open Go Go.Vc Go.RowKit
set_option linter.unusedVariables false

theorem at_vr {ok : Nat → Prop} {w : World} : ∀ {l : List VLab} {b o : Nat}, LsAt vlc 3 w l b o → RAt eV ok w l b o
  | [], _, _, _ => trivial
  | _ :: _, _, _, ⟨h, hl⟩ => ⟨⟨_, h, rfl⟩, at_vr hl⟩
theorem vr_at {ok : Nat → Prop} {w : World} : ∀ {l : List VLab} {b o : Nat}, RAt eV ok w l b o → LsAt vlc 3 w l b o
  | [], _, _, _ => trivial
  | _ :: _, _, _, ⟨⟨cs, h, e⟩, hl⟩ => ⟨by have e : cs = _ := e; rw [e] at h; exact h, vr_at hl⟩
theorem VSl.slr {ok : Nat → Prop} {w : World} {s : Value} {l : List VLab} (h : VSl ok w s l) : SlR eV ok w s l := by
  obtain ⟨a, c, h1, h2, h3, h4⟩ := h
  exact ⟨a, c, h1, h2, h3, h4.imp id fun ⟨b, o, e1, e2, e3⟩ => ⟨b, o, e1, e2, at_vr e3⟩⟩
theorem SlR.vsl {ok : Nat → Prop} {w : World} {s : Value} {l : List VLab} (h : SlR eV ok w s l) : VSl ok w s l := by
  obtain ⟨a, c, h1, h2, h3, h4⟩ := h
  exact ⟨a, c, h1, h2, h3, h4.imp id fun ⟨b, o, e1, e2, e3⟩ => ⟨b, o, e1, e2, vr_at e3⟩⟩
/-- A variable that takes a value: alloc, then the store. -/
theorem keep3 (W : World) (x : VLab) : FreeAll (W.alloc (.cells #[.string ByteArray.empty, .int .i64 0, .int .i64 0] 48)) W.heap.size 0 (vlc x) ∧
    CellsAt (setCells (W.alloc (.cells #[.string ByteArray.empty, .int .i64 0, .int .i64 0] 48)) W.heap.size 0 (vlc x)) W.heap.size 0 (vlc x) ∧
    Ext W (setCells (W.alloc (.cells #[.string ByteArray.empty, .int .i64 0, .int .i64 0] 48)) W.heap.size 0 (vlc x)) := by
  have r1 := Rmy.new W [.string ByteArray.empty, .int .i64 0, .int .i64 0] 48
  exact ⟨r1.all (vlc x) 0 (Nat.le_refl 3) rfl, setCells_at (vlc x) _ 0 3 r1 (Nat.le_refl 3), Ext.setCells _ (Ext.new _ _) (Nat.le_refl _)⟩
def FndR (l : List VLab) (s : ByteArray) (W : World) (v : Value) (w : World) : Prop :=
  Ext W w ∧ ((v = .int .i64 (-1) ∧ fnd l s = none) ∨ ∃ j, ∃ hj : j < l.length, v = .int .i64 (j : Int) ∧ fnd l s = some (l[j]'hj))
theorem fnd_first {l : List VLab} {s : ByteArray} {j : Nat} (hj : j < l.length) (h : ∀ i, (hi : i < j) → (l[i]'(by omega)).name ≠ s) (e : (l[j]'hj).name = s) : fnd l s = some (l[j]'hj) := by
  unfold fnd
  rw [List.find?_eq_some_iff_getElem]
  exact ⟨decide_eq_true e, j, hj, rfl, fun i hi => by simpa using h i hi⟩
theorem fnd_nowhere {l : List VLab} {s : ByteArray} (h : ∀ i, (hi : i < l.length) → (l[i]'hi).name ≠ s) : fnd l s = none := by
  unfold fnd
  rw [List.find?_eq_none]
  intro x hx
  obtain ⟨i, hi, rfl⟩ := List.mem_iff_getElem.1 hx
  simpa using h i hi
theorem vs5 {a b c d e a' b' c' d' e' : Value} (h1 : a = a') (h2 : b = b') (h3 : c = c') (h4 : d = d') (h5 : e = e') : [a, b, c, d, e] = [a', b', c', d', e'] := by rw [h1, h2, h3, h4, h5]
theorem l02Find_ret (l : List VLab) (s : Value) (name : ByteArray) (W : World) (hs : SlR eV allB W s l) : Ret Tryz.prog 20 #[s, .string name] W (FndR l name W) := by
  obtain ⟨a, c, rfl, hl, hc, hat⟩ := id hs
  have hlm : (maxLen : Int) ≤ 9223372036854775807 := by decide
  refine ret_of_vc ties mixed Tryz.func20 rfl (by kernel_rfl) rfl rfl ?_
  refine loop_rule (σ := Nat × Value × Value) [9, 5, 6] 10 20 (fun q => [.int .i64 q.1, q.2.1, q.2.2])
    (fun q w' => Ext W w' ∧ q.1 ≤ l.length ∧ ∀ i, (hi : i < q.1) → (h : i < l.length) → (l[i]'h).name ≠ name) (fun q => l.length - q.1) (0, undef, undef) rfl ⟨Ext.refl _, Nat.zero_le _, fun i hi => absurd hi (Nat.not_lt_zero i)⟩ ?_
  rintro ⟨k, y1, y2⟩ w junk ⟨hx, hk, hall⟩ K hK
  simp only at hk hall
  show vc _ _ _ _ (over [9, 5, 6] [.int .i64 k, y1, y2] _) _
  refine br_dec (fun h3 => ?_) (fun h3 => ?_)
  · have hkl : k < l.length := by omega
    obtain ⟨b, o, c', e, _, hcx⟩ := eV_at hs hkl
    cases e
    obtain ⟨f1, c1, x1⟩ := keep3 w (l[k]'hkl)
    refine ⟨⟨by omega, by omega⟩, vlc (l[k]'hkl), rfl, hcx.ext hx, f1, ?_⟩
    refine ⟨_, c1.1, ?_⟩
    refine br_dec (fun he => ?_) (fun he => ?_)
    · exact ⟨hx.trans x1, .inr ⟨k, hkl, rfl, fnd_first hkl (fun i hi => hall i hi (by omega)) he⟩⟩
    · refine ⟨_, IntWalk.i64_in _ (by omega), ?_⟩
      refine hK (k + 1, _, _) _ _ (vs3 (vint (by show (k : Int) + 1 = ((k + 1 : Nat) : Int); omega)) rfl rfl) ⟨hx.trans x1, by show k + 1 ≤ l.length; omega, fun i hi h => ?_⟩ (by show l.length - (k + 1) < l.length - k; omega) ?_
      · by_cases e : i = k
        · subst e; exact he
        · exact hall i (by have : i < k + 1 := hi; omega) h
      · ((repeat (first | (with_reducible exact Only.refl) | (with_reducible refine Only.skip ?_) | ((with_reducible refine Only.upd ?_ ?_); rfl) | ((with_reducible refine Only.over ?_ ?_ _); rfl) | ((with_reducible refine Only.hav ?_ ?_ ?_); rfl; rfl))))
  · exact ⟨hx, .inl ⟨rfl, fnd_nowhere fun i hi => hall i (by omega) hi⟩⟩
def EvR (l : List VLab) (t : Tm) (W : World) (v : Value) (w : World) : Prop := v = .tuple #[.int .i64 (evO l t).1, .bool (evO l t).2] ∧ Ext W w
theorem evO_node {l : List VLab} {x : Lab} {k : TF} (h22 : x.op ≠ 22) : (cov l (varsF k) = true → evO l (x, k) = (ap x (hdF k) (evF (envL l) k) (envL l), true)) ∧ (¬ cov l (varsF k) = true → evO l (x, k) = (0, false)) := by
  have hv : varsT (x, k) = varsF k := by rw [varsT_eq, if_neg h22]; rfl
  constructor
  · intro h
    rw [evO_yes (by rw [hv]; exact h)]; rfl
  · intro h
    rw [evO_no (by rw [hv]; exact h)]
theorem cov_kid {l : List VLab} {k : TF} {i : Nat} {t : Tm} (h : (tms k)[i]? = some t) (hc : cov l (varsF k) = true) : cov l (varsT t) = true := by
  rw [← mk_tms k, varsF_mk] at hc
  refine List.all_eq_true.2 fun p hp => List.all_eq_true.1 hc p (List.mem_flatMap.2 ⟨t, List.mem_of_getElem? h, hp⟩)
theorem cov_kids {l : List VLab} {k : TF} (h : ∀ t ∈ tms k, cov l (varsT t) = true) : cov l (varsF k) = true := by
  rw [← mk_tms k, varsF_mk]
  refine List.all_eq_true.2 fun p hp => ?_
  obtain ⟨t, ht, hpt⟩ := List.mem_flatMap.1 hp
  exact List.all_eq_true.1 (h t ht) p hpt
noncomputable def evalP (x : Lab) (k : TF) (l : List VLab) : Int × Bool := @ite _ (TOk x k ∧ vOk l = true) (Classical.propDecidable _) (evO l (x, k)) (0, false)
theorem evalP_yes {x : Lab} {k : TF} {l : List VLab} (h : TOk x k) (hv : vOk l = true) : evalP x k l = evO l (x, k) := by unfold evalP; exact if_pos ⟨h, hv⟩
theorem evalP_no {x : Lab} {k : TF} {l : List VLab} (h : ¬ (TOk x k ∧ vOk l = true)) : evalP x k l = (0, false) := by unfold evalP; exact if_neg h
end Go.Proofs.YtkoaicjcanplaaaGreat
