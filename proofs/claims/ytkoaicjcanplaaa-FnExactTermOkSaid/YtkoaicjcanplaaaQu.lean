/- Rows of variables; l02Vars of the reference; TermOk of the reference. -/
import Derived.Test.YtkoaicjcanplaaaQr
import Derived.Test.YtkoaicjcanplaaaQv
namespace Go.Proofs.Ytkoaicjcanplaaa
open Go Go.Vc Go.RowKit
set_option linter.unusedVariables false

def eV : Rep VLab := Rep.flat vlc 3 vlc_len (fun _ => rfl) (by decide)
def vl0 (p : ByteArray × Int) : VLab := ⟨p.1, p.2, 0⟩
def vls (l : Vs) : List VLab := l.map vl0
theorem vls_len (l : Vs) : (vls l).length = l.length := by simp [vls]
theorem vls_app (l m : Vs) : vls (l ++ m) = vls l ++ vls m := by simp [vls]
theorem vls_take (l : Vs) (i : Nat) : vls (l.take i) = (vls l).take i := by simp [vls, List.map_take]
theorem vls_drop (l : Vs) (i : Nat) : vls (l.drop i) = (vls l).drop i := by simp [vls, List.map_drop]
theorem flat_at {ok ok' : Nat → Prop} {w : World} : ∀ {l : List VLab} {b o : Nat}, RAt eV ok w l b o → RAt eV ok' w l b o
  | [], _, _, _ => trivial
  | _ :: _, _, _, ⟨h, hl⟩ => ⟨h, flat_at hl⟩
theorem eV_at {ok : Nat → Prop} {w : World} {s : Value} {l : List VLab} (h : SlR eV ok w s l) {i : Nat} (hi : i < l.length) :
    ∃ b o c, s = .slice (some ⟨b, o, none⟩) l.length c ∧ ok b ∧ CellsAt w b (o + i * 3) (vlc (l[i]'hi)) := by
  obtain ⟨b, o, c, cs, h1, h2, h3, h4⟩ := h.at hi
  have h4 : cs = vlc _ := h4
  subst h4
  exact ⟨b, o, c, h1, h2, h3⟩

theorem sl_lo {α : Type} {E : Rep α} {ok : Nat → Prop} {w : World} {a : Option Addr} {cp n m : Nat} {l : List α} (h : SlR E ok w (.slice a n cp) l) {k : Nat} (hk : k ≤ l.length) :
    ∃ a' c', Value.slice (if cp = (0 : Int).toNat then a else a.map (·.add ((0 : Int).toNat * m))) ((k : Int).toNat - (0 : Int).toNat) (cp - (0 : Int).toNat) = .slice a' (l.take k).length c' ∧ ((l.take k).length = 0 ∨ ∃ b o, a' = some ⟨b, o, none⟩ ∧ RAt E ok w (l.take k) b o) := by
  have hlt : (l.take k).length = k := by rw [List.length_take]; omega
  have hz : (0 : Int).toNat = 0 := rfl
  refine ⟨_, _, by rw [hlt, Int.toNat_natCast, hz, Nat.sub_zero], ?_⟩
  by_cases h0 : k = 0
  · left; omega
  · right
    obtain ⟨a', c', he, h1, h2, h3⟩ := h
    cases he
    obtain ⟨b, o, rfl, _, hr⟩ := h3.resolve_left (by omega)
    refine ⟨b, o, ?_, hr.take⟩
    rw [if_neg (by omega), Nat.zero_mul]; rfl
theorem sl_hi {α : Type} {E : Rep α} {ok : Nat → Prop} {w : World} {a : Option Addr} {cp n m : Nat} {l : List α} (hm : E.m = m) (h : SlR E ok w (.slice a n cp) l) {k : Nat} (hk : k ≤ l.length) :
    ∃ a' c', Value.slice (if cp = (k : Int).toNat then a else a.map (·.add ((k : Int).toNat * m))) ((n : Int).toNat - (k : Int).toNat) (cp - (k : Int).toNat) = .slice a' (l.drop k).length c' ∧ ((l.drop k).length = 0 ∨ ∃ b o, a' = some ⟨b, o, none⟩ ∧ RAt E ok w (l.drop k) b o) := by
  obtain ⟨a', c', he, h1, h2, h3⟩ := h
  cases he
  have hld : (l.drop k).length = l.length - k := List.length_drop
  refine ⟨_, _, by rw [hld, Int.toNat_natCast, Int.toNat_natCast], ?_⟩
  by_cases h0 : l.length = k
  · left; omega
  · right
    obtain ⟨b, o, rfl, _, hr⟩ := h3.resolve_left (by omega)
    refine ⟨b, o + k * m, ?_, by rw [← hm]; exact hr.drop⟩
    rw [if_neg (by omega)]
    exact congrArg some (by unfold Addr.add; split <;> simp_all)

theorem arg_no {V : Value} {w : World} {l : List VLab} (h : ∃ a c, V = .slice a l.length c ∧ (l.length = 0 ∨ ∃ b o, a = some ⟨b, o, none⟩ ∧ RAt eV allB w l b o)) :
    ∃ a c, V = .slice a l.length c ∧ (l.length = 0 ∨ ∃ b o, a = some ⟨b, o, none⟩ ∧ RAt eV noB w l b o) := by
  obtain ⟨a, c, h1, h2⟩ := h
  exact ⟨a, c, h1, h2.imp id fun ⟨b, o, h3, h4⟩ => ⟨b, o, h3, flat_at h4⟩⟩

/-! an insertion -/
theorem insV_here {s : ByteArray} {w : Int} : ∀ (l : Vs) (i : Nat), (∀ j (h : j < l.length), j < i → less (l[j]'h).1 s = true) → (h : i < l.length) → (l[i]'h).1 = s → insV s w l = l ∧ lk s l = some (l[i]'h).2 := by
  intro l
  induction l with
  | nil => intro i _ h; exact absurd h (Nat.not_lt_zero _)
  | cons p l ih =>
    intro i hlt h he
    cases i with
    | zero =>
      have he : p.1 = s := he
      refine ⟨?_, by simp only [lk, if_pos he.symm]; rfl⟩
      unfold insV
      rw [if_neg (by rw [he, less_irr]; decide), if_pos he]
    | succ i =>
      have h0 : less p.1 s = true := hlt 0 (by simp) (by omega)
      have := ih i (fun j hj hji => hlt (j + 1) (by simp; omega) (by omega)) (by simpa using h) he
      unfold insV
      rw [if_pos h0, this.1]
      refine ⟨rfl, ?_⟩
      simp only [lk]
      rw [if_neg (fun e => less_ne h0 e.symm)]
      exact this.2
theorem insV_new {s : ByteArray} {w : Int} : ∀ (l : Vs) (i : Nat), Asc l → i ≤ l.length → (∀ j (h : j < l.length), j < i → less (l[j]'h).1 s = true) → (∀ h : i < l.length, less (l[i]'h).1 s = false ∧ (l[i]'h).1 ≠ s) → insV s w l = l.take i ++ [(s, w)] ++ l.drop i ∧ lk s l = none := by
  intro l
  induction l with
  | nil => intro i _ hi _ _; exact ⟨by simp [insV], rfl⟩
  | cons p l ih =>
    rintro i ⟨ha, hl⟩ hi hlt hat
    cases i with
    | zero =>
      have h0 := hat (by simp)
      have h1 : less p.1 s = false := h0.1
      have h2 : p.1 ≠ s := h0.2
      have h3 := less_tri h1 h2
      refine ⟨?_, lk_none.2 fun q hq => ?_⟩
      · unfold insV
        rw [if_neg (by rw [h1]; decide), if_neg h2]; rfl
      · rcases List.mem_cons.1 hq with rfl | hq
        · exact h2
        · exact fun e => less_ne (less_trans h3 (ha q hq)) e.symm
    | succ i =>
      have h0 : less p.1 s = true := hlt 0 (by simp) (by omega)
      have := ih i hl (by simpa using hi) (fun j hj hji => hlt (j + 1) (by simp; omega) (by omega)) (fun h => hat (by simp; omega))
      unfold insV
      rw [if_pos h0, this.1]
      refine ⟨by simp, ?_⟩
      simp only [lk]
      rw [if_neg (fun e => less_ne h0 e.symm)]
      exact this.2
/-- Names that come have the widths that a row says. -/
def consA : Vs → Vs → Prop
  | _, [] => True
  | acc, p :: ws => (∀ n, lk p.1 acc = some n → n = p.2) ∧ consA (insV p.1 p.2 acc) ws
theorem consA_app : ∀ (ws us acc : Vs), consA acc (ws ++ us) ↔ consA acc ws ∧ consA (vput acc ws) us := by
  intro ws us
  induction ws with
  | nil => intro acc; simp [consA, vput]
  | cons p ws ih => intro acc; simp only [List.cons_append, consA, ih, and_assoc]; rfl
theorem consA_B : ∀ (ws acc vs : Vs), Asc acc → (∀ s, lk s acc = lk s vs) → (consA acc ws ↔ consB vs ws) := by
  intro ws
  induction ws with
  | nil => intro _ _ _ _; exact Iff.rfl
  | cons p ws ih =>
    intro acc vs ha hl
    simp only [consA, consB]
    rw [hl]
    refine and_congr_right fun _ => ih _ _ (insV_asc ha) fun s => ?_
    rw [insV_lk ha, lk_app, hl]
    simp only [lk]
theorem consA_nil (ws : Vs) : consA [] ws ↔ Cons ws := (consA_B ws [] [] trivial fun _ => rfl).trans (consB_nil ws)
theorem insV_len (s : ByteArray) (w : Int) : ∀ l : Vs, (insV s w l).length ≤ l.length + 1 := by
  intro l
  induction l with
  | nil => simp [insV]
  | cons p l ih =>
    unfold insV
    split
    · simp only [List.length_cons]; omega
    split
    · omega
    · simp
theorem vput_len : ∀ (ws acc : Vs), (vput acc ws).length ≤ acc.length + ws.length := by
  intro ws
  induction ws with
  | nil => intro acc; exact Nat.le_refl _
  | cons p ws ih =>
    intro acc
    have h1 := ih (insV p.1 p.2 acc)
    have h2 := insV_len p.1 p.2 acc
    show (vput (insV p.1 p.2 acc) ws).length ≤ _
    simp only [List.length_cons]
    omega
theorem varsF_len : ∀ f : TF, (varsF f).length ≤ f.size := by
  intro f
  induction f with
  | nil => exact Nat.le_refl _
  | cons x k r ihk ihr =>
    simp only [varsF, Fo.size, List.length_append]
    split <;> simp <;> omega

/-! l02Vars -/
def VrR (acc ws : Vs) (W : World) (v : Value) (w' : World) : Prop := ∃ v1 b, v = .tuple #[v1, .bool b] ∧ Ext W w' ∧ (b = true ↔ consA acc ws) ∧ (b = true → SlR eV allB w' v1 (vls (vput acc ws)))
def VrS (f : TF) : Prop := ∀ (x : Lab) (s sl : Value) (acc : Vs) (W : World), TSl anyB W s f → OkT (x, f) → SlR eV allB W sl (vls acc) → Asc acc → acc.length + (f.size + 1) ≤ 1000000 →
  Ret Try.prog 67 #[tv x s, sl] W (VrR acc (varsT (x, f)) W)
set_option maxHeartbeats 4000000 in
/-- A variable. -/
theorem l02Vars_var (x : Lab) (s sl : Value) (acc : Vs) (W : World) (hs : TSl anyB W s .nil) (h22 : x.op = 22) (hl : SlR eV allB W sl (vls acc)) (ha : Asc acc) (hlen : acc.length < 1000000) :
    Ret Try.prog 67 #[tv x s, sl] W (VrR acc [(x.name, x.w)] W) := by
  have x1 : Ext W (W.alloc (.cells (tc x s).toArray 25)) := Ext.new _ _
  have hb := boxedAll W (tc x s) 25
  obtain ⟨a, c, rfl, hlc, hcm, hat⟩ := id hl
  rw [vls_len] at hlc hat hl ⊢
  have hlm : (maxLen : Int) ≤ 9223372036854775807 := by decide
  have hl0 : SlR eV allB W (.slice a (vls acc).length c) (vls acc) := by rw [vls_len]; exact hl
  have row : ∀ i (hi : i < acc.length), ∃ b o, a = some ⟨b, o, none⟩ ∧ CellsAt (W.alloc (.cells (tc x s).toArray 25)) b (o + i * 3) [.string (acc[i]'hi).1, .int .i64 (acc[i]'hi).2, .int .i64 0] := fun i hi => by
    obtain ⟨b, o, c', e, _, h⟩ := eV_at hl0 (i := i) (by rw [vls_len]; exact hi)
    cases e
    refine ⟨b, o, rfl, ?_⟩
    have : vlc ((vls acc)[i]'(by rw [vls_len]; exact hi)) = [.string (acc[i]'hi).1, .int .i64 (acc[i]'hi).2, .int .i64 0] := by simp [vls, vlc, vl0]
    rw [this] at h
    exact h.ext x1
  have hW1 : ∀ w, Ext (W.alloc (.cells (tc x s).toArray 25)) w → Ext W w := fun w h => x1.trans h
  refine ret_of_vc ties mixed Try.func67 rfl (by kernel_rfl) rfl rfl ?_
  refine ⟨_, hb.1, ?_⟩
  refine br_dec_true h22 ?_
  refine loop_rule (σ := Nat) [6] 15 31 (fun q => [.int .i64 q])
    (fun q w' => Ext (W.alloc (.cells (tc x s).toArray 25)) w' ∧ q ≤ acc.length ∧ ∀ j (h : j < acc.length), j < q → less (acc[j]'h).1 x.name = true)
    (fun q => acc.length - q) 0 rfl ⟨Ext.refl _, Nat.zero_le _, fun _ _ h => absurd h (Nat.not_lt_zero _)⟩ ?_
  rintro i w2 junk ⟨x2, hi, hall⟩ K hK
  show vc _ _ _ _ (over [6] [.int .i64 i] _) _
  have hb2 := hb.ext x2
  refine .inl ⟨by kernel_rfl, ?_⟩
  by_cases hlt : (i : Int) < acc.length
  case' pos =>
    have hlt' : i < acc.length := by omega
    obtain ⟨b, o, rfl, hrow⟩ := row i hlt'
    have ei : o + (i : Int).toNat * 3 = o + i * 3 := by omega
    repeat refine br_dec_true hlt ?_
    refine ⟨⟨by omega, by omega⟩, ?_⟩
    repeat refine br_dec_true hlt ?_
    refine ⟨_, by rw [ei]; exact x2.cell hrow.1, ?_⟩
    repeat refine br_dec_true hlt ?_
    refine ⟨_, hb2.2.2.2.1, ?_⟩
    repeat refine br_dec_true hlt ?_
    intro w3 x3
    refine br_split (fun hb => ?stp) (fun hb => ?ou2)
  case stp =>
    refine ⟨_, IntWalk.i64_in _ (by omega), ?_⟩
    refine hK (i + 1) _ _ (vs1 (vint (by show (i : Int) + 1 = ((i + 1 : Nat) : Int); omega))) ⟨x2.trans x3, by omega, fun j hj hji => ?_⟩ (by omega) ?_
    · by_cases e : j = i
      · subst e; exact hb
      · exact hall j hj (by omega)
    · ((repeat (first | (with_reducible exact Only.refl) | (with_reducible refine Only.skip ?_) | ((with_reducible refine Only.upd ?_ ?_); rfl) | ((with_reducible refine Only.over ?_ ?_ _); rfl) | ((with_reducible refine Only.hav ?_ ?_ ?_); rfl; rfl))))
  case' ou2 =>
    have hb3 := hb2.ext x3
    have hno : less (acc[i]'hlt').1 x.name = false := hb
    refine .inl ⟨by kernel_rfl, ?_⟩
    repeat refine br_dec_true hlt ?_
    refine ⟨⟨by omega, by omega⟩, ?_⟩
    repeat refine br_dec_true hlt ?_
    refine ⟨_, by rw [ei]; exact (x2.trans x3).cell hrow.1, ?_⟩
    repeat refine br_dec_true hlt ?_
    refine ⟨_, hb3.2.2.2.1, ?_⟩
    repeat refine br_dec_true hlt ?_
    intro w4 x4
    refine br_dec (fun he => ?eqq) (fun he => ?new)
  case eqq =>
    have hh := insV_here (w := x.w) acc i hall hlt' he
    refine .inl ⟨by kernel_rfl, ⟨by omega, by omega⟩, _, by rw [ei]; exact ((x2.trans x3).trans x4).cell hrow.2.1, _, (hb3.ext x4).2.1, ?_⟩
    intro w5 x5
    refine ⟨_, _, rfl, hW1 _ (((x2.trans x3).trans x4).trans x5), ?_, fun hd => ?_⟩
    · simp only [consA, hh.2, Option.some.injEq, and_true, decide_eq_true_eq, forall_eq']
    · show SlR eV allB w5 _ (vls (insV x.name x.w acc))
      rw [hh.1]
      exact hl.ext (hW1 _ (((x2.trans x3).trans x4).trans x5))
  case' neg =>
    repeat refine br_dec_false hlt ?_
    intro w3 x3
    have hb3 := hb2.ext x3
    refine .inl ⟨by kernel_rfl, ?_⟩
    repeat refine br_dec_false hlt ?_
    intro w4 x4
    have hnew : ∀ h : i < acc.length, less (acc[i]'h).1 x.name = false ∧ (acc[i]'h).1 ≠ x.name := fun h => absurd (Int.ofNat_lt.2 h) hlt
  case' new =>
    have hnew : ∀ h : i < acc.length, less (acc[i]'h).1 x.name = false ∧ (acc[i]'h).1 ≠ x.name := fun h => ⟨hno, he⟩
  all_goals
    have hin := insV_new (w := x.w) acc i ha hi hall hnew
    have x24 := (x2.trans x3).trans x4
    have x04 := hW1 _ x24
    have hb4 := hb3.ext x4
    have hl4 := hl.ext x04
    have hvl := vls_len acc
    have hlt0 : (vls acc).length < 1000000 := by omega
    have htk : ((vls acc).take i).length ≤ (vls acc).length := by rw [List.length_take]; omega
    have hdr : ((vls acc).drop i).length ≤ (vls acc).length := by rw [List.length_drop]; omega
    have hil : i ≤ (vls acc).length := by omega
    clear hat hall row hnew
    refine ⟨⟨by decide, by omega, by omega⟩, ?_⟩
    refine raw_append (E := eV) (ok := noB) (l := []) (k := (vls acc).take i) ties rfl rfl rfl rfl rfl rfl rfl rfl rfl rfl (OwnR.nil _ _ _ _) noB_blk (arg_no (sl_lo (m := 3) (hl4.ext (Ext.new _ _)) hil)) (by show (0 + _) * 32 ≤ _; omega) (by show 0 + _ ≤ _; omega) ?_
    intro v5 w5 hv5 ch5 bl5
    have hv5b : ∀ b, blk v5 b → w4.heap.size ≤ b := fun b hb => by
      rcases bl5 b hb with e | e
      · exact Nat.le_of_eq e
      · exact Nat.le_trans (by simp) e.1
    have x45 : Ext w4 w5 := (Ext.new w4 (.cells #[] 74)).chg ch5 (fun b hb => Nat.le_of_eq hb)
    clear bl5 ch5
    have hb5 := hb4.ext x45
    refine ⟨_, hb5.2.2.2.1, _, hb5.2.1, ?_⟩
    refine raw_push (E := eV) (ok := noB) (x := vl0 (x.name, x.w)) (cs := vlc (vl0 (x.name, x.w))) ties rfl rfl rfl rfl rfl rfl rfl rfl rfl rfl rfl hv5 rfl noB_blk (by rw [List.nil_append]; show (_ + 1) * 32 ≤ _; omega) (by rw [List.nil_append]; omega) ?_
    intro v6 w6 hv6 ch6 sz6 bl6
    have hv6b : ∀ b, blk v6 b → w4.heap.size ≤ b := fun b hb => by
      rcases bl6 b hb with e | e
      · exact hv5b b e
      · have := x45.size; omega
    have x46 : Ext w4 w6 := x45.chg ch6 hv5b
    clear bl6 ch6 sz6
    have hl6 := hl4.ext x46
    refine ⟨⟨by omega, by omega, by omega⟩, ?_⟩
    refine raw_append (E := eV) (ok := noB) (l := [] ++ (vls acc).take i ++ [vl0 (x.name, x.w)]) (k := (vls acc).drop i) ties rfl rfl rfl rfl rfl rfl rfl rfl rfl rfl hv6 noB_blk (arg_no (sl_hi (m := 3) rfl hl6 hil)) (by rw [List.length_append, List.nil_append, List.length_singleton]; show (_ + 1 + _) * 32 ≤ _; omega) (by rw [List.length_append, List.nil_append, List.length_singleton]; omega) ?_
    intro v7 w7 hv7 ch7 bl7
    have x47 : Ext w4 w7 := x46.chg ch7 hv6b
    refine ⟨_, _, rfl, x04.trans x47, ?_, fun _ => ?_⟩
    · refine ⟨fun _ => ⟨fun n hn => ?_, trivial⟩, fun _ => rfl⟩
      rw [hin.2] at hn; cases hn
    · show SlR eV allB w7 v7 (vls (insV x.name x.w acc))
      rw [hin.1, vls_app, vls_app, vls_take, vls_drop]
      exact hv7.sl (fun _ _ => trivial) (fun _ _ => trivial)

set_option maxHeartbeats 4000000 in
theorem l02Vars_all : ∀ (n : Nat) (f : TF), f.size < n → VrS f := by
  intro n
  induction n with
  | zero => intro f hf; omega
  | succ n ih =>
    intro f hf x s sl acc W hs hok hl ha hlen
    by_cases h22 : x.op = 22
    · have := ok_nil hok (.inr h22)
      subst this
      have := l02Vars_var x s sl acc W hs h22 hl ha (by simp [Fo.size] at hlen; omega)
      rwa [varsT_eq, if_pos h22]
    have hvT : varsT (x, f) = varsF f := by rw [varsT_eq, if_neg h22]; rfl
    rw [hvT]
    obtain ⟨a, c, rfl, hlc, hat⟩ := id hs
    have hlm : (maxLen : Int) ≤ 9223372036854775807 := by decide
    have x1 : Ext W (W.alloc (.cells (tc x (.slice a f.len c)).toArray 25)) := Ext.new _ _
    have hb := boxedAll W (tc x (.slice a f.len c)) 25
    have hOkF : OkF f := hok.2
    refine ret_of_vc ties mixed Try.func67 rfl (by kernel_rfl) rfl rfl ?_
    refine ⟨_, hb.1, ?_⟩
    refine br_dec_false h22 ?_
    refine ⟨_, hb.2.2.2.2.1, ?_⟩
    refine loop_rule (σ := Nat × TF × TF × Value × Value × Value × Value) [75, 1, 9, 10, 11] 76 89 (fun q => [.int .i64 q.1, q.2.2.2.1, q.2.2.2.2.1, q.2.2.2.2.2.1, q.2.2.2.2.2.2])
      (fun q w' => Ext W w' ∧ q.1 + q.2.2.1.len = f.len ∧ q.2.1.app q.2.2.1 = f ∧ q.2.2.1.size ≤ f.size ∧ OkF q.2.2.1 ∧ consA acc (varsF q.2.1) ∧ SlR eV allB w' q.2.2.2.1 (vls (vput acc (varsF q.2.1))) ∧ (q.2.2.1.len = 0 ∨ ∃ b o, a = some ⟨b, o, none⟩ ∧ TAt anyB W q.2.2.1 b (o + q.1 * 5)))
      (fun q => q.2.2.1.len) (0, .nil, f, sl, undef, undef, undef) rfl ⟨x1, by simp, rfl, Nat.le_refl _, hOkF, trivial, hl.ext x1, ?_⟩ ?_
    · rcases hat with hat | ⟨b, o, ha, _, hat⟩
      · exact .inl hat
      · exact .inr ⟨b, o, ha, by simpa using hat⟩
    rintro ⟨i, d, g, sl', j9, j10, j11⟩ w junk ⟨hx, hi, happ, hg, hokg, hcd, hsl, hga⟩ K hK
    simp only at hi happ hg hokg hcd hsl hga
    show vc _ _ _ _ (over [75, 1, 9, 10, 11] [.int .i64 i, sl', j9, j10, j11] _) _
    refine br_dec (fun h => ?_) (fun h => ?_)
    · match g with
      | .nil => simp only [Fo.len] at hi; omega
      | .cons x' kk r =>
        obtain ⟨b, o, rfl, hga'⟩ := hga.resolve_left (by simp [Fo.len])
        obtain ⟨⟨s', hc, hs'⟩, hr⟩ := hga'.sl
        have hsz : d.size + (kk.size + r.size + 1) = f.size := by rw [← happ, Fo.size_app]; rfl
        have hvl := vput_len (varsF d) acc
        have hvd := varsF_len d
        simp only [Fo.len] at hi
        have ei : o + (i : Int).toNat * 5 = o + i * 5 := by omega
        obtain ⟨f4, c4, x4⟩ := keep5 (W := w) (x := x') (s := s') (tc_one hs')
        refine ⟨⟨by omega, by omega⟩, tc x' s', rfl, by rw [ei]; exact hc.ext hx, f4, tc x' s', rfl, c4, ?_⟩
        have x04 := hx.trans x4
        refine Or.inl ((ih kk (by omega) x' s' sl' _ _ (hs'.ext x04) hokg.1 (hsl.ext x4) (vput_asc _ _ ha) (by omega)).mono ?_)
        rintro _ w5 ⟨v1, bb, rfl, x5, hiff, hv⟩
        have hsplit : consA acc (varsF f) ↔ consA acc (varsF (d.app (.cons x' kk .nil))) ∧ consA (vput acc (varsF (d.app (.cons x' kk .nil)))) (varsF r) := by
          rw [← consA_app, ← varsF_app, Fo.app_assoc]
          show _ ↔ consA acc (varsF (d.app (.cons x' kk r)))
          rw [happ]
        have hone : consA acc (varsF (d.app (.cons x' kk .nil))) ↔ consA (vput acc (varsF d)) (varsT (x', kk)) := by
          rw [varsF_app, consA_app]
          exact ⟨fun h => h.2, fun h => ⟨hcd, h⟩⟩
        refine br_not (fun h' => ?_) (fun h' => ?_)
        · refine ⟨_, _, rfl, x04.trans x5, ?_, fun e => by cases e⟩
          refine ⟨fun e => (by cases e), fun e => ?_⟩
          have := hiff.2 (hone.1 (hsplit.1 e).1)
          rw [h'] at this; cases this
        · refine ⟨_, IntWalk.i64_in _ (by omega), ?_⟩
          refine hK (i + 1, d.app (.cons x' kk .nil), r, v1, _, _, _) _ _ (by rw [show ((i : Int) + 1) = ((i + 1 : Nat) : Int) from by omega]; rfl) ⟨x04.trans x5, by show i + 1 + r.len = f.len; omega, by show (d.app (.cons x' kk .nil)).app r = f; rw [Fo.app_assoc]; exact happ, by show r.size ≤ f.size; omega, hokg.2, hone.2 (hiff.1 h'), ?_, .inr ⟨b, o, rfl, ?_⟩⟩ (by show r.len < r.len + 1; omega) ?_
          · show SlR eV allB w5 v1 (vls (vput acc (varsF (d.app (.cons x' kk .nil)))))
            rw [varsF_app, vput_app]
            exact hv h'
          · show TAt _ W r b (o + (i + 1) * 5)
            rw [show o + (i + 1) * 5 = o + i * 5 + 5 from by omega]
            exact hr
          · ((repeat (first | (with_reducible exact Only.refl) | (with_reducible refine Only.skip ?_) | ((with_reducible refine Only.upd ?_ ?_); rfl) | ((with_reducible refine Only.over ?_ ?_ _); rfl) | ((with_reducible refine Only.hav ?_ ?_ ?_); rfl; rfl))))
    · have := Fo.len_zero (f := g) (by omega)
      subst this
      rw [Fo.app_nil] at happ
      subst happ
      exact ⟨_, _, rfl, hx, ⟨fun _ => hcd, fun _ => rfl⟩, fun _ => hsl⟩
theorem l02Vars_ret (x : Lab) (f : TF) (s sl : Value) (acc : Vs) (W : World) (hs : TSl anyB W s f) (hok : OkT (x, f)) (hl : SlR eV allB W sl (vls acc)) (ha : Asc acc) (hlen : acc.length + (f.size + 1) ≤ 1000000) : Ret Try.prog 67 #[tv x s, sl] W (VrR acc (varsT (x, f)) W) := l02Vars_all _ f (Nat.lt_succ_self _) x s sl acc W hs hok hl ha hlen
theorem nilV (W : World) : SlR eV allB W (.slice none 0 0) [] := ⟨none, 0, rfl, Nat.le_refl _, Nat.zero_le _, .inl rfl⟩
theorem TOk_iff (x : Lab) (k : TF) : TOk x k ↔ k.size + 1 ≤ 240 ∧ (NodeOk x (hdF k) ∧ OkF k) ∧ Cons (varsT (x, k)) := by
  unfold TOk
  rw [OkF_one]; rfl
set_option maxHeartbeats 4000000 in
theorem spec_TermOk (x : Lab) (k : TF) (s : Value) (W : World) (hs : TSl anyB W s k) (hx : okL x) (hp : k.All okL) : Ret Try.prog 18 #[tv x s] W (fun v w' => v = .bool (decide (TOk x k)) ∧ Ext W w') := by
  have hb := boxedAll W (tc x s) 25
  have x1 : Ext W (W.alloc (.cells (tc x s).toArray 25)) := Ext.new _ _
  have r2 := Rmy.new (W.alloc (.cells (tc x s).toArray 25)) [.int .i64 0] 3
  have x2 : Ext (W.alloc (.cells (tc x s).toArray 25)) ((W.alloc (.cells (tc x s).toArray 25)).alloc (.cells [.int .i64 0].toArray 3)) := Ext.new _ _
  have ch3 : Chg (fun i => i = (W.alloc (.cells (tc x s).toArray 25)).heap.size) ((W.alloc (.cells (tc x s).toArray 25)).alloc (.cells [.int .i64 0].toArray 3)) (((W.alloc (.cells (tc x s).toArray 25)).alloc (.cells [.int .i64 0].toArray 3)).setCell ⟨(W.alloc (.cells (tc x s).toArray 25)).heap.size, 0, none⟩ (.int .i64 240)) := Chg.setCell (S := fun i => i = (W.alloc (.cells (tc x s).toArray 25)).heap.size) (p := ⟨_, 0, none⟩) _ rfl _
  have hsz : W.heap.size < (W.alloc (.cells (tc x s).toArray 25)).heap.size := by simp
  have x13 := (x1.trans x2).chg ch3 (fun i hi => by rw [hi]; omega)
  have hb3 := ch3.cells (S := fun i => i = (W.alloc (.cells (tc x s).toArray 25)).heap.size) (by omega) (hb.ext x2)
  have hc3 := World.cell?_setCell_same ((W.alloc (.cells (tc x s).toArray 25)).alloc (.cells [.int .i64 0].toArray 3)) ⟨(W.alloc (.cells (tc x s).toArray 25)).heap.size, 0, none⟩ (.int .i64 240) (boxed _ _ _ _ _ rfl)
  have hs3 : TSl (fun b => b ≠ (W.alloc (.cells (tc x s).toArray 25)).heap.size) (((W.alloc (.cells (tc x s).toArray 25)).alloc (.cells [.int .i64 0].toArray 3)).setCell ⟨(W.alloc (.cells (tc x s).toArray 25)).heap.size, 0, none⟩ (.int .i64 240)) s k := (hs.lt.mono fun b hb => by omega).ext x13
  refine ret_of_vc ties mixed Try.func18 rfl (by kernel_rfl) rfl rfl ?_
  refine ⟨r2 0 (by decide), ?_⟩
  refine ⟨tc x s, rfl, hb3, ?_⟩
  refine Or.inl ((few_all _ k (Nat.lt_succ_self _) x s _ 240 _ hs3 r2.setCell hc3 (by decide) (by decide)).mono ?_)
  rintro _ w4 ⟨l', rfl, hc4, hr4, ch4, hres⟩
  have x04 := x13.chg ch4 (fun i hi => by rw [hi]; omega)
  have hb4 := ch4.cells (S := fun i => i = (W.alloc (.cells (tc x s).toArray 25)).heap.size) (by omega) hb3
  refine br_not (fun h => ?_) (fun h => ?_)
  · have h := of_decide_eq_false h
    exact ⟨vbool (decide_eq_false (fun ht => by have := (TOk_iff _ _).1 ht; omega)).symm, x04⟩
  have h := of_decide_eq_true h
  have hsize : k.size + 1 ≤ 240 := by omega
  refine ⟨tc x s, rfl, hb4, ?_⟩
  refine Or.inl ((l02Node_all _ k (Nat.lt_succ_self _) x s _ (hs.ext x04) hx hp).mono ?_)
  rintro _ w5 ⟨rfl, x5⟩
  refine br_not (fun hn => ?_) (fun hn => ?_)
  · exact ⟨vbool (decide_eq_false (fun ht => of_decide_eq_false hn ((TOk_iff _ _).1 ht).2.1)).symm, x04.trans x5⟩
  have hn := of_decide_eq_true hn
  have x05 := x04.trans x5
  refine ⟨tc x s, rfl, hb4.ext x5, ?_⟩
  refine Or.inl ((l02Vars_ret x k s (.slice none 0 0) [] _ (hs.ext x05) hn (nilV _) trivial (by simp only [List.length_nil]; omega)).mono ?_)
  rintro _ w6 ⟨v1, b, rfl, x6, hiff, _⟩
  refine ⟨vbool (beq_of_iff ?_), x05.trans x6⟩
  rw [hiff, consA_nil, decide_eq_true_iff, TOk_iff]
  exact ⟨fun h => ⟨hsize, hn, h⟩, fun h => h.2.2⟩
end Go.Proofs.Ytkoaicjcanplaaa
