/- Drawn terms, plainly: their names, widths, sizes; what a draw makes is valid. No program in sight. Draws: l02Draw, GiveTerm: a valid term in new memory, whose variables tell their widths. Draws: l02Draw. Draws: GiveTerm; what a law asks of a drawn term. -/
import Derived.Test.YtekddgkgeaolnaaDs
import Derived.Test.YtekddgkgeaolnaaN4
import Derived.Test.YtekddgkgeaolnaaVi
import Derived.Test.YtekddgkgeaolnaaN5
namespace Go.Proofs.Ytekddgkgeaolnaa.Dr
open Go Go.Vc Go.RowKit
set_option linter.unusedVariables false

/-! names -/
def smB (n : Nat) : ByteArray := if n < 10 then ⟨#[UInt8.ofNat (48 + n)]⟩ else ⟨#[49, UInt8.ofNat (48 + (n - 10))]⟩
theorem itoa_small {n : Nat} (h : n ≤ 16) : itoaB (n : Int) = smB n := by
  unfold itoaB smB
  rw [Lib.itoa_nonneg]
  split
  · rename_i h1; rw [dec_one h1]
  · rename_i h1
    rw [dec_step h1, dec_one (show n / 10 < 10 by omega), show n / 10 = 1 by omega, show n % 10 = n - 10 by omega]
    rfl
theorem name_dec : ∀ s ∈ lets, ∀ n : Fin 17, 1 ≤ n.val → isNm (s ++ smB n.val) = true := by decide +kernel
theorem name_inj_dec : ∀ s ∈ lets, ∀ t ∈ lets, ∀ n m : Fin 17, s ++ smB n.val = t ++ smB m.val → n = m := by decide +kernel
theorem name_ok {s : ByteArray} (hs : s ∈ lets) {w : Int} (h : 1 ≤ w ∧ w ≤ 16) : isNm (s ++ itoaB w) = true := by
  obtain ⟨n, rfl⟩ : ∃ n : Nat, w = n := ⟨w.toNat, by omega⟩
  rw [itoa_small (by omega)]
  exact name_dec s hs ⟨n, by omega⟩ (by show 1 ≤ n; omega)
theorem name_inj {s t : ByteArray} (hs : s ∈ lets) (ht : t ∈ lets) {w v : Int} (h : 1 ≤ w ∧ w ≤ 16) (h' : 1 ≤ v ∧ v ≤ 16) (e : s ++ itoaB w = t ++ itoaB v) : w = v := by
  obtain ⟨n, rfl⟩ : ∃ n : Nat, w = n := ⟨w.toNat, by omega⟩
  obtain ⟨m, rfl⟩ : ∃ m : Nat, v = m := ⟨v.toNat, by omega⟩
  rw [itoa_small (by omega), itoa_small (by omega)] at e
  have := name_inj_dec s hs t ht ⟨n, by omega⟩ ⟨m, by omega⟩ e
  have h := congrArg Fin.val this
  have h : n = m := h
  rw [h]
def all30 : List ByteArray := lets.flatMap fun s => (List.range 10).map fun n => s ++ smB (n + 1)
theorem all30_len : all30.length = 30 := by decide +kernel
theorem all30_mem {s : ByteArray} (hs : s ∈ lets) {w : Int} (h : 1 ≤ w ∧ w ≤ 10) : s ++ itoaB w ∈ all30 := by
  obtain ⟨n, rfl⟩ : ∃ n : Nat, w = n := ⟨w.toNat, by omega⟩
  rw [itoa_small (by omega)]
  unfold all30
  rw [List.mem_flatMap]
  refine ⟨s, hs, List.mem_map.2 ⟨n - 1, List.mem_range.2 (by omega), ?_⟩⟩
  rw [show n - 1 + 1 = n by omega]
theorem pig {α : Type} [DecidableEq α] : ∀ (l m : List α), l.Nodup → (∀ x ∈ l, x ∈ m) → l.length ≤ m.length := by
  intro l
  induction l with
  | nil => intro m _ _; exact Nat.zero_le _
  | cons x l ih =>
    intro m hn hs
    rw [List.nodup_cons] at hn
    have hx := hs x (by simp)
    have h1 := ih (m.erase x) hn.2 fun y hy => (List.mem_erase_of_ne (fun e => hn.1 (by rw [← e]; exact hy))).2 (hs y (by simp [hy]))
    have h2 := List.length_erase_of_mem hx
    have h3 := List.length_pos_of_mem hx
    rw [List.length_cons]
    omega

/-! what a draw makes -/
def sB : Nat → Nat
  | 0 => 1
  | m + 1 => 3 * sB m + 1
def Nmd (vs : Vs) : Prop := ∀ p ∈ vs, ∃ s ∈ lets, p.1 = s ++ itoaB p.2
def top (w : Int) : Int := if w < 4 then 4 else w
structure DrP (w : Int) (m : Nat) (t : Tm) : Prop where
  wd : t.1.w = w
  ok : OkT t
  sz : t.sz ≤ sB m
  nm : Nmd (varsT t)
  bd : ∀ p ∈ varsT t, 1 ≤ p.2 ∧ p.2 ≤ top w + 2 * (m : Int)
  bd1 : (varsT t).length ≤ 1 ∨ ∀ p ∈ varsT t, p.2 ≤ top w + 2 * ((m : Int) - 1)
theorem sB_pos : ∀ m, 1 ≤ sB m
  | 0 => Nat.le_refl _
  | m + 1 => by rw [sB]; omega
theorem sB_4 : ∀ m, m ≤ 4 → sB m ≤ 121 := by decide
theorem drp_cons {vs : Vs} (h : Nmd vs) (hb : ∀ p ∈ vs, 1 ≤ p.2 ∧ p.2 ≤ 16) : Cons vs := by
  intro p hp q hq e
  obtain ⟨s, hs, e1⟩ := h p hp
  obtain ⟨t, ht, e2⟩ := h q hq
  exact name_inj hs ht (hb p hp) (hb q hq) (by rw [← e1, ← e2, e])
theorem vars_wid {vs : Vs} {k : TF} (h : OkF k) : ∀ p ∈ varsF k, 1 ≤ p.2 ∧ p.2 ≤ 16 := by
  induction k with
  | nil => intro p hp; cases hp
  | cons x k r ihk ihr =>
    intro p hp
    rw [varsF, List.mem_append, List.mem_append] at hp
    rcases hp with (hp | hp) | hp
    · split at hp
      · rw [List.mem_singleton] at hp; subst hp; exact h.1.1.width
      · cases hp
    · exact ihk h.1.2 p hp
    · exact ihr h.2 p hp
theorem okT_wid {t : Tm} (h : OkT t) : ∀ p ∈ varsT t, 1 ≤ p.2 ∧ p.2 ≤ 16 := vars_wid (vs := []) (k := .cons t.1 t.2 .nil) ⟨h, trivial⟩
theorem DrP.tok {w : Int} {m : Nat} {t : Tm} (h : DrP w m t) (hm : m ≤ 4) : TOk t.1 t.2 := by
  refine ⟨?_, OkF_one.2 h.ok, drp_cons (vs := varsT t) h.nm (okT_wid h.ok)⟩
  have h1 := h.sz
  have h2 := sB_4 m hm
  have h3 : t.sz = t.2.size + 1 := rfl
  omega

/-! leaves -/
theorem drp_const {w n : Int} (m : Nat) (h : wOk w n = true) : DrP w m (constL w n, .nil) := by
  have hw := wOk_iff.1 h
  have hv : varsT (constL w n, .nil) = [] := rfl
  refine ⟨rfl, ok_con h, sB_pos m, ?_, ?_, ?_⟩
  · rw [hv]; intro p hp; cases hp
  · rw [hv]; intro p hp; cases hp
  · rw [hv]; exact .inl (Nat.zero_le _)
theorem drp_var {w : Int} (m : Nat) {s : ByteArray} (hs : s ∈ lets) (h : 1 ≤ w ∧ w ≤ 16) : DrP w m (varL w (s ++ itoaB w), .nil) := by
  have hv : varsT (varL w (s ++ itoaB w), .nil) = [(s ++ itoaB w, w)] := rfl
  have hn := name_ok hs h
  refine ⟨rfl, ⟨⟨h, rfl, fun y hy => (by cases hy), rfl, fun h => absurd h (by show ¬ (22 : Int) = 0; decide), fun _ _ => rfl, fun h => absurd rfl h, fun _ => hn⟩, trivial⟩, sB_pos m, ?_, ?_, ?_⟩
  · rw [hv]; intro p hp; rw [List.mem_singleton] at hp; subst hp; exact ⟨s, hs, rfl⟩
  · rw [hv]; intro p hp; rw [List.mem_singleton] at hp; subst hp
    refine ⟨h.1, ?_⟩
    show w ≤ top w + 2 * (m : Int)
    unfold top; split <;> omega
  · rw [hv]; exact .inl (Nat.le_refl _)

/-! nodes -/
/-- What is asked of the kids of a node of width w. -/
structure KdP (w : Int) (m : Nat) (l : List Tm) : Prop where
  ok : ∀ t ∈ l, OkT t
  sz : (mkTF l).size ≤ 3 * sB m
  nm : ∀ t ∈ l, Nmd (varsT t)
  bd : ∀ t ∈ l, ∀ p ∈ varsT t, p.2 ≤ top w + 2 * ((m : Int) + 1)
  bd1 : (l.flatMap varsT).length ≤ 1 ∨ ∀ t ∈ l, ∀ p ∈ varsT t, p.2 ≤ top w + 2 * (m : Int)
theorem KdP.node {w : Int} {m : Nat} {l : List Tm} (h : KdP w m l) {x : Lab} (hx : NodeOk x (l.map (·.1))) (hw : x.w = w) (h22 : x.op ≠ 22) : DrP w (m + 1) (x, mkTF l) := by
  have hv : varsT (x, mkTF l) = l.flatMap varsT := by
    rw [varsT_eq, if_neg h22, List.nil_append, varsF_mk]
  have hok : OkT (x, mkTF l) := ⟨by rw [show hdF (x, mkTF l).2 = l.map (·.1) by rw [hdF_tms, tms_mk]]; exact hx, OkF_mk h.ok⟩
  have hwd := okT_wid hok
  refine ⟨hw, hok, ?_, ?_, ?_, ?_⟩
  · have := h.sz
    show (mkTF l).size + 1 ≤ 3 * sB m + 1
    omega
  · rw [hv]; intro p hp
    obtain ⟨t, ht, hp⟩ := List.mem_flatMap.1 hp
    exact h.nm t ht p hp
  · intro p hp
    refine ⟨(hwd p hp).1, ?_⟩
    rw [hv] at hp
    obtain ⟨t, ht, hp⟩ := List.mem_flatMap.1 hp
    have := h.bd t ht p hp
    omega
  · rw [hv]
    refine h.bd1.imp id fun h1 p hp => ?_
    obtain ⟨t, ht, hp⟩ := List.mem_flatMap.1 hp
    have := h1 t ht p hp
    omega
theorem top_mono {v w : Int} (h : v ≤ w) : top v ≤ top w := by unfold top; split <;> split <;> omega
/-- Kids that are no wider than the node (or than 4). -/
theorem kdp_of {w : Int} {m : Nat} {l : List Tm} (hl : l.length ≤ 3) (h : ∀ t ∈ l, ∃ v, DrP v m t ∧ top v ≤ top w) : KdP w m l := by
  have hsz : ∀ l : List Tm, (∀ t ∈ l, t.sz ≤ sB m) → (mkTF l).size ≤ l.length * sB m := by
    intro l
    induction l with
    | nil => intro _; exact Nat.zero_le _
    | cons t l ih =>
      intro h
      have h1 := ih fun u hu => h u (by simp [hu])
      have h2 := h t (by simp)
      have h3 : t.sz = t.2.size + 1 := rfl
      show t.2.size + (mkTF l).size + 1 ≤ _
      rw [List.length_cons, Nat.succ_mul]
      omega
  refine ⟨fun t ht => (h t ht).elim fun v hv => hv.1.ok, ?_, fun t ht => (h t ht).elim fun v hv => hv.1.nm, fun t ht p hp => ?_, .inr fun t ht p hp => ?_⟩
  · refine Nat.le_trans (hsz l fun t ht => (h t ht).elim fun v hv => hv.1.sz) (Nat.mul_le_mul_right _ hl)
  · obtain ⟨v, hv, hvw⟩ := h t ht
    have := hv.bd p hp
    omega
  · obtain ⟨v, hv, hvw⟩ := h t ht
    have := hv.bd p hp
    omega
/-- One kid that is up to two wider. -/
theorem kdp_cut {w v : Int} {m : Nat} {t : Tm} (h : DrP v m t) (hv : v ≤ w + 2) : KdP w m [t] := by
  have ht : top v ≤ top w + 2 := by unfold top; split <;> split <;> omega
  refine ⟨fun u hu => by rw [List.mem_singleton] at hu; subst hu; exact h.ok, ?_, fun u hu => by rw [List.mem_singleton] at hu; subst hu; exact h.nm, fun u hu p hp => ?_, ?_⟩
  · have := h.sz
    have h3 : t.sz = t.2.size + 1 := rfl
    show t.2.size + 0 + 1 ≤ _
    omega
  · rw [List.mem_singleton] at hu; subst hu
    have := h.bd p hp
    omega
  · rw [show [t].flatMap varsT = varsT t by simp]
    refine h.bd1.imp id fun h1 u hu p hp => ?_
    rw [List.mem_singleton] at hu; subst hu
    have := h1 p hp
    omega
/-- A node with kids. -/
theorem nodeOk_of {x : Lab} {l : List Tm} (hw : 1 ≤ x.w ∧ x.w ≤ 16) (hop : 1 ≤ x.op ∧ x.op ≤ 21) (hc : (l.length : Int) = kc x.op) (hk : ∀ t ∈ l, OkT t) (hf : fit x (l.map (·.1)) = true) (hn : x.op ≠ 19 → x.n = 0) (hnm : x.name = ByteArray.empty) : NodeOk x (l.map (·.1)) :=
  ⟨hw, by rw [List.length_map]; exact hc, fun y hy => by obtain ⟨t, ht, rfl⟩ := List.mem_map.1 hy; exact (hk t ht).1.width, hf, fun h => by omega, fun _ h => hn h, fun _ => hnm, fun h => by omega⟩
section
variable {op w v n : Int} {m : Nat} {a b d : Tm}
theorem drp_cmp (ho : 14 ≤ op ∧ op ≤ 16) (hv : v ≤ 4) (ha : DrP v m a) (hb : DrP v m b) : DrP 1 (m + 1) (⟨op, 1, 0, ByteArray.empty⟩, mkTF [a, b]) := by
  have hk : KdP 1 m [a, b] := kdp_of (show 2 ≤ 3 by decide) fun t ht => ⟨v, by rcases List.mem_cons.1 ht with rfl | ht; exact ha; rw [List.mem_singleton] at ht; subst ht; exact hb, by unfold top; split <;> split <;> omega⟩
  refine hk.node (nodeOk_of (show (1 : Int) ≤ 1 ∧ (1 : Int) ≤ 16 by decide) ⟨by show 1 ≤ op; omega, by show op ≤ 21; omega⟩ ?_ hk.ok ?_ (fun _ => rfl) rfl) rfl (by show op ≠ 22; omega)
  · show (2 : Int) = kc op
    unfold kc; rw [if_neg (by omega), if_neg (by omega), if_pos (by omega)]
  · unfold fit
    rw [if_neg (by show ¬ (op = 0 ∨ op = 22); omega), if_neg (by show ¬ (op = 1 ∨ op = 2); omega), if_neg (by show ¬ (3 ≤ op ∧ op ≤ 13); omega), if_pos (show 14 ≤ op ∧ op ≤ 16 from ho)]
    exact decide_eq_true ⟨ha.wd.trans hb.wd.symm, rfl⟩
theorem drp_cgrow (ho : 14 ≤ op ∧ op ≤ 16) (hv : v ≤ 4) (ha : DrP v m a) (hb : DrP v m b) (hw : 1 ≤ w ∧ w ≤ 16) : DrP w (m + 1) (⟨20, w, 0, ByteArray.empty⟩, mkTF [(⟨op, 1, 0, ByteArray.empty⟩, mkTF [a, b])]) := by
  have hc := drp_cmp ho hv ha hb
  have hvars : varsT (⟨op, 1, 0, ByteArray.empty⟩, mkTF [a, b]) = varsT a ++ varsT b := by
    rw [varsT_eq, if_neg (show ¬ (op = 22) by omega), List.nil_append, varsF_mk]; simp
  have hbd : ∀ p ∈ varsT (⟨op, 1, 0, ByteArray.empty⟩, mkTF [a, b]), p.2 ≤ top w + 2 * (m : Int) := fun p hp => by
    rw [hvars] at hp
    have ht : top v ≤ top w := by unfold top; split <;> split <;> omega
    rcases List.mem_append.1 hp with hp | hp
    · have := ha.bd p hp; omega
    · have := hb.bd p hp; omega
  have hk : KdP w m [(⟨op, 1, 0, ByteArray.empty⟩, mkTF [a, b])] := by
    refine ⟨fun t ht => by rw [List.mem_singleton] at ht; subst ht; exact hc.ok, ?_, fun t ht => by rw [List.mem_singleton] at ht; subst ht; exact hc.nm, fun t ht p hp => ?_, .inr fun t ht p hp => ?_⟩
    · have h1 := ha.sz
      have h2 := hb.sz
      have h3 := sB_pos m
      have h4 : (mkTF [((⟨op, 1, 0, ByteArray.empty⟩ : Lab), mkTF [a, b])]).size = a.sz + b.sz + 1 := by rw [size_mk]; simp [sz2]
      omega
    · rw [List.mem_singleton] at ht; subst ht; have := hbd p hp; omega
    · rw [List.mem_singleton] at ht; subst ht; exact hbd p hp
  refine hk.node (nodeOk_of hw ⟨show (1 : Int) ≤ 20 by decide, show (20 : Int) ≤ 21 by decide⟩ rfl hk.ok ?_ (fun _ => rfl) rfl) rfl (show (20 : Int) ≠ 22 by decide)
  show decide ((1 : Int) ≤ w) = true
  exact decide_eq_true hw.1
theorem drp_bin (ho : 3 ≤ op ∧ op ≤ 13) (hw : 1 ≤ w ∧ w ≤ 16) (ha : DrP w m a) (hb : DrP w m b) : DrP w (m + 1) (⟨op, w, 0, ByteArray.empty⟩, mkTF [a, b]) := by
  have hk : KdP w m [a, b] := kdp_of (show 2 ≤ 3 by decide) fun t ht => ⟨w, by rcases List.mem_cons.1 ht with rfl | ht; exact ha; rw [List.mem_singleton] at ht; subst ht; exact hb, Int.le_refl _⟩
  refine hk.node (nodeOk_of hw ⟨by show 1 ≤ op; omega, by show op ≤ 21; omega⟩ ?_ hk.ok ?_ (fun _ => rfl) rfl) rfl (by show op ≠ 22; omega)
  · show (2 : Int) = kc op
    unfold kc; rw [if_neg (by omega), if_neg (by omega), if_pos (by omega)]
  · unfold fit
    rw [if_neg (by show ¬ (op = 0 ∨ op = 22); omega), if_neg (by show ¬ (op = 1 ∨ op = 2); omega), if_pos (show 3 ≤ op ∧ op ≤ 13 from ho)]
    exact decide_eq_true ⟨ha.wd, hb.wd⟩
theorem drp_un (ho : op = 1 ∨ op = 2) (hw : 1 ≤ w ∧ w ≤ 16) (ha : DrP w m a) : DrP w (m + 1) (⟨op, w, 0, ByteArray.empty⟩, mkTF [a]) := by
  have hk : KdP w m [a] := kdp_of (show 1 ≤ 3 by decide) fun t ht => ⟨w, by rw [List.mem_singleton] at ht; subst ht; exact ha, Int.le_refl _⟩
  refine hk.node (nodeOk_of hw ⟨by show 1 ≤ op; omega, by show op ≤ 21; omega⟩ ?_ hk.ok ?_ (fun _ => rfl) rfl) rfl (by show op ≠ 22; omega)
  · show (1 : Int) = kc op
    unfold kc; rw [if_neg (by omega), if_pos (by omega)]
  · unfold fit
    rw [if_neg (by show ¬ (op = 0 ∨ op = 22); omega), if_pos (show op = 1 ∨ op = 2 from ho)]
    exact decide_eq_true ha.wd
theorem drp_if (hw : 1 ≤ w ∧ w ≤ 16) (ha : DrP 1 m a) (hb : DrP w m b) (hd : DrP w m d) : DrP w (m + 1) (⟨17, w, 0, ByteArray.empty⟩, mkTF [a, b, d]) := by
  have ht1 : top 1 ≤ top w := by unfold top; split <;> split <;> omega
  have hk : KdP w m [a, b, d] := kdp_of (show 3 ≤ 3 by decide) fun t ht => by
    rcases List.mem_cons.1 ht with rfl | ht
    · exact ⟨1, ha, ht1⟩
    rcases List.mem_cons.1 ht with rfl | ht
    · exact ⟨w, hb, Int.le_refl _⟩
    rw [List.mem_singleton] at ht; subst ht
    exact ⟨w, hd, Int.le_refl _⟩
  refine hk.node (nodeOk_of hw ⟨show (1 : Int) ≤ 17 by decide, show (17 : Int) ≤ 21 by decide⟩ rfl hk.ok ?_ (fun _ => rfl) rfl) rfl (show (17 : Int) ≠ 22 by decide)
  exact decide_eq_true ⟨ha.wd, hb.wd, hd.wd⟩
theorem drp_join (hw : 1 ≤ w ∧ w ≤ 16) (hv : 1 ≤ v ∧ v < w) (ha : DrP (w - v) m a) (hb : DrP v m b) : DrP w (m + 1) (⟨18, w, 0, ByteArray.empty⟩, mkTF [a, b]) := by
  have hk : KdP w m [a, b] := kdp_of (show 2 ≤ 3 by decide) fun t ht => by
    rcases List.mem_cons.1 ht with rfl | ht
    · exact ⟨w - v, ha, top_mono (by omega)⟩
    rw [List.mem_singleton] at ht; subst ht
    exact ⟨v, hb, top_mono (by omega)⟩
  refine hk.node (nodeOk_of hw ⟨show (1 : Int) ≤ 18 by decide, show (18 : Int) ≤ 21 by decide⟩ rfl hk.ok ?_ (fun _ => rfl) rfl) rfl (show (18 : Int) ≠ 22 by decide)
  refine decide_eq_true ?_
  show a.1.w + b.1.w = w
  rw [ha.wd, hb.wd]; omega
theorem drp_cut (hw : 1 ≤ w ∧ w ≤ 16) (hv : w ≤ v ∧ v ≤ w + 2) (hn : 0 ≤ n ∧ n ≤ v - w) (ha : DrP v m a) : DrP w (m + 1) (⟨19, w, n, ByteArray.empty⟩, mkTF [a]) := by
  have hk : KdP w m [a] := kdp_cut ha hv.2
  refine hk.node (nodeOk_of hw ⟨show (1 : Int) ≤ 19 by decide, show (19 : Int) ≤ 21 by decide⟩ rfl hk.ok ?_ (fun h => absurd rfl h) rfl) rfl (show (19 : Int) ≠ 22 by decide)
  refine decide_eq_true ?_
  show 0 ≤ n ∧ n ≤ a.1.w - w
  rw [ha.wd]; exact hn
theorem drp_wid (ho : op = 20 ∨ op = 21) (hw : 1 ≤ w ∧ w ≤ 16) (hv : v ≤ w) (ha : DrP v m a) : DrP w (m + 1) (⟨op, w, 0, ByteArray.empty⟩, mkTF [a]) := by
  have hk : KdP w m [a] := kdp_of (show 1 ≤ 3 by decide) fun t ht => ⟨v, by rw [List.mem_singleton] at ht; subst ht; exact ha, top_mono hv⟩
  refine hk.node (nodeOk_of hw ⟨by show 1 ≤ op; omega, by show op ≤ 21; omega⟩ ?_ hk.ok ?_ (fun _ => rfl) rfl) rfl (by show op ≠ 22; omega)
  · show (1 : Int) = kc op
    unfold kc; rw [if_neg (by omega), if_pos (by omega)]
  · unfold fit
    rw [if_neg (by show ¬ (op = 0 ∨ op = 22); omega), if_neg (by show ¬ (op = 1 ∨ op = 2); omega), if_neg (by show ¬ (3 ≤ op ∧ op ≤ 13); omega), if_neg (by show ¬ (14 ≤ op ∧ op ≤ 16); omega), if_neg (by show ¬ (op = 17); omega), if_neg (by show ¬ (op = 18); omega), if_neg (by show ¬ (op = 19); omega)]
    refine decide_eq_true ?_
    show a.1.w ≤ w
    rw [ha.wd]; exact hv
end
/-- Few names: the values of the variables of a drawn term fit. -/
theorem few_names {vs : Vs} (ha : Asc vs) (hn : Nmd vs) (hb : vs.length ≤ 1 ∨ ∀ p ∈ vs, 1 ≤ p.2 ∧ p.2 ≤ 10) : vs.length ≤ 30 := by
  rcases hb with h | h
  · omega
  · have h1 := pig (vs.map (fun p : ByteArray × Int => p.1)) all30 (asc_nod ha) fun x hx => by
      obtain ⟨p, hp, rfl⟩ := List.mem_map.1 hx
      obtain ⟨s, hs, e⟩ := hn p hp
      rw [e]
      exact all30_mem hs (h p hp)
    rw [List.length_map, all30_len] at h1
    exact h1
end Go.Proofs.Ytekddgkgeaolnaa.Dr
namespace Go.Proofs.Ytekddgkgeaolnaa.Dr
open Go Go.Vc Go.RowKit
set_option linter.unusedVariables false

/-- What a draw of a term gives. -/
def DrR (C : Nat) (l : List Int) (w : Int) (m : Nat) (W : World) (v : Value) (w' : World) : Prop := Drw C l W w' ∧ ∃ t s, v = tv t.1 s ∧ DrP w m t ∧ TSl (fun b => W.heap.size ≤ b) w' s t.2
/-- A node under way: the cursor in C, the result's block B, the node's block A. -/
structure Nd (C B A : Nat) (l : List Int) (W : World) (x : Lab) (s : Value) (w : World) : Prop where
  chg : Chg (fun b => b = C) W w
  cur : Cur C w l
  hC : C < W.heap.size
  hB : W.heap.size ≤ B
  hA : B < A
  lt : A < w.heap.size
  rB : Rmy w B 5
  rA : Rmy w A 5
  ca : CellsAt w A 0 (tc x s)
section
variable {C B A : Nat} {l : List Int} {W w w' : World} {x : Lab} {s : Value}
theorem Nd.draw (h : Nd C B A l W x s w) (d : Drw C l w w') : Nd C B A l W x s w' :=
  ⟨h.chg.trans d.1, d.2, h.hC, h.hB, h.hA, Nat.lt_of_lt_of_le h.lt d.1.size, d.1.rmy (by have := h.hC; have := h.hB; omega) h.rB, d.1.rmy (by have := h.hC; have := h.hB; have := h.hA; omega) h.rA, d.1.cells (by have := h.hC; have := h.hB; have := h.hA; omega) h.ca⟩
theorem Nd.ext (h : Nd C B A l W x s w) (e : Ext w w') : Nd C B A l W x s w' :=
  ⟨h.chg.trans (.of e), h.cur.ext e, h.hC, h.hB, h.hA, Nat.lt_of_lt_of_le h.lt e.size, h.rB.ext e, h.rA.ext e, h.ca.ext e⟩
/-- What is written into new blocks above the node. -/
theorem Nd.high (h : Nd C B A l W x s w) {S : Nat → Prop} (hS : ∀ b, S b → A < b) (e : Chg S w w') : Nd C B A l W x s w' :=
  ⟨Chg.later h.chg e (fun b hb => .inr (by have := hS b hb; have := h.hB; have := h.hA; omega)), h.cur.chg (fun b hb hs => by have := hS b hs; have := h.hC; have := h.hB; have := h.hA; omega) e, h.hC, h.hB, h.hA, Nat.lt_of_lt_of_le h.lt e.size,
    e.rmy (fun hs => by have := hS _ hs; have := h.hA; omega) h.rB, e.rmy (fun hs => by have := hS _ hs; omega) h.rA, e.cells (fun hs => by have := hS _ hs; omega) h.ca⟩
theorem Nd.setA (h : Nd C B A l W x s w) {o : Nat} {u : Value} {x' : Lab} {s' : Value} (hc : CellsAt (w.setCell ⟨A, 0 + o, none⟩ u) A 0 (tc x' s')) : Nd C B A l W x' s' (w.setCell ⟨A, 0 + o, none⟩ u) := by
  have hch : Chg (fun b => b = A) w (w.setCell ⟨A, 0 + o, none⟩ u) := Chg.setCell (S := fun b => b = A) _ rfl _
  have h1 := h.hC
  have h2 := h.hB
  have h3 := h.hA
  exact ⟨Chg.later h.chg hch (fun b hb => .inr (by omega)), h.cur.chg (fun b hb hs => by omega) hch, h.hC, h.hB, h.hA, by have := h.lt; simpa [World.setCell] using this, h.rB.setCell, h.rA.setCell, hc⟩
theorem Nd.width (h : Nd C B A l W x s w) (n : Int) : Nd C B A l W ⟨x.op, n, x.n, x.name⟩ s (w.setCell ⟨A, 0 + 1, none⟩ (.int .i64 n)) :=
  h.setA ⟨(World.cell?_setCell_other _ _ _ _ (by simp)).trans h.ca.1, World.cell?_setCell_same _ _ _ h.ca.2.1, (World.cell?_setCell_other _ _ _ _ (by simp)).trans h.ca.2.2.1, (World.cell?_setCell_other _ _ _ _ (by simp)).trans h.ca.2.2.2.1, (World.cell?_setCell_other _ _ _ _ (by simp)).trans h.ca.2.2.2.2.1, trivial⟩
theorem Nd.numb (h : Nd C B A l W x s w) (n : Int) : Nd C B A l W ⟨x.op, x.w, n, x.name⟩ s (w.setCell ⟨A, 0 + 2, none⟩ (.int .i64 n)) :=
  h.setA ⟨(World.cell?_setCell_other _ _ _ _ (by simp)).trans h.ca.1, (World.cell?_setCell_other _ _ _ _ (by simp)).trans h.ca.2.1, World.cell?_setCell_same _ _ _ h.ca.2.2.1, (World.cell?_setCell_other _ _ _ _ (by simp)).trans h.ca.2.2.2.1, (World.cell?_setCell_other _ _ _ _ (by simp)).trans h.ca.2.2.2.2.1, trivial⟩
theorem Nd.kids (h : Nd C B A l W x s w) (s' : Value) : Nd C B A l W x s' (w.setCell ⟨A, 0 + 4, none⟩ s') :=
  h.setA ⟨(World.cell?_setCell_other _ _ _ _ (by simp)).trans h.ca.1, (World.cell?_setCell_other _ _ _ _ (by simp)).trans h.ca.2.1, (World.cell?_setCell_other _ _ _ _ (by simp)).trans h.ca.2.2.1, (World.cell?_setCell_other _ _ _ _ (by simp)).trans h.ca.2.2.2.1, World.cell?_setCell_same _ _ _ h.ca.2.2.2.2.1, trivial⟩
/-- A node begins: the variable t takes it. -/
theorem Nd.make (hB : W.heap.size ≤ B) (hC : C < W.heap.size) (hr : Rmy w B 5) (hlt : B < w.heap.size) (hch : Chg (fun b => b = C) W w) (hc : Cur C w l) (x : Lab) :
    FreeAll (bzW w) w.heap.size 0 (tc x (.slice none 0 0)) ∧ Nd C B w.heap.size l W x (.slice none 0 0) (setCells (bzW w) w.heap.size 0 (tc x (.slice none 0 0))) := by
  have k := keep5 (W := w) (x := x) (s := .slice none 0 0) rfl
  have h5 : (setCells (bzW w) w.heap.size 0 (tc x (.slice none 0 0))).heap.size = w.heap.size + 1 := by rw [setCells_size]; exact bz_size w
  exact ⟨k.1, hch.trans (.of k.2.2), hc.ext k.2.2, hC, hB, hlt, by omega, hr.ext k.2.2, Rmy.setCells _ (bz_rmy w), k.2.1⟩
/-- The end: the node is given. -/
theorem Nd.fin {m : Nat} {n : Int} {k : TF} (h : Nd C B A l W x s w) (hs : TSl (fun b => A < b) w s k) (hp : DrP n m (x, k)) :
    FreeAll w B 0 (tc x s) ∧ CellsAt (setCells w B 0 (tc x s)) B 0 (tc x s) ∧ DrR C l n m W (tv x s) (setCells w B 0 (tc x s)) := by
  have h1 := h.hC
  have h2 := h.hB
  have h3 := h.hA
  have hch : Chg (fun b => b = B) w (setCells w B 0 (tc x s)) := Chg.setCells (S := fun b => b = B) rfl _ _ _
  refine ⟨h.rB.all _ 0 (Nat.le_refl 5) (tc_one hs), setCells_at _ _ 0 5 h.rB (Nat.le_refl 5), ⟨Chg.later h.chg hch (fun b hb => .inr (by omega)), h.cur.chg (fun b hb e => by omega) hch⟩, (x, k), s, rfl, hp, ?_⟩
  exact (Fo.Sl.chg (S := fun b => b = B) (fun b hb e => by omega) hch hs).mono fun b hb => by omega
/-- The end where another node is given. -/
theorem fin_other {m : Nat} {n : Int} {y : Lab} {sk : Value} {k : TF} (h : Nd C B A l W x s w) (hs : TSl (fun b => A < b) w sk k) (hp : DrP n m (y, k)) :
    FreeAll w B 0 (tc y sk) ∧ CellsAt (setCells w B 0 (tc y sk)) B 0 (tc y sk) ∧ DrR C l n m W (tv y sk) (setCells w B 0 (tc y sk)) := by
  have h1 := h.hC
  have h2 := h.hB
  have h3 := h.hA
  have hch : Chg (fun b => b = B) w (setCells w B 0 (tc y sk)) := Chg.setCells (S := fun b => b = B) rfl _ _ _
  refine ⟨h.rB.all _ 0 (Nat.le_refl 5) (tc_one hs), setCells_at _ _ 0 5 h.rB (Nat.le_refl 5), ⟨Chg.later h.chg hch (fun b hb => .inr (by omega)), h.cur.chg (fun b hb e => by omega) hch⟩, (y, k), sk, rfl, hp, ?_⟩
  exact (Fo.Sl.chg (S := fun b => b = B) (fun b hb e => by omega) hch hs).mono fun b hb => by omega
/-- A kid that a draw has just made. -/
theorem Nd.kid {m : Nat} {n : Int} {v : Value} (h : Nd C B A l W x s w) (d : DrR C l n m w v w') : Nd C B A l W x s w' ∧ ∃ t st, v = tv t.1 st ∧ DrP n m t ∧ TSl (fun b => A < b) w' st t.2 :=
  ⟨h.draw d.1, d.2.imp fun t ht => ht.imp fun st hst => ⟨hst.1, hst.2.1, hst.2.2.mono fun b hb => by have := h.lt; omega⟩⟩
theorem Nd.keepS (h : Nd C B A l W x s w) {st : Value} {k : TF} (hs : TSl (fun b => A < b) w st k) (d : Drw C l w w') : TSl (fun b => A < b) w' st k :=
  Fo.Sl.chg (S := fun b => b = C) (fun b hb e => by have := h.hC; have := h.hB; have := h.hA; omega) d.1 hs
end
/-! rows of kids -/
section
variable {A : Nat} {w w' : World} {a b d : Tm} {sa sb sd : Value}
theorem row1 (h : TSl (fun b => A < b) w sa a.2) (hA : A < w.heap.size) :
    Ext w (w.alloc (.cells (tc a.1 sa).toArray 25)) ∧ TSl (fun b => A < b) (w.alloc (.cells (tc a.1 sa).toArray 25)) (.slice (some ⟨w.heap.size, 0, none⟩) 1 1) (mkTF [a]) := by
  have x : Ext w (w.alloc (.cells (tc a.1 sa).toArray 25)) := Ext.new _ _
  exact ⟨x, _, 1, rfl, (by decide : 1 ≤ maxLen), .inr ⟨_, 0, rfl, hA, at1 (boxedAll w (tc a.1 sa) _) (h.ext x) trivial⟩⟩
/-- A row of two kids, in block K. -/
structure Row2 (A K : Nat) (a : Tm) (sa : Value) (b : Tm) (sb : Value) (w : World) : Prop where
  hK : A < K
  r : Rmy w K 10
  ca : CellsAt w K 0 (tc a.1 sa)
  cb : CellsAt w K 5 (tc b.1 sb)
  ha : TSl (fun b => A < b ∧ b ≠ K) w sa a.2
  hb : TSl (fun b => A < b ∧ b ≠ K) w sb b.2
theorem row2 (h : TSl (fun b => A < b) w sa a.2) (h' : TSl (fun b => A < b) w sb b.2) (hA : A < w.heap.size) :
    Ext w (w.alloc (.cells (tc a.1 sa ++ tc b.1 sb).toArray 25)) ∧ Row2 A w.heap.size a sa b sb (w.alloc (.cells (tc a.1 sa ++ tc b.1 sb).toArray 25)) := by
  have x : Ext w (w.alloc (.cells (tc a.1 sa ++ tc b.1 sb).toArray 25)) := Ext.new _ _
  have hb := boxedAll w (tc a.1 sa ++ tc b.1 sb) 25
  have h1 := CellsAt.split (us := tc a.1 sa) hb
  exact ⟨x, hA, Rmy.new w (tc a.1 sa ++ tc b.1 sb) _, h1.1, h1.2, (h.lt.mono fun b hb => ⟨hb.1, by omega⟩).ext x, (h'.lt.mono fun b hb => ⟨hb.1, by omega⟩).ext x⟩
theorem Row2.sl {K : Nat} (h : Row2 A K a sa b sb w) : TSl (fun b => A < b) w (.slice (some ⟨K, 0, none⟩) 2 2) (mkTF [a, b]) :=
  ⟨_, 2, rfl, (by decide : 2 ≤ maxLen), .inr ⟨_, 0, rfl, h.hK, at1 h.ca (h.ha.mono fun b hb => hb.1) (at1 h.cb (h.hb.mono fun b hb => hb.1) trivial)⟩⟩
theorem Row2.chg {K : Nat} {S : Nat → Prop} (h : Row2 A K a sa b sb w) (hS : ∀ b, S b → b ≤ A) (e : Chg S w w') : Row2 A K a sa b sb w' := by
  have hk : ¬ S K := fun hs => by have := hS _ hs; have := h.hK; omega
  exact ⟨h.hK, e.rmy hk h.r, e.cells hk h.ca, e.cells hk h.cb, Fo.Sl.chg (fun b hb hs => by have := hS _ hs; omega) e h.ha, Fo.Sl.chg (fun b hb hs => by have := hS _ hs; omega) e h.hb⟩
/-- Both kids are one: the second is written over by the first. -/
theorem Row2.alias {K : Nat} (h : Row2 A K a sa b sb w) : FreeAll w K 5 (tc a.1 sa) ∧ Chg (fun b => b = K) w (setCells w K 5 (tc a.1 sa)) ∧ Row2 A K a sa a sa (setCells w K 5 (tc a.1 sa)) := by
  have hch : Chg (fun b => b = K) w (setCells w K 5 (tc a.1 sa)) := Chg.setCells (S := fun b => b = K) rfl _ _ _
  have ha := Fo.Sl.chg (S := fun b => b = K) (fun b hb hs => hb.2 hs) hch h.ha
  refine ⟨h.r.all _ 5 (Nat.le_refl 10) (tc_one h.ha), hch, h.hK, Rmy.setCells _ h.r, h.ca.keep fun i h1 h2 => setCells_other _ _ _ _ fun _ => .inl (by simpa using h2), setCells_at _ _ 5 10 h.r (Nat.le_refl 10), ha, ha⟩
theorem row3 (h : TSl (fun b => A < b) w sa a.2) (h' : TSl (fun b => A < b) w sb b.2) (h'' : TSl (fun b => A < b) w sd d.2) (hA : A < w.heap.size) :
    Ext w (w.alloc (.cells (tc a.1 sa ++ (tc b.1 sb ++ tc d.1 sd)).toArray 25)) ∧ TSl (fun b => A < b) (w.alloc (.cells (tc a.1 sa ++ (tc b.1 sb ++ tc d.1 sd)).toArray 25)) (.slice (some ⟨w.heap.size, 0, none⟩) 3 3) (mkTF [a, b, d]) := by
  have x : Ext w (w.alloc (.cells (tc a.1 sa ++ (tc b.1 sb ++ tc d.1 sd)).toArray 25)) := Ext.new _ _
  have hb := boxedAll w (tc a.1 sa ++ (tc b.1 sb ++ tc d.1 sd)) 25
  have h1 := CellsAt.split (us := tc a.1 sa) hb
  have h2 := CellsAt.split (us := tc b.1 sb) h1.2
  exact ⟨x, _, 3, rfl, (by decide : 3 ≤ maxLen), .inr ⟨_, 0, rfl, hA, at1 h1.1 (h.ext x) (at1 h2.1 (h'.ext x) (at1 h2.2 (h''.ext x) trivial))⟩⟩
end

def DrawS (m : Nat) : Prop := ∀ (C : Nat) (l : List Int) (w : Int) (W : World), Cur C W l → 1 ≤ w ∧ w ≤ 16 - 2 * (m : Int) → Ret Try.prog 24 #[.pointer (some ⟨C, 0, none⟩), .int .i64 w, .int .i64 (m : Int)] W (DrR C l w m W)
end Go.Proofs.Ytekddgkgeaolnaa.Dr
namespace Go.Proofs.Ytekddgkgeaolnaa.Dr
open Go Go.Vc Go.RowKit
set_option linter.unusedVariables false

theorem and_word {w n : Int} (h : 1 ≤ w ∧ w ≤ 16) : wOk w (bitsI .and .i64 n (2 ^ w.toNat - 1)) = true := by
  have hp := pow16 (w := w) (by omega) h.2
  have hm := and_mask (a := n) (m := 2 ^ w.toNat - 1) (by omega) (by omega)
  rw [wOk_iff]
  omega
theorem DrR.more {C : Nat} {l : List Int} {w : Int} {m : Nat} {W w1 w2 : World} {v : Value} (h : DrR C l w m W v w1) (x : Ext w1 w2) : DrR C l w m W v w2 :=
  ⟨⟨h.1.1.trans (.of x), h.1.2.ext x⟩, h.2.imp fun _ ht => ht.imp fun _ hs => ⟨hs.1, hs.2.1, hs.2.2.ext x⟩⟩
/-- A leaf is given. -/
theorem leaf_fin {C B : Nat} {l : List Int} {W w : World} {n : Int} {m : Nat} {y : Lab} (hB : W.heap.size ≤ B) (hC : C < W.heap.size) (hch : Chg (fun b => b = C) W w) (hc : Cur C w l) (hr : Rmy w B 5) (hp : DrP n m (y, .nil)) :
    FreeAll w B 0 (tc y (.slice none 0 0)) ∧ CellsAt (setCells w B 0 (tc y (.slice none 0 0))) B 0 (tc y (.slice none 0 0)) ∧ DrR C l n m W (tv y (.slice none 0 0)) (setCells w B 0 (tc y (.slice none 0 0))) := by
  have hst : Chg (fun b => b = B) w (setCells w B 0 (tc y (.slice none 0 0))) := Chg.setCells (S := fun b => b = B) rfl _ _ _
  exact ⟨hr.all _ 0 (Nat.le_refl 5) rfl, setCells_at _ _ 0 5 hr (Nat.le_refl 5), ⟨Chg.later hch hst (fun b hb => .inr (by omega)), hc.chg (fun b hb e => by omega) hst⟩, (y, .nil), _, rfl, hp, none, 0, rfl, Nat.zero_le _, .inl rfl⟩
theorem in_cases (op lo hi : Int) : decide (lo ≤ op ∧ op ≤ hi) = true ↔ lo ≤ op ∧ op ≤ hi := decide_eq_true_iff
set_option maxRecDepth 200000 in
set_option maxHeartbeats 4000000 in
theorem draw_all : ∀ m, m ≤ 4 → DrawS m := by
  intro m
  induction m with
  | zero =>
    intro _ C l w W hC hw
    have hw16 : 1 ≤ w ∧ w ≤ 16 := by omega
    have hp := pow16 (w := w) (by omega) hw16.2
    have hlt := hC.lt
    have xz := bz_ext W
    have cx : Chg (fun b => b = C) W (bzW W) := .of xz
    have rz := bz_rmy W
    have cz := hC.ext xz
    refine ret_of_vc ties mixed Try.func24 rfl (by kernel_rfl) rfl rfl ?_
    refine Or.inl ((once_ret C l 3 _ cz).mono ?_)
    rintro _ w2 ⟨⟨b2, rfl⟩, d2⟩
    have c2 : Chg (fun b => b = C) W w2 := cx.trans d2.1
    have r2 := d2.1.rmy (S := fun b => b = C) (by omega) rz
    refine br_split (fun _ => ?_) (fun _ => ?_)
    · refine .inr (.inr (hyb_ruleS (fun b => b = C) ties mixed [(0, .quiet), (1, .quiet), (2, .quiet), (3, .quiet), (4, .quiet), (5, .quiet), (6, .quiet), (7, .quiet), (11, .quiet), (12, .quiet), (13, .quiet), (8, .loud), (9, .loud), (10, .loud), (14, .loud), (15, .loud), (16, .wild)] (by kernel_rfl) ?_))
      refine ⟨by omega, _, shl1 (by omega) hw16.2, _, IntWalk.i64_in _ (by omega), by omega, _, shl1 (by omega) hw16.2, by omega, _, shl1 (by omega) hw16.2, _, IntWalk.i64_in _ (by omega), ?_⟩
      intro w3 x3
      refine Or.inl ((below_ret C l _ w3 (d2.2.ext x3)).mono ?_)
      rintro _ w4 ⟨⟨n4, rfl, -, -, -⟩, d4⟩
      refine ⟨d4.1, ?_⟩
      intro w5 x5
      refine ⟨Chg.alloc _ _, ?_⟩
      intro w6 x6
      have hbx := boxedAll w5 [.int .i64 0, .int .i64 1, .int .i64 (2 ^ w.toNat - 1), .int .i64 n4] 3
      have hl5 : C < w5.heap.size := (d4.2.ext x5).lt
      have hrow : SlR eI (fun b => b ≠ C) (w5.alloc (.cells [Value.int .i64 0, .int .i64 1, .int .i64 (2 ^ w.toNat - 1), .int .i64 n4].toArray 3)) (.slice (some ⟨w5.heap.size, 0, none⟩) 4 4) [0, 1, 2 ^ w.toNat - 1, n4] :=
        ⟨_, 4, rfl, Nat.le_refl _, (by decide : 4 ≤ maxLen), .inr ⟨_, 0, rfl, by omega, ⟨⟨[_], ⟨hbx.1, trivial⟩, rfl⟩, ⟨[_], ⟨hbx.2.1, trivial⟩, rfl⟩, ⟨[_], ⟨hbx.2.2.1, trivial⟩, rfl⟩, ⟨[_], ⟨hbx.2.2.2.1, trivial⟩, rfl⟩, trivial⟩⟩⟩
      have xn : Ext w5 (w5.alloc (.cells [Value.int .i64 0, .int .i64 1, .int .i64 (2 ^ w.toNat - 1), .int .i64 n4].toArray 3)) := Ext.new _ _
      refine Or.inl ((pick_ret C l w6 (((d4.2.ext x5).ext xn).ext x6) [0, 1, 2 ^ w.toNat - 1, n4] _ (hrow.ext x6) (show 1 ≤ 4 by decide)).mono ?_)
      rintro _ w7 ⟨⟨i7, hi7, rfl⟩, d7⟩
      refine ⟨d7.1, ?_⟩
      intro w8 x8
      refine ⟨_, rfl, Chg.refl _ _, ?_⟩
      intro w9 x9
      refine Or.inl ((l02Const_ret w _ w9).mono ?_)
      rintro _ w10 ⟨rfl, x10⟩
      refine ⟨.of x10, ?_⟩
      intro w11 x11
      have cA : Chg (fun b => b = C) W w11 := ((((((((c2.trans (.of x3)).trans d4.1).trans (.of x5)).trans (.of xn)).trans (.of x6)).trans d7.1).trans (.of x8)).trans (.of x9)).trans ((Chg.of x10).trans (.of x11))
      have uA := (((d7.2.ext x8).ext x9).ext x10).ext x11
      have rA := ((((d7.1.rmy (S := fun b => b = C) (by omega) (((d4.1.rmy (S := fun b => b = C) (by omega) (r2.ext x3)).ext x5 |>.ext xn).ext x6)).ext x8).ext x9).ext x10).ext x11
      have f := leaf_fin (B := W.heap.size) (Nat.le_refl _) hlt cA uA rA (drp_const 0 (and_word hw16 (n := [0, 1, 2 ^ w.toNat - 1, n4][i7]'hi7)))
      refine ⟨f.1, ?_⟩
      intro w12 x12
      exact ⟨_, rfl, f.2.1.ext x12, f.2.2.more x12⟩
    · refine Or.inl ((var_ret C l w2 d2.2 w (by omega)).mono ?_)
      rintro _ w3 ⟨⟨s, hs, rfl⟩, d3⟩
      have f := leaf_fin (B := W.heap.size) (Nat.le_refl _) hlt (c2.trans d3.1) d3.2 (d3.1.rmy (S := fun b => b = C) (by omega) r2) (drp_var 0 hs hw16)
      exact ⟨f.1, _, rfl, f.2.1, f.2.2⟩
  | succ m ih =>
    intro hm4 C l w W hC hw
    have hw16 : 1 ≤ w ∧ w ≤ 16 := by omega
    have hp := pow16 (w := w) (by omega) hw16.2
    have hlt := hC.lt
    have xz := bz_ext W
    have cx : Chg (fun b => b = C) W (bzW W) := .of xz
    have rz := bz_rmy W
    have cz := hC.ext xz
    refine ret_of_vc ties mixed Try.func24 rfl (by kernel_rfl) rfl rfl ?_
    refine Or.inl ((once_ret C l 6 _ cz).mono ?_)
    rintro _ w0 ⟨⟨b0, rfl⟩, d0⟩
    replace cz := d0.2
    replace cx := cx.trans d0.1
    replace rz := d0.1.rmy (S := fun b => b = C) (by omega) rz
    refine br_split (fun _ => ?_) (fun _ => ?_)
    ·
      as_aux_lemma =>
        refine Or.inl ((once_ret C l 3 _ cz).mono ?_)
        rintro _ w2 ⟨⟨b2, rfl⟩, d2⟩
        have c2 : Chg (fun b => b = C) W w2 := cx.trans d2.1
        have r2 := d2.1.rmy (S := fun b => b = C) (by omega) rz
        refine br_split (fun _ => ?_) (fun _ => ?_)
        · refine .inr (.inr (hyb_ruleS (fun b => b = C) ties mixed [(0, .quiet), (1, .quiet), (2, .quiet), (3, .quiet), (4, .quiet), (5, .quiet), (6, .quiet), (7, .quiet), (11, .quiet), (12, .quiet), (13, .quiet), (8, .loud), (9, .loud), (10, .loud), (14, .loud), (15, .loud), (16, .wild)] (by kernel_rfl) ?_))
          refine ⟨by omega, _, shl1 (by omega) hw16.2, _, IntWalk.i64_in _ (by omega), by omega, _, shl1 (by omega) hw16.2, by omega, _, shl1 (by omega) hw16.2, _, IntWalk.i64_in _ (by omega), ?_⟩
          intro w3 x3
          refine Or.inl ((below_ret C l _ w3 (d2.2.ext x3)).mono ?_)
          rintro _ w4 ⟨⟨n4, rfl, -, -, -⟩, d4⟩
          refine ⟨d4.1, ?_⟩
          intro w5 x5
          refine ⟨Chg.alloc _ _, ?_⟩
          intro w6 x6
          have hbx := boxedAll w5 [.int .i64 0, .int .i64 1, .int .i64 (2 ^ w.toNat - 1), .int .i64 n4] 3
          have hl5 : C < w5.heap.size := (d4.2.ext x5).lt
          have hrow : SlR eI (fun b => b ≠ C) (w5.alloc (.cells [Value.int .i64 0, .int .i64 1, .int .i64 (2 ^ w.toNat - 1), .int .i64 n4].toArray 3)) (.slice (some ⟨w5.heap.size, 0, none⟩) 4 4) [0, 1, 2 ^ w.toNat - 1, n4] :=
            ⟨_, 4, rfl, Nat.le_refl _, (by decide : 4 ≤ maxLen), .inr ⟨_, 0, rfl, by omega, ⟨⟨[_], ⟨hbx.1, trivial⟩, rfl⟩, ⟨[_], ⟨hbx.2.1, trivial⟩, rfl⟩, ⟨[_], ⟨hbx.2.2.1, trivial⟩, rfl⟩, ⟨[_], ⟨hbx.2.2.2.1, trivial⟩, rfl⟩, trivial⟩⟩⟩
          have xn : Ext w5 (w5.alloc (.cells [Value.int .i64 0, .int .i64 1, .int .i64 (2 ^ w.toNat - 1), .int .i64 n4].toArray 3)) := Ext.new _ _
          refine Or.inl ((pick_ret C l w6 (((d4.2.ext x5).ext xn).ext x6) [0, 1, 2 ^ w.toNat - 1, n4] _ (hrow.ext x6) (show 1 ≤ 4 by decide)).mono ?_)
          rintro _ w7 ⟨⟨i7, hi7, rfl⟩, d7⟩
          refine ⟨d7.1, ?_⟩
          intro w8 x8
          refine ⟨_, rfl, Chg.refl _ _, ?_⟩
          intro w9 x9
          refine Or.inl ((l02Const_ret w _ w9).mono ?_)
          rintro _ w10 ⟨rfl, x10⟩
          refine ⟨.of x10, ?_⟩
          intro w11 x11
          have cA : Chg (fun b => b = C) W w11 := ((((((((c2.trans (.of x3)).trans d4.1).trans (.of x5)).trans (.of xn)).trans (.of x6)).trans d7.1).trans (.of x8)).trans (.of x9)).trans ((Chg.of x10).trans (.of x11))
          have uA := (((d7.2.ext x8).ext x9).ext x10).ext x11
          have rA := ((((d7.1.rmy (S := fun b => b = C) (by omega) (((d4.1.rmy (S := fun b => b = C) (by omega) (r2.ext x3)).ext x5 |>.ext xn).ext x6)).ext x8).ext x9).ext x10).ext x11
          have f := leaf_fin (B := W.heap.size) (Nat.le_refl _) hlt cA uA rA (drp_const (m + 1) (and_word hw16 (n := [0, 1, 2 ^ w.toNat - 1, n4][i7]'hi7)))
          refine ⟨f.1, ?_⟩
          intro w12 x12
          exact ⟨_, rfl, f.2.1.ext x12, f.2.2.more x12⟩
        · refine Or.inl ((var_ret C l w2 d2.2 w (by omega)).mono ?_)
          rintro _ w3 ⟨⟨s, hs, rfl⟩, d3⟩
          have f := leaf_fin (B := W.heap.size) (Nat.le_refl _) hlt (c2.trans d3.1) d3.2 (d3.1.rmy (S := fun b => b = C) (by omega) r2) (drp_var (m + 1) hs hw16)
          exact ⟨f.1, _, rfl, f.2.1, f.2.2⟩
    refine Or.inl ((below_ret C l 21 _ cz).mono ?_)
    rintro _ w1 ⟨⟨y1, rfl, hy0, hy1, hyn⟩, d1⟩
    replace cz := d1.2
    replace cx := cx.trans d1.1
    replace rz := d1.1.rmy (S := fun b => b = C) (by omega) rz
    have hyn := hyn (by decide)
    obtain ⟨op, hop⟩ : ∃ op : Int, 1 + y1 = op := ⟨_, rfl⟩
    refine ⟨op, (IntWalk.i64_in _ (by omega)).trans hop, ?_⟩
    have hz1 : W.heap.size < w1.heap.size := by have := bz_size W; have := d0.1.size; have := d1.1.size; omega
    have mk := Nd.make (B := W.heap.size) (Nat.le_refl _) hlt rz hz1 cx cz (mkn op w 0)
    refine ⟨mk.1, ?_⟩
    have nd1 := mk.2
    refine Or.inl ((in_ret op 14 16 _).mono ?_)
    rintro _ _ ⟨rfl, rfl⟩
    refine br_dec (fun hin => ?_) (fun hin1 => ?_)
    ·
      as_aux_lemma =>
        refine Or.inl ((below_ret C l 4 _ nd1.cur).mono ?_)
        rintro _ w2 ⟨⟨y2, rfl, hy2, -, hy2n⟩, d2⟩
        have hy2n := hy2n (by decide)
        have nd2 := nd1.draw d2
        refine ⟨_, IntWalk.i64_in _ (by omega), ?_⟩
        refine ⟨nd2.rA 1 (by decide), ?_⟩
        have nd4 := nd2.width 1
        refine ⟨(m : Int), (IntWalk.i64_in _ (by omega)).trans (by omega), ?_⟩
        refine Or.inl ((ih (by omega) C l (1 + y2) _ nd4.cur (by omega)).mono ?_)
        rintro _ w5 ⟨d5, t5, s5, rfl, p5, q5⟩
        have z5 := nd4.lt
        replace q5 : TSl (fun b => w1.heap.size < b) w5 s5 t5.2 := q5.mono fun b hb => Nat.lt_of_lt_of_le z5 hb
        have nd5 := nd4.draw d5
        refine ⟨(m : Int), (IntWalk.i64_in _ (by omega)).trans (by omega), ?_⟩
        refine Or.inl ((ih (by omega) C l (1 + y2) _ nd5.cur (by omega)).mono ?_)
        rintro _ w6 ⟨d6, t6, s6, rfl, p6, q6⟩
        have z6 := nd5.lt
        replace q6 : TSl (fun b => w1.heap.size < b) w6 s6 t6.2 := q6.mono fun b hb => Nat.lt_of_lt_of_le z6 hb
        have nd6 := nd5.draw d6
        replace q5 := nd5.keepS q5 d6
        have rw7 := row2 q5 q6 nd6.lt
        have nd7 := nd6.ext rw7.1
        refine ⟨nd7.rA 4 (by decide), ?_⟩
        have nd8 := nd7.kids (.slice (some ⟨w6.heap.size, 0, none⟩) 2 2)
        have ro8 := rw7.2.chg (S := fun b => b = w1.heap.size) (fun b hb => by omega) (Chg.setCell (S := fun b => b = w1.heap.size) _ (p := ⟨w1.heap.size, 0 + 4, none⟩) rfl (.slice (some ⟨w6.heap.size, 0, none⟩) 2 2))
        refine Or.inl ((once_ret C l 6 _ nd8.cur).mono ?_)
        rintro _ w9 ⟨⟨b9, rfl⟩, d9⟩
        have nd9 := nd8.draw d9
        have ro9 := ro8.chg (S := fun b => b = C) (fun b hb => by have := nd8.hC; have := nd8.hB; have := nd8.hA; omega) d9.1
        refine br_split (fun _ => ?_) (fun _ => ?_)
        · have al := ro9.alias
          have ndA := nd9.high (S := fun b => b = w6.heap.size) (fun b hb => by have := ro9.hK; omega) al.2.1
          refine .inr (.inr (hyb_rule ties mixed [(0, .quiet), (1, .quiet), (2, .quiet), (3, .quiet), (4, .quiet), (5, .quiet), (6, .quiet), (7, .wild)] (by kernel_rfl) ?_))
          refine ⟨_, nd9.ca.2.2.2.2.1, _, nd9.ca.2.2.2.2.1, ⟨by decide, by decide⟩, tc t5.1 s5, rfl, ro9.ca, ⟨by decide, by decide⟩, ?_⟩
          intro wA xA
          have alA := (ro9.chg (S := fun _ => False) (fun _ hb => hb.elim) (Chg.of xA)).alias
          have ndB := (nd9.ext xA).high (S := fun b => b = w6.heap.size) (fun b hb => by have := ro9.hK; omega) alA.2.1
          refine ⟨alA.1, ?_⟩
          intro wB xB
          have nd10 := ndB.ext xB
          have ro10 := alA.2.2.chg (S := fun _ => False) (fun _ hb => hb.elim) (Chg.of xB)
          have p10 := p5
          refine br_dec (fun hw1 => ?_) (fun hw1 => ?_)
          · have rw11 := row1 (a := (⟨op, 1, 0, ByteArray.empty⟩, mkTF [t5, t5])) ro10.sl nd10.lt
            have nd11 := nd10.ext rw11.1
            refine ⟨tc _ _, rfl, nd10.ca, ?_⟩
            have g := fin_other nd11 rw11.2 (drp_cgrow (w := w) ⟨hin.1, hin.2⟩ (by omega) p5 p10 hw16)
            exact ⟨g.1, _, rfl, g.2.1, g.2.2⟩
          · have hw1 : w = 1 := by omega
            subst hw1
            refine ⟨tc _ _, rfl, nd10.ca, ?_⟩
            have f := nd10.fin ro10.sl (drp_cmp ⟨hin.1, hin.2⟩ (by omega) p5 p10)
            exact ⟨f.1, _, rfl, f.2.1, f.2.2⟩
        · have nd10 := nd9
          have ro10 := ro9
          have p10 := p6
          refine br_dec (fun hw1 => ?_) (fun hw1 => ?_)
          · have rw11 := row1 (a := (⟨op, 1, 0, ByteArray.empty⟩, mkTF [t5, t6])) ro10.sl nd10.lt
            have nd11 := nd10.ext rw11.1
            refine ⟨tc _ _, rfl, nd10.ca, ?_⟩
            have g := fin_other nd11 rw11.2 (drp_cgrow (w := w) ⟨hin.1, hin.2⟩ (by omega) p5 p10 hw16)
            exact ⟨g.1, _, rfl, g.2.1, g.2.2⟩
          · have hw1 : w = 1 := by omega
            subst hw1
            refine ⟨tc _ _, rfl, nd10.ca, ?_⟩
            have f := nd10.fin ro10.sl (drp_cmp ⟨hin.1, hin.2⟩ (by omega) p5 p10)
            exact ⟨f.1, _, rfl, f.2.1, f.2.2⟩
    refine Or.inl ((in_ret op 3 13 _).mono ?_)
    rintro _ _ ⟨rfl, rfl⟩
    refine br_dec (fun hin2 => ?_) (fun hin2 => ?_)
    ·
      as_aux_lemma =>
        refine ⟨(m : Int), (IntWalk.i64_in _ (by omega)).trans (by omega), ?_⟩
        refine Or.inl ((ih (by omega) C l (w) _ nd1.cur (by omega)).mono ?_)
        rintro _ w5 ⟨d5, t5, s5, rfl, p5, q5⟩
        have z5 := nd1.lt
        replace q5 : TSl (fun b => w1.heap.size < b) w5 s5 t5.2 := q5.mono fun b hb => Nat.lt_of_lt_of_le z5 hb
        have nd5 := nd1.draw d5
        refine ⟨(m : Int), (IntWalk.i64_in _ (by omega)).trans (by omega), ?_⟩
        refine Or.inl ((ih (by omega) C l (w) _ nd5.cur (by omega)).mono ?_)
        rintro _ w6 ⟨d6, t6, s6, rfl, p6, q6⟩
        have z6 := nd5.lt
        replace q6 : TSl (fun b => w1.heap.size < b) w6 s6 t6.2 := q6.mono fun b hb => Nat.lt_of_lt_of_le z6 hb
        have nd6 := nd5.draw d6
        replace q5 := nd5.keepS q5 d6
        have rw7 := row2 q5 q6 nd6.lt
        have nd7 := nd6.ext rw7.1
        refine ⟨nd7.rA 4 (by decide), ?_⟩
        have nd8 := nd7.kids (.slice (some ⟨w6.heap.size, 0, none⟩) 2 2)
        have ro8 := rw7.2.chg (S := fun b => b = w1.heap.size) (fun b hb => by omega) (Chg.setCell (S := fun b => b = w1.heap.size) _ (p := ⟨w1.heap.size, 0 + 4, none⟩) rfl (.slice (some ⟨w6.heap.size, 0, none⟩) 2 2))
        refine Or.inl ((once_ret C l 8 _ nd8.cur).mono ?_)
        rintro _ w9 ⟨⟨b9, rfl⟩, d9⟩
        have nd9 := nd8.draw d9
        have ro9 := ro8.chg (S := fun b => b = C) (fun b hb => by have := nd8.hC; have := nd8.hB; have := nd8.hA; omega) d9.1
        refine br_split (fun _ => ?_) (fun _ => ?_)
        · have al := ro9.alias
          have ndA := nd9.high (S := fun b => b = w6.heap.size) (fun b hb => by have := ro9.hK; omega) al.2.1
          refine .inr (.inr (hyb_rule ties mixed [(0, .quiet), (1, .quiet), (2, .quiet), (3, .quiet), (4, .quiet), (5, .quiet), (6, .quiet), (7, .wild)] (by kernel_rfl) ?_))
          refine ⟨_, nd9.ca.2.2.2.2.1, _, nd9.ca.2.2.2.2.1, ⟨by decide, by decide⟩, tc t5.1 s5, rfl, ro9.ca, ⟨by decide, by decide⟩, ?_⟩
          intro wA xA
          have alA := (ro9.chg (S := fun _ => False) (fun _ hb => hb.elim) (Chg.of xA)).alias
          have ndB := (nd9.ext xA).high (S := fun b => b = w6.heap.size) (fun b hb => by have := ro9.hK; omega) alA.2.1
          refine ⟨alA.1, ?_⟩
          intro wB xB
          have nd10 := ndB.ext xB
          have ro10 := alA.2.2.chg (S := fun _ => False) (fun _ hb => hb.elim) (Chg.of xB)
          have p10 := p5
          refine ⟨tc _ _, rfl, nd10.ca, ?_⟩
          have f := nd10.fin ro10.sl (drp_bin ⟨hin2.1, hin2.2⟩ hw16 p5 p10)
          exact ⟨f.1, _, rfl, f.2.1, f.2.2⟩
        · have nd10 := nd9
          have ro10 := ro9
          have p10 := p6
          refine ⟨tc _ _, rfl, nd10.ca, ?_⟩
          have f := nd10.fin ro10.sl (drp_bin ⟨hin2.1, hin2.2⟩ hw16 p5 p10)
          exact ⟨f.1, _, rfl, f.2.1, f.2.2⟩
    refine br_dec (fun hle => ?_) (fun hle => ?_)
    ·
      as_aux_lemma =>
        refine ⟨(m : Int), (IntWalk.i64_in _ (by omega)).trans (by omega), ?_⟩
        refine Or.inl ((ih (by omega) C l (w) _ nd1.cur (by omega)).mono ?_)
        rintro _ w5 ⟨d5, t5, s5, rfl, p5, q5⟩
        have z5 := nd1.lt
        replace q5 : TSl (fun b => w1.heap.size < b) w5 s5 t5.2 := q5.mono fun b hb => Nat.lt_of_lt_of_le z5 hb
        have nd5 := nd1.draw d5
        have rw7 := row1 q5 nd5.lt
        have nd7 := nd5.ext rw7.1
        refine ⟨nd7.rA 4 (by decide), ?_⟩
        have nd8 := nd7.kids (.slice (some ⟨w5.heap.size, 0, none⟩) 1 1)
        have ts8 := Fo.Sl.chg (S := fun b => b = w1.heap.size) (fun b hb e => by omega) (Chg.setCell (S := fun b => b = w1.heap.size) _ (p := ⟨w1.heap.size, 0 + 4, none⟩) rfl (.slice (some ⟨w5.heap.size, 0, none⟩) 1 1)) rw7.2
        refine ⟨tc _ _, rfl, nd8.ca, ?_⟩
        have f := nd8.fin ts8 (drp_un (by omega) hw16 p5)
        exact ⟨f.1, _, rfl, f.2.1, f.2.2⟩
    refine br_dec (fun h17 => ?_) (fun h17 => ?_)
    ·
      as_aux_lemma =>
        refine ⟨(m : Int), (IntWalk.i64_in _ (by omega)).trans (by omega), ?_⟩
        refine Or.inl ((ih (by omega) C l (1) _ nd1.cur (by omega)).mono ?_)
        rintro _ w5 ⟨d5, t5, s5, rfl, p5, q5⟩
        have z5 := nd1.lt
        replace q5 : TSl (fun b => w1.heap.size < b) w5 s5 t5.2 := q5.mono fun b hb => Nat.lt_of_lt_of_le z5 hb
        have nd5 := nd1.draw d5
        refine ⟨(m : Int), (IntWalk.i64_in _ (by omega)).trans (by omega), ?_⟩
        refine Or.inl ((ih (by omega) C l (w) _ nd5.cur (by omega)).mono ?_)
        rintro _ w6 ⟨d6, t6, s6, rfl, p6, q6⟩
        have z6 := nd5.lt
        replace q6 : TSl (fun b => w1.heap.size < b) w6 s6 t6.2 := q6.mono fun b hb => Nat.lt_of_lt_of_le z6 hb
        have nd6 := nd5.draw d6
        replace q5 := nd5.keepS q5 d6
        refine ⟨(m : Int), (IntWalk.i64_in _ (by omega)).trans (by omega), ?_⟩
        refine Or.inl ((ih (by omega) C l (w) _ nd6.cur (by omega)).mono ?_)
        rintro _ w7 ⟨d7, t7, s7, rfl, p7, q7⟩
        have z7 := nd6.lt
        replace q7 : TSl (fun b => w1.heap.size < b) w7 s7 t7.2 := q7.mono fun b hb => Nat.lt_of_lt_of_le z7 hb
        have nd7 := nd6.draw d7
        replace q5 := nd6.keepS q5 d7
        replace q6 := nd6.keepS q6 d7
        have rw8 := row3 q5 q6 q7 nd7.lt
        have nd8 := nd7.ext rw8.1
        refine ⟨nd8.rA 4 (by decide), ?_⟩
        have nd9 := nd8.kids (.slice (some ⟨w7.heap.size, 0, none⟩) 3 3)
        have ts9 := Fo.Sl.chg (S := fun b => b = w1.heap.size) (fun b hb e => by omega) (Chg.setCell (S := fun b => b = w1.heap.size) _ (p := ⟨w1.heap.size, 0 + 4, none⟩) rfl (.slice (some ⟨w7.heap.size, 0, none⟩) 3 3)) rw8.2
        subst h17
        refine ⟨tc _ _, rfl, nd9.ca, ?_⟩
        have f := nd9.fin ts9 (drp_if hw16 p5 p6 p7)
        exact ⟨f.1, _, rfl, f.2.1, f.2.2⟩
    by_cases h18 : op = 18
    · refine br_dec_true h18 ?_
      refine br_dec (fun hw1 => ?_) (fun hw1 => ?_)
      ·
        as_aux_lemma =>
          refine ⟨_, IntWalk.i64_in _ (by omega), ?_⟩
          refine Or.inl ((below_ret C l (w - 1) _ nd1.cur).mono ?_)
          rintro _ w2 ⟨⟨y2, rfl, hy2, -, hy2n⟩, d2⟩
          have hy2n := hy2n (by omega)
          have nd4 := nd1.draw d2
          refine ⟨_, IntWalk.i64_in _ (by omega), ?_⟩
          refine ⟨_, IntWalk.i64_in _ (by omega), ?_⟩
          refine ⟨(m : Int), (IntWalk.i64_in _ (by omega)).trans (by omega), ?_⟩
          refine Or.inl ((ih (by omega) C l (w - (1 + y2)) _ nd4.cur (by omega)).mono ?_)
          rintro _ w5 ⟨d5, t5, s5, rfl, p5, q5⟩
          have z5 := nd4.lt
          replace q5 : TSl (fun b => w1.heap.size < b) w5 s5 t5.2 := q5.mono fun b hb => Nat.lt_of_lt_of_le z5 hb
          have nd5 := nd4.draw d5
          refine ⟨(m : Int), (IntWalk.i64_in _ (by omega)).trans (by omega), ?_⟩
          refine Or.inl ((ih (by omega) C l (1 + y2) _ nd5.cur (by omega)).mono ?_)
          rintro _ w6 ⟨d6, t6, s6, rfl, p6, q6⟩
          have z6 := nd5.lt
          replace q6 : TSl (fun b => w1.heap.size < b) w6 s6 t6.2 := q6.mono fun b hb => Nat.lt_of_lt_of_le z6 hb
          have nd6 := nd5.draw d6
          replace q5 := nd5.keepS q5 d6
          have rw7 := row2 q5 q6 nd6.lt
          have nd7 := nd6.ext rw7.1
          refine ⟨nd7.rA 4 (by decide), ?_⟩
          have nd8 := nd7.kids (.slice (some ⟨w6.heap.size, 0, none⟩) 2 2)
          have ro8 := rw7.2.chg (S := fun b => b = w1.heap.size) (fun b hb => by omega) (Chg.setCell (S := fun b => b = w1.heap.size) _ (p := ⟨w1.heap.size, 0 + 4, none⟩) rfl (.slice (some ⟨w6.heap.size, 0, none⟩) 2 2))
          subst h18
          refine ⟨tc _ _, rfl, nd8.ca, ?_⟩
          have f := nd8.fin ro8.sl (drp_join hw16 ⟨by omega, by omega⟩ p5 p6)
          exact ⟨f.1, _, rfl, f.2.1, f.2.2⟩
      · repeat refine br_dec_false (show ¬ op = 19 by omega) ?_
        refine Or.inl ((in_ret op 20 21 _).mono ?_)
        rintro _ _ ⟨rfl, rfl⟩
        refine br_dec_false (by omega) ?_
        refine Or.inl ((var_ret C l _ nd1.cur w (by omega)).mono ?_)
        rintro _ w2 ⟨⟨s, hs, rfl⟩, d2⟩
        have nd2 := nd1.draw d2
        have f := leaf_fin (B := W.heap.size) (Nat.le_refl _) hlt nd2.chg nd2.cur nd2.rB (drp_var (m + 1) hs hw16)
        exact ⟨f.1, _, rfl, f.2.1, f.2.2⟩
    refine br_dec_false h18 ?_
    refine br_dec (fun h19 => ?_) (fun h19 => ?_)
    ·
      as_aux_lemma =>
        refine Or.inl ((below_ret C l 3 _ nd1.cur).mono ?_)
        rintro _ w2 ⟨⟨y2, rfl, hy2, -, hy2n⟩, d2⟩
        have hy2n := hy2n (by decide)
        have nd2 := nd1.draw d2
        refine ⟨_, IntWalk.i64_in _ (by omega), _, IntWalk.i64_in _ (by omega), _, IntWalk.i64_in _ (by omega), ?_⟩
        refine Or.inl ((below_ret C l (w + y2 - w + 1) _ nd2.cur).mono ?_)
        rintro _ w3 ⟨⟨y3, rfl, hy3, -, hy3n⟩, d3⟩
        have hy3n := hy3n (by omega)
        have nd3 := nd2.draw d3
        refine ⟨nd3.rA 2 (by decide), ?_⟩
        have nd4 := nd3.numb y3
        refine ⟨(m : Int), (IntWalk.i64_in _ (by omega)).trans (by omega), ?_⟩
        refine Or.inl ((ih (by omega) C l (w + y2) _ nd4.cur (by omega)).mono ?_)
        rintro _ w5 ⟨d5, t5, s5, rfl, p5, q5⟩
        have z5 := nd4.lt
        replace q5 : TSl (fun b => w1.heap.size < b) w5 s5 t5.2 := q5.mono fun b hb => Nat.lt_of_lt_of_le z5 hb
        have nd5 := nd4.draw d5
        have rw7 := row1 q5 nd5.lt
        have nd7 := nd5.ext rw7.1
        refine ⟨nd7.rA 4 (by decide), ?_⟩
        have nd8 := nd7.kids (.slice (some ⟨w5.heap.size, 0, none⟩) 1 1)
        have ts8 := Fo.Sl.chg (S := fun b => b = w1.heap.size) (fun b hb e => by omega) (Chg.setCell (S := fun b => b = w1.heap.size) _ (p := ⟨w1.heap.size, 0 + 4, none⟩) rfl (.slice (some ⟨w5.heap.size, 0, none⟩) 1 1)) rw7.2
        subst h19
        refine ⟨tc _ _, rfl, nd8.ca, ?_⟩
        have f := nd8.fin ts8 (drp_cut (w := w) (v := w + y2) (n := y3) hw16 ⟨by omega, by omega⟩ ⟨by omega, by omega⟩ p5)
        exact ⟨f.1, _, rfl, f.2.1, f.2.2⟩
    refine Or.inl ((in_ret op 20 21 _).mono ?_)
    rintro _ _ ⟨rfl, rfl⟩
    refine br_dec_true (by omega) ?_
    refine Or.inl ((below_ret C l w _ nd1.cur).mono ?_)
    rintro _ w2 ⟨⟨y2, rfl, hy2, -, hy2n⟩, d2⟩
    have hy2n := hy2n (by omega)
    have nd4 := nd1.draw d2
    refine ⟨_, IntWalk.i64_in _ (by omega), ?_⟩
    refine ⟨(m : Int), (IntWalk.i64_in _ (by omega)).trans (by omega), ?_⟩
    refine Or.inl ((ih (by omega) C l (1 + y2) _ nd4.cur (by omega)).mono ?_)
    rintro _ w5 ⟨d5, t5, s5, rfl, p5, q5⟩
    have z5 := nd4.lt
    replace q5 : TSl (fun b => w1.heap.size < b) w5 s5 t5.2 := q5.mono fun b hb => Nat.lt_of_lt_of_le z5 hb
    have nd5 := nd4.draw d5
    have rw7 := row1 q5 nd5.lt
    have nd7 := nd5.ext rw7.1
    refine ⟨nd7.rA 4 (by decide), ?_⟩
    have nd8 := nd7.kids (.slice (some ⟨w5.heap.size, 0, none⟩) 1 1)
    have ts8 := Fo.Sl.chg (S := fun b => b = w1.heap.size) (fun b hb e => by omega) (Chg.setCell (S := fun b => b = w1.heap.size) _ (p := ⟨w1.heap.size, 0 + 4, none⟩) rfl (.slice (some ⟨w5.heap.size, 0, none⟩) 1 1)) rw7.2
    refine ⟨tc _ _, rfl, nd8.ca, ?_⟩
    have f := nd8.fin ts8 (drp_wid (by omega) hw16 (by omega) p5)
    exact ⟨f.1, _, rfl, f.2.1, f.2.2⟩
end Go.Proofs.Ytekddgkgeaolnaa.Dr
namespace Go.Proofs.Ytekddgkgeaolnaa.Dr
open Go Go.Vc Go.RowKit
set_option linter.unusedVariables false

theorem node_okL {x : Lab} {l : List Lab} (h : NodeOk x l) : okL x := by
  have hop : 0 ≤ x.op ∧ x.op ≤ 22 := by
    have hc := h.count
    unfold kc at hc
    by_cases h1 : x.op = 0 ∨ x.op = 22
    · omega
    · rw [if_neg h1] at hc
      by_cases h2 : x.op = 1 ∨ x.op = 2 ∨ x.op = 19 ∨ x.op = 20 ∨ x.op = 21
      · omega
      · rw [if_neg h2] at hc
        by_cases h3 : (3 ≤ x.op ∧ x.op ≤ 16) ∨ x.op = 18
        · omega
        · rw [if_neg h3] at hc
          by_cases h4 : x.op = 17
          · omega
          · rw [if_neg h4] at hc; omega
  have hw := h.width
  have hn : inI x.n := by
    by_cases h0 : x.op = 0
    · have := wOk_iff.1 (h.const h0)
      have h2 := pow16 (w := x.w) (by omega) (by omega)
      unfold inI; omega
    · by_cases h19 : x.op = 19
      · have h1 := fit_cut h h19
        have hk : kw l 0 ≤ 16 ∨ kw l 0 = 0 := by
          unfold kw
          cases l with
          | nil => exact .inr rfl
          | cons y l => exact .inl (h.kids y (by simp)).2
        unfold inI; omega
      · rw [h.num h0 h19]; unfold inI; omega
  refine ⟨by unfold inI; omega, by unfold inI; omega, hn, ?_⟩
  by_cases h22 : x.op = 22
  · have := (of_decide_eq_true (h.name h22)).2.1
    unfold maxLen; omega
  · rw [h.noname h22]; exact Nat.zero_le _
theorem okF_okL : ∀ k : TF, OkF k → k.All okL
  | .nil, _ => trivial
  | .cons x k r, h => ⟨node_okL h.1.1, okF_okL k h.1.2, okF_okL r h.2⟩
theorem okF_inI : ∀ k : TF, OkF k → k.All (fun x => inI x.n)
  | .nil, _ => trivial
  | .cons x k r, h => ⟨(node_okL h.1.1).2.2.1, okF_inI k h.1.2, okF_inI r h.2⟩
/-- A drawn term in new memory. -/
def GvT (w : Int) (m : Nat) (W : World) (v : Value) (w' : World) : Prop := Ext W w' ∧ ∃ t s, v = tv t.1 s ∧ DrP w m t ∧ TSl (fun b => W.heap.size ≤ b) w' s t.2
theorem giveTerm_ret (l : List Int) (n : Int) (hn : 0 ≤ n ∧ n ≤ 1000000) (w : Int) (m : Nat) (hm : m ≤ 4) (hw : 1 ≤ w ∧ w ≤ 16 - 2 * (m : Int)) (s : Value) (W : World) (hs : SlR eU allB W s l) :
    Ret Try.prog 6 #[s, .int .i64 n, .int .i64 w, .int .i64 (m : Int)] W (GvT w m W) := by
  obtain ⟨a, cp, rfl, hlc, hcm, hat⟩ := id hs
  have xz := bz_ext W
  have rz := bz_rmy W
  refine ret_of_vc ties mixed Try.func6 rfl (by kernel_rfl) rfl rfl ?_
  refine Or.inl ((at_ret l n hn _ _ (hs.ext xz)).mono ?_)
  rintro _ w2 ⟨x2, C, rfl, hCW, hC2, hcu⟩
  refine Or.inl ((draw_all m hm C l w w2 hcu hw).mono ?_)
  rintro _ w3 ⟨d3, t, st, rfl, p3, q3⟩
  have hz := bz_size W
  have x02 : Ext W w2 := xz.trans x2
  have r3 := d3.1.rmy (S := fun b => b = C) (by omega) (rz.ext x2)
  have x03 : Ext W w3 := x02.chg d3.1 (fun b hb => by omega)
  have hst : Chg (fun b => b = W.heap.size) w3 (setCells w3 W.heap.size 0 (tc t.1 st)) := Chg.setCells (S := fun b => b = W.heap.size) rfl _ _ _
  have hz2 := x2.size
  refine ⟨r3.all _ 0 (Nat.le_refl 5) (tc_one q3), tc t.1 st, rfl, setCells_at _ _ 0 5 r3 (Nat.le_refl 5), x03.chg hst (fun b hb => by omega), t, st, rfl, p3, ?_⟩
  exact (Fo.Sl.chg (S := fun b => b = W.heap.size) (fun b hb e => by omega) hst q3).mono fun b hb => by omega
end Go.Proofs.Ytekddgkgeaolnaa.Dr
