/- Drawn terms, plainly: their names, widths, sizes; what a draw makes is valid. No program in sight. -/
import Derived.Test.YtekddgkgeaolnaaDv
import Derived.Test.YtekddgkgeaolnaaN6
namespace Go.Proofs.Ytekddgkgeaolnaa.Dr
open Go Go.Vc Go.RowKit
set_option linter.unusedVariables false

/-! names -/
def smB (n : Nat) : ByteArray := if n < 10 then ⟨#[UInt8.ofNat (48 + n)]⟩ else ⟨#[49, UInt8.ofNat (48 + (n - 10))]⟩
theorem itoa_small {n : Nat} (h : n ≤ 16) : itoaB (n : Int) = smB n := by
  unfold itoaB smB
  rw [Lib.itoa_nonneg]
  split
  · rename_i h1; rw [dec_one h1]
  · rename_i h1
    rw [dec_step h1, dec_one (show n / 10 < 10 by omega), show n / 10 = 1 by omega, show n % 10 = n - 10 by omega]
    rfl
theorem name_dec : ∀ s ∈ lets, ∀ n : Fin 17, 1 ≤ n.val → isNm (s ++ smB n.val) = true := by decide +kernel
theorem name_inj_dec : ∀ s ∈ lets, ∀ t ∈ lets, ∀ n m : Fin 17, s ++ smB n.val = t ++ smB m.val → n = m := by decide +kernel
theorem name_ok {s : ByteArray} (hs : s ∈ lets) {w : Int} (h : 1 ≤ w ∧ w ≤ 16) : isNm (s ++ itoaB w) = true := by
  obtain ⟨n, rfl⟩ : ∃ n : Nat, w = n := ⟨w.toNat, by omega⟩
  rw [itoa_small (by omega)]
  exact name_dec s hs ⟨n, by omega⟩ (by show 1 ≤ n; omega)
theorem name_inj {s t : ByteArray} (hs : s ∈ lets) (ht : t ∈ lets) {w v : Int} (h : 1 ≤ w ∧ w ≤ 16) (h' : 1 ≤ v ∧ v ≤ 16) (e : s ++ itoaB w = t ++ itoaB v) : w = v := by
  obtain ⟨n, rfl⟩ : ∃ n : Nat, w = n := ⟨w.toNat, by omega⟩
  obtain ⟨m, rfl⟩ : ∃ m : Nat, v = m := ⟨v.toNat, by omega⟩
  rw [itoa_small (by omega), itoa_small (by omega)] at e
  have := name_inj_dec s hs t ht ⟨n, by omega⟩ ⟨m, by omega⟩ e
  have h := congrArg Fin.val this
  have h : n = m := h
  rw [h]
def all30 : List ByteArray := lets.flatMap fun s => (List.range 10).map fun n => s ++ smB (n + 1)
theorem all30_len : all30.length = 30 := by decide +kernel
theorem all30_mem {s : ByteArray} (hs : s ∈ lets) {w : Int} (h : 1 ≤ w ∧ w ≤ 10) : s ++ itoaB w ∈ all30 := by
  obtain ⟨n, rfl⟩ : ∃ n : Nat, w = n := ⟨w.toNat, by omega⟩
  rw [itoa_small (by omega)]
  unfold all30
  rw [List.mem_flatMap]
  refine ⟨s, hs, List.mem_map.2 ⟨n - 1, List.mem_range.2 (by omega), ?_⟩⟩
  rw [show n - 1 + 1 = n by omega]
theorem pig {α : Type} [DecidableEq α] : ∀ (l m : List α), l.Nodup → (∀ x ∈ l, x ∈ m) → l.length ≤ m.length := by
  intro l
  induction l with
  | nil => intro m _ _; exact Nat.zero_le _
  | cons x l ih =>
    intro m hn hs
    rw [List.nodup_cons] at hn
    have hx := hs x (by simp)
    have h1 := ih (m.erase x) hn.2 fun y hy => (List.mem_erase_of_ne (fun e => hn.1 (by rw [← e]; exact hy))).2 (hs y (by simp [hy]))
    have h2 := List.length_erase_of_mem hx
    have h3 := List.length_pos_of_mem hx
    rw [List.length_cons]
    omega

/-! what a draw makes -/
def sB : Nat → Nat
  | 0 => 1
  | m + 1 => 3 * sB m + 1
def Nmd (vs : Vs) : Prop := ∀ p ∈ vs, ∃ s ∈ lets, p.1 = s ++ itoaB p.2
def top (w : Int) : Int := if w < 4 then 4 else w
structure DrP (w : Int) (m : Nat) (t : Tm) : Prop where
  wd : t.1.w = w
  ok : OkT t
  sz : t.sz ≤ sB m
  nm : Nmd (varsT t)
  bd : ∀ p ∈ varsT t, 1 ≤ p.2 ∧ p.2 ≤ top w + 2 * (m : Int)
  bd1 : (varsT t).length ≤ 1 ∨ ∀ p ∈ varsT t, p.2 ≤ top w + 2 * ((m : Int) - 1)
theorem sB_pos : ∀ m, 1 ≤ sB m
  | 0 => Nat.le_refl _
  | m + 1 => by rw [sB]; omega
theorem sB_4 : ∀ m, m ≤ 4 → sB m ≤ 121 := by decide
theorem drp_cons {vs : Vs} (h : Nmd vs) (hb : ∀ p ∈ vs, 1 ≤ p.2 ∧ p.2 ≤ 16) : Cons vs := by
  intro p hp q hq e
  obtain ⟨s, hs, e1⟩ := h p hp
  obtain ⟨t, ht, e2⟩ := h q hq
  exact name_inj hs ht (hb p hp) (hb q hq) (by rw [← e1, ← e2, e])
theorem vars_wid {vs : Vs} {k : TF} (h : OkF k) : ∀ p ∈ varsF k, 1 ≤ p.2 ∧ p.2 ≤ 16 := by
  induction k with
  | nil => intro p hp; cases hp
  | cons x k r ihk ihr =>
    intro p hp
    rw [varsF, List.mem_append, List.mem_append] at hp
    rcases hp with (hp | hp) | hp
    · split at hp
      · rw [List.mem_singleton] at hp; subst hp; exact h.1.1.width
      · cases hp
    · exact ihk h.1.2 p hp
    · exact ihr h.2 p hp
theorem okT_wid {t : Tm} (h : OkT t) : ∀ p ∈ varsT t, 1 ≤ p.2 ∧ p.2 ≤ 16 := vars_wid (vs := []) (k := .cons t.1 t.2 .nil) ⟨h, trivial⟩
theorem DrP.tok {w : Int} {m : Nat} {t : Tm} (h : DrP w m t) (hm : m ≤ 4) : TOk t.1 t.2 := by
  refine ⟨?_, OkF_one.2 h.ok, drp_cons (vs := varsT t) h.nm (okT_wid h.ok)⟩
  have h1 := h.sz
  have h2 := sB_4 m hm
  have h3 : t.sz = t.2.size + 1 := rfl
  omega

/-! leaves -/
theorem drp_const {w n : Int} (m : Nat) (h : wOk w n = true) : DrP w m (constL w n, .nil) := by
  have hw := wOk_iff.1 h
  have hv : varsT (constL w n, .nil) = [] := rfl
  refine ⟨rfl, ok_con h, sB_pos m, ?_, ?_, ?_⟩
  · rw [hv]; intro p hp; cases hp
  · rw [hv]; intro p hp; cases hp
  · rw [hv]; exact .inl (Nat.zero_le _)
theorem drp_var {w : Int} (m : Nat) {s : ByteArray} (hs : s ∈ lets) (h : 1 ≤ w ∧ w ≤ 16) : DrP w m (varL w (s ++ itoaB w), .nil) := by
  have hv : varsT (varL w (s ++ itoaB w), .nil) = [(s ++ itoaB w, w)] := rfl
  have hn := name_ok hs h
  refine ⟨rfl, ⟨⟨h, rfl, fun y hy => (by cases hy), rfl, fun h => absurd h (by show ¬ (22 : Int) = 0; decide), fun _ _ => rfl, fun h => absurd rfl h, fun _ => hn⟩, trivial⟩, sB_pos m, ?_, ?_, ?_⟩
  · rw [hv]; intro p hp; rw [List.mem_singleton] at hp; subst hp; exact ⟨s, hs, rfl⟩
  · rw [hv]; intro p hp; rw [List.mem_singleton] at hp; subst hp
    refine ⟨h.1, ?_⟩
    show w ≤ top w + 2 * (m : Int)
    unfold top; split <;> omega
  · rw [hv]; exact .inl (Nat.le_refl _)

/-! nodes -/
/-- What is asked of the kids of a node of width w. -/
structure KdP (w : Int) (m : Nat) (l : List Tm) : Prop where
  ok : ∀ t ∈ l, OkT t
  sz : (mkTF l).size ≤ 3 * sB m
  nm : ∀ t ∈ l, Nmd (varsT t)
  bd : ∀ t ∈ l, ∀ p ∈ varsT t, p.2 ≤ top w + 2 * ((m : Int) + 1)
  bd1 : (l.flatMap varsT).length ≤ 1 ∨ ∀ t ∈ l, ∀ p ∈ varsT t, p.2 ≤ top w + 2 * (m : Int)
theorem KdP.node {w : Int} {m : Nat} {l : List Tm} (h : KdP w m l) {x : Lab} (hx : NodeOk x (l.map (·.1))) (hw : x.w = w) (h22 : x.op ≠ 22) : DrP w (m + 1) (x, mkTF l) := by
  have hv : varsT (x, mkTF l) = l.flatMap varsT := by
    rw [varsT_eq, if_neg h22, List.nil_append, varsF_mk]
  have hok : OkT (x, mkTF l) := ⟨by rw [show hdF (x, mkTF l).2 = l.map (·.1) by rw [hdF_tms, tms_mk]]; exact hx, OkF_mk h.ok⟩
  have hwd := okT_wid hok
  refine ⟨hw, hok, ?_, ?_, ?_, ?_⟩
  · have := h.sz
    show (mkTF l).size + 1 ≤ 3 * sB m + 1
    omega
  · rw [hv]; intro p hp
    obtain ⟨t, ht, hp⟩ := List.mem_flatMap.1 hp
    exact h.nm t ht p hp
  · intro p hp
    refine ⟨(hwd p hp).1, ?_⟩
    rw [hv] at hp
    obtain ⟨t, ht, hp⟩ := List.mem_flatMap.1 hp
    have := h.bd t ht p hp
    omega
  · rw [hv]
    refine h.bd1.imp id fun h1 p hp => ?_
    obtain ⟨t, ht, hp⟩ := List.mem_flatMap.1 hp
    have := h1 t ht p hp
    omega
theorem top_mono {v w : Int} (h : v ≤ w) : top v ≤ top w := by unfold top; split <;> split <;> omega
/-- Kids that are no wider than the node (or than 4). -/
theorem kdp_of {w : Int} {m : Nat} {l : List Tm} (hl : l.length ≤ 3) (h : ∀ t ∈ l, ∃ v, DrP v m t ∧ top v ≤ top w) : KdP w m l := by
  have hsz : ∀ l : List Tm, (∀ t ∈ l, t.sz ≤ sB m) → (mkTF l).size ≤ l.length * sB m := by
    intro l
    induction l with
    | nil => intro _; exact Nat.zero_le _
    | cons t l ih =>
      intro h
      have h1 := ih fun u hu => h u (by simp [hu])
      have h2 := h t (by simp)
      have h3 : t.sz = t.2.size + 1 := rfl
      show t.2.size + (mkTF l).size + 1 ≤ _
      rw [List.length_cons, Nat.succ_mul]
      omega
  refine ⟨fun t ht => (h t ht).elim fun v hv => hv.1.ok, ?_, fun t ht => (h t ht).elim fun v hv => hv.1.nm, fun t ht p hp => ?_, .inr fun t ht p hp => ?_⟩
  · refine Nat.le_trans (hsz l fun t ht => (h t ht).elim fun v hv => hv.1.sz) (Nat.mul_le_mul_right _ hl)
  · obtain ⟨v, hv, hvw⟩ := h t ht
    have := hv.bd p hp
    omega
  · obtain ⟨v, hv, hvw⟩ := h t ht
    have := hv.bd p hp
    omega
/-- One kid that is up to two wider. -/
theorem kdp_cut {w v : Int} {m : Nat} {t : Tm} (h : DrP v m t) (hv : v ≤ w + 2) : KdP w m [t] := by
  have ht : top v ≤ top w + 2 := by unfold top; split <;> split <;> omega
  refine ⟨fun u hu => by rw [List.mem_singleton] at hu; subst hu; exact h.ok, ?_, fun u hu => by rw [List.mem_singleton] at hu; subst hu; exact h.nm, fun u hu p hp => ?_, ?_⟩
  · have := h.sz
    have h3 : t.sz = t.2.size + 1 := rfl
    show t.2.size + 0 + 1 ≤ _
    omega
  · rw [List.mem_singleton] at hu; subst hu
    have := h.bd p hp
    omega
  · rw [show [t].flatMap varsT = varsT t by simp]
    refine h.bd1.imp id fun h1 u hu p hp => ?_
    rw [List.mem_singleton] at hu; subst hu
    have := h1 p hp
    omega
/-- A node with kids. -/
theorem nodeOk_of {x : Lab} {l : List Tm} (hw : 1 ≤ x.w ∧ x.w ≤ 16) (hop : 1 ≤ x.op ∧ x.op ≤ 21) (hc : (l.length : Int) = kc x.op) (hk : ∀ t ∈ l, OkT t) (hf : fit x (l.map (·.1)) = true) (hn : x.op ≠ 19 → x.n = 0) (hnm : x.name = ByteArray.empty) : NodeOk x (l.map (·.1)) :=
  ⟨hw, by rw [List.length_map]; exact hc, fun y hy => by obtain ⟨t, ht, rfl⟩ := List.mem_map.1 hy; exact (hk t ht).1.width, hf, fun h => by omega, fun _ h => hn h, fun _ => hnm, fun h => by omega⟩
section
variable {op w v n : Int} {m : Nat} {a b d : Tm}
theorem drp_cmp (ho : 14 ≤ op ∧ op ≤ 16) (hv : v ≤ 4) (ha : DrP v m a) (hb : DrP v m b) : DrP 1 (m + 1) (⟨op, 1, 0, ByteArray.empty⟩, mkTF [a, b]) := by
  have hk : KdP 1 m [a, b] := kdp_of (show 2 ≤ 3 by decide) fun t ht => ⟨v, by rcases List.mem_cons.1 ht with rfl | ht; exact ha; rw [List.mem_singleton] at ht; subst ht; exact hb, by unfold top; split <;> split <;> omega⟩
  refine hk.node (nodeOk_of (show (1 : Int) ≤ 1 ∧ (1 : Int) ≤ 16 by decide) ⟨by show 1 ≤ op; omega, by show op ≤ 21; omega⟩ ?_ hk.ok ?_ (fun _ => rfl) rfl) rfl (by show op ≠ 22; omega)
  · show (2 : Int) = kc op
    unfold kc; rw [if_neg (by omega), if_neg (by omega), if_pos (by omega)]
  · unfold fit
    rw [if_neg (by show ¬ (op = 0 ∨ op = 22); omega), if_neg (by show ¬ (op = 1 ∨ op = 2); omega), if_neg (by show ¬ (3 ≤ op ∧ op ≤ 13); omega), if_pos (show 14 ≤ op ∧ op ≤ 16 from ho)]
    exact decide_eq_true ⟨ha.wd.trans hb.wd.symm, rfl⟩
theorem drp_cgrow (ho : 14 ≤ op ∧ op ≤ 16) (hv : v ≤ 4) (ha : DrP v m a) (hb : DrP v m b) (hw : 1 ≤ w ∧ w ≤ 16) : DrP w (m + 1) (⟨20, w, 0, ByteArray.empty⟩, mkTF [(⟨op, 1, 0, ByteArray.empty⟩, mkTF [a, b])]) := by
  have hc := drp_cmp ho hv ha hb
  have hvars : varsT (⟨op, 1, 0, ByteArray.empty⟩, mkTF [a, b]) = varsT a ++ varsT b := by
    rw [varsT_eq, if_neg (show ¬ (op = 22) by omega), List.nil_append, varsF_mk]; simp
  have hbd : ∀ p ∈ varsT (⟨op, 1, 0, ByteArray.empty⟩, mkTF [a, b]), p.2 ≤ top w + 2 * (m : Int) := fun p hp => by
    rw [hvars] at hp
    have ht : top v ≤ top w := by unfold top; split <;> split <;> omega
    rcases List.mem_append.1 hp with hp | hp
    · have := ha.bd p hp; omega
    · have := hb.bd p hp; omega
  have hk : KdP w m [(⟨op, 1, 0, ByteArray.empty⟩, mkTF [a, b])] := by
    refine ⟨fun t ht => by rw [List.mem_singleton] at ht; subst ht; exact hc.ok, ?_, fun t ht => by rw [List.mem_singleton] at ht; subst ht; exact hc.nm, fun t ht p hp => ?_, .inr fun t ht p hp => ?_⟩
    · have h1 := ha.sz
      have h2 := hb.sz
      have h3 := sB_pos m
      have h4 : (mkTF [((⟨op, 1, 0, ByteArray.empty⟩ : Lab), mkTF [a, b])]).size = a.sz + b.sz + 1 := by rw [size_mk]; simp [sz2]
      omega
    · rw [List.mem_singleton] at ht; subst ht; have := hbd p hp; omega
    · rw [List.mem_singleton] at ht; subst ht; exact hbd p hp
  refine hk.node (nodeOk_of hw ⟨show (1 : Int) ≤ 20 by decide, show (20 : Int) ≤ 21 by decide⟩ rfl hk.ok ?_ (fun _ => rfl) rfl) rfl (show (20 : Int) ≠ 22 by decide)
  show decide ((1 : Int) ≤ w) = true
  exact decide_eq_true hw.1
theorem drp_bin (ho : 3 ≤ op ∧ op ≤ 13) (hw : 1 ≤ w ∧ w ≤ 16) (ha : DrP w m a) (hb : DrP w m b) : DrP w (m + 1) (⟨op, w, 0, ByteArray.empty⟩, mkTF [a, b]) := by
  have hk : KdP w m [a, b] := kdp_of (show 2 ≤ 3 by decide) fun t ht => ⟨w, by rcases List.mem_cons.1 ht with rfl | ht; exact ha; rw [List.mem_singleton] at ht; subst ht; exact hb, Int.le_refl _⟩
  refine hk.node (nodeOk_of hw ⟨by show 1 ≤ op; omega, by show op ≤ 21; omega⟩ ?_ hk.ok ?_ (fun _ => rfl) rfl) rfl (by show op ≠ 22; omega)
  · show (2 : Int) = kc op
    unfold kc; rw [if_neg (by omega), if_neg (by omega), if_pos (by omega)]
  · unfold fit
    rw [if_neg (by show ¬ (op = 0 ∨ op = 22); omega), if_neg (by show ¬ (op = 1 ∨ op = 2); omega), if_pos (show 3 ≤ op ∧ op ≤ 13 from ho)]
    exact decide_eq_true ⟨ha.wd, hb.wd⟩
theorem drp_un (ho : op = 1 ∨ op = 2) (hw : 1 ≤ w ∧ w ≤ 16) (ha : DrP w m a) : DrP w (m + 1) (⟨op, w, 0, ByteArray.empty⟩, mkTF [a]) := by
  have hk : KdP w m [a] := kdp_of (show 1 ≤ 3 by decide) fun t ht => ⟨w, by rw [List.mem_singleton] at ht; subst ht; exact ha, Int.le_refl _⟩
  refine hk.node (nodeOk_of hw ⟨by show 1 ≤ op; omega, by show op ≤ 21; omega⟩ ?_ hk.ok ?_ (fun _ => rfl) rfl) rfl (by show op ≠ 22; omega)
  · show (1 : Int) = kc op
    unfold kc; rw [if_neg (by omega), if_pos (by omega)]
  · unfold fit
    rw [if_neg (by show ¬ (op = 0 ∨ op = 22); omega), if_pos (show op = 1 ∨ op = 2 from ho)]
    exact decide_eq_true ha.wd
theorem drp_if (hw : 1 ≤ w ∧ w ≤ 16) (ha : DrP 1 m a) (hb : DrP w m b) (hd : DrP w m d) : DrP w (m + 1) (⟨17, w, 0, ByteArray.empty⟩, mkTF [a, b, d]) := by
  have ht1 : top 1 ≤ top w := by unfold top; split <;> split <;> omega
  have hk : KdP w m [a, b, d] := kdp_of (show 3 ≤ 3 by decide) fun t ht => by
    rcases List.mem_cons.1 ht with rfl | ht
    · exact ⟨1, ha, ht1⟩
    rcases List.mem_cons.1 ht with rfl | ht
    · exact ⟨w, hb, Int.le_refl _⟩
    rw [List.mem_singleton] at ht; subst ht
    exact ⟨w, hd, Int.le_refl _⟩
  refine hk.node (nodeOk_of hw ⟨show (1 : Int) ≤ 17 by decide, show (17 : Int) ≤ 21 by decide⟩ rfl hk.ok ?_ (fun _ => rfl) rfl) rfl (show (17 : Int) ≠ 22 by decide)
  exact decide_eq_true ⟨ha.wd, hb.wd, hd.wd⟩
theorem drp_join (hw : 1 ≤ w ∧ w ≤ 16) (hv : 1 ≤ v ∧ v < w) (ha : DrP (w - v) m a) (hb : DrP v m b) : DrP w (m + 1) (⟨18, w, 0, ByteArray.empty⟩, mkTF [a, b]) := by
  have hk : KdP w m [a, b] := kdp_of (show 2 ≤ 3 by decide) fun t ht => by
    rcases List.mem_cons.1 ht with rfl | ht
    · exact ⟨w - v, ha, top_mono (by omega)⟩
    rw [List.mem_singleton] at ht; subst ht
    exact ⟨v, hb, top_mono (by omega)⟩
  refine hk.node (nodeOk_of hw ⟨show (1 : Int) ≤ 18 by decide, show (18 : Int) ≤ 21 by decide⟩ rfl hk.ok ?_ (fun _ => rfl) rfl) rfl (show (18 : Int) ≠ 22 by decide)
  refine decide_eq_true ?_
  show a.1.w + b.1.w = w
  rw [ha.wd, hb.wd]; omega
theorem drp_cut (hw : 1 ≤ w ∧ w ≤ 16) (hv : w ≤ v ∧ v ≤ w + 2) (hn : 0 ≤ n ∧ n ≤ v - w) (ha : DrP v m a) : DrP w (m + 1) (⟨19, w, n, ByteArray.empty⟩, mkTF [a]) := by
  have hk : KdP w m [a] := kdp_cut ha hv.2
  refine hk.node (nodeOk_of hw ⟨show (1 : Int) ≤ 19 by decide, show (19 : Int) ≤ 21 by decide⟩ rfl hk.ok ?_ (fun h => absurd rfl h) rfl) rfl (show (19 : Int) ≠ 22 by decide)
  refine decide_eq_true ?_
  show 0 ≤ n ∧ n ≤ a.1.w - w
  rw [ha.wd]; exact hn
theorem drp_wid (ho : op = 20 ∨ op = 21) (hw : 1 ≤ w ∧ w ≤ 16) (hv : v ≤ w) (ha : DrP v m a) : DrP w (m + 1) (⟨op, w, 0, ByteArray.empty⟩, mkTF [a]) := by
  have hk : KdP w m [a] := kdp_of (show 1 ≤ 3 by decide) fun t ht => ⟨v, by rw [List.mem_singleton] at ht; subst ht; exact ha, top_mono hv⟩
  refine hk.node (nodeOk_of hw ⟨by show 1 ≤ op; omega, by show op ≤ 21; omega⟩ ?_ hk.ok ?_ (fun _ => rfl) rfl) rfl (by show op ≠ 22; omega)
  · show (1 : Int) = kc op
    unfold kc; rw [if_neg (by omega), if_pos (by omega)]
  · unfold fit
    rw [if_neg (by show ¬ (op = 0 ∨ op = 22); omega), if_neg (by show ¬ (op = 1 ∨ op = 2); omega), if_neg (by show ¬ (3 ≤ op ∧ op ≤ 13); omega), if_neg (by show ¬ (14 ≤ op ∧ op ≤ 16); omega), if_neg (by show ¬ (op = 17); omega), if_neg (by show ¬ (op = 18); omega), if_neg (by show ¬ (op = 19); omega)]
    refine decide_eq_true ?_
    show a.1.w ≤ w
    rw [ha.wd]; exact hv
end
/-- Few names: the values of the variables of a drawn term fit. -/
theorem few_names {vs : Vs} (ha : Asc vs) (hn : Nmd vs) (hb : vs.length ≤ 1 ∨ ∀ p ∈ vs, 1 ≤ p.2 ∧ p.2 ≤ 10) : vs.length ≤ 30 := by
  rcases hb with h | h
  · omega
  · have h1 := pig (vs.map (fun p : ByteArray × Int => p.1)) all30 (asc_nod ha) fun x hx => by
      obtain ⟨p, hp, rfl⟩ := List.mem_map.1 hx
      obtain ⟨s, hs, e⟩ := hn p hp
      rw [e]
      exact all30_mem hs (h p hp)
    rw [List.length_map, all30_len] at h1
    exact h1
end Go.Proofs.Ytekddgkgeaolnaa.Dr
