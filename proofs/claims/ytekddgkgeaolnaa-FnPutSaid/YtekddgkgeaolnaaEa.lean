/- VarsOf: both contracts. EvalTerm (the program's). -/
import Derived.Test.YtekddgkgeaolnaaVb
import Derived.Test.YtekddgkgeaolnaaMq
namespace Go.Vc
open Go Go.RowKit
open Go.ChangeMaps (setBlock)
section
variable {P : Program} {T : Tab} {o : Oper} {ρ : Fr} {K : Value → World → Prop} {w : World} {b : Nat} {l : Al}
/-- The entry that was handed out last. -/
def EntAt (w : World) (r : Nat) (s : ByteArray) (v : Value) : Prop := ∀ P : Program, (Instr.entry (.pointer (some ⟨r, 0, none⟩))).run P w = .ok (.tuple #[.string s, v]) w
theorem raw_entry {it : Operand} {r : Nat} {s : ByteArray} {v : Value} (ho : o.op = .entry it) (hi : ev ρ it = .pointer (some ⟨r, 0, none⟩)) (hm : EntAt w r s v) (hK : K (.tuple #[.string s, v]) w) : Raw P o ρ w K :=
  ⟨.value _, _, w, by simp [execOp, ho, hi, hm P], rfl, hK⟩
theorem raw_next2 {it : Operand} {r : Nat} {left : Al} (ho : o.op = .next it false) (hi : ev ρ it = .pointer (some ⟨r, 0, none⟩)) (hm : IterAt w r b l left) (hrb : r ≠ b)
    (hE : left = [] → K (.tuple #[.bool false]) w)
    (hN : ∀ s v l1 l2 w', left = l1 ++ (s, v) :: l2 → Chg (fun B => B = r) w w' → w'.heap.size = w.heap.size → IterAt w' r b l (l1 ++ l2) → EntAt w' r s v → K (.tuple #[.bool true, .string s, v]) w') : Raw P o ρ w K := by
  obtain ⟨es, clock, since, seen, c0, ls, hr, hb, hrep, hold, hsc, hsk, rfl, hrows⟩ := hm
  rcases run_next_at (P := P) w o.type r b since c0 seen es clock hr hb hold hsc with ⟨h0, hrun⟩ | ⟨e, he, w1, hw1, hrun⟩
  · have : left = [] := by
      have h1 : (leftOf es seen).toList = [] := by simpa using h0
      rw [h1] at hrows
      match left, hrows with
      | [], _ => rfl
    exact ⟨.value _, _, w, by simp [execOp, ho, hi, hrun], rfl, hE this⟩
  · have hsub : ((leftOf es seen).toList.map (·.born)).Nodup := by
      simp only [leftOf, Array.toList_filter]
      exact (List.filter_sublist.map _).nodup hrep.born
    obtain ⟨s, v, l1, l2, rfl, hk, hv, h3⟩ := rows_split _ _ e hrows he hsub
    have hc1 : Chg (fun B => B = r) w w1 := by
      rcases hw1 with rfl | rfl
      · exact Chg.refl _ _
      · exact chg_drew _ _
    have hs1 : w1.heap = w.heap := by rcases hw1 with rfl | rfl <;> rfl
    have hrlt : r < w1.heap.size := by rw [hs1]; exact (Array.getElem?_eq_some_iff.1 hr).1
    have hmem : e ∈ es.toList := by
      have : e ∈ (leftOf es seen).toList := he
      simp only [leftOf, Array.toList_filter] at this
      exact (List.mem_filter.1 this).1
    have hbb : (setBlock w1 r (.mapIter (some b) since (seen.push e.born) clock)).heap[b]? = some (.map es clock) := by
      refine ((chg_block w1 r _).block b ?_ (fun h => hrb h.symm)).trans ?_
      · rw [hs1]; exact (Array.getElem?_eq_some_iff.1 hb).1
      · rw [hs1]; exact hb
    refine ⟨.value (.tuple #[.bool true, e.key, e.val]), _, _, by simp [execOp, ho, hi, hrun]; rfl, rfl, ?_⟩
    rw [hk, hv]
    refine hN s v l1 l2 _ rfl (hc1.trans (chg_block _ _ _)) (by simp [setBlock, hs1]) ⟨es, clock, since, seen.push e.born, clock, _, block_at hrlt _, hbb, hrep, hold, hsk, hsk, rfl, ?_⟩ (fun Q => ?_)
    · rw [left_push]; exact h3
    · have := run_entry_at (P := Q) (setBlock w1 r (.mapIter (some b) since (seen.push e.born) clock)) r b since seen es clock e (block_at hrlt _) hbb hmem hrep.born
      rw [this, hk, hv]
theorem IterAt.chg {S : Nat → Prop} {w w' : World} {r b : Nat} {l left : Al} (h : IterAt w r b l left) (h1 : ¬ S r) (h2 : ¬ S b) (hc : Chg S w w') : IterAt w' r b l left := by
  obtain ⟨es, clock, since, seen, c0, ls, hr, hb, hrep⟩ := h
  exact ⟨es, clock, since, seen, c0, ls, (hc.block r (Array.getElem?_eq_some_iff.1 hr).1 h1).trans hr, (hc.block b (Array.getElem?_eq_some_iff.1 hb).1 h2).trans hb, hrep⟩
end
end Go.Vc
namespace Go.Proofs.Ytekddgkgeaolnaa
open Go Go.Vc Go.RowKit
set_option linter.unusedVariables false

/-! plain: a map from names that is filled -/
def encA (l : Vs) : Al := l.map fun p => (p.1, iv p.2)
def vadd (s : ByteArray) (w : Int) : Vs → Vs
  | [] => [(s, w)]
  | p :: l => if s = p.1 then (s, w) :: l else p :: vadd s w l
def vall (acc ws : Vs) : Vs := ws.foldl (fun a p => vadd p.1 p.2 a) acc
theorem encA_put (s : ByteArray) (w : Int) : ∀ l : Vs, (encA l).put s (iv w) = encA (vadd s w l)
  | [] => rfl
  | p :: l => by
    have ih := encA_put s w l
    show Al.put s (iv w) ((p.1, iv p.2) :: encA l) = _
    rw [Al.put, vadd]
    by_cases h : s = p.1
    · rw [if_pos h, if_pos h]; rfl
    · rw [if_neg h, if_neg h, ih]; rfl
theorem vall_app (acc ws us : Vs) : vall acc (ws ++ us) = vall (vall acc ws) us := List.foldl_append
theorem vadd_mem {s : ByteArray} {w : Int} : ∀ {l : Vs} {p : ByteArray × Int}, p ∈ vadd s w l → p = (s, w) ∨ p ∈ l
  | [], p, h => .inl (List.mem_singleton.1 h)
  | q :: l, p, h => by
    rw [vadd] at h
    by_cases hs : s = q.1
    · rw [if_pos hs] at h
      rcases List.mem_cons.1 h with h | h
      · exact .inl h
      · exact .inr (List.mem_cons_of_mem _ h)
    · rw [if_neg hs] at h
      rcases List.mem_cons.1 h with h | h
      · exact .inr (by rw [h]; simp)
      · exact (vadd_mem h).imp id (List.mem_cons_of_mem _)
theorem vadd_keys (s : ByteArray) (w : Int) : ∀ l : Vs, (vadd s w l).map (·.1) = l.map (·.1) ∨ (s ∉ l.map (·.1) ∧ (vadd s w l).map (·.1) = l.map (·.1) ++ [s])
  | [] => .inr ⟨by simp, rfl⟩
  | q :: l => by
    rw [vadd]
    by_cases hs : s = q.1
    · rw [if_pos hs]; left; simp [hs]
    · rw [if_neg hs]
      rcases vadd_keys s w l with h | ⟨h1, h2⟩
      · left; simp [h]
      · right
        refine ⟨by simp only [List.map_cons, List.mem_cons, not_or]; exact ⟨hs, h1⟩, by simp [h2]⟩
theorem vadd_nod {s : ByteArray} {w : Int} {l : Vs} (h : Nod l) : Nod (vadd s w l) := by
  unfold Nod at *
  rcases vadd_keys s w l with e | ⟨h1, h2⟩
  · rw [e]; exact h
  · rw [h2]
    exact List.nodup_append.2 ⟨h, by simp, fun a ha b hb e => h1 (by rw [List.mem_singleton.1 hb] at e; rw [← e]; exact ha)⟩
theorem vadd_key (s : ByteArray) (w : Int) (l : Vs) (t : ByteArray) (h : t = s ∨ t ∈ l.map (·.1)) : t ∈ (vadd s w l).map (·.1) := by
  rcases vadd_keys s w l with e | ⟨h1, h2⟩
  · rw [e]
    rcases h with h | h
    · subst h
      have hm : ∀ l : Vs, ∀ w, t ∈ (vadd t w l).map (·.1) := by
        intro l w
        induction l with
        | nil => simp [vadd]
        | cons q l ih =>
          rw [vadd]
          by_cases hs : t = q.1
          · rw [if_pos hs]; simp
          · rw [if_neg hs]; simp only [List.map_cons, List.mem_cons]; exact .inr ih
      rw [← e]; exact hm l w
    · exact h
  · rw [h2, List.mem_append, List.mem_singleton]
    exact h.symm
theorem vall_nod : ∀ (ws acc : Vs), Nod acc → Nod (vall acc ws)
  | [], _, h => h
  | p :: ws, acc, h => vall_nod ws _ (vadd_nod h)
theorem vall_mem : ∀ (ws acc : Vs) (p : ByteArray × Int), p ∈ vall acc ws → p ∈ acc ∨ p ∈ ws
  | [], _, _, h => .inl h
  | q :: ws, acc, p, h => by
    rcases vall_mem ws _ p h with h | h
    · rcases vadd_mem h with h | h
      · exact .inr (by rw [h]; simp)
      · exact .inl h
    · exact .inr (List.mem_cons_of_mem _ h)
theorem vall_key : ∀ (ws acc : Vs) (t : ByteArray), t ∈ acc.map (·.1) ∨ t ∈ ws.map (·.1) → t ∈ (vall acc ws).map (·.1)
  | [], _, _, h => h.resolve_right (by simp)
  | q :: ws, acc, t, h => by
    refine vall_key ws _ t ?_
    rcases h with h | h
    · exact .inl (vadd_key _ _ _ _ (.inr h))
    · rw [List.map_cons, List.mem_cons] at h
      rcases h with h | h
      · exact .inl (vadd_key _ _ _ _ (.inl h))
      · exact .inr h
theorem vall_len : ∀ (ws acc : Vs), (vall acc ws).length ≤ acc.length + ws.length
  | [], _ => Nat.le_refl _
  | q :: ws, acc => by
    have h1 := vall_len ws (vadd q.1 q.2 acc)
    have h2 : (vadd q.1 q.2 acc).length ≤ acc.length + 1 := by
      rcases vadd_keys q.1 q.2 acc with e | ⟨_, e⟩
      · have := congrArg List.length e; simp only [List.length_map] at this; omega
      · have := congrArg List.length e; simp only [List.length_map, List.length_append, List.length_singleton] at this; omega
    have h3 : (vall acc (q :: ws)).length = (vall (vadd q.1 q.2 acc) ws).length := rfl
    simp only [List.length_cons]
    omega
/-- What an ascending order of the map's entries is. -/
theorem sorted_vs {t : Tm} (hc : Cons (varsT t)) {d out : List VLab} (ho : out.Perm (vls (vall [] (varsT t)))) (hp : d.Perm out) (hs : ∀ i j, (hi : i < j) → (hj : j < d.length) → ¬ cmpS (d[j]'hj).name (d[i]'(by omega)).name = -1) : d = vls (vsT t) := by
  have hp := hp.trans ho
  have hz : ∀ v ∈ d, v = vl0 (v.name, v.w) := fun v hv => by
    obtain ⟨p, _, rfl⟩ := List.mem_map.1 (hp.mem_iff.1 hv)
    rfl
  have hd : d = vls (d.map fun v => (v.name, v.w)) := by
    unfold vls
    rw [List.map_map]
    refine (List.map_congr_left (g := id) (fun v hv => (hz v hv).symm)).trans ?_ |>.symm
    exact List.map_id _
  have hpe : (d.map fun v => (v.name, v.w)).Perm (vall [] (varsT t)) := by
    have := hp.map fun v => (v.name, v.w)
    have e : (vls (vall [] (varsT t))).map (fun v => (v.name, v.w)) = vall [] (varsT t) := by
      unfold vls
      rw [List.map_map]
      exact List.map_id _
    rwa [e] at this
  have hnod : Nod (vall [] (varsT t)) := vall_nod _ _ List.nodup_nil
  have hnd : Nod (d.map fun v => (v.name, v.w)) := by
    unfold Nod at *
    exact (hpe.map _).nodup_iff.2 hnod
  have hasc : Asc (d.map fun v => (v.name, v.w)) := by
    have hpw : (d.map fun v => (v.name, v.w)).Pairwise (fun p q => less p.1 q.1 = true) := by
      rw [List.pairwise_iff_getElem]
      intro i j hi hj hij
      rw [List.length_map] at hi hj
      simp only [List.getElem_map]
      have h1 := hs i j hij hj
      have hne : (d[i]'hi).name ≠ (d[j]'hj).name := fun e => by
        have h2 := List.pairwise_iff_getElem.1 hnd i j (by simpa using hi) (by simpa using hj) hij
        simp only [List.map_map, List.getElem_map] at h2
        exact h2 e
      by_cases hl : less (d[i]'hi).name (d[j]'hj).name = true
      · exact hl
      · exfalso
        have h3 := less_tri (by simpa using hl) hne
        rw [less_cmp] at h3
        exact h1 (of_decide_eq_true h3)
    have hgen : ∀ l : Vs, l.Pairwise (fun p q => less p.1 q.1 = true) → Asc l := by
      intro l
      induction l with
      | nil => intro _; trivial
      | cons p l ih => intro h; rw [List.pairwise_cons] at h; exact ⟨h.1, ih h.2⟩
    exact hgen _ hpw
  rw [hd]
  congr 1
  refine asc_ext hasc (vsT_asc t) fun s => ?_
  have key : ∀ w, lk s (d.map fun v => (v.name, v.w)) = some w ↔ lk s (vsT t) = some w := fun w => by
    rw [lk_mem_iff hnd, hpe.mem_iff, lk_mem_iff (asc_nod (vsT_asc t)), mem_vsT hc]
    constructor
    · intro h; exact (vall_mem _ _ _ h).resolve_left (by simp)
    · intro h
      have hk := vall_key (varsT t) [] s (.inr (List.mem_map.2 ⟨_, h, rfl⟩))
      obtain ⟨⟨s', n⟩, hm, rfl⟩ := List.mem_map.1 hk
      have := (vall_mem _ _ _ hm).resolve_left (by simp)
      rw [show w = n from hc (s', w) h (s', n) this rfl]; exact hm
  cases h1 : lk s (d.map fun v => (v.name, v.w)) with
  | none =>
    cases h2 : lk s (vsT t) with
    | none => rfl
    | some w => rw [(key w).2 h2] at h1; cases h1
  | some w => exact ((key w).1 h1).symm
/-! walks -/
def CvS (n : Nat) : Prop := ∀ (t : Tm) (s : Value) (m : Nat) (l : Vs) (W : World), t.sz ≤ n → TSl (fun b => b ≠ m) W s t.2 → MapAt W m (encA l) →
  Ret Try.prog 62 #[tv t.1 s, .map (some m)] W (fun v w' => v = .tuple #[] ∧ Chg (fun b => b = m) W w' ∧ MapAt w' m (encA (vall l (varsT t))))
set_option maxRecDepth 100000 in
set_option maxHeartbeats 8000000 in
theorem collectVars_all : ∀ n, CvS n := by
  intro n
  induction n with
  | zero => intro t s m l W h; have := sz_pos t; omega
  | succ n ih =>
    rintro ⟨x, k⟩ s m l W hsz hs hm
    change TSl (fun b => b ≠ m) W s k at hs
    have x1 := bx_ext W x s
    have hb := bx_at W x s
    have hmW := hm.lt
    have hne : W.heap.size ≠ m := by omega
    obtain ⟨a, c, rfl, hl, hat⟩ := id hs
    have hl' : k.len ≤ 9223372036854775807 := hl
    have hv : varsT (x, k) = (if x.op = 22 then [(x.name, x.w)] else []) ++ (tms k).flatMap varsT := by
      rw [varsT_eq]
      conv => lhs; rw [← mk_tms k]
      rw [varsF_mk]
    obtain ⟨l1, hl1⟩ : ∃ l1, vall l (if x.op = 22 then [(x.name, x.w)] else []) = l1 := ⟨_, rfl⟩
    have kidAt : ∀ (i : Nat), i < k.len → ∃ t p o s', a = some ⟨p, o, none⟩ ∧ (tms k)[i]? = some t ∧ t.sz ≤ n ∧ p ≠ m ∧ (∀ w, Chg (fun b => b = m) W w → CellsAt w p (o + (i : Int).toNat * 5) (tc t.1 s') ∧ TSl (fun b => b ≠ m) w s' t.2) := fun i hi => by
      obtain ⟨t, ht, _⟩ := tms_get hi
      obtain ⟨p, o, c', s', e, hp, _, _, hc, hs'⟩ := TSl.kid hs ht
      cases e
      have hmm : t ∈ tms k := List.mem_of_getElem? ht
      have h1 := lt_kid (x := x) (a := t) (l := tms k) hmm
      rw [mk_tms] at h1
      exact ⟨t, p, o, s', rfl, ht, by omega, hp, fun w xw => ⟨xw.cells (S := fun b => b = m) hp hc, Fo.Sl.chg (fun b hb e => hb e) xw hs'⟩⟩
    refine ret_of_vc ties mixed Try.func62 rfl (by kernel_rfl) rfl rfl ?_
    refine seq_k fun K hK => hK _ _ ?_
    refine seq_cut (x := .seq (.region 1 _ _) _) (σ := Unit) [] 5 13 (fun _ => []) (fun _ w' => Chg (fun b => b = m) (bxW W x (.slice a k.len c)) w' ∧ MapAt w' m (encA l1)) (fun K hK => ?_) (fun _ w2 junk hJ => ?_)
    · refine ⟨_, hb.1, ?_⟩
      refine br_dec (fun h22 => ?_) (fun h22 => ?_)
      · rw [if_pos h22] at hl1
        refine ⟨_, hb.2.2.2.1, _, hb.2.1, ?_⟩
        refine raw_update ties (.inl rfl) rfl rfl rfl (by kernel_rfl) rfl rfl (hm.ext x1) (fun w6 hc6 hs6 hm6 => ?_)
        refine hK () _ _ rfl ⟨hc6, ?_⟩ ?_
        · have : (encA l).put x.name (iv x.w) = encA l1 := by rw [encA_put, ← hl1]; rfl
          rw [← this]; exact hm6
        · ((repeat (first | (with_reducible exact Only.refl) | (with_reducible refine Only.skip ?_) | ((with_reducible refine Only.upd ?_ ?_); rfl) | ((with_reducible refine Only.over ?_ ?_ _); rfl) | ((with_reducible refine Only.hav ?_ ?_ ?_); rfl; rfl))))
      · rw [if_neg h22] at hl1
        refine hK () _ _ rfl ⟨Chg.refl _ _, ?_⟩ ?_
        · rw [← hl1]; exact hm.ext x1
        · ((repeat (first | (with_reducible exact Only.refl) | (with_reducible refine Only.skip ?_) | ((with_reducible refine Only.upd ?_ ?_); rfl) | ((with_reducible refine Only.over ?_ ?_ _); rfl) | ((with_reducible refine Only.hav ?_ ?_ ?_); rfl; rfl))))
    obtain ⟨ch2, hm2⟩ := hJ
    have hb2 := ch2.cells (S := fun b => b = m) hne hb
    refine ⟨_, hb2.2.2.2.2.1, ?_⟩
    refine loop_rule (σ := Nat × Value) [16, 4] 17 27 (fun q => [.int .i64 q.1, q.2])
      (fun q w' => (Chg (fun b => b = m) (bxW W x (.slice a k.len c)) w' ∧ MapAt w' m (encA (vall l1 (((tms k).take q.1).flatMap varsT)))) ∧ q.1 ≤ k.len) (fun q => k.len - q.1) (0, undef) rfl ⟨⟨ch2, hm2⟩, Nat.zero_le _⟩ ?_
    rintro ⟨i, j4⟩ w3 junk ⟨⟨ch3, hm3⟩, hi⟩ K hK
    simp only at hi hm3
    show vc _ _ _ _ (over [16, 4] [.int .i64 i, j4] _) _
    have hb3 := ch3.cells (S := fun b => b = m) hne hb
    have chW : Chg (fun b => b = m) W w3 := (Chg.of x1).trans ch3
    refine br_dec (fun hlt' => ?_) (fun hge => ?_)
    · obtain ⟨t, p, o, s', rfl, ht, hts, hpm, hkid⟩ := kidAt i (by omega)
      refine ⟨_, hb3.2.2.2.2.1, ⟨by omega, by omega⟩, tc t.1 s', rfl, (hkid w3 chW).1, ?_⟩
      refine Or.inl ((ih t s' m _ w3 hts (hkid w3 chW).2 hm3).mono ?_)
      rintro _ w4 ⟨rfl, ch4, hm4⟩
      have htk : ((tms k).take (i + 1)).flatMap varsT = ((tms k).take i).flatMap varsT ++ varsT t := by
        rw [List.take_add_one, ht, List.flatMap_append]; simp
      rw [← vall_app, ← htk] at hm4
      refine ⟨_, IntWalk.i64_in _ (by omega), ?_⟩
      refine hK (i + 1, _) _ _ (vs2 (vint (by show (i : Int) + 1 = ((i + 1 : Nat) : Int); omega)) rfl) ⟨⟨ch3.trans ch4, hm4⟩, by show i + 1 ≤ k.len; omega⟩ (by show k.len - (i + 1) < k.len - i; omega) ?_
      ((repeat (first | (with_reducible exact Only.refl) | (with_reducible refine Only.skip ?_) | ((with_reducible refine Only.upd ?_ ?_); rfl) | ((with_reducible refine Only.over ?_ ?_ _); rfl) | ((with_reducible refine Only.hav ?_ ?_ ?_); rfl; rfl))))
    · have hik : (tms k).take i = tms k := List.take_of_length_le (by rw [tms_len]; omega)
      rw [hik, ← hl1, ← vall_app, ← hv] at hm3
      exact ⟨rfl, chW, hm3⟩
noncomputable def varsP (x : Lab) (k : TF) : Vs := @ite _ (TOk x k) (Classical.propDecidable _) (vsT (x, k)) []
theorem varsP_yes {x : Lab} {k : TF} (h : TOk x k) : varsP x k = vsT (x, k) := by unfold varsP; exact if_pos h
theorem varsP_no {x : Lab} {k : TF} (h : ¬ TOk x k) : varsP x k = [] := by unfold varsP; exact if_neg h
/-- A new row of values. -/
def NewV (l : List VLab) (W : World) (v : Value) (w : World) : Prop := Ext W w ∧ OwnR eV noB w v l ∧ ∀ b, blk v b → W.heap.size ≤ b
set_option maxRecDepth 100000 in
set_option maxHeartbeats 8000000 in
theorem impl_VarsOf (x : Lab) (k : TF) (s : Value) (W : World) (hs : TSl anyB W s k) (hx : okL x) (hp : k.All okL) :
    Ret Try.prog 36 #[tv x s] W (NewV (vls (varsP x k)) W) := by
  have x1 := bx_ext W x s
  have hb := bx_at W x s
  have hok := fun w (xw : Ext W w) => impl_TermOk x k s w ((hs.ext xw).mono fun _ _ => trivial) hx hp
  obtain ⟨a, c, rfl, hl, hat⟩ := id hs
  by_cases ht : TOk x k
  · simp only [decide_eq_true ht] at hok
    rw [varsP_yes ht]
    have hcons : Cons (varsT (x, k)) := ((TOk_iff x k).1 ht).2.2
    refine ret_of_vc ties mixed Try.func36 rfl (by kernel_rfl) rfl rfl ?_
    refine ⟨tc x _, rfl, hb, ?_⟩
    refine Or.inl ((hok _ x1).mono ?_)
    rintro _ w2 ⟨rfl, x2⟩
    have x02 := x1.trans x2
    have x23 : Ext w2 (w2.alloc (.map #[] 0)) := Ext.new _ _
    have hm3 : MapAt (w2.alloc (.map #[] 0)) w2.heap.size (encA []) := MapAt.new _
    refine ⟨tc x _, rfl, (hb.ext x2).ext x23, ?_⟩
    have z2 := x02.size
    have hcol := collectVars_all _ (x, k) (.slice a k.len c) w2.heap.size [] (w2.alloc (.map #[] 0)) (Nat.le_refl _) (((hs.lt.ext x02).ext x23).mono fun b hb => by have := hb.2; omega) hm3
    refine Or.inl ((hcol).mono ?_)
    rintro _ w4 ⟨rfl, ch4, hm4⟩
    have hm4W : W.heap.size ≤ w2.heap.size := z2
    have X4 : Ext W w4 := (x02.trans x23).chg ch4 fun b hb => by rw [hb]; exact hm4W
    have z4 : w2.heap.size + 1 ≤ w4.heap.size := by have := ch4.size; rw [World.size_alloc] at this; omega
    have hvl : (vall [] (varsT (x, k))).length ≤ 240 := by
      have h1 := vall_len (varsT (x, k)) []
      have h2 := varsF_len (.cons x k .nil)
      have h3 : (varsF (.cons x k .nil)).length = (varsT (x, k)).length := rfl
      have h4 : (Fo.cons x k .nil).size = k.size + 0 + 1 := rfl
      have h5 := ht.1
      simp only [List.length_nil] at h1
      omega
    obtain ⟨vs, hvs⟩ : ∃ vs, vall [] (varsT (x, k)) = vs := ⟨_, rfl⟩
    rw [hvs] at hm4 hvl
    refine raw_range ties rfl rfl rfl rfl rfl hm4 (fun w5 x5 z5 hit => ?_)
    refine loop_rule (σ := Vs × List VLab × Value × Value × Value) [4, 5, 6] 16 27 (fun q => [q.2.2.1, q.2.2.2.1, q.2.2.2.2])
      (fun q w' => (Ext W w' ∧ w5.heap.size ≤ w'.heap.size) ∧ IterAt w' w4.heap.size w2.heap.size (encA vs) (encA q.1) ∧ OwnR eV noB w' q.2.2.1 q.2.1 ∧ (∀ b, blk q.2.2.1 b → w5.heap.size ≤ b) ∧ (q.2.1 ++ vls q.1).Perm (vls vs)) (fun q => q.1.length) (vs, [], .slice none 0 0, undef, undef) rfl ⟨⟨X4.trans x5, Nat.le_refl _⟩, hit, OwnR.nil _ _ _ _, fun b hb => (by cases hb), List.Perm.refl _⟩ ?_
    rintro ⟨lf, out, xv, j5, j6⟩ w6 junk ⟨⟨X6, z6⟩, hit6, hxv, hbv, hpm⟩ K hK
    simp only at hit6 hxv hbv hpm
    show vc _ _ _ _ (over [4, 5, 6] [xv, j5, j6] _) _
    have hlen : out.length + lf.length = vs.length := by
      have := hpm.length_eq
      rw [List.length_append, vls_len, vls_len] at this
      exact this
    refine raw_next2 rfl rfl hit6 (by omega) (fun hE => ?_) (fun nm v l1 l2 w7 hleft ch7 z7 hit7 hent => ?_)
    ·
      as_aux_lemma =>
        have hlf : lf = [] := List.map_eq_nil_iff.1 hE
        subst hlf
        have hpm' : out.Perm (vls vs) := by simpa [vls] using hpm
        rw [← hvs] at hpm'
        obtain ⟨B0, cp, e0, h1, h2, h3⟩ := id hxv
        subst e0
        by_cases h0 : out.length = 0
        · have hout : out = [] := List.eq_nil_of_length_eq_zero h0
          subst hout
          have hd := sorted_vs (d := []) hcons hpm' (List.Perm.refl _) (fun i j hi hj => absurd hj (by simp))
          refine Or.inl ((sort_none B0 cp w6).mono ?_)
          rintro _ _ ⟨rfl, rfl⟩
          rw [← hd]
          exact ⟨X6, hxv, fun b hb => by have := hbv b hb; have := X4.size; have := x5.size; omega⟩
        · obtain ⟨B1, rfl, _, _⟩ := h3.resolve_left (by omega)
          refine Or.inl ((sort_ret out B1 cp w6 hxv h0 (by omega)).mono ?_)
          rintro _ w8 ⟨rfl, ch8, d, hd1, hd2, hd3⟩
          have hd := sorted_vs hcons hpm' hd2 hd3
          rw [← hd]
          have hB1 := hbv B1 rfl
          have zz := X4.size
          have zy := x5.size
          refine ⟨X6.chg ch8 fun b hb => by rw [hb]; omega, hd1, fun b hb => ?_⟩
          have hb : B1 = b := hb
          omega
    ·
      as_aux_lemma =>
        obtain ⟨m1, mm, e1, e2, e3⟩ := List.map_eq_append_iff.1 hleft
        obtain ⟨p, m2, e4, e5, e6⟩ := List.map_eq_cons_iff.1 e3
        obtain ⟨q, n⟩ := p
        have hq : q = nm := congrArg Prod.fst e5
        have hv : iv n = v := congrArg Prod.snd e5
        subst hq
        subst hv
        subst e4
        subst e1
        rw [← e2, ← e6] at hit7
        have hl2 : (encA m1 ++ encA m2) = encA (m1 ++ m2) := (List.map_append).symm
        have hit7 : IterAt w7 w4.heap.size w2.heap.size (encA vs) (encA (m1 ++ m2)) := by rw [← hl2]; exact hit7
        refine raw_entry rfl rfl hent ?_
        have hnr : ∀ b, blk xv b → b ≠ w4.heap.size := fun b hb => by have := hbv b hb; omega
        have hown := hxv.chg (S := fun b => b = w4.heap.size) (fun b hb e => hb.elim) hnr ch7
        simp only [List.length_append, List.length_cons] at hlen
        refine raw_push (E := eV) (x := vl0 (q, n)) (cs := vlc (vl0 (q, n))) ties rfl rfl rfl rfl rfl rfl rfl rfl rfl rfl rfl hown rfl noB_blk (by show (out.length + 1) * 32 ≤ _; omega) (by omega) ?_
        intro v8 w8 hv8 hch8 hsz8 hvb8
        have X7 : Ext W w7 := X6.chg ch7 fun b hb => by have := X4.size; omega
        have zz := X4.size
        have zy := x5.size
        refine hK (m1 ++ m2, out ++ [vl0 (q, n)], v8, _, _) _ _ rfl ⟨⟨X7.chg hch8 (fun b hb => by have := hbv b hb; omega), by omega⟩, hit7.chg (fun e => by have := hbv _ e; omega) (fun e => by have := hbv _ e; omega) hch8, hv8, fun b hb => (hvb8 b hb).elim (hbv b) (fun e => by omega), ?_⟩ (by show (m1 ++ m2).length < (m1 ++ (q, n) :: m2).length; simp) ?_
        · refine List.Perm.trans ?_ hpm
          show (out ++ [vl0 (q, n)] ++ vls (m1 ++ m2)).Perm (out ++ vls (m1 ++ (q, n) :: m2))
          rw [vls_app, vls_app, List.append_assoc]
          refine List.Perm.append_left out ?_
          exact (List.perm_middle (l₁ := vls m1) (l₂ := vls m2) (a := vl0 (q, n))).symm
        · ((repeat (first | (with_reducible exact Only.refl) | (with_reducible refine Only.skip ?_) | ((with_reducible refine Only.upd ?_ ?_); rfl) | ((with_reducible refine Only.over ?_ ?_ _); rfl) | ((with_reducible refine Only.hav ?_ ?_ ?_); rfl; rfl))))
  · simp only [decide_eq_false ht] at hok
    rw [varsP_no ht]
    refine ret_of_vc ties mixed Try.func36 rfl (by kernel_rfl) rfl rfl ?_
    refine ⟨tc x _, rfl, hb, ?_⟩
    refine Or.inl ((hok _ x1).mono ?_)
    rintro _ w2 ⟨rfl, x2⟩
    exact ⟨x1.trans x2, OwnR.nil _ _ _ _, fun b hb => by cases hb⟩
end Go.Proofs.Ytekddgkgeaolnaa
namespace Go.Vc
open Go Go.RowKit
variable {P : Program} {T : Tab} {o : Oper} {ρ : Fr} {K : Value → World → Prop} {w : World} {t k e : Nat} {r q : TRow} {x i : Operand} {c : Bool} {b : Nat} {s : ByteArray} {l : Al}
theorem raw_look {u : Value} (hT : Ties P T) (ho : o.op = .lookup t x i c) (hr : look T t = some r) (ha : r.agg = false) (hd : r.desc = .map k e) (hk : P.underlying k = some .string) (hq : look T e = some q)
    (hx : ev ρ x = .map (some b)) (hi : ev ρ i = .string s) (hm : MapAt w b l) (hu : (if c then .tuple #[(l.get s).getD q.zero, .bool (l.get s).isSome] else (l.get s).getD q.zero) = u) (hK : K u w) : Raw P o ρ w K :=
  ⟨.value u, _, w, exec_look hT ho hr ha hd hk hq hx hi hm hu, rfl, hK⟩
end Go.Vc
namespace Go.Proofs.Ytekddgkgeaolnaa
open Go Go.Vc Go.RowKit
set_option linter.unusedVariables false
/-- A map that holds a field of the first values. -/
def MapV (w : World) (m : Nat) (g : VLab → Int) (l : List VLab) : Prop := ∃ al, MapAt w m al ∧ ∀ s, al.get s = (fnd l s).map fun v => iv (g v)
theorem MapV.ext {w w' : World} {m : Nat} {g : VLab → Int} {l : List VLab} (x : Ext w w') (h : MapV w m g l) : MapV w' m g l := by
  obtain ⟨al, h1, h2⟩ := h
  exact ⟨al, h1.ext x, h2⟩
theorem MapV.chg {S : Nat → Prop} {w w' : World} {m : Nat} {g : VLab → Int} {l : List VLab} (hS : ¬ S m) (x : Chg S w w') (h : MapV w m g l) : MapV w' m g l := by
  obtain ⟨al, h1, h2⟩ := h
  exact ⟨al, h1.chg hS x, h2⟩
theorem MapV.new (w : World) (g : VLab → Int) : MapV (w.alloc (.map #[] 0)) w.heap.size g [] := ⟨[], MapAt.new w, fun s => rfl⟩
theorem MapV.lt {w : World} {m : Nat} {g : VLab → Int} {l : List VLab} (h : MapV w m g l) : m < w.heap.size := by
  obtain ⟨al, h1, h2⟩ := h
  exact h1.lt
set_option maxRecDepth 100000 in
set_option maxHeartbeats 16000000 in
theorem impl_EvalTerm (x : Lab) (k : TF) (l : List VLab) (s sl : Value) (W : World) (hs : TSl anyB W s k) (hx : okL x) (hp : k.All okL) (hl : VSl anyB W sl l) (hv : ∀ v ∈ l, okV v) :
    Ret Try.prog 14 #[tv x s, sl] W (fun v w' => v = .tuple #[.int .i64 (evalP x k l).1, .bool (evalP x k l).2] ∧ Ext W w') := by
  have x1 := bx_ext W x s
  have hb := bx_at W x s
  have hok := fun w (xw : Ext W w) => impl_TermOk x k s w ((hs.ext xw).mono fun _ _ => trivial) hx hp
  have hvs := fun w (xw : Ext W w) => impl_ValuesOk l sl w (hl.ext xw) hv
  have hlm : (maxLen : Int) ≤ 9223372036854775807 := by decide
  by_cases ht : TOk x k
  · have e : decide (TOk x k) = true := decide_eq_true ht
    simp only [e] at hok
    by_cases hvo : vOk l = true
    · simp only [hvo] at hvs
      rw [evalP_yes ht hvo]
      have hcons : Cons (varsT (x, k)) := ((TOk_iff x k).1 ht).2.2
      have hcv := cov_vsT hcons l
      have hvars := fun w (xw : Ext W w) => impl_VarsOf x k s w (hs.ext xw) hx hp
      rw [varsP_yes ht] at hvars
      have hev := fun w mv (xw : Ext W w) hm => evalNode_all _ (x, k) s mv (envL l) w (Nat.le_refl _) (tok_okT ht) (hs.ext xw) hm
      have hslr : SlR eV allB W sl l := VSl.slr hl
      obtain ⟨a, c, rfl, _, _⟩ := id hs
      obtain ⟨al, cl, rfl, hll, hlc, hlat⟩ := id hl
      refine ret_of_vc ties mixed Try.func14 rfl (by kernel_rfl) rfl rfl ?_
      refine ⟨tc x _, rfl, hb, ?_⟩
      refine Or.inl ((hok _ x1).mono ?_)
      rintro _ w2 ⟨rfl, x2⟩
      refine Or.inl ((hvs w2 (x1.trans x2)).mono ?_)
      rintro _ w3 ⟨rfl, x3⟩
      have X3 := x1.trans (x2.trans x3)
      have e1 := MapV.new w3 (·.n)
      have y1 : Ext w3 (w3.alloc (.map #[] 0)) := Ext.new _ _
      have e2 := MapV.new (w3.alloc (.map #[] 0)) (·.w)
      have y2 : Ext (w3.alloc (.map #[] 0)) ((w3.alloc (.map #[] 0)).alloc (.map #[] 0)) := Ext.new _ _
      have z3 := X3.size
      have zm : (w3.alloc (.map #[] 0)).heap.size = w3.heap.size + 1 := World.size_alloc _ _
      have zb := (x2.trans x3).size
      have Xb := x2.trans x3
      refine loop_rule (σ := Nat × Value) [26, 9] 27 41 (fun q => [.int .i64 q.1, q.2])
        (fun q w' => (Ext (bxW W x (.slice a k.len c)) w' ∧ MapV w' w3.heap.size (·.n) (l.take q.1) ∧ MapV w' (w3.alloc (.map #[] 0)).heap.size (·.w) (l.take q.1)) ∧ q.1 ≤ l.length) (fun q => l.length - q.1) (0, undef) rfl ⟨⟨Xb.trans (y1.trans y2), e1.ext y2, e2⟩, Nat.zero_le _⟩ ?_
      rintro ⟨i, j9⟩ w4 junk ⟨⟨X4, m1, m2⟩, hi⟩ K hK
      simp only at hi m1 m2
      show vc _ _ _ _ (over [26, 9] [.int .i64 i, j9] _) _
      refine br_dec (fun hlt => ?_) (fun hge => ?_)
      ·
        as_aux_lemma =>
          have hil : i < l.length := by omega
          obtain ⟨b, o, c', e, _, hcv⟩ := eV_at hslr hil
          cases e
          have k5 := keep3 w4 (l[i]'hil)
          have x5 := k5.2.2
          have c5 := k5.2.1
          refine ⟨⟨by omega, by omega⟩, vlc (l[i]'hil), rfl, hcv.ext (x1.trans X4), k5.1, ?_⟩
          refine ⟨_, c5.1, _, c5.2.2.1, ?_⟩
          obtain ⟨al1, a1, b1⟩ := m1.ext x5
          obtain ⟨al2, a2, b2⟩ := m2.ext x5
          refine raw_update ties (.inl rfl) rfl rfl rfl (by kernel_rfl) rfl rfl a1 (fun w6 ch6 z6 hm6 => ?_)
          have c6 := ch6.cells (S := fun b => b = w3.heap.size) (b := w4.heap.size) (by have := m2.lt; omega) c5
          refine ⟨_, c6.1, _, c6.2.1, ?_⟩
          have a2' := a2.chg (S := fun b => b = w3.heap.size) (by omega) ch6
          refine raw_update ties (.inl rfl) rfl rfl rfl (by kernel_rfl) rfl rfl a2' (fun w7 ch7 z7 hm7 => ?_)
          have a1' := hm6.chg (S := fun b => b = (w3.alloc (.map #[] 0)).heap.size) (by omega) ch7
          refine ⟨_, IntWalk.i64_in _ (by omega), ?_⟩
          refine hK (i + 1, _) _ _ (vs2 (vint (by show (i : Int) + 1 = ((i + 1 : Nat) : Int); omega)) rfl) ⟨⟨(((X4.trans x5).chg ch6 (fun b hb => by omega)).chg ch7 (fun b hb => by omega)), ⟨_, a1', fun t => ?_⟩, ⟨_, hm7, fun t => ?_⟩⟩, by show i + 1 ≤ l.length; omega⟩ (by show l.length - (i + 1) < l.length - i; omega) ?_
          · rw [Al.get_put, b1, fnd_snoc hvo hil]
            by_cases h : t = (l[i]'hil).name
            · rw [if_pos h, if_pos h.symm]; rfl
            · rw [if_neg h, if_neg (fun e => h e.symm)]
          · rw [Al.get_put, b2, fnd_snoc hvo hil]
            by_cases h : t = (l[i]'hil).name
            · rw [if_pos h, if_pos h.symm]; rfl
            · rw [if_neg h, if_neg (fun e => h e.symm)]
          · ((repeat (first | (with_reducible exact Only.refl) | (with_reducible refine Only.skip ?_) | ((with_reducible refine Only.upd ?_ ?_); rfl) | ((with_reducible refine Only.over ?_ ?_ _); rfl) | ((with_reducible refine Only.hav ?_ ?_ ?_); rfl; rfl))))
      ·
        have hti : l.take i = l := List.take_of_length_le (by omega)
        rw [hti] at m1 m2
        refine ⟨tc x _, rfl, hb.ext X4, ?_⟩
        refine Or.inl ((hvars w4 (x1.trans X4)).mono ?_)
        rintro v5 w5 ⟨x5, hv5, hb5⟩
        have hv5s : SlR eV allB w5 v5 (vls (vsT (x, k))) := hv5.sl (fun _ _ => trivial) (fun _ _ => trivial)
        obtain ⟨a5, c5, rfl, _, hc5, _⟩ := id hv5s
        have hvl := vls_len (vsT (x, k))
        have m1' := m1.ext x5
        have m2' := m2.ext x5
        have X5 := X4.trans x5
        clear m1 m2 hvars hvs hok
        refine loop_rule (σ := Nat × Value × Value × Value) [44, 11, 12, 13] 45 64 (fun q => [.int .i64 q.1, q.2.1, q.2.2.1, q.2.2.2])
          (fun q w' => Ext w5 w' ∧ q.1 ≤ (vls (vsT (x, k))).length ∧ ∀ j, j < q.1 → ∀ p, (vsT (x, k))[j]? = some p → covP l p = true) (fun q => (vls (vsT (x, k))).length - q.1) (0, undef, undef, undef) rfl ⟨Ext.refl _, Nat.zero_le _, fun j hj => absurd hj (Nat.not_lt_zero j)⟩ ?_
        rintro ⟨i2, j11, j12, j13⟩ w6 junk ⟨x6, hi2, hall⟩ K hK
        simp only at hi2 hall
        show vc _ _ _ _ (over [44, 11, 12, 13] [.int .i64 i2, j11, j12, j13] _) _
        have hi2m : (vls (vsT (x, k))).length ≤ 9223372036854775807 := by have := hv5s; omega
        refine br_dec (fun hlt => ?_) (fun hge => ?_)
        ·
          as_aux_lemma =>
            have hil : i2 < (vls (vsT (x, k))).length := by omega
            have hil' : i2 < (vsT (x, k)).length := by omega
            obtain ⟨b, o, c', e, _, hcv6⟩ := eV_at hv5s hil
            cases e
            have hg : (vls (vsT (x, k)))[i2]'hil = vl0 ((vsT (x, k))[i2]'hil') := List.getElem_map _
            rw [hg] at hcv6
            obtain ⟨p, hpp⟩ : ∃ p, (vsT (x, k))[i2]'hil' = p := ⟨_, rfl⟩
            rw [hpp] at hcv6
            have hpm : (vsT (x, k))[i2]? = some p := by rw [List.getElem?_eq_getElem hil', hpp]
            have k7 := keep3 w6 (vl0 p)
            have c7 := k7.2.1
            have x7 := k7.2.2
            obtain ⟨al2, a2, b2⟩ := m2'.ext (x6.trans x7)
            have X7 := (X5.trans x6).trans x7
            have no : ¬ covP l p = true → evO l (x, k) = (0, false) := fun hn => evO_no (by rw [← hcv]; exact fun e => hn (List.all_eq_true.1 e p (List.mem_of_getElem? hpm)))
            by_cases hf : fnd l p.1 = none
            ·
              have hno := no (fun e => by have := of_decide_eq_true e; rw [hf] at this; cases this)
              refine ⟨⟨by omega, by omega⟩, vlc (vl0 p), rfl, hcv6.ext x6, k7.1, ?_⟩
              refine ⟨_, c7.1, ?_⟩
              have hu : al2.get p.1 = none := by rw [b2, hf]; rfl
              refine raw_look (u := .tuple #[.int .i64 0, .bool false]) (b := (w3.alloc (.map #[] 0)).heap.size) (s := p.1) (l := al2) ties rfl rfl rfl rfl (by kernel_rfl) rfl rfl rfl a2 (congrArg (fun o : Option Value => Value.tuple #[o.getD (.int .i64 0), .bool o.isSome]) hu) ?_
              exact ⟨Eq.trans (b := Value.tuple #[.int .i64 0, .bool false]) rfl (congrArg (fun o : Int × Bool => Value.tuple #[.int .i64 o.1, .bool o.2]) hno).symm, x1.trans X7⟩
            refine Exists.elim (Option.ne_none_iff_exists'.1 hf) fun v hf => ?_
            have hu : al2.get p.1 = some (.int .i64 v.w) := by rw [b2, hf]; rfl
            by_cases hw : v.w = p.2
            · have hcp : covP l p = true := by unfold covP; rw [hf]; exact decide_eq_true (congrArg some hw)
              refine ⟨⟨by omega, by omega⟩, vlc (vl0 p), rfl, hcv6.ext x6, k7.1, ?_⟩
              refine ⟨_, c7.1, ?_⟩
              refine raw_look (u := .tuple #[.int .i64 v.w, .bool true]) (b := (w3.alloc (.map #[] 0)).heap.size) (s := p.1) (l := al2) ties rfl rfl rfl rfl (by kernel_rfl) rfl rfl rfl a2 (congrArg (fun o : Option Value => Value.tuple #[o.getD (.int .i64 0), .bool o.isSome]) hu) ?_
              refine ⟨_, c7.2.1, ?_⟩
              refine br_dec_false (fun h => h hw) ?_
              refine ⟨_, IntWalk.i64_in _ (by omega), ?_⟩
              refine hK (i2 + 1, _, _, _) _ _ (vs4 (vint (by show (i2 : Int) + 1 = ((i2 + 1 : Nat) : Int); omega)) rfl rfl rfl) ⟨x6.trans x7, by show i2 + 1 ≤ _; omega, fun j hj q hq => ?_⟩ (by show _ - (i2 + 1) < _ - i2; omega) ?_
              · by_cases e : j = i2
                · subst e; rw [hpm] at hq; rw [← Option.some.inj hq]; exact hcp
                · exact hall j (by have : j < i2 + 1 := hj; omega) q hq
              · ((repeat (first | (with_reducible exact Only.refl) | (with_reducible refine Only.skip ?_) | ((with_reducible refine Only.upd ?_ ?_); rfl) | ((with_reducible refine Only.over ?_ ?_ _); rfl) | ((with_reducible refine Only.hav ?_ ?_ ?_); rfl; rfl))))
            · have hno := no (fun e => by have := of_decide_eq_true e; rw [hf] at this; exact hw (Option.some.inj this))
              refine ⟨⟨by omega, by omega⟩, vlc (vl0 p), rfl, hcv6.ext x6, k7.1, ?_⟩
              refine ⟨_, c7.1, ?_⟩
              refine raw_look (u := .tuple #[.int .i64 v.w, .bool true]) (b := (w3.alloc (.map #[] 0)).heap.size) (s := p.1) (l := al2) ties rfl rfl rfl rfl (by kernel_rfl) rfl rfl rfl a2 (congrArg (fun o : Option Value => Value.tuple #[o.getD (.int .i64 0), .bool o.isSome]) hu) ?_
              refine ⟨_, c7.2.1, ?_⟩
              refine br_dec_true hw ?_
              exact ⟨Eq.trans (b := Value.tuple #[.int .i64 0, .bool false]) rfl (congrArg (fun o : Int × Bool => Value.tuple #[.int .i64 o.1, .bool o.2]) hno).symm, x1.trans X7⟩
        ·
          as_aux_lemma =>
            have hcov : cov l (varsT (x, k)) = true := by
              rw [← hcv]
              refine List.all_eq_true.2 fun p hp => ?_
              obtain ⟨j, hj⟩ := List.mem_iff_getElem?.1 hp
              exact hall j (by have := (List.getElem?_eq_some_iff.1 hj).1; omega) p hj
            have X6 := X5.trans x6
            obtain ⟨al1, a1, b1⟩ := m1'.ext x6
            refine ⟨tc x _, rfl, hb.ext X6, ?_⟩
            refine Or.inl ((hev w6 (.map (some w3.heap.size)) (x1.trans X6) (.inr ⟨_, al1, rfl, a1, fun t => by rw [b1]; unfold envL; cases fnd l t <;> rfl⟩)).mono ?_)
            rintro _ w7 ⟨rfl, x7⟩
            exact ⟨Eq.trans (b := Value.tuple #[.int .i64 (evT (envL l) (x, k)), .bool true]) rfl (congrArg (fun o : Int × Bool => Value.tuple #[.int .i64 o.1, .bool o.2]) (evO_yes hcov)).symm, (x1.trans X6).trans x7⟩
    · have hvf : vOk l = false := by simpa using hvo
      simp only [hvf] at hvs
      rw [evalP_no (fun h => hvo h.2)]
      obtain ⟨a, c, rfl, _, _⟩ := id hs
      refine ret_of_vc ties mixed Try.func14 rfl (by kernel_rfl) rfl rfl ?_
      refine ⟨tc x _, rfl, hb, ?_⟩
      refine Or.inl ((hok _ x1).mono ?_)
      rintro _ w2 ⟨rfl, x2⟩
      refine Or.inl ((hvs w2 (x1.trans x2)).mono ?_)
      rintro _ w3 ⟨rfl, x3⟩
      exact ⟨rfl, x1.trans (x2.trans x3)⟩
  · have e : decide (TOk x k) = false := decide_eq_false ht
    simp only [e] at hok
    rw [evalP_no (fun h => ht h.1)]
    obtain ⟨a, c, rfl, _, _⟩ := id hs
    refine ret_of_vc ties mixed Try.func14 rfl (by kernel_rfl) rfl rfl ?_
    refine ⟨tc x _, rfl, hb, ?_⟩
    refine Or.inl ((hok _ x1).mono ?_)
    rintro _ w2 ⟨rfl, x2⟩
    exact ⟨rfl, x1.trans x2⟩
end Go.Proofs.Ytekddgkgeaolnaa
