/- Searches: contracts of search, Search, l03Try and of the reference's Search. -/
import Derived.Test.YtfmflffggcphjaaSr
namespace Go.Sat
open Go.Vc
noncomputable def seaRes (F : Cnf) (n limit : Nat) (o : Option (List Int)) : Res :=
  match o with
  | none => Res.no 0 (0, .nil)
  | some u => srch F n limit (n + 2) u 0
def modL (r : Res) : List Bool := if r.code = 1 then modelOf r.vals else []
/-- What 'Search' computes. -/
def SeaO (n : Int) (F : Cnf) (lits : List Int) (limit : Int) (r : Res) : Prop :=
  if fOk n F = true ∧ litsOk n lits = true ∧ 0 ≤ limit ∧ limit ≤ 3000 then ∃ o, Upr F n.toNat (fun l => l ∈ lits) o ∧ r = seaRes F n.toNat limit.toNat o else r = ⟨0, [], 0, (0, .nil)⟩
theorem SeaO.unique {n : Int} {F : Cnf} {lits : List Int} {limit : Int} {r r' : Res} (h : SeaO n F lits limit r) (h' : SeaO n F lits limit r') : r = r' := by
  unfold SeaO at h h'
  split at h
  · rename_i hc
    rw [if_pos hc] at h'
    obtain ⟨o, h1, rfl⟩ := h
    obtain ⟨o', h1', rfl⟩ := h'
    rw [Upr.unique (fun l h => .base h) (fun l h => .base h) h1 h1']
  · rename_i hc
    rw [if_neg hc] at h'
    rw [h, h']
end Go.Sat
namespace Go.Proofs.Ytfmflffggcphjaa
open Go Go.Vc Go.RowKit Go.Sat
set_option linter.unusedVariables false

def SeaV (r : Res) (W : World) (v : Value) (w' : World) : Prop := ∃ sv, v = .tuple #[.int .i64 r.code, sv, .int .i64 r.made] ∧ OwnR eB noB w' sv (modL r) ∧ ∀ b, blk sv b → W.heap.size ≤ b

set_option maxHeartbeats 2000000 in
theorem search_ret (n : Nat) (F : Cnf) (limit : Nat) (lits : List Int) (s sp : Value) (W : World) (hS : Sol W.heap.size W sp n F) (hs : SlR eI allB W s lits) (hF : fOk n F = true) (hl : ∀ l ∈ lits, litOk n l = true) (hll : lits.length ≤ 10000000) (hlim : limit ≤ 3000) :
    Ret Try.prog 74 #[sp, s, .int .i64 limit] W (fun v w' => Ext W w' ∧ ∃ o, Upr F n (fun l => l ∈ lits) o ∧ SeaV (seaRes F n limit o) W v w') := by
  obtain ⟨S, rfl⟩ := hS.ptr
  refine ret_of_vc ties mixed Try.func74 rfl (by kernel_rfl) rfl rfl ?_
  refine Or.inl ((start_ret (.pointer (some ⟨S, 0, none⟩)) n F lits s _ hS hs hF hl hll).mono ?_)
  rintro r w2 ⟨x2, o, hup, ⟨rfl, rfl⟩ | ⟨u, p, rfl, rfl, hA⟩⟩
  · exact ⟨x2, none, hup, _, rfl, OwnR.nil _ _ _ _, fun b hb => hb.elim⟩
  have hu : Vals n u ∧ ∀ c ∈ F, Fine u c := by cases hup with | yes h1 h2 h3 _ => exact ⟨h1, h2⟩
  have hzu := zeros_le u
  have hul := hu.1.len
  obtain ⟨A, _, _, rfl, _⟩ := hA.ptr
  have r3 := Rmy.new w2 [.pointer none, .int .i64 0, .int .i64 0, .slice none 0 0] 127
  refine ⟨r3.all [.pointer (some ⟨S, 0, none⟩), .int .i64 limit, .int .i64 0, .slice none 0 0] 0 (Nat.le_refl 4) rfl, ?_⟩
  have x3 : Ext w2 (setCells (w2.alloc (.cells #[.pointer none, .int .i64 0, .int .i64 0, .slice none 0 0] 127)) w2.heap.size 0 [.pointer (some ⟨S, 0, none⟩), .int .i64 limit, .int .i64 0, .slice none 0 0]) := Ext.setCells _ (Ext.new _ _) (Nat.le_refl _)
  have hc3 := setCells_at [.pointer (some ⟨S, 0, none⟩), .int .i64 limit, .int .i64 0, .slice none 0 0] _ 0 4 r3 (Nat.le_refl 4)
  have hq : Que w2.heap.size _ (.pointer (some ⟨S, 0, none⟩)) limit 0 (.slice none 0 0) := ⟨hc3, Rmy.setCells _ r3⟩
  have hrun := run_ret n F limit hF hlim (n + 2) u 0 (by omega) hu.1 hu.2 (Nat.zero_le _) w2.heap.size W.heap.size _ _ _ _ hq (hS.below ((x2.trans x3).mono (Nat.le_refl _))) x2.size ((hA.rda.lt.ext x3).mono fun b hb e => by have := hb.2; omega)
  refine Or.inl ((hrun).mono ?_)
  rintro x w4 ⟨rfl, hch, mv', hq4, hg1, hg2⟩
  refine .inl ⟨by kernel_rfl, _, hq4.cells.2.2.2.1, _, hq4.cells.2.2.1, ?_⟩
  intro w5 x5
  have xA := (x2.trans x3).chg hch fun b hb => by rw [hb]; exact x2.size
  refine ⟨xA.trans x5, some u, hup, mv', rfl, ?_, fun b hb => ?_⟩
  · show OwnR eB noB w5 mv' (modL (srch F n limit (n + 2) u 0))
    unfold modL
    split
    · rename_i h; exact (hg1 h).1.ext x5
    · rename_i h; rw [hg2 h]; exact OwnR.nil _ _ _ _
  · by_cases h : (srch F n limit (n + 2) u 0).code = 1
    · exact Nat.le_trans (x2.trans x3).size ((hg1 h).2 b hb)
    · rw [hg2 h] at hb; exact hb.elim

theorem limitOk_ret (limit : Int) (w : World) : Ret Try.prog 97 #[.int .i64 limit] w (fun v w' => v = .bool (decide (0 ≤ limit ∧ limit ≤ 3000)) ∧ w = w') := by
  refine ret_of_vc ties mixed Try.func97 rfl (by kernel_rfl) rfl rfl ?_
  refine br_dec (fun h => ?_) (fun h => ?_)
  · exact ⟨vbool (by simp [h]), rfl⟩
  · exact ⟨vbool (by simp [h]), rfl⟩

def SeaR (n : Int) (F : Cnf) (lits : List Int) (limit : Int) (W : World) (v : Value) (w' : World) : Prop := Ext W w' ∧ ∃ r, SeaO n F lits limit r ∧ SeaV r W v w'

theorem impl_Search (n : Int) (F : Cnf) (lits : List Int) (limit : Int) (s t : Value) (W : World) (hs : SlR eL allB W s F) (ht : SlR eI allB W t lits) (hll : lits.length ≤ 10000000) :
    Ret Try.prog 53 #[fv n s, t, .int .i64 limit] W (SeaR n F lits limit W) := by
  have x1 : Ext W (W.alloc (.cells #[.int .i64 n, s] 25)) := Ext.new _ _
  have hb := boxedAll W [.int .i64 n, s] 25
  have nothing : ∀ {w' : World}, Ext W w' → ¬ (fOk n F = true ∧ litsOk n lits = true ∧ 0 ≤ limit ∧ limit ≤ 3000) → SeaR n F lits limit W (.tuple #[.int .i64 0, .slice none 0 0, .int .i64 0]) w' := fun hx h => ⟨hx, ⟨0, [], 0, (0, .nil)⟩, (by unfold SeaO; rw [if_neg h]), .slice none 0 0, rfl, OwnR.nil _ _ _ _, fun b hb => hb.elim⟩
  refine ret_of_vc ties mixed Try.func53 rfl (by kernel_rfl) rfl rfl ?_
  refine ⟨[.int .i64 n, s], rfl, hb, ?_⟩
  refine Or.inl ((impl_FormulaOk n F s _ (hs.ext x1)).mono ?_)
  rintro _ w2 ⟨rfl, x2⟩
  have x12 := x1.trans x2
  cases hF : fOk n F with
  | false => exact nothing x12 (by simp [hF])
  | true =>
    have hn := fOk_n' hF
    refine ⟨_, (hb.ext x2).1, ?_⟩
    refine Or.inl ((impl_literalsOk lits t n _ (ht.ext x12) hn.1 hn.2.1).mono ?_)
    rintro _ w3 ⟨rfl, e⟩
    subst e
    cases hL : litsOk n lits with
    | false => exact nothing x12 (by simp [hL])
    | true =>
      have hlits := litsOk_iff.1 hL
      refine Or.inl ((limitOk_ret limit _).mono ?_)
      rintro _ _ ⟨rfl, rfl⟩
      refine br_ndec (fun h => ?_) (fun hlm => ?_)
      · exact nothing x12 fun h' => h h'.2.2
      obtain ⟨N, rfl⟩ : ∃ N : Nat, n = N := ⟨n.toNat, by omega⟩
      obtain ⟨m, rfl⟩ : ∃ m : Nat, limit = m := ⟨limit.toNat, by omega⟩
      refine ⟨[.int .i64 N, s], rfl, hb.ext x2, ?_⟩
      refine Or.inl ((newSolver_ret N F s _ (hs.ext x12) hF).mono ?_)
      rintro sp w4 ⟨x4, hS⟩
      have x14 := x12.trans x4
      refine Or.inl ((search_ret N F m lits t sp _ hS (ht.ext x14) hF hlits hll (by omega)).mono ?_)
      rintro _ w5 ⟨x5, o, hup, sv, rfl, hsv, hvb⟩
      refine ⟨x14.trans x5, _, ?_, sv, rfl, hsv, fun b hb => Nat.le_trans x14.size (hvb b hb)⟩
      unfold SeaO
      rw [if_pos ⟨hF, hL, hlm⟩]
      exact ⟨o, by rwa [Int.toNat_natCast], by rw [Int.toNat_natCast, Int.toNat_natCast]⟩

end Go.Proofs.Ytfmflffggcphjaa
