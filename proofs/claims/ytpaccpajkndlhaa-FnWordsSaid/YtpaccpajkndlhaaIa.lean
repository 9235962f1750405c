/- Rows of numbers and of truths: contracts of sz, to, eq. (OPTIONAL) -/
import Derived.Test.YtpaccpajkndlhaaTt
import Derived.Test.YtpaccpajkndlhaaFa
namespace Go.Vc
open Go Go.RowKit
variable {α : Type}
/-- One more element at the end of a row that is being filled. -/

theorem RAt.fill {E : Rep α} {ok : Nat → Prop} {w : World} {B n o : Nat} {l : List α} {x : α} {cs : List Value} (hok : ∀ b, ok b → b ≠ B) (hr : Rmy w B n) (h : RAt E ok w l B 0) (hx : E.R ok w x cs) (ho : o = l.length * E.m)
    (hn : (l.length + 1) * E.m ≤ n) : RAt E ok (setCells w B o cs) (l ++ [x]) B 0 := by
  have hm := E.len hx
  have hch : Chg (fun b => b = B) w (setCells w B o cs) := Chg.setCells (S := fun b => b = B) rfl _ _ _
  have hk : ∀ x cs', E.R ok w x cs' → E.R ok (setCells w B o cs) x cs' := fun x cs' h => E.chg hok hch h
  refine RAt.app (RAt.keep hk (fun i _ h2 => setCells_other _ _ _ _ fun _ => .inl ?_) h) ⟨⟨cs, ?_, hk _ _ hx⟩, trivial⟩
  · rw [ho, Nat.mul_comm]; simp only; omega
  · have := setCells_at cs w o n hr (by rw [ho, hm]; rw [Nat.succ_mul] at hn; exact hn)
    rwa [Nat.mul_comm E.m, Nat.zero_add, ← ho]
/-- One element of a row is written anew. -/

theorem RAt.set {E : Rep α} {ok : Nat → Prop} {w : World} {B n o i : Nat} {l : List α} {x : α} {cs : List Value} (hok : ∀ b, ok b → b ≠ B) (hr : Rmy w B n) (h : RAt E ok w l B 0) (hx : E.R ok w x cs) (ho : o = i * E.m)
    (hi : i < l.length) (hn : l.length * E.m ≤ n) : RAt E ok (setCells w B o cs) (l.set i x) B 0 := by
  have hm := E.len hx
  have hch : Chg (fun b => b = B) w (setCells w B o cs) := Chg.setCells (S := fun b => b = B) rfl _ _ _
  have hk : ∀ x cs', E.R ok w x cs' → E.R ok (setCells w B o cs) x cs' := fun x cs' h => E.chg hok hch h
  have hin : (i + 1) * E.m ≤ l.length * E.m := Nat.mul_le_mul_right _ hi
  rw [Nat.succ_mul] at hin
  refine RAt.of fun j y hj => ?_
  by_cases e : i = j
  · subst e
    rw [List.getElem?_set_self hi] at hj
    cases hj
    refine ⟨cs, ?_, hk _ _ hx⟩
    have := setCells_at cs w o n hr (by rw [ho, hm]; omega)
    rwa [Nat.zero_add, ← ho]
  · rw [List.getElem?_set_ne e] at hj
    obtain ⟨ds, h1, h2⟩ := h.get hj
    refine ⟨ds, h1.keep fun q g1 g2 => setCells_other _ _ _ _ fun _ => ?_, hk _ _ h2⟩
    have hd := E.len h2
    simp only
    rw [ho, hm]
    rcases Nat.lt_or_gt_of_ne e with h3 | h3
    · have : (i + 1) * E.m ≤ j * E.m := Nat.mul_le_mul_right _ h3
      rw [Nat.succ_mul] at this
      omega
    · have : (j + 1) * E.m ≤ i * E.m := Nat.mul_le_mul_right _ h3
      rw [Nat.succ_mul] at this
      omega
/-- 'out = append(out, x)': a new row of one, then an append. -/

theorem raw_push {P : Program} {T : Tab} {E : Rep α} {ok : Nat → Prop} {w : World} {l : List α} {x : α} {cs : List Value} (hT : Ties P T) {o : Oper} {ρ : Fr} {K : Value → World → Prop} {c : Call} {t e : Nat} {X Y : Operand} {r q : TRow}
    (ho : o.op = .call c) (hc : c.callee = .builtin .append) (hat : c.argTypes.toList = [t, t]) (har : c.args.toList = [X, Y])
    (hr : look T t = some r) (ha : r.agg = false) (hd : r.desc = .slice e) (hq : look T e = some q) (hm : q.size = E.m) (hzs : q.zero.cells.toList.length = q.size)
    (hY : ev ρ Y = .slice (some ⟨w.heap.size, 0, none⟩) 1 1)
    (hs : OwnR E ok w (ev ρ X) l) (hx : E.R ok w x cs) (hok : ∀ b, ok b → ¬ blk (ev ρ X) b) (hbig : (l.length + 1) * q.bytes ≤ 140737488355328) (hlen : l.length + 1 ≤ 9223372036854775807)
    (hK : ∀ v w', OwnR E ok w' v (l ++ [x]) → Chg (blk (ev ρ X)) w w' → w.heap.size < w'.heap.size → (∀ b, blk v b → blk (ev ρ X) b ∨ w.heap.size < b ∧ b < w'.heap.size) → K v w') : Raw P o ρ (w.alloc (.cells cs.toArray e)) K := by
  have hx1 : Ext w (w.alloc (.cells cs.toArray e)) := Ext.new _ _
  refine raw_append (k := [x]) hT ho hc hat har hr ha hd hq hm hzs (hs.ext hx1) hok ⟨_, _, hY, .inr ⟨_, _, rfl, ⟨cs, boxedAll _ _ _, E.ext hx1 hx⟩, trivial⟩⟩ hbig hlen fun v w' h1 h2 h3 => hK v w' h1 ((Chg.of hx1).trans h2) ?_ fun b hb => ?_
  · exact Nat.lt_of_lt_of_le (by simp) h2.size
  · rcases h3 b hb with h | h
    · exact .inl h
    · exact .inr ⟨by have := h.1; simp at this; omega, h.2⟩

theorem OwnR.blk_lt {E : Rep α} {ok : Nat → Prop} {w : World} {s : Value} {l : List α} (h : OwnR E ok w s l) (hl : l.length ≠ 0) : ∀ b, blk s b → b < w.heap.size := by
  obtain ⟨a, c, rfl, h1, h2, h3⟩ := h
  obtain ⟨B, rfl, hr, _⟩ := h3.resolve_left (by omega)
  intro b hb
  cases hb
  have hp : 0 < c * E.m := Nat.mul_pos (by omega) E.pos
  obtain ⟨⟨u, hu⟩, _⟩ := hr 0 hp
  exact World.block_lt_of_cell? _ _ hu

theorem OwnR.lt {E : Rep α} {ok : Nat → Prop} {w : World} {s : Value} {l : List α} (h : OwnR E ok w s l) : OwnR E (fun b => ok b ∧ b < w.heap.size) w s l := by
  obtain ⟨a, c, h1, h2, h2', h3⟩ := h
  exact ⟨a, c, h1, h2, h2', h3.imp id fun ⟨B, g1, g2, g3⟩ => ⟨B, g1, g2, g3.lt⟩⟩

theorem noB_blk {s : Value} : ∀ b, (fun _ => False : Nat → Prop) b → ¬ blk s b := fun _ h => h.elim

theorem take_snoc {α : Type} {l : List α} {k : Nat} (h : k < l.length) : l.take (k + 1) = l.take k ++ [l[k]'h] := by
  rw [List.take_succ_eq_append_getElem h]

theorem noB_ne {B : Nat} : ∀ b, (fun _ => False : Nat → Prop) b → b ≠ B := fun _ h => h.elim

theorem take_all_eq {α : Type} {l m : List α} {k : Nat} (h : l.take k = m.take k) (h1 : l.length ≤ k) (h2 : m.length ≤ k) : l = m := by
  rw [List.take_of_length_le h1, List.take_of_length_le h2] at h; exact h

theorem take_step {α : Type} {l m : List α} {k : Nat} (h : l.take k = m.take k) (h1 : k < l.length) (h2 : k < m.length) (he : l[k]'h1 = m[k]'h2) : l.take (k + 1) = m.take (k + 1) := by
  rw [take_snoc h1, take_snoc h2, h, he]
end Go.Vc
namespace Go.Proofs.Ytpaccpajkndlhaa
open Go Go.Vc Go.RowKit

def eI : Rep Int := Rep.flat (fun x => [.int .i64 x]) 1 (fun _ => rfl) (fun _ => rfl) (by decide)

def eB : Rep Bool := Rep.flat (fun x => [.bool x]) 1 (fun _ => rfl) (fun _ => rfl) (by decide)

def eS : Rep ByteArray := Rep.flat (fun x => [.string x]) 1 (fun _ => rfl) (fun _ => rfl) (by decide)

def noB : Nat → Prop := fun _ => False

def allB : Nat → Prop := fun _ => True

def frB (W : World) : Nat → Prop := fun b => W.heap.size ≤ b

def inI (n : Int) : Prop := -9223372036854775808 ≤ n ∧ n ≤ 9223372036854775807

/-- A new row of one's own. -/
def NewR {α : Type} (E : Rep α) (ok : Nat → Prop) (W : World) (v : Value) (w' : World) (l : List α) : Prop := Ext W w' ∧ OwnR E ok w' v l ∧ ∀ b, blk v b → W.heap.size ≤ b

theorem NewR.sl {α : Type} {E : Rep α} {ok : Nat → Prop} {W w' : World} {v : Value} {l : List α} (h : NewR E ok W v w' l) : SlR E allB w' v l := h.2.1.sl (fun _ _ => trivial) (fun _ _ => trivial)

theorem toStringS_ret (l : List _) (s : Value) (W : World) (hs : SlR eS allB W s l) (hl1 : l.length ≤ 1048576) :
    Ret Try.prog 25 #[s] W (fun v w' => NewR eS noB W v w' l) := by
  have hlm : (maxLen : Int) ≤ 9223372036854775807 := by decide
  obtain ⟨a, c, rfl, hlc, hcm, hat⟩ := id hs
  refine ret_of_vc ties mixed Try.func25 rfl (by kernel_rfl) rfl rfl ?_
  refine ⟨⟨by omega, by omega, by omega, by show (16 : Int) * (l.length : Int) ≤ _; omega⟩, ?_⟩
  have room : Rmy (W.alloc (.cells (zs l.length [.string ByteArray.empty]).toArray 9)) W.heap.size l.length := by
    have := Rmy.new W (zs l.length [.string ByteArray.empty]) 9
    rwa [zs_length, List.length_singleton, Nat.mul_one] at this
  refine loop_rule (σ := Nat) [4] 8 22 (fun k => [.int .i64 k])
    (fun k w' => Ext W w' ∧ k ≤ l.length ∧ Rmy w' W.heap.size l.length ∧ RAt eS noB w' (l.take k) W.heap.size 0)
    (fun k => l.length - k) 0 rfl ⟨Ext.new _ _, Nat.zero_le _, room, trivial⟩ ?_
  rintro k w junk ⟨hx, hk, hr, hat'⟩ K hK
  refine br_dec (fun h3 => ?_) (fun h3 => ?_)
  · have hkl : k < l.length := by omega
    obtain ⟨b, o, c', cs, he, _, hc, rfl⟩ := hs.at hkl
    cases he
    refine ⟨⟨by omega, by omega⟩, _, (hc.ext hx).1, ⟨by omega, by omega⟩, hr _ (by show 0 + (k : Int).toNat * 1 < _; omega), ?_⟩
    refine ⟨_, IntWalk.i64_in _ (by omega), ?_⟩
    refine hK (k + 1) _ _ (vs1 (vint (by show (k : Int) + 1 = ((k + 1 : Nat) : Int); omega))) ⟨hx.set (Nat.le_refl _) _, by omega, hr.setCell, ?_⟩ (by omega) ?_
    · rw [take_snoc hkl]
      have hlen : (l.take k).length = k := by rw [List.length_take]; omega
      exact RAt.fill (cs := [_]) noB_ne hr hat' rfl (by rw [hlen]; show 0 + (k : Int).toNat * 1 = k * 1; omega) (by rw [hlen]; show (k + 1) * 1 ≤ _; omega)
    · ((repeat (first | (with_reducible exact Only.refl) | (with_reducible refine Only.skip ?_) | ((with_reducible refine Only.upd ?_ ?_); rfl) | ((with_reducible refine Only.over ?_ ?_ _); rfl) | ((with_reducible refine Only.hav ?_ ?_ ?_); rfl; rfl))))
  · have : k = l.length := by omega
    subst this
    rw [List.take_length] at hat'
    exact ⟨hx, ⟨_, _, rfl, Nat.le_refl _, by omega, .inr ⟨_, rfl, by rw [show (eS).m = 1 from rfl, Nat.mul_one]; exact hr, hat'⟩⟩, fun b hb => by cases hb; exact Nat.le_refl _⟩

theorem eqStringS_ret (l m : List _) (s t : Value) (W : World) (hs : SlR eS allB W s l) (ht : SlR eS allB W t m) :
    Ret Try.prog 27 #[s, t] W (fun v w' => v = .bool (decide (l = m)) ∧ Ext W w') := by
  have hlm : (maxLen : Int) ≤ 9223372036854775807 := by decide
  obtain ⟨a, c, rfl, hlc, hcm, hat⟩ := id hs
  obtain ⟨a', c', rfl, hlc', hcm', hat'⟩ := id ht
  refine ret_of_vc ties mixed Try.func27 rfl (by kernel_rfl) rfl rfl ?_
  refine br_dec (fun h => ?_) (fun h => ?_)
  · exact ⟨vbool (decide_eq_false fun e => h (by rw [e])).symm, Ext.refl _⟩
  have hlen : l.length = m.length := by omega
  refine loop_rule (σ := Nat) [5] 11 26 (fun k => [.int .i64 k])
    (fun k w' => Ext W w' ∧ k ≤ l.length ∧ l.take k = m.take k)
    (fun k => l.length - k) 0 rfl ⟨Ext.refl _, Nat.zero_le _, rfl⟩ ?_
  rintro k w junk ⟨hx, hk, htk⟩ K hK
  refine br_dec (fun h3 => ?_) (fun h3 => ?_)
  · have hkl : k < l.length := by omega
    have hkm : k < m.length := by omega
    obtain ⟨b, o, c1, cs, he, _, hc, rfl⟩ := hs.at hkl
    cases he
    obtain ⟨b', o', c1', cs', he', _, hc', rfl⟩ := ht.at hkm
    cases he'
    refine .inl ⟨by kernel_rfl, ?_⟩
    refine ⟨⟨by omega, by omega⟩, _, (hc.ext hx).1, ⟨by omega, by omega⟩, _, (hc'.ext hx).1, ?_⟩
    intro w4 hx4
    refine br_split (fun h5 => ?_) (fun h5 => ?_)
    · refine ⟨vbool (decide_eq_false fun e => ?_).symm, hx.trans hx4⟩
      subst e
      simp at h5
    · have he : l[k]'hkl = m[k]'hkm := by simpa using h5
      refine ⟨_, IntWalk.i64_in _ (by omega), ?_⟩
      refine hK (k + 1) _ _ (vs1 (vint (by show (k : Int) + 1 = ((k + 1 : Nat) : Int); omega))) ⟨hx.trans hx4, by omega, take_step htk hkl hkm he⟩ (by omega) ?_
      ((repeat (first | (with_reducible exact Only.refl) | (with_reducible refine Only.skip ?_) | ((with_reducible refine Only.upd ?_ ?_); rfl) | ((with_reducible refine Only.over ?_ ?_ _); rfl) | ((with_reducible refine Only.hav ?_ ?_ ?_); rfl; rfl))))
  · exact ⟨vbool (decide_eq_true (take_all_eq htk (by omega) (by omega))).symm, hx⟩

end Go.Proofs.Ytpaccpajkndlhaa
