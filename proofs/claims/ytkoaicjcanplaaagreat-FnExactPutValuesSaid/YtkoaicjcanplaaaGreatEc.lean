/- EvalTerm (the program's). -/
import Derived.Test.YtkoaicjcanplaaaGreatEa
namespace Go.Vc
open Go Go.RowKit
variable {P : Program} {T : Tab} {o : Oper} {ρ : Fr} {K : Value → World → Prop} {w : World} {t k e : Nat} {r q : TRow} {x i : Operand} {c : Bool} {b : Nat} {s : ByteArray} {l : Al}
theorem raw_look {u : Value} (hT : Ties P T) (ho : o.op = .lookup t x i c) (hr : look T t = some r) (ha : r.agg = false) (hd : r.desc = .map k e) (hk : P.underlying k = some .string) (hq : look T e = some q)
    (hx : ev ρ x = .map (some b)) (hi : ev ρ i = .string s) (hm : MapAt w b l) (hu : (if c then .tuple #[(l.get s).getD q.zero, .bool (l.get s).isSome] else (l.get s).getD q.zero) = u) (hK : K u w) : Raw P o ρ w K :=
  ⟨.value u, _, w, exec_look hT ho hr ha hd hk hq hx hi hm hu, rfl, hK⟩
end Go.Vc
namespace Go.Proofs.YtkoaicjcanplaaaGreat
open Go Go.Vc Go.RowKit
set_option linter.unusedVariables false
/-- A map that holds a field of the first values. -/
def MapV (w : World) (m : Nat) (g : VLab → Int) (l : List VLab) : Prop := ∃ al, MapAt w m al ∧ ∀ s, al.get s = (fnd l s).map fun v => iv (g v)
theorem MapV.ext {w w' : World} {m : Nat} {g : VLab → Int} {l : List VLab} (x : Ext w w') (h : MapV w m g l) : MapV w' m g l := by
  obtain ⟨al, h1, h2⟩ := h
  exact ⟨al, h1.ext x, h2⟩
theorem MapV.chg {S : Nat → Prop} {w w' : World} {m : Nat} {g : VLab → Int} {l : List VLab} (hS : ¬ S m) (x : Chg S w w') (h : MapV w m g l) : MapV w' m g l := by
  obtain ⟨al, h1, h2⟩ := h
  exact ⟨al, h1.chg hS x, h2⟩
theorem MapV.new (w : World) (g : VLab → Int) : MapV (w.alloc (.map #[] 0)) w.heap.size g [] := ⟨[], MapAt.new w, fun s => rfl⟩
theorem MapV.lt {w : World} {m : Nat} {g : VLab → Int} {l : List VLab} (h : MapV w m g l) : m < w.heap.size := by
  obtain ⟨al, h1, h2⟩ := h
  exact h1.lt
end Go.Proofs.YtkoaicjcanplaaaGreat
