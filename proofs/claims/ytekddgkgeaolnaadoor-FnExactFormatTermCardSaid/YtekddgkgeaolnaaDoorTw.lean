/- Contracts of ValuesOk. (OPTIONAL) -/
import Derived.Test.YtekddgkgeaolnaaDoorTv
import Derived.Test.YtekddgkgeaolnaaDoorWd
namespace Go.Proofs.YtekddgkgeaolnaaDoor
open Go Go.Vc Go.RowKit

def less (a b : ByteArray) : Bool := Op.bytesLess a.toList b.toList
def vAt (l : List VLab) (i : Nat) : Bool :=
  match l[i]? with
  | none => true
  | some x => isNm x.name && wOk x.w x.n && (decide (i = 0) || match l[i - 1]? with
    | some y => less y.name x.name
    | none => true)
def vOk (l : List VLab) : Bool := decide (l.length ≤ 30) && (List.range l.length).all (vAt l)

theorem vOk_no {l : List VLab} {i : Nat} (hi : i < l.length) (h : vAt l i = false) : vOk l = false := by
  cases hv : vOk l with
  | false => rfl
  | true =>
    simp only [vOk, Bool.and_eq_true, List.all_eq_true, List.mem_range] at hv
    rw [hv.2 i hi] at h
    cases h

theorem vOk_all {l : List VLab} (h : ∀ i, i < l.length → vAt l i = true) : vOk l = decide (l.length ≤ 30) := by
  have : (List.range l.length).all (vAt l) = true := by
    rw [List.all_eq_true]
    exact fun i hi => h i (List.mem_range.1 hi)
  rw [vOk, this, Bool.and_true]

end Go.Proofs.YtekddgkgeaolnaaDoor
