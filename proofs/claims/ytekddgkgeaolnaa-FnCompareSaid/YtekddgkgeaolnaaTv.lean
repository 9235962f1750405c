/- Values (a name, a width, a number): contracts of szValueS, toValueS, eqValueS. (OPTIONAL) -/
import Derived.Test.YtekddgkgeaolnaaTt
import Derived.Test.YtekddgkgeaolnaaFl
import Derived.Test.YtekddgkgeaolnaaTa
namespace Go.Proofs.Ytekddgkgeaolnaa
open Go Go.Vc Go.RowKit

structure VLab where
  name : ByteArray
  w : Int
  n : Int
  deriving DecidableEq
def vlc (x : VLab) : List Value := [.string x.name, .int .i64 x.w, .int .i64 x.n]

theorem vlc_len (x : VLab) : (vlc x).length = 3 := rfl
def okV (x : VLab) : Prop := x.name.size ≤ maxLen ∧ inI x.w ∧ inI x.n
abbrev VSl (ok : Nat → Prop) (w : World) (s : Value) (l : List VLab) : Prop := LsSl vlc 3 ok w s l
def vwt : List VLab → Nat
  | [] => 0
  | x :: l => vwt l + 1 + x.name.size

theorem len_vwt : ∀ l : List VLab, l.length ≤ vwt l := by
  intro l
  induction l with
  | nil => exact Nat.le_refl _
  | cons x l ih => simp only [vwt, List.length_cons]; omega

end Go.Proofs.Ytekddgkgeaolnaa
