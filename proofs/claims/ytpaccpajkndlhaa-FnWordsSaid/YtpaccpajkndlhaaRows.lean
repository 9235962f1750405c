/-
  NARROWER THAN 'FOR EVERY INPUT', by the rows' own cells (each row's printed sentence says how): FnExactSizeOf: loops.
  DERIVED. THE GIVEN ROWS OF THIS SEAT. 6 by the template 'for every input the law returns true; each argument reads behind the call as it read before'; 0 by the template 'total and deterministic' (their statements: YtpaccpajkndlhaaTotals.lean).
  GIVEN WITH THE SEED: the statements are not yours to turn. If you find one false, say at which input.
  Laid BY PROGRAM, IN A SANDBOX (cutbox-rows.mjs): the forced cells as the released guide's own fill.sh prints them over the translation 3f13d1b785bc8d3b… (all of the seat's roots in one cut). By AI agents, Wed Nov 11 2026. No macro, syntax, notation, axiom, sorry.
-/
import Derived.Test.YtpaccpajkndlhaaChecked
import GoSem.Claim
import GoSem.ClaimJoined
import GoSem.ClaimMapViews
import Derived.JoinedTies
import Derived.KernelRfl
namespace Go.Proofs.Ytpaccpajkndlhaa
/- THE CELL 'sum', in the pinned program and in every row, IS THE sha256 OF THE DUMP (.gsa) THAT YtpaccpajkndlhaaProg.lean LOADS. Nothing in Lean hashes anything: it is a label: what it is worth is what the hold of that sum in a sandbox is worth. -/
noncomputable def Try.pinned : Pinned := { name := "ytpaccpajkndlhaa", sum := "3f13d1b785bc8d3b739a060bbba6290fbce4426c1f4cc96297e716255b2a7f20", checked := Try.checked }
namespace Rows
def none {H : Type} : Left H := { results := [], args := [] }

/-- 'laws.FnExactSizeOf': WHATEVER THE INPUT: true; the input reads as it did. -/
def fnExactSizeOfSpec : ChangeSpec := { name := "fnExactSizeOf", fn := fun _ => fun
  | [d] => { results := [.lit (.bool true)], args := [d] }
  | _ => none }
def fnExactSizeOfRow : OpenClaim := { program := "ytpaccpajkndlhaa", sum := "3f13d1b785bc8d3b739a060bbba6290fbce4426c1f4cc96297e716255b2a7f20", func := "loop.example/g03219/laws.FnExactSizeOf", spec := "fnExactSizeOf", recurses := true, loops := true, apart := false }
def FnExactSizeOfSaid : Prop := fnExactSizeOfRow.holds Try.pinned (OpenSpec.ofChange fnExactSizeOfSpec)

/-- ITS FALSE NEIGHBOUR: 'it returns false'. Refute it at one input. -/
def fnExactSizeOfWrong : ChangeSpec := { name := "fnExactSizeOf", fn := fun _ => fun
  | [d] => { results := [.lit (.bool false)], args := [d] }
  | _ => none }
def FnExactSizeOfWrongFalsely : Prop := fnExactSizeOfRow.holds Try.pinned (OpenSpec.ofChange fnExactSizeOfWrong)

/-- 'laws.FnExactValuesOk': WHATEVER THE INPUT: true; the input reads as it did. -/
def fnExactValuesOkSpec : ChangeSpec := { name := "fnExactValuesOk", fn := fun _ => fun
  | [d] => { results := [.lit (.bool true)], args := [d] }
  | _ => none }
def fnExactValuesOkRow : OpenClaim := { program := "ytpaccpajkndlhaa", sum := "3f13d1b785bc8d3b739a060bbba6290fbce4426c1f4cc96297e716255b2a7f20", func := "loop.example/g03219/laws.FnExactValuesOk", spec := "fnExactValuesOk", apart := false }
def FnExactValuesOkSaid : Prop := fnExactValuesOkRow.holds Try.pinned (OpenSpec.ofChange fnExactValuesOkSpec)

/-- ITS FALSE NEIGHBOUR: 'it returns false'. Refute it at one input. -/
def fnExactValuesOkWrong : ChangeSpec := { name := "fnExactValuesOk", fn := fun _ => fun
  | [d] => { results := [.lit (.bool false)], args := [d] }
  | _ => none }
def FnExactValuesOkWrongFalsely : Prop := fnExactValuesOkRow.holds Try.pinned (OpenSpec.ofChange fnExactValuesOkWrong)

/-- 'laws.FnExactConstTerm': WHATEVER THE INPUT: true; the input reads as it did. -/
def fnExactConstTermSpec : ChangeSpec := { name := "fnExactConstTerm", fn := fun _ => fun
  | [d1, d2] => { results := [.lit (.bool true)], args := [d1, d2] }
  | _ => none }
def fnExactConstTermRow : OpenClaim := { program := "ytpaccpajkndlhaa", sum := "3f13d1b785bc8d3b739a060bbba6290fbce4426c1f4cc96297e716255b2a7f20", func := "loop.example/g03219/laws.FnExactConstTerm", spec := "fnExactConstTerm", recurses := true, apart := false }
def FnExactConstTermSaid : Prop := fnExactConstTermRow.holds Try.pinned (OpenSpec.ofChange fnExactConstTermSpec)

/-- ITS FALSE NEIGHBOUR: 'it returns false'. Refute it at one input. -/
def fnExactConstTermWrong : ChangeSpec := { name := "fnExactConstTerm", fn := fun _ => fun
  | [d1, d2] => { results := [.lit (.bool false)], args := [d1, d2] }
  | _ => none }
def FnExactConstTermWrongFalsely : Prop := fnExactConstTermRow.holds Try.pinned (OpenSpec.ofChange fnExactConstTermWrong)

/-- 'laws.FnExactJoin': WHATEVER THE INPUT: true; the input reads as it did. -/
def fnExactJoinSpec : ChangeSpec := { name := "fnExactJoin", fn := fun _ => fun
  | [d1, d2] => { results := [.lit (.bool true)], args := [d1, d2] }
  | _ => none }
def fnExactJoinRow : OpenClaim := { program := "ytpaccpajkndlhaa", sum := "3f13d1b785bc8d3b739a060bbba6290fbce4426c1f4cc96297e716255b2a7f20", func := "loop.example/g03219/laws.FnExactJoin", spec := "fnExactJoin", inPlace := ["internal/abi.NoEscape", "internal/bytealg.MakeNoZero"], apart := false }
def FnExactJoinSaid : Prop := fnExactJoinRow.holds Try.pinned (OpenSpec.ofChange fnExactJoinSpec)

/-- ITS FALSE NEIGHBOUR: 'it returns false'. Refute it at one input. -/
def fnExactJoinWrong : ChangeSpec := { name := "fnExactJoin", fn := fun _ => fun
  | [d1, d2] => { results := [.lit (.bool false)], args := [d1, d2] }
  | _ => none }
def FnExactJoinWrongFalsely : Prop := fnExactJoinRow.holds Try.pinned (OpenSpec.ofChange fnExactJoinWrong)

/-- 'laws.FnExactVarTerm': WHATEVER THE INPUT: true; the input reads as it did. -/
def fnExactVarTermSpec : ChangeSpec := { name := "fnExactVarTerm", fn := fun _ => fun
  | [d1, d2] => { results := [.lit (.bool true)], args := [d1, d2] }
  | _ => none }
def fnExactVarTermRow : OpenClaim := { program := "ytpaccpajkndlhaa", sum := "3f13d1b785bc8d3b739a060bbba6290fbce4426c1f4cc96297e716255b2a7f20", func := "loop.example/g03219/laws.FnExactVarTerm", spec := "fnExactVarTerm", recurses := true, apart := false }
def FnExactVarTermSaid : Prop := fnExactVarTermRow.holds Try.pinned (OpenSpec.ofChange fnExactVarTermSpec)

/-- ITS FALSE NEIGHBOUR: 'it returns false'. Refute it at one input. -/
def fnExactVarTermWrong : ChangeSpec := { name := "fnExactVarTerm", fn := fun _ => fun
  | [d1, d2] => { results := [.lit (.bool false)], args := [d1, d2] }
  | _ => none }
def FnExactVarTermWrongFalsely : Prop := fnExactVarTermRow.holds Try.pinned (OpenSpec.ofChange fnExactVarTermWrong)

/-- 'laws.FnWords': WHATEVER THE INPUT: true; the input reads as it did. -/
def fnWordsSpec : ChangeSpec := { name := "fnWords", fn := fun _ => fun
  | [d] => { results := [.lit (.bool true)], args := [d] }
  | _ => none }
def fnWordsRow : OpenClaim := { program := "ytpaccpajkndlhaa", sum := "3f13d1b785bc8d3b739a060bbba6290fbce4426c1f4cc96297e716255b2a7f20", func := "loop.example/g03219/laws.FnWords", spec := "fnWords", apart := false }
def FnWordsSaid : Prop := fnWordsRow.holds Try.pinned (OpenSpec.ofChange fnWordsSpec)

/-- ITS FALSE NEIGHBOUR: 'it returns false'. Refute it at one input. -/
def fnWordsWrong : ChangeSpec := { name := "fnWords", fn := fun _ => fun
  | [d] => { results := [.lit (.bool false)], args := [d] }
  | _ => none }
def FnWordsWrongFalsely : Prop := fnWordsRow.holds Try.pinned (OpenSpec.ofChange fnWordsWrong)

/- THE SECOND FORM. 'bulk': how many values and letters a reading holds, each counted each time it is reached (what is shared counts as often as it is met; a slice's spare places count too). A statement '..UptoSaid' is the law's where the arguments, and the package variables that the reading takes, are together of bulk at most 1048576: NARROWER than '..Said'. Prove '..Said' where nothing that the law and all that it calls make is longer than what came in: it says more and counts as full. Else prove '..UptoSaid'. A law counts once. -/
mutual
def uptoBulk {H : Type} : DataW H → Nat
  | .lit (.string bytes) => bytes.length + 1
  | .lit _ => 1
  | .nil => 1
  | .ptr d => uptoBulk d + 1
  | .slice elems spare => uptoBulkAll elems + uptoBulkAll spare + 1
  | .agg parts => uptoBulkAll parts + 1
  | .iface _ d => uptoBulk d + 1
  | .map entries => uptoBulkEntries entries + 1
  | .held _ => 1
def uptoBulkAll {H : Type} : List (DataW H) → Nat
  | [] => 0
  | d :: r => uptoBulk d + uptoBulkAll r
def uptoBulkEntries {H : Type} : List (Lit × DataW H) → Nat
  | [] => 0
  | x :: r => uptoBulkEntry x + uptoBulkEntries r
def uptoBulkEntry {H : Type} : Lit × DataW H → Nat
  | (.string bytes, d) => bytes.length + uptoBulk d + 1
  | (_, d) => uptoBulk d + 1
 end
def uptoSmall : (H : Type) → List (DataW H) → Bool := fun _ ds => decide (uptoBulkAll ds ≤ 1048576)
def OpenSpec.upto (s : _root_.Go.ChangeSpec) : _root_.Go.OpenSpec := { _root_.Go.OpenSpec.ofChange s with cond := some uptoSmall }

/-- 'laws.FnExactSizeOf', WHERE WHAT IT READS IS OF BULK AT MOST 1048576: true; the input reads as it did. -/
def fnExactSizeOfUptoRow : OpenClaim := { program := "ytpaccpajkndlhaa", sum := "3f13d1b785bc8d3b739a060bbba6290fbce4426c1f4cc96297e716255b2a7f20", func := "loop.example/g03219/laws.FnExactSizeOf", spec := "fnExactSizeOf", recurses := true, loops := true, apart := false, narrowed := true }
def FnExactSizeOfUptoSaid : Prop := fnExactSizeOfUptoRow.holds Try.pinned (OpenSpec.upto fnExactSizeOfSpec)

/-- 'laws.FnExactValuesOk', WHERE WHAT IT READS IS OF BULK AT MOST 1048576: true; the input reads as it did. -/
def fnExactValuesOkUptoRow : OpenClaim := { program := "ytpaccpajkndlhaa", sum := "3f13d1b785bc8d3b739a060bbba6290fbce4426c1f4cc96297e716255b2a7f20", func := "loop.example/g03219/laws.FnExactValuesOk", spec := "fnExactValuesOk", apart := false, narrowed := true }
def FnExactValuesOkUptoSaid : Prop := fnExactValuesOkUptoRow.holds Try.pinned (OpenSpec.upto fnExactValuesOkSpec)

/-- 'laws.FnExactConstTerm', WHERE WHAT IT READS IS OF BULK AT MOST 1048576: true; the input reads as it did. -/
def fnExactConstTermUptoRow : OpenClaim := { program := "ytpaccpajkndlhaa", sum := "3f13d1b785bc8d3b739a060bbba6290fbce4426c1f4cc96297e716255b2a7f20", func := "loop.example/g03219/laws.FnExactConstTerm", spec := "fnExactConstTerm", recurses := true, apart := false, narrowed := true }
def FnExactConstTermUptoSaid : Prop := fnExactConstTermUptoRow.holds Try.pinned (OpenSpec.upto fnExactConstTermSpec)

/-- 'laws.FnExactJoin', WHERE WHAT IT READS IS OF BULK AT MOST 1048576: true; the input reads as it did. -/
def fnExactJoinUptoRow : OpenClaim := { program := "ytpaccpajkndlhaa", sum := "3f13d1b785bc8d3b739a060bbba6290fbce4426c1f4cc96297e716255b2a7f20", func := "loop.example/g03219/laws.FnExactJoin", spec := "fnExactJoin", inPlace := ["internal/abi.NoEscape", "internal/bytealg.MakeNoZero"], apart := false, narrowed := true }
def FnExactJoinUptoSaid : Prop := fnExactJoinUptoRow.holds Try.pinned (OpenSpec.upto fnExactJoinSpec)

/-- 'laws.FnExactVarTerm', WHERE WHAT IT READS IS OF BULK AT MOST 1048576: true; the input reads as it did. -/
def fnExactVarTermUptoRow : OpenClaim := { program := "ytpaccpajkndlhaa", sum := "3f13d1b785bc8d3b739a060bbba6290fbce4426c1f4cc96297e716255b2a7f20", func := "loop.example/g03219/laws.FnExactVarTerm", spec := "fnExactVarTerm", recurses := true, apart := false, narrowed := true }
def FnExactVarTermUptoSaid : Prop := fnExactVarTermUptoRow.holds Try.pinned (OpenSpec.upto fnExactVarTermSpec)

/-- 'laws.FnWords', WHERE WHAT IT READS IS OF BULK AT MOST 1048576: true; the input reads as it did. -/
def fnWordsUptoRow : OpenClaim := { program := "ytpaccpajkndlhaa", sum := "3f13d1b785bc8d3b739a060bbba6290fbce4426c1f4cc96297e716255b2a7f20", func := "loop.example/g03219/laws.FnWords", spec := "fnWords", apart := false, narrowed := true }
def FnWordsUptoSaid : Prop := fnWordsUptoRow.holds Try.pinned (OpenSpec.upto fnWordsSpec)

end Rows
end Go.Proofs.Ytpaccpajkndlhaa
