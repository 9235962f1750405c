/-
  NARROWER THAN 'FOR EVERY INPUT', by the rows' own cells (each row's printed sentence says how): FnExactProofSize: loops · FnExactCheckProof: loops · FnExactTrimProof: loops.
  DERIVED. THE GIVEN ROWS OF THIS SEAT. 18 by the template 'for every input the law returns true; each argument reads behind the call as it read before'; 0 by the template 'total and deterministic' (their statements: YtfmflffggcphjaaTotals.lean).
  GIVEN WITH THE SEED: the statements are not yours to turn. If you find one false, say at which input.
  Laid BY PROGRAM, IN A SANDBOX (cutbox-rows.mjs): the forced cells as the released guide's own fill.sh prints them over the translation fe226577b39f5b8b… (all of the seat's roots in one cut). By AI agents, Wed Nov 11 2026. No macro, syntax, notation, axiom, sorry.
-/
import Derived.Test.YtfmflffggcphjaaChecked
import GoSem.Claim
import GoSem.ClaimJoined
import GoSem.ClaimMapViews
import Derived.JoinedTies
import Derived.KernelRfl
namespace Go.Proofs.Ytfmflffggcphjaa
/- THE CELL 'sum', in the pinned program and in every row, IS THE sha256 OF THE DUMP (.gsa) THAT YtfmflffggcphjaaProg.lean LOADS. Nothing in Lean hashes anything: it is a label: what it is worth is what the hold of that sum in a sandbox is worth. -/
noncomputable def Try.pinned : Pinned := { name := "ytfmflffggcphjaa", sum := "fe226577b39f5b8b962867f146e9a9bb45386a320ba612ec8f1a3e28c396b10c", checked := Try.checked }
namespace Rows
def none {H : Type} : Left H := { results := [], args := [] }

/-- 'laws.FnCores': WHATEVER THE INPUT: true; the input reads as it did. -/
def fnCoresSpec : ChangeSpec := { name := "fnCores", fn := fun _ => fun
  | [d] => { results := [.lit (.bool true)], args := [d] }
  | _ => none }
def fnCoresRow : OpenClaim := { program := "ytfmflffggcphjaa", sum := "fe226577b39f5b8b962867f146e9a9bb45386a320ba612ec8f1a3e28c396b10c", func := "loop.example/g03219/laws.FnCores", spec := "fnCores", recurses := true, apart := false }
def FnCoresSaid : Prop := fnCoresRow.holds Try.pinned (OpenSpec.ofChange fnCoresSpec)

/-- ITS FALSE NEIGHBOUR: 'it returns false'. Refute it at one input. -/
def fnCoresWrong : ChangeSpec := { name := "fnCores", fn := fun _ => fun
  | [d] => { results := [.lit (.bool false)], args := [d] }
  | _ => none }
def FnCoresWrongFalsely : Prop := fnCoresRow.holds Try.pinned (OpenSpec.ofChange fnCoresWrong)

/-- 'laws.FnExactProofSize': WHATEVER THE INPUT: true; the input reads as it did. -/
def fnExactProofSizeSpec : ChangeSpec := { name := "fnExactProofSize", fn := fun _ => fun
  | [d] => { results := [.lit (.bool true)], args := [d] }
  | _ => none }
def fnExactProofSizeRow : OpenClaim := { program := "ytfmflffggcphjaa", sum := "fe226577b39f5b8b962867f146e9a9bb45386a320ba612ec8f1a3e28c396b10c", func := "loop.example/g03219/laws.FnExactProofSize", spec := "fnExactProofSize", recurses := true, loops := true, apart := false }
def FnExactProofSizeSaid : Prop := fnExactProofSizeRow.holds Try.pinned (OpenSpec.ofChange fnExactProofSizeSpec)

/-- ITS FALSE NEIGHBOUR: 'it returns false'. Refute it at one input. -/
def fnExactProofSizeWrong : ChangeSpec := { name := "fnExactProofSize", fn := fun _ => fun
  | [d] => { results := [.lit (.bool false)], args := [d] }
  | _ => none }
def FnExactProofSizeWrongFalsely : Prop := fnExactProofSizeRow.holds Try.pinned (OpenSpec.ofChange fnExactProofSizeWrong)

/-- 'laws.FnProofs': WHATEVER THE INPUT: true; the input reads as it did. -/
def fnProofsSpec : ChangeSpec := { name := "fnProofs", fn := fun _ => fun
  | [d] => { results := [.lit (.bool true)], args := [d] }
  | _ => none }
def fnProofsRow : OpenClaim := { program := "ytfmflffggcphjaa", sum := "fe226577b39f5b8b962867f146e9a9bb45386a320ba612ec8f1a3e28c396b10c", func := "loop.example/g03219/laws.FnProofs", spec := "fnProofs", recurses := true, apart := false }
def FnProofsSaid : Prop := fnProofsRow.holds Try.pinned (OpenSpec.ofChange fnProofsSpec)

/-- ITS FALSE NEIGHBOUR: 'it returns false'. Refute it at one input. -/
def fnProofsWrong : ChangeSpec := { name := "fnProofs", fn := fun _ => fun
  | [d] => { results := [.lit (.bool false)], args := [d] }
  | _ => none }
def FnProofsWrongFalsely : Prop := fnProofsRow.holds Try.pinned (OpenSpec.ofChange fnProofsWrong)

/-- 'laws.FnExactFormulaOk': WHATEVER THE INPUT: true; the input reads as it did. -/
def fnExactFormulaOkSpec : ChangeSpec := { name := "fnExactFormulaOk", fn := fun _ => fun
  | [d] => { results := [.lit (.bool true)], args := [d] }
  | _ => none }
def fnExactFormulaOkRow : OpenClaim := { program := "ytfmflffggcphjaa", sum := "fe226577b39f5b8b962867f146e9a9bb45386a320ba612ec8f1a3e28c396b10c", func := "loop.example/g03219/laws.FnExactFormulaOk", spec := "fnExactFormulaOk", apart := false }
def FnExactFormulaOkSaid : Prop := fnExactFormulaOkRow.holds Try.pinned (OpenSpec.ofChange fnExactFormulaOkSpec)

/-- ITS FALSE NEIGHBOUR: 'it returns false'. Refute it at one input. -/
def fnExactFormulaOkWrong : ChangeSpec := { name := "fnExactFormulaOk", fn := fun _ => fun
  | [d] => { results := [.lit (.bool false)], args := [d] }
  | _ => none }
def FnExactFormulaOkWrongFalsely : Prop := fnExactFormulaOkRow.holds Try.pinned (OpenSpec.ofChange fnExactFormulaOkWrong)

/-- 'laws.FnExactEvalFormula': WHATEVER THE INPUT: true; the input reads as it did. -/
def fnExactEvalFormulaSpec : ChangeSpec := { name := "fnExactEvalFormula", fn := fun _ => fun
  | [d1, d2] => { results := [.lit (.bool true)], args := [d1, d2] }
  | _ => none }
def fnExactEvalFormulaRow : OpenClaim := { program := "ytfmflffggcphjaa", sum := "fe226577b39f5b8b962867f146e9a9bb45386a320ba612ec8f1a3e28c396b10c", func := "loop.example/g03219/laws.FnExactEvalFormula", spec := "fnExactEvalFormula", apart := false }
def FnExactEvalFormulaSaid : Prop := fnExactEvalFormulaRow.holds Try.pinned (OpenSpec.ofChange fnExactEvalFormulaSpec)

/-- ITS FALSE NEIGHBOUR: 'it returns false'. Refute it at one input. -/
def fnExactEvalFormulaWrong : ChangeSpec := { name := "fnExactEvalFormula", fn := fun _ => fun
  | [d1, d2] => { results := [.lit (.bool false)], args := [d1, d2] }
  | _ => none }
def FnExactEvalFormulaWrongFalsely : Prop := fnExactEvalFormulaRow.holds Try.pinned (OpenSpec.ofChange fnExactEvalFormulaWrong)

/-- 'laws.FnExactCountModels': WHATEVER THE INPUT: true; the input reads as it did. -/
def fnExactCountModelsSpec : ChangeSpec := { name := "fnExactCountModels", fn := fun _ => fun
  | [d] => { results := [.lit (.bool true)], args := [d] }
  | _ => none }
def fnExactCountModelsRow : OpenClaim := { program := "ytfmflffggcphjaa", sum := "fe226577b39f5b8b962867f146e9a9bb45386a320ba612ec8f1a3e28c396b10c", func := "loop.example/g03219/laws.FnExactCountModels", spec := "fnExactCountModels", apart := false }
def FnExactCountModelsSaid : Prop := fnExactCountModelsRow.holds Try.pinned (OpenSpec.ofChange fnExactCountModelsSpec)

/-- ITS FALSE NEIGHBOUR: 'it returns false'. Refute it at one input. -/
def fnExactCountModelsWrong : ChangeSpec := { name := "fnExactCountModels", fn := fun _ => fun
  | [d] => { results := [.lit (.bool false)], args := [d] }
  | _ => none }
def FnExactCountModelsWrongFalsely : Prop := fnExactCountModelsRow.holds Try.pinned (OpenSpec.ofChange fnExactCountModelsWrong)

/-- 'laws.FnPropagate': WHATEVER THE INPUT: true; the input reads as it did. -/
def fnPropagateSpec : ChangeSpec := { name := "fnPropagate", fn := fun _ => fun
  | [d] => { results := [.lit (.bool true)], args := [d] }
  | _ => none }
def fnPropagateRow : OpenClaim := { program := "ytfmflffggcphjaa", sum := "fe226577b39f5b8b962867f146e9a9bb45386a320ba612ec8f1a3e28c396b10c", func := "loop.example/g03219/laws.FnPropagate", spec := "fnPropagate", apart := false }
def FnPropagateSaid : Prop := fnPropagateRow.holds Try.pinned (OpenSpec.ofChange fnPropagateSpec)

/-- ITS FALSE NEIGHBOUR: 'it returns false'. Refute it at one input. -/
def fnPropagateWrong : ChangeSpec := { name := "fnPropagate", fn := fun _ => fun
  | [d] => { results := [.lit (.bool false)], args := [d] }
  | _ => none }
def FnPropagateWrongFalsely : Prop := fnPropagateRow.holds Try.pinned (OpenSpec.ofChange fnPropagateWrong)

/-- 'laws.FnExactPropagate': WHATEVER THE INPUT: true; the input reads as it did. -/
def fnExactPropagateSpec : ChangeSpec := { name := "fnExactPropagate", fn := fun _ => fun
  | [d1, d2] => { results := [.lit (.bool true)], args := [d1, d2] }
  | _ => none }
def fnExactPropagateRow : OpenClaim := { program := "ytfmflffggcphjaa", sum := "fe226577b39f5b8b962867f146e9a9bb45386a320ba612ec8f1a3e28c396b10c", func := "loop.example/g03219/laws.FnExactPropagate", spec := "fnExactPropagate", apart := false }
def FnExactPropagateSaid : Prop := fnExactPropagateRow.holds Try.pinned (OpenSpec.ofChange fnExactPropagateSpec)

/-- ITS FALSE NEIGHBOUR: 'it returns false'. Refute it at one input. -/
def fnExactPropagateWrong : ChangeSpec := { name := "fnExactPropagate", fn := fun _ => fun
  | [d1, d2] => { results := [.lit (.bool false)], args := [d1, d2] }
  | _ => none }
def FnExactPropagateWrongFalsely : Prop := fnExactPropagateRow.holds Try.pinned (OpenSpec.ofChange fnExactPropagateWrong)

/-- 'laws.FnSearch': WHATEVER THE INPUT: true; the input reads as it did. -/
def fnSearchSpec : ChangeSpec := { name := "fnSearch", fn := fun _ => fun
  | [d] => { results := [.lit (.bool true)], args := [d] }
  | _ => none }
def fnSearchRow : OpenClaim := { program := "ytfmflffggcphjaa", sum := "fe226577b39f5b8b962867f146e9a9bb45386a320ba612ec8f1a3e28c396b10c", func := "loop.example/g03219/laws.FnSearch", spec := "fnSearch", recurses := true, apart := false }
def FnSearchSaid : Prop := fnSearchRow.holds Try.pinned (OpenSpec.ofChange fnSearchSpec)

/-- ITS FALSE NEIGHBOUR: 'it returns false'. Refute it at one input. -/
def fnSearchWrong : ChangeSpec := { name := "fnSearch", fn := fun _ => fun
  | [d] => { results := [.lit (.bool false)], args := [d] }
  | _ => none }
def FnSearchWrongFalsely : Prop := fnSearchRow.holds Try.pinned (OpenSpec.ofChange fnSearchWrong)

/-- 'laws.FnExactCheckProof': WHATEVER THE INPUT: true; the input reads as it did. -/
def fnExactCheckProofSpec : ChangeSpec := { name := "fnExactCheckProof", fn := fun _ => fun
  | [d1, d2, d3] => { results := [.lit (.bool true)], args := [d1, d2, d3] }
  | _ => none }
def fnExactCheckProofRow : OpenClaim := { program := "ytfmflffggcphjaa", sum := "fe226577b39f5b8b962867f146e9a9bb45386a320ba612ec8f1a3e28c396b10c", func := "loop.example/g03219/laws.FnExactCheckProof", spec := "fnExactCheckProof", recurses := true, loops := true, apart := false }
def FnExactCheckProofSaid : Prop := fnExactCheckProofRow.holds Try.pinned (OpenSpec.ofChange fnExactCheckProofSpec)

/-- ITS FALSE NEIGHBOUR: 'it returns false'. Refute it at one input. -/
def fnExactCheckProofWrong : ChangeSpec := { name := "fnExactCheckProof", fn := fun _ => fun
  | [d1, d2, d3] => { results := [.lit (.bool false)], args := [d1, d2, d3] }
  | _ => none }
def FnExactCheckProofWrongFalsely : Prop := fnExactCheckProofRow.holds Try.pinned (OpenSpec.ofChange fnExactCheckProofWrong)

/-- 'laws.FnExactImplied': WHATEVER THE INPUT: true; the input reads as it did. -/
def fnExactImpliedSpec : ChangeSpec := { name := "fnExactImplied", fn := fun _ => fun
  | [d1, d2, d3] => { results := [.lit (.bool true)], args := [d1, d2, d3] }
  | _ => none }
def fnExactImpliedRow : OpenClaim := { program := "ytfmflffggcphjaa", sum := "fe226577b39f5b8b962867f146e9a9bb45386a320ba612ec8f1a3e28c396b10c", func := "loop.example/g03219/laws.FnExactImplied", spec := "fnExactImplied", recurses := true, apart := false }
def FnExactImpliedSaid : Prop := fnExactImpliedRow.holds Try.pinned (OpenSpec.ofChange fnExactImpliedSpec)

/-- ITS FALSE NEIGHBOUR: 'it returns false'. Refute it at one input. -/
def fnExactImpliedWrong : ChangeSpec := { name := "fnExactImplied", fn := fun _ => fun
  | [d1, d2, d3] => { results := [.lit (.bool false)], args := [d1, d2, d3] }
  | _ => none }
def FnExactImpliedWrongFalsely : Prop := fnExactImpliedRow.holds Try.pinned (OpenSpec.ofChange fnExactImpliedWrong)

/-- 'laws.FnExactSearch': WHATEVER THE INPUT: true; the input reads as it did. -/
def fnExactSearchSpec : ChangeSpec := { name := "fnExactSearch", fn := fun _ => fun
  | [d1, d2, d3] => { results := [.lit (.bool true)], args := [d1, d2, d3] }
  | _ => none }
def fnExactSearchRow : OpenClaim := { program := "ytfmflffggcphjaa", sum := "fe226577b39f5b8b962867f146e9a9bb45386a320ba612ec8f1a3e28c396b10c", func := "loop.example/g03219/laws.FnExactSearch", spec := "fnExactSearch", recurses := true, apart := false }
def FnExactSearchSaid : Prop := fnExactSearchRow.holds Try.pinned (OpenSpec.ofChange fnExactSearchSpec)

/-- ITS FALSE NEIGHBOUR: 'it returns false'. Refute it at one input. -/
def fnExactSearchWrong : ChangeSpec := { name := "fnExactSearch", fn := fun _ => fun
  | [d1, d2, d3] => { results := [.lit (.bool false)], args := [d1, d2, d3] }
  | _ => none }
def FnExactSearchWrongFalsely : Prop := fnExactSearchRow.holds Try.pinned (OpenSpec.ofChange fnExactSearchWrong)

/-- 'laws.FnExactProofOf': WHATEVER THE INPUT: true; the input reads as it did. -/
def fnExactProofOfSpec : ChangeSpec := { name := "fnExactProofOf", fn := fun _ => fun
  | [d1, d2] => { results := [.lit (.bool true)], args := [d1, d2] }
  | _ => none }
def fnExactProofOfRow : OpenClaim := { program := "ytfmflffggcphjaa", sum := "fe226577b39f5b8b962867f146e9a9bb45386a320ba612ec8f1a3e28c396b10c", func := "loop.example/g03219/laws.FnExactProofOf", spec := "fnExactProofOf", recurses := true, apart := false }
def FnExactProofOfSaid : Prop := fnExactProofOfRow.holds Try.pinned (OpenSpec.ofChange fnExactProofOfSpec)

/-- ITS FALSE NEIGHBOUR: 'it returns false'. Refute it at one input. -/
def fnExactProofOfWrong : ChangeSpec := { name := "fnExactProofOf", fn := fun _ => fun
  | [d1, d2] => { results := [.lit (.bool false)], args := [d1, d2] }
  | _ => none }
def FnExactProofOfWrongFalsely : Prop := fnExactProofOfRow.holds Try.pinned (OpenSpec.ofChange fnExactProofOfWrong)

/-- 'laws.FnExactCoreOf': WHATEVER THE INPUT: true; the input reads as it did. -/
def fnExactCoreOfSpec : ChangeSpec := { name := "fnExactCoreOf", fn := fun _ => fun
  | [d1, d2] => { results := [.lit (.bool true)], args := [d1, d2] }
  | _ => none }
def fnExactCoreOfRow : OpenClaim := { program := "ytfmflffggcphjaa", sum := "fe226577b39f5b8b962867f146e9a9bb45386a320ba612ec8f1a3e28c396b10c", func := "loop.example/g03219/laws.FnExactCoreOf", spec := "fnExactCoreOf", recurses := true, apart := false }
def FnExactCoreOfSaid : Prop := fnExactCoreOfRow.holds Try.pinned (OpenSpec.ofChange fnExactCoreOfSpec)

/-- ITS FALSE NEIGHBOUR: 'it returns false'. Refute it at one input. -/
def fnExactCoreOfWrong : ChangeSpec := { name := "fnExactCoreOf", fn := fun _ => fun
  | [d1, d2] => { results := [.lit (.bool false)], args := [d1, d2] }
  | _ => none }
def FnExactCoreOfWrongFalsely : Prop := fnExactCoreOfRow.holds Try.pinned (OpenSpec.ofChange fnExactCoreOfWrong)

/-- 'laws.FnExactTrimProof': WHATEVER THE INPUT: true; the input reads as it did. -/
def fnExactTrimProofSpec : ChangeSpec := { name := "fnExactTrimProof", fn := fun _ => fun
  | [d1, d2] => { results := [.lit (.bool true)], args := [d1, d2] }
  | _ => none }
def fnExactTrimProofRow : OpenClaim := { program := "ytfmflffggcphjaa", sum := "fe226577b39f5b8b962867f146e9a9bb45386a320ba612ec8f1a3e28c396b10c", func := "loop.example/g03219/laws.FnExactTrimProof", spec := "fnExactTrimProof", recurses := true, loops := true, apart := false }
def FnExactTrimProofSaid : Prop := fnExactTrimProofRow.holds Try.pinned (OpenSpec.ofChange fnExactTrimProofSpec)

/-- ITS FALSE NEIGHBOUR: 'it returns false'. Refute it at one input. -/
def fnExactTrimProofWrong : ChangeSpec := { name := "fnExactTrimProof", fn := fun _ => fun
  | [d1, d2] => { results := [.lit (.bool false)], args := [d1, d2] }
  | _ => none }
def FnExactTrimProofWrongFalsely : Prop := fnExactTrimProofRow.holds Try.pinned (OpenSpec.ofChange fnExactTrimProofWrong)

/-- 'laws.FnExactMakeClause': WHATEVER THE INPUT: true; the input reads as it did. -/
def fnExactMakeClauseSpec : ChangeSpec := { name := "fnExactMakeClause", fn := fun _ => fun
  | [d] => { results := [.lit (.bool true)], args := [d] }
  | _ => none }
def fnExactMakeClauseRow : OpenClaim := { program := "ytfmflffggcphjaa", sum := "fe226577b39f5b8b962867f146e9a9bb45386a320ba612ec8f1a3e28c396b10c", func := "loop.example/g03219/laws.FnExactMakeClause", spec := "fnExactMakeClause", unfollowed := true, recurses := true, apart := false }
def FnExactMakeClauseSaid : Prop := fnExactMakeClauseRow.holds Try.pinned (OpenSpec.ofChange fnExactMakeClauseSpec)

/-- ITS FALSE NEIGHBOUR: 'it returns false'. Refute it at one input. -/
def fnExactMakeClauseWrong : ChangeSpec := { name := "fnExactMakeClause", fn := fun _ => fun
  | [d] => { results := [.lit (.bool false)], args := [d] }
  | _ => none }
def FnExactMakeClauseWrongFalsely : Prop := fnExactMakeClauseRow.holds Try.pinned (OpenSpec.ofChange fnExactMakeClauseWrong)

/-- 'laws.FnExactResolve': WHATEVER THE INPUT: true; the input reads as it did. -/
def fnExactResolveSpec : ChangeSpec := { name := "fnExactResolve", fn := fun _ => fun
  | [d1, d2, d3] => { results := [.lit (.bool true)], args := [d1, d2, d3] }
  | _ => none }
def fnExactResolveRow : OpenClaim := { program := "ytfmflffggcphjaa", sum := "fe226577b39f5b8b962867f146e9a9bb45386a320ba612ec8f1a3e28c396b10c", func := "loop.example/g03219/laws.FnExactResolve", spec := "fnExactResolve", unfollowed := true, recurses := true, apart := false }
def FnExactResolveSaid : Prop := fnExactResolveRow.holds Try.pinned (OpenSpec.ofChange fnExactResolveSpec)

/-- ITS FALSE NEIGHBOUR: 'it returns false'. Refute it at one input. -/
def fnExactResolveWrong : ChangeSpec := { name := "fnExactResolve", fn := fun _ => fun
  | [d1, d2, d3] => { results := [.lit (.bool false)], args := [d1, d2, d3] }
  | _ => none }
def FnExactResolveWrongFalsely : Prop := fnExactResolveRow.holds Try.pinned (OpenSpec.ofChange fnExactResolveWrong)

/-- 'laws.FnResolved': WHATEVER THE INPUT: true; the input reads as it did. -/
def fnResolvedSpec : ChangeSpec := { name := "fnResolved", fn := fun _ => fun
  | [d] => { results := [.lit (.bool true)], args := [d] }
  | _ => none }
def fnResolvedRow : OpenClaim := { program := "ytfmflffggcphjaa", sum := "fe226577b39f5b8b962867f146e9a9bb45386a320ba612ec8f1a3e28c396b10c", func := "loop.example/g03219/laws.FnResolved", spec := "fnResolved", unfollowed := true, recurses := true, apart := false }
def FnResolvedSaid : Prop := fnResolvedRow.holds Try.pinned (OpenSpec.ofChange fnResolvedSpec)

/-- ITS FALSE NEIGHBOUR: 'it returns false'. Refute it at one input. -/
def fnResolvedWrong : ChangeSpec := { name := "fnResolved", fn := fun _ => fun
  | [d] => { results := [.lit (.bool false)], args := [d] }
  | _ => none }
def FnResolvedWrongFalsely : Prop := fnResolvedRow.holds Try.pinned (OpenSpec.ofChange fnResolvedWrong)

/- THE SECOND FORM. 'bulk': how many values and letters a reading holds, each counted each time it is reached (what is shared counts as often as it is met; a slice's spare places count too). A statement '..UptoSaid' is the law's where the arguments, and the package variables that the reading takes, are together of bulk at most 1048576: NARROWER than '..Said'. Prove '..Said' where nothing that the law and all that it calls make is longer than what came in: it says more and counts as full. Else prove '..UptoSaid'. A law counts once. -/
mutual
def uptoBulk {H : Type} : DataW H → Nat
  | .lit (.string bytes) => bytes.length + 1
  | .lit _ => 1
  | .nil => 1
  | .ptr d => uptoBulk d + 1
  | .slice elems spare => uptoBulkAll elems + uptoBulkAll spare + 1
  | .agg parts => uptoBulkAll parts + 1
  | .iface _ d => uptoBulk d + 1
  | .map entries => uptoBulkEntries entries + 1
  | .held _ => 1
def uptoBulkAll {H : Type} : List (DataW H) → Nat
  | [] => 0
  | d :: r => uptoBulk d + uptoBulkAll r
def uptoBulkEntries {H : Type} : List (Lit × DataW H) → Nat
  | [] => 0
  | x :: r => uptoBulkEntry x + uptoBulkEntries r
def uptoBulkEntry {H : Type} : Lit × DataW H → Nat
  | (.string bytes, d) => bytes.length + uptoBulk d + 1
  | (_, d) => uptoBulk d + 1
 end
def uptoSmall : (H : Type) → List (DataW H) → Bool := fun _ ds => decide (uptoBulkAll ds ≤ 1048576)
def OpenSpec.upto (s : _root_.Go.ChangeSpec) : _root_.Go.OpenSpec := { _root_.Go.OpenSpec.ofChange s with cond := some uptoSmall }

/-- 'laws.FnCores', WHERE WHAT IT READS IS OF BULK AT MOST 1048576: true; the input reads as it did. -/
def fnCoresUptoRow : OpenClaim := { program := "ytfmflffggcphjaa", sum := "fe226577b39f5b8b962867f146e9a9bb45386a320ba612ec8f1a3e28c396b10c", func := "loop.example/g03219/laws.FnCores", spec := "fnCores", recurses := true, apart := false, narrowed := true }
def FnCoresUptoSaid : Prop := fnCoresUptoRow.holds Try.pinned (OpenSpec.upto fnCoresSpec)

/-- 'laws.FnExactProofSize', WHERE WHAT IT READS IS OF BULK AT MOST 1048576: true; the input reads as it did. -/
def fnExactProofSizeUptoRow : OpenClaim := { program := "ytfmflffggcphjaa", sum := "fe226577b39f5b8b962867f146e9a9bb45386a320ba612ec8f1a3e28c396b10c", func := "loop.example/g03219/laws.FnExactProofSize", spec := "fnExactProofSize", recurses := true, loops := true, apart := false, narrowed := true }
def FnExactProofSizeUptoSaid : Prop := fnExactProofSizeUptoRow.holds Try.pinned (OpenSpec.upto fnExactProofSizeSpec)

/-- 'laws.FnProofs', WHERE WHAT IT READS IS OF BULK AT MOST 1048576: true; the input reads as it did. -/
def fnProofsUptoRow : OpenClaim := { program := "ytfmflffggcphjaa", sum := "fe226577b39f5b8b962867f146e9a9bb45386a320ba612ec8f1a3e28c396b10c", func := "loop.example/g03219/laws.FnProofs", spec := "fnProofs", recurses := true, apart := false, narrowed := true }
def FnProofsUptoSaid : Prop := fnProofsUptoRow.holds Try.pinned (OpenSpec.upto fnProofsSpec)

/-- 'laws.FnExactFormulaOk', WHERE WHAT IT READS IS OF BULK AT MOST 1048576: true; the input reads as it did. -/
def fnExactFormulaOkUptoRow : OpenClaim := { program := "ytfmflffggcphjaa", sum := "fe226577b39f5b8b962867f146e9a9bb45386a320ba612ec8f1a3e28c396b10c", func := "loop.example/g03219/laws.FnExactFormulaOk", spec := "fnExactFormulaOk", apart := false, narrowed := true }
def FnExactFormulaOkUptoSaid : Prop := fnExactFormulaOkUptoRow.holds Try.pinned (OpenSpec.upto fnExactFormulaOkSpec)

/-- 'laws.FnExactEvalFormula', WHERE WHAT IT READS IS OF BULK AT MOST 1048576: true; the input reads as it did. -/
def fnExactEvalFormulaUptoRow : OpenClaim := { program := "ytfmflffggcphjaa", sum := "fe226577b39f5b8b962867f146e9a9bb45386a320ba612ec8f1a3e28c396b10c", func := "loop.example/g03219/laws.FnExactEvalFormula", spec := "fnExactEvalFormula", apart := false, narrowed := true }
def FnExactEvalFormulaUptoSaid : Prop := fnExactEvalFormulaUptoRow.holds Try.pinned (OpenSpec.upto fnExactEvalFormulaSpec)

/-- 'laws.FnExactCountModels', WHERE WHAT IT READS IS OF BULK AT MOST 1048576: true; the input reads as it did. -/
def fnExactCountModelsUptoRow : OpenClaim := { program := "ytfmflffggcphjaa", sum := "fe226577b39f5b8b962867f146e9a9bb45386a320ba612ec8f1a3e28c396b10c", func := "loop.example/g03219/laws.FnExactCountModels", spec := "fnExactCountModels", apart := false, narrowed := true }
def FnExactCountModelsUptoSaid : Prop := fnExactCountModelsUptoRow.holds Try.pinned (OpenSpec.upto fnExactCountModelsSpec)

/-- 'laws.FnPropagate', WHERE WHAT IT READS IS OF BULK AT MOST 1048576: true; the input reads as it did. -/
def fnPropagateUptoRow : OpenClaim := { program := "ytfmflffggcphjaa", sum := "fe226577b39f5b8b962867f146e9a9bb45386a320ba612ec8f1a3e28c396b10c", func := "loop.example/g03219/laws.FnPropagate", spec := "fnPropagate", apart := false, narrowed := true }
def FnPropagateUptoSaid : Prop := fnPropagateUptoRow.holds Try.pinned (OpenSpec.upto fnPropagateSpec)

/-- 'laws.FnExactPropagate', WHERE WHAT IT READS IS OF BULK AT MOST 1048576: true; the input reads as it did. -/
def fnExactPropagateUptoRow : OpenClaim := { program := "ytfmflffggcphjaa", sum := "fe226577b39f5b8b962867f146e9a9bb45386a320ba612ec8f1a3e28c396b10c", func := "loop.example/g03219/laws.FnExactPropagate", spec := "fnExactPropagate", apart := false, narrowed := true }
def FnExactPropagateUptoSaid : Prop := fnExactPropagateUptoRow.holds Try.pinned (OpenSpec.upto fnExactPropagateSpec)

/-- 'laws.FnSearch', WHERE WHAT IT READS IS OF BULK AT MOST 1048576: true; the input reads as it did. -/
def fnSearchUptoRow : OpenClaim := { program := "ytfmflffggcphjaa", sum := "fe226577b39f5b8b962867f146e9a9bb45386a320ba612ec8f1a3e28c396b10c", func := "loop.example/g03219/laws.FnSearch", spec := "fnSearch", recurses := true, apart := false, narrowed := true }
def FnSearchUptoSaid : Prop := fnSearchUptoRow.holds Try.pinned (OpenSpec.upto fnSearchSpec)

/-- 'laws.FnExactCheckProof', WHERE WHAT IT READS IS OF BULK AT MOST 1048576: true; the input reads as it did. -/
def fnExactCheckProofUptoRow : OpenClaim := { program := "ytfmflffggcphjaa", sum := "fe226577b39f5b8b962867f146e9a9bb45386a320ba612ec8f1a3e28c396b10c", func := "loop.example/g03219/laws.FnExactCheckProof", spec := "fnExactCheckProof", recurses := true, loops := true, apart := false, narrowed := true }
def FnExactCheckProofUptoSaid : Prop := fnExactCheckProofUptoRow.holds Try.pinned (OpenSpec.upto fnExactCheckProofSpec)

/-- 'laws.FnExactImplied', WHERE WHAT IT READS IS OF BULK AT MOST 1048576: true; the input reads as it did. -/
def fnExactImpliedUptoRow : OpenClaim := { program := "ytfmflffggcphjaa", sum := "fe226577b39f5b8b962867f146e9a9bb45386a320ba612ec8f1a3e28c396b10c", func := "loop.example/g03219/laws.FnExactImplied", spec := "fnExactImplied", recurses := true, apart := false, narrowed := true }
def FnExactImpliedUptoSaid : Prop := fnExactImpliedUptoRow.holds Try.pinned (OpenSpec.upto fnExactImpliedSpec)

/-- 'laws.FnExactSearch', WHERE WHAT IT READS IS OF BULK AT MOST 1048576: true; the input reads as it did. -/
def fnExactSearchUptoRow : OpenClaim := { program := "ytfmflffggcphjaa", sum := "fe226577b39f5b8b962867f146e9a9bb45386a320ba612ec8f1a3e28c396b10c", func := "loop.example/g03219/laws.FnExactSearch", spec := "fnExactSearch", recurses := true, apart := false, narrowed := true }
def FnExactSearchUptoSaid : Prop := fnExactSearchUptoRow.holds Try.pinned (OpenSpec.upto fnExactSearchSpec)

/-- 'laws.FnExactProofOf', WHERE WHAT IT READS IS OF BULK AT MOST 1048576: true; the input reads as it did. -/
def fnExactProofOfUptoRow : OpenClaim := { program := "ytfmflffggcphjaa", sum := "fe226577b39f5b8b962867f146e9a9bb45386a320ba612ec8f1a3e28c396b10c", func := "loop.example/g03219/laws.FnExactProofOf", spec := "fnExactProofOf", recurses := true, apart := false, narrowed := true }
def FnExactProofOfUptoSaid : Prop := fnExactProofOfUptoRow.holds Try.pinned (OpenSpec.upto fnExactProofOfSpec)

/-- 'laws.FnExactCoreOf', WHERE WHAT IT READS IS OF BULK AT MOST 1048576: true; the input reads as it did. -/
def fnExactCoreOfUptoRow : OpenClaim := { program := "ytfmflffggcphjaa", sum := "fe226577b39f5b8b962867f146e9a9bb45386a320ba612ec8f1a3e28c396b10c", func := "loop.example/g03219/laws.FnExactCoreOf", spec := "fnExactCoreOf", recurses := true, apart := false, narrowed := true }
def FnExactCoreOfUptoSaid : Prop := fnExactCoreOfUptoRow.holds Try.pinned (OpenSpec.upto fnExactCoreOfSpec)

/-- 'laws.FnExactTrimProof', WHERE WHAT IT READS IS OF BULK AT MOST 1048576: true; the input reads as it did. -/
def fnExactTrimProofUptoRow : OpenClaim := { program := "ytfmflffggcphjaa", sum := "fe226577b39f5b8b962867f146e9a9bb45386a320ba612ec8f1a3e28c396b10c", func := "loop.example/g03219/laws.FnExactTrimProof", spec := "fnExactTrimProof", recurses := true, loops := true, apart := false, narrowed := true }
def FnExactTrimProofUptoSaid : Prop := fnExactTrimProofUptoRow.holds Try.pinned (OpenSpec.upto fnExactTrimProofSpec)

/-- 'laws.FnExactMakeClause', WHERE WHAT IT READS IS OF BULK AT MOST 1048576: true; the input reads as it did. -/
def fnExactMakeClauseUptoRow : OpenClaim := { program := "ytfmflffggcphjaa", sum := "fe226577b39f5b8b962867f146e9a9bb45386a320ba612ec8f1a3e28c396b10c", func := "loop.example/g03219/laws.FnExactMakeClause", spec := "fnExactMakeClause", unfollowed := true, recurses := true, apart := false, narrowed := true }
def FnExactMakeClauseUptoSaid : Prop := fnExactMakeClauseUptoRow.holds Try.pinned (OpenSpec.upto fnExactMakeClauseSpec)

/-- 'laws.FnExactResolve', WHERE WHAT IT READS IS OF BULK AT MOST 1048576: true; the input reads as it did. -/
def fnExactResolveUptoRow : OpenClaim := { program := "ytfmflffggcphjaa", sum := "fe226577b39f5b8b962867f146e9a9bb45386a320ba612ec8f1a3e28c396b10c", func := "loop.example/g03219/laws.FnExactResolve", spec := "fnExactResolve", unfollowed := true, recurses := true, apart := false, narrowed := true }
def FnExactResolveUptoSaid : Prop := fnExactResolveUptoRow.holds Try.pinned (OpenSpec.upto fnExactResolveSpec)

/-- 'laws.FnResolved', WHERE WHAT IT READS IS OF BULK AT MOST 1048576: true; the input reads as it did. -/
def fnResolvedUptoRow : OpenClaim := { program := "ytfmflffggcphjaa", sum := "fe226577b39f5b8b962867f146e9a9bb45386a320ba612ec8f1a3e28c396b10c", func := "loop.example/g03219/laws.FnResolved", spec := "fnResolved", unfollowed := true, recurses := true, apart := false, narrowed := true }
def FnResolvedUptoSaid : Prop := fnResolvedUptoRow.holds Try.pinned (OpenSpec.upto fnResolvedSpec)

end Rows
end Go.Proofs.Ytfmflffggcphjaa
