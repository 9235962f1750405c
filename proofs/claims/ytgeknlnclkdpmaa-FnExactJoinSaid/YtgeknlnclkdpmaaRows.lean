/-
  No cell of these rows narrows 'for every input' (looked for: loops, veiled, ifaces, maps, wideKeys, modest, calm, conditions, laid).
  DERIVED. THE GIVEN ROWS OF THIS SEAT. 15 by the template 'for every input the law returns true; each argument reads behind the call as it read before'; 0 by the template 'total and deterministic' (their statements: YtgeknlnclkdpmaaTotals.lean).
  GIVEN WITH THE SEED: the statements are not yours to turn. If you find one false, say at which input.
  Laid BY PROGRAM, IN A SANDBOX (cutbox-rows.mjs): the forced cells as the released guide's own fill.sh prints them over the translation d98d93b537fb5a42… (all of the seat's roots in one cut). By AI agents, Wed Nov 11 2026. No macro, syntax, notation, axiom, sorry.
-/
import Derived.Test.YtgeknlnclkdpmaaChecked
import GoSem.Claim
import GoSem.ClaimJoined
import GoSem.ClaimMapViews
import Derived.JoinedTies
import Derived.KernelRfl
namespace Go.Proofs.Ytgeknlnclkdpmaa
/- THE CELL 'sum', in the pinned program and in every row, IS THE sha256 OF THE DUMP (.gsa) THAT YtgeknlnclkdpmaaProg.lean LOADS. Nothing in Lean hashes anything: it is a label: what it is worth is what the hold of that sum in a sandbox is worth. -/
noncomputable def Try.pinned : Pinned := { name := "ytgeknlnclkdpmaa", sum := "d98d93b537fb5a42c58c45524876af04d4d8edbfbe54f70502b42a7a08dc8247", checked := Try.checked }
namespace Rows
def none {H : Type} : Left H := { results := [], args := [] }

/-- 'laws.FnExactConstants': WHATEVER THE INPUT: true; the input reads as it did. -/
def fnExactConstantsSpec : ChangeSpec := { name := "fnExactConstants", fn := fun _ => fun
  | [] => { results := [.lit (.bool true)], args := [] }
  | _ => none }
def fnExactConstantsRow : OpenClaim := { program := "ytgeknlnclkdpmaa", sum := "d98d93b537fb5a42c58c45524876af04d4d8edbfbe54f70502b42a7a08dc8247", func := "loop.example/g03219/laws.FnExactConstants", spec := "fnExactConstants", apart := false }
def FnExactConstantsSaid : Prop := fnExactConstantsRow.holds Try.pinned (OpenSpec.ofChange fnExactConstantsSpec)

/-- ITS FALSE NEIGHBOUR: 'it returns false'. Refute it at one input. -/
def fnExactConstantsWrong : ChangeSpec := { name := "fnExactConstants", fn := fun _ => fun
  | [] => { results := [.lit (.bool false)], args := [] }
  | _ => none }
def FnExactConstantsWrongFalsely : Prop := fnExactConstantsRow.holds Try.pinned (OpenSpec.ofChange fnExactConstantsWrong)

/-- 'laws.FnExactWordOk': WHATEVER THE INPUT: true; the input reads as it did. -/
def fnExactWordOkSpec : ChangeSpec := { name := "fnExactWordOk", fn := fun _ => fun
  | [d1, d2] => { results := [.lit (.bool true)], args := [d1, d2] }
  | _ => none }
def fnExactWordOkRow : OpenClaim := { program := "ytgeknlnclkdpmaa", sum := "d98d93b537fb5a42c58c45524876af04d4d8edbfbe54f70502b42a7a08dc8247", func := "loop.example/g03219/laws.FnExactWordOk", spec := "fnExactWordOk", apart := false }
def FnExactWordOkSaid : Prop := fnExactWordOkRow.holds Try.pinned (OpenSpec.ofChange fnExactWordOkSpec)

/-- ITS FALSE NEIGHBOUR: 'it returns false'. Refute it at one input. -/
def fnExactWordOkWrong : ChangeSpec := { name := "fnExactWordOk", fn := fun _ => fun
  | [d1, d2] => { results := [.lit (.bool false)], args := [d1, d2] }
  | _ => none }
def FnExactWordOkWrongFalsely : Prop := fnExactWordOkRow.holds Try.pinned (OpenSpec.ofChange fnExactWordOkWrong)

/-- 'laws.FnExactWordOf': WHATEVER THE INPUT: true; the input reads as it did. -/
def fnExactWordOfSpec : ChangeSpec := { name := "fnExactWordOf", fn := fun _ => fun
  | [d1, d2] => { results := [.lit (.bool true)], args := [d1, d2] }
  | _ => none }
def fnExactWordOfRow : OpenClaim := { program := "ytgeknlnclkdpmaa", sum := "d98d93b537fb5a42c58c45524876af04d4d8edbfbe54f70502b42a7a08dc8247", func := "loop.example/g03219/laws.FnExactWordOf", spec := "fnExactWordOf", apart := false }
def FnExactWordOfSaid : Prop := fnExactWordOfRow.holds Try.pinned (OpenSpec.ofChange fnExactWordOfSpec)

/-- ITS FALSE NEIGHBOUR: 'it returns false'. Refute it at one input. -/
def fnExactWordOfWrong : ChangeSpec := { name := "fnExactWordOf", fn := fun _ => fun
  | [d1, d2] => { results := [.lit (.bool false)], args := [d1, d2] }
  | _ => none }
def FnExactWordOfWrongFalsely : Prop := fnExactWordOfRow.holds Try.pinned (OpenSpec.ofChange fnExactWordOfWrong)

/-- 'laws.FnExactOpName': WHATEVER THE INPUT: true; the input reads as it did. -/
def fnExactOpNameSpec : ChangeSpec := { name := "fnExactOpName", fn := fun _ => fun
  | [d] => { results := [.lit (.bool true)], args := [d] }
  | _ => none }
def fnExactOpNameRow : OpenClaim := { program := "ytgeknlnclkdpmaa", sum := "d98d93b537fb5a42c58c45524876af04d4d8edbfbe54f70502b42a7a08dc8247", func := "loop.example/g03219/laws.FnExactOpName", spec := "fnExactOpName", apart := false }
def FnExactOpNameSaid : Prop := fnExactOpNameRow.holds Try.pinned (OpenSpec.ofChange fnExactOpNameSpec)

/-- ITS FALSE NEIGHBOUR: 'it returns false'. Refute it at one input. -/
def fnExactOpNameWrong : ChangeSpec := { name := "fnExactOpName", fn := fun _ => fun
  | [d] => { results := [.lit (.bool false)], args := [d] }
  | _ => none }
def FnExactOpNameWrongFalsely : Prop := fnExactOpNameRow.holds Try.pinned (OpenSpec.ofChange fnExactOpNameWrong)

/-- 'laws.FnExactJoinWords': WHATEVER THE INPUT: true; the input reads as it did. -/
def fnExactJoinWordsSpec : ChangeSpec := { name := "fnExactJoinWords", fn := fun _ => fun
  | [d1, d2, d3, d4] => { results := [.lit (.bool true)], args := [d1, d2, d3, d4] }
  | _ => none }
def fnExactJoinWordsRow : OpenClaim := { program := "ytgeknlnclkdpmaa", sum := "d98d93b537fb5a42c58c45524876af04d4d8edbfbe54f70502b42a7a08dc8247", func := "loop.example/g03219/laws.FnExactJoinWords", spec := "fnExactJoinWords", apart := false }
def FnExactJoinWordsSaid : Prop := fnExactJoinWordsRow.holds Try.pinned (OpenSpec.ofChange fnExactJoinWordsSpec)

/-- ITS FALSE NEIGHBOUR: 'it returns false'. Refute it at one input. -/
def fnExactJoinWordsWrong : ChangeSpec := { name := "fnExactJoinWords", fn := fun _ => fun
  | [d1, d2, d3, d4] => { results := [.lit (.bool false)], args := [d1, d2, d3, d4] }
  | _ => none }
def FnExactJoinWordsWrongFalsely : Prop := fnExactJoinWordsRow.holds Try.pinned (OpenSpec.ofChange fnExactJoinWordsWrong)

/-- 'laws.FnExactResultWidth': WHATEVER THE INPUT: true; the input reads as it did. -/
def fnExactResultWidthSpec : ChangeSpec := { name := "fnExactResultWidth", fn := fun _ => fun
  | [d1, d2] => { results := [.lit (.bool true)], args := [d1, d2] }
  | _ => none }
def fnExactResultWidthRow : OpenClaim := { program := "ytgeknlnclkdpmaa", sum := "d98d93b537fb5a42c58c45524876af04d4d8edbfbe54f70502b42a7a08dc8247", func := "loop.example/g03219/laws.FnExactResultWidth", spec := "fnExactResultWidth", apart := false }
def FnExactResultWidthSaid : Prop := fnExactResultWidthRow.holds Try.pinned (OpenSpec.ofChange fnExactResultWidthSpec)

/-- ITS FALSE NEIGHBOUR: 'it returns false'. Refute it at one input. -/
def fnExactResultWidthWrong : ChangeSpec := { name := "fnExactResultWidth", fn := fun _ => fun
  | [d1, d2] => { results := [.lit (.bool false)], args := [d1, d2] }
  | _ => none }
def FnExactResultWidthWrongFalsely : Prop := fnExactResultWidthRow.holds Try.pinned (OpenSpec.ofChange fnExactResultWidthWrong)

/-- 'laws.FnExactIsName': WHATEVER THE INPUT: true; the input reads as it did. -/
def fnExactIsNameSpec : ChangeSpec := { name := "fnExactIsName", fn := fun _ => fun
  | [d] => { results := [.lit (.bool true)], args := [d] }
  | _ => none }
def fnExactIsNameRow : OpenClaim := { program := "ytgeknlnclkdpmaa", sum := "d98d93b537fb5a42c58c45524876af04d4d8edbfbe54f70502b42a7a08dc8247", func := "loop.example/g03219/laws.FnExactIsName", spec := "fnExactIsName", apart := false }
def FnExactIsNameSaid : Prop := fnExactIsNameRow.holds Try.pinned (OpenSpec.ofChange fnExactIsNameSpec)

/-- ITS FALSE NEIGHBOUR: 'it returns false'. Refute it at one input. -/
def fnExactIsNameWrong : ChangeSpec := { name := "fnExactIsName", fn := fun _ => fun
  | [d] => { results := [.lit (.bool false)], args := [d] }
  | _ => none }
def FnExactIsNameWrongFalsely : Prop := fnExactIsNameRow.holds Try.pinned (OpenSpec.ofChange fnExactIsNameWrong)

/-- 'laws.FnExactSignedOf': WHATEVER THE INPUT: true; the input reads as it did. -/
def fnExactSignedOfSpec : ChangeSpec := { name := "fnExactSignedOf", fn := fun _ => fun
  | [d1, d2] => { results := [.lit (.bool true)], args := [d1, d2] }
  | _ => none }
def fnExactSignedOfRow : OpenClaim := { program := "ytgeknlnclkdpmaa", sum := "d98d93b537fb5a42c58c45524876af04d4d8edbfbe54f70502b42a7a08dc8247", func := "loop.example/g03219/laws.FnExactSignedOf", spec := "fnExactSignedOf", apart := false }
def FnExactSignedOfSaid : Prop := fnExactSignedOfRow.holds Try.pinned (OpenSpec.ofChange fnExactSignedOfSpec)

/-- ITS FALSE NEIGHBOUR: 'it returns false'. Refute it at one input. -/
def fnExactSignedOfWrong : ChangeSpec := { name := "fnExactSignedOf", fn := fun _ => fun
  | [d1, d2] => { results := [.lit (.bool false)], args := [d1, d2] }
  | _ => none }
def FnExactSignedOfWrongFalsely : Prop := fnExactSignedOfRow.holds Try.pinned (OpenSpec.ofChange fnExactSignedOfWrong)

/-- 'laws.FnExactCutWord': WHATEVER THE INPUT: true; the input reads as it did. -/
def fnExactCutWordSpec : ChangeSpec := { name := "fnExactCutWord", fn := fun _ => fun
  | [d1, d2, d3, d4] => { results := [.lit (.bool true)], args := [d1, d2, d3, d4] }
  | _ => none }
def fnExactCutWordRow : OpenClaim := { program := "ytgeknlnclkdpmaa", sum := "d98d93b537fb5a42c58c45524876af04d4d8edbfbe54f70502b42a7a08dc8247", func := "loop.example/g03219/laws.FnExactCutWord", spec := "fnExactCutWord", apart := false }
def FnExactCutWordSaid : Prop := fnExactCutWordRow.holds Try.pinned (OpenSpec.ofChange fnExactCutWordSpec)

/-- ITS FALSE NEIGHBOUR: 'it returns false'. Refute it at one input. -/
def fnExactCutWordWrong : ChangeSpec := { name := "fnExactCutWord", fn := fun _ => fun
  | [d1, d2, d3, d4] => { results := [.lit (.bool false)], args := [d1, d2, d3, d4] }
  | _ => none }
def FnExactCutWordWrongFalsely : Prop := fnExactCutWordRow.holds Try.pinned (OpenSpec.ofChange fnExactCutWordWrong)

/-- 'laws.FnExactOpOf': WHATEVER THE INPUT: true; the input reads as it did. -/
def fnExactOpOfSpec : ChangeSpec := { name := "fnExactOpOf", fn := fun _ => fun
  | [d] => { results := [.lit (.bool true)], args := [d] }
  | _ => none }
def fnExactOpOfRow : OpenClaim := { program := "ytgeknlnclkdpmaa", sum := "d98d93b537fb5a42c58c45524876af04d4d8edbfbe54f70502b42a7a08dc8247", func := "loop.example/g03219/laws.FnExactOpOf", spec := "fnExactOpOf", apart := false }
def FnExactOpOfSaid : Prop := fnExactOpOfRow.holds Try.pinned (OpenSpec.ofChange fnExactOpOfSpec)

/-- ITS FALSE NEIGHBOUR: 'it returns false'. Refute it at one input. -/
def fnExactOpOfWrong : ChangeSpec := { name := "fnExactOpOf", fn := fun _ => fun
  | [d] => { results := [.lit (.bool false)], args := [d] }
  | _ => none }
def FnExactOpOfWrongFalsely : Prop := fnExactOpOfRow.holds Try.pinned (OpenSpec.ofChange fnExactOpOfWrong)

/-- 'laws.FnExactApplyUnary': WHATEVER THE INPUT: true; the input reads as it did. -/
def fnExactApplyUnarySpec : ChangeSpec := { name := "fnExactApplyUnary", fn := fun _ => fun
  | [d1, d2, d3] => { results := [.lit (.bool true)], args := [d1, d2, d3] }
  | _ => none }
def fnExactApplyUnaryRow : OpenClaim := { program := "ytgeknlnclkdpmaa", sum := "d98d93b537fb5a42c58c45524876af04d4d8edbfbe54f70502b42a7a08dc8247", func := "loop.example/g03219/laws.FnExactApplyUnary", spec := "fnExactApplyUnary", apart := false }
def FnExactApplyUnarySaid : Prop := fnExactApplyUnaryRow.holds Try.pinned (OpenSpec.ofChange fnExactApplyUnarySpec)

/-- ITS FALSE NEIGHBOUR: 'it returns false'. Refute it at one input. -/
def fnExactApplyUnaryWrong : ChangeSpec := { name := "fnExactApplyUnary", fn := fun _ => fun
  | [d1, d2, d3] => { results := [.lit (.bool false)], args := [d1, d2, d3] }
  | _ => none }
def FnExactApplyUnaryWrongFalsely : Prop := fnExactApplyUnaryRow.holds Try.pinned (OpenSpec.ofChange fnExactApplyUnaryWrong)

/-- 'laws.FnExactWidenWord': WHATEVER THE INPUT: true; the input reads as it did. -/
def fnExactWidenWordSpec : ChangeSpec := { name := "fnExactWidenWord", fn := fun _ => fun
  | [d1, d2, d3, d4] => { results := [.lit (.bool true)], args := [d1, d2, d3, d4] }
  | _ => none }
def fnExactWidenWordRow : OpenClaim := { program := "ytgeknlnclkdpmaa", sum := "d98d93b537fb5a42c58c45524876af04d4d8edbfbe54f70502b42a7a08dc8247", func := "loop.example/g03219/laws.FnExactWidenWord", spec := "fnExactWidenWord", apart := false }
def FnExactWidenWordSaid : Prop := fnExactWidenWordRow.holds Try.pinned (OpenSpec.ofChange fnExactWidenWordSpec)

/-- ITS FALSE NEIGHBOUR: 'it returns false'. Refute it at one input. -/
def fnExactWidenWordWrong : ChangeSpec := { name := "fnExactWidenWord", fn := fun _ => fun
  | [d1, d2, d3, d4] => { results := [.lit (.bool false)], args := [d1, d2, d3, d4] }
  | _ => none }
def FnExactWidenWordWrongFalsely : Prop := fnExactWidenWordRow.holds Try.pinned (OpenSpec.ofChange fnExactWidenWordWrong)

/-- 'laws.FnExactJoin': WHATEVER THE INPUT: true; the input reads as it did. -/
def fnExactJoinSpec : ChangeSpec := { name := "fnExactJoin", fn := fun _ => fun
  | [d1, d2] => { results := [.lit (.bool true)], args := [d1, d2] }
  | _ => none }
def fnExactJoinRow : OpenClaim := { program := "ytgeknlnclkdpmaa", sum := "d98d93b537fb5a42c58c45524876af04d4d8edbfbe54f70502b42a7a08dc8247", func := "loop.example/g03219/laws.FnExactJoin", spec := "fnExactJoin", inPlace := ["internal/abi.NoEscape", "internal/bytealg.MakeNoZero"], apart := false }
def FnExactJoinSaid : Prop := fnExactJoinRow.holds Try.pinned (OpenSpec.ofChange fnExactJoinSpec)

/-- ITS FALSE NEIGHBOUR: 'it returns false'. Refute it at one input. -/
def fnExactJoinWrong : ChangeSpec := { name := "fnExactJoin", fn := fun _ => fun
  | [d1, d2] => { results := [.lit (.bool false)], args := [d1, d2] }
  | _ => none }
def FnExactJoinWrongFalsely : Prop := fnExactJoinRow.holds Try.pinned (OpenSpec.ofChange fnExactJoinWrong)

/-- 'laws.FnWords': WHATEVER THE INPUT: true; the input reads as it did. -/
def fnWordsSpec : ChangeSpec := { name := "fnWords", fn := fun _ => fun
  | [d] => { results := [.lit (.bool true)], args := [d] }
  | _ => none }
def fnWordsRow : OpenClaim := { program := "ytgeknlnclkdpmaa", sum := "d98d93b537fb5a42c58c45524876af04d4d8edbfbe54f70502b42a7a08dc8247", func := "loop.example/g03219/laws.FnWords", spec := "fnWords", apart := false }
def FnWordsSaid : Prop := fnWordsRow.holds Try.pinned (OpenSpec.ofChange fnWordsSpec)

/-- ITS FALSE NEIGHBOUR: 'it returns false'. Refute it at one input. -/
def fnWordsWrong : ChangeSpec := { name := "fnWords", fn := fun _ => fun
  | [d] => { results := [.lit (.bool false)], args := [d] }
  | _ => none }
def FnWordsWrongFalsely : Prop := fnWordsRow.holds Try.pinned (OpenSpec.ofChange fnWordsWrong)

/-- 'laws.FnExactApplyBinary': WHATEVER THE INPUT: true; the input reads as it did. -/
def fnExactApplyBinarySpec : ChangeSpec := { name := "fnExactApplyBinary", fn := fun _ => fun
  | [d1, d2, d3, d4] => { results := [.lit (.bool true)], args := [d1, d2, d3, d4] }
  | _ => none }
def fnExactApplyBinaryRow : OpenClaim := { program := "ytgeknlnclkdpmaa", sum := "d98d93b537fb5a42c58c45524876af04d4d8edbfbe54f70502b42a7a08dc8247", func := "loop.example/g03219/laws.FnExactApplyBinary", spec := "fnExactApplyBinary", apart := false }
def FnExactApplyBinarySaid : Prop := fnExactApplyBinaryRow.holds Try.pinned (OpenSpec.ofChange fnExactApplyBinarySpec)

/-- ITS FALSE NEIGHBOUR: 'it returns false'. Refute it at one input. -/
def fnExactApplyBinaryWrong : ChangeSpec := { name := "fnExactApplyBinary", fn := fun _ => fun
  | [d1, d2, d3, d4] => { results := [.lit (.bool false)], args := [d1, d2, d3, d4] }
  | _ => none }
def FnExactApplyBinaryWrongFalsely : Prop := fnExactApplyBinaryRow.holds Try.pinned (OpenSpec.ofChange fnExactApplyBinaryWrong)

/- THE SECOND FORM. 'bulk': how many values and letters a reading holds, each counted each time it is reached (what is shared counts as often as it is met; a slice's spare places count too). A statement '..UptoSaid' is the law's where the arguments, and the package variables that the reading takes, are together of bulk at most 1048576: NARROWER than '..Said'. Prove '..Said' where nothing that the law and all that it calls make is longer than what came in: it says more and counts as full. Else prove '..UptoSaid'. A law counts once. -/
mutual
def uptoBulk {H : Type} : DataW H → Nat
  | .lit (.string bytes) => bytes.length + 1
  | .lit _ => 1
  | .nil => 1
  | .ptr d => uptoBulk d + 1
  | .slice elems spare => uptoBulkAll elems + uptoBulkAll spare + 1
  | .agg parts => uptoBulkAll parts + 1
  | .iface _ d => uptoBulk d + 1
  | .map entries => uptoBulkEntries entries + 1
  | .held _ => 1
def uptoBulkAll {H : Type} : List (DataW H) → Nat
  | [] => 0
  | d :: r => uptoBulk d + uptoBulkAll r
def uptoBulkEntries {H : Type} : List (Lit × DataW H) → Nat
  | [] => 0
  | x :: r => uptoBulkEntry x + uptoBulkEntries r
def uptoBulkEntry {H : Type} : Lit × DataW H → Nat
  | (.string bytes, d) => bytes.length + uptoBulk d + 1
  | (_, d) => uptoBulk d + 1
 end
def uptoSmall : (H : Type) → List (DataW H) → Bool := fun _ ds => decide (uptoBulkAll ds ≤ 1048576)
def OpenSpec.upto (s : _root_.Go.ChangeSpec) : _root_.Go.OpenSpec := { _root_.Go.OpenSpec.ofChange s with cond := some uptoSmall }

/-- 'laws.FnExactConstants', WHERE WHAT IT READS IS OF BULK AT MOST 1048576: true; the input reads as it did. -/
def fnExactConstantsUptoRow : OpenClaim := { program := "ytgeknlnclkdpmaa", sum := "d98d93b537fb5a42c58c45524876af04d4d8edbfbe54f70502b42a7a08dc8247", func := "loop.example/g03219/laws.FnExactConstants", spec := "fnExactConstants", apart := false, narrowed := true }
def FnExactConstantsUptoSaid : Prop := fnExactConstantsUptoRow.holds Try.pinned (OpenSpec.upto fnExactConstantsSpec)

/-- 'laws.FnExactWordOk', WHERE WHAT IT READS IS OF BULK AT MOST 1048576: true; the input reads as it did. -/
def fnExactWordOkUptoRow : OpenClaim := { program := "ytgeknlnclkdpmaa", sum := "d98d93b537fb5a42c58c45524876af04d4d8edbfbe54f70502b42a7a08dc8247", func := "loop.example/g03219/laws.FnExactWordOk", spec := "fnExactWordOk", apart := false, narrowed := true }
def FnExactWordOkUptoSaid : Prop := fnExactWordOkUptoRow.holds Try.pinned (OpenSpec.upto fnExactWordOkSpec)

/-- 'laws.FnExactWordOf', WHERE WHAT IT READS IS OF BULK AT MOST 1048576: true; the input reads as it did. -/
def fnExactWordOfUptoRow : OpenClaim := { program := "ytgeknlnclkdpmaa", sum := "d98d93b537fb5a42c58c45524876af04d4d8edbfbe54f70502b42a7a08dc8247", func := "loop.example/g03219/laws.FnExactWordOf", spec := "fnExactWordOf", apart := false, narrowed := true }
def FnExactWordOfUptoSaid : Prop := fnExactWordOfUptoRow.holds Try.pinned (OpenSpec.upto fnExactWordOfSpec)

/-- 'laws.FnExactOpName', WHERE WHAT IT READS IS OF BULK AT MOST 1048576: true; the input reads as it did. -/
def fnExactOpNameUptoRow : OpenClaim := { program := "ytgeknlnclkdpmaa", sum := "d98d93b537fb5a42c58c45524876af04d4d8edbfbe54f70502b42a7a08dc8247", func := "loop.example/g03219/laws.FnExactOpName", spec := "fnExactOpName", apart := false, narrowed := true }
def FnExactOpNameUptoSaid : Prop := fnExactOpNameUptoRow.holds Try.pinned (OpenSpec.upto fnExactOpNameSpec)

/-- 'laws.FnExactJoinWords', WHERE WHAT IT READS IS OF BULK AT MOST 1048576: true; the input reads as it did. -/
def fnExactJoinWordsUptoRow : OpenClaim := { program := "ytgeknlnclkdpmaa", sum := "d98d93b537fb5a42c58c45524876af04d4d8edbfbe54f70502b42a7a08dc8247", func := "loop.example/g03219/laws.FnExactJoinWords", spec := "fnExactJoinWords", apart := false, narrowed := true }
def FnExactJoinWordsUptoSaid : Prop := fnExactJoinWordsUptoRow.holds Try.pinned (OpenSpec.upto fnExactJoinWordsSpec)

/-- 'laws.FnExactResultWidth', WHERE WHAT IT READS IS OF BULK AT MOST 1048576: true; the input reads as it did. -/
def fnExactResultWidthUptoRow : OpenClaim := { program := "ytgeknlnclkdpmaa", sum := "d98d93b537fb5a42c58c45524876af04d4d8edbfbe54f70502b42a7a08dc8247", func := "loop.example/g03219/laws.FnExactResultWidth", spec := "fnExactResultWidth", apart := false, narrowed := true }
def FnExactResultWidthUptoSaid : Prop := fnExactResultWidthUptoRow.holds Try.pinned (OpenSpec.upto fnExactResultWidthSpec)

/-- 'laws.FnExactIsName', WHERE WHAT IT READS IS OF BULK AT MOST 1048576: true; the input reads as it did. -/
def fnExactIsNameUptoRow : OpenClaim := { program := "ytgeknlnclkdpmaa", sum := "d98d93b537fb5a42c58c45524876af04d4d8edbfbe54f70502b42a7a08dc8247", func := "loop.example/g03219/laws.FnExactIsName", spec := "fnExactIsName", apart := false, narrowed := true }
def FnExactIsNameUptoSaid : Prop := fnExactIsNameUptoRow.holds Try.pinned (OpenSpec.upto fnExactIsNameSpec)

/-- 'laws.FnExactSignedOf', WHERE WHAT IT READS IS OF BULK AT MOST 1048576: true; the input reads as it did. -/
def fnExactSignedOfUptoRow : OpenClaim := { program := "ytgeknlnclkdpmaa", sum := "d98d93b537fb5a42c58c45524876af04d4d8edbfbe54f70502b42a7a08dc8247", func := "loop.example/g03219/laws.FnExactSignedOf", spec := "fnExactSignedOf", apart := false, narrowed := true }
def FnExactSignedOfUptoSaid : Prop := fnExactSignedOfUptoRow.holds Try.pinned (OpenSpec.upto fnExactSignedOfSpec)

/-- 'laws.FnExactCutWord', WHERE WHAT IT READS IS OF BULK AT MOST 1048576: true; the input reads as it did. -/
def fnExactCutWordUptoRow : OpenClaim := { program := "ytgeknlnclkdpmaa", sum := "d98d93b537fb5a42c58c45524876af04d4d8edbfbe54f70502b42a7a08dc8247", func := "loop.example/g03219/laws.FnExactCutWord", spec := "fnExactCutWord", apart := false, narrowed := true }
def FnExactCutWordUptoSaid : Prop := fnExactCutWordUptoRow.holds Try.pinned (OpenSpec.upto fnExactCutWordSpec)

/-- 'laws.FnExactOpOf', WHERE WHAT IT READS IS OF BULK AT MOST 1048576: true; the input reads as it did. -/
def fnExactOpOfUptoRow : OpenClaim := { program := "ytgeknlnclkdpmaa", sum := "d98d93b537fb5a42c58c45524876af04d4d8edbfbe54f70502b42a7a08dc8247", func := "loop.example/g03219/laws.FnExactOpOf", spec := "fnExactOpOf", apart := false, narrowed := true }
def FnExactOpOfUptoSaid : Prop := fnExactOpOfUptoRow.holds Try.pinned (OpenSpec.upto fnExactOpOfSpec)

/-- 'laws.FnExactApplyUnary', WHERE WHAT IT READS IS OF BULK AT MOST 1048576: true; the input reads as it did. -/
def fnExactApplyUnaryUptoRow : OpenClaim := { program := "ytgeknlnclkdpmaa", sum := "d98d93b537fb5a42c58c45524876af04d4d8edbfbe54f70502b42a7a08dc8247", func := "loop.example/g03219/laws.FnExactApplyUnary", spec := "fnExactApplyUnary", apart := false, narrowed := true }
def FnExactApplyUnaryUptoSaid : Prop := fnExactApplyUnaryUptoRow.holds Try.pinned (OpenSpec.upto fnExactApplyUnarySpec)

/-- 'laws.FnExactWidenWord', WHERE WHAT IT READS IS OF BULK AT MOST 1048576: true; the input reads as it did. -/
def fnExactWidenWordUptoRow : OpenClaim := { program := "ytgeknlnclkdpmaa", sum := "d98d93b537fb5a42c58c45524876af04d4d8edbfbe54f70502b42a7a08dc8247", func := "loop.example/g03219/laws.FnExactWidenWord", spec := "fnExactWidenWord", apart := false, narrowed := true }
def FnExactWidenWordUptoSaid : Prop := fnExactWidenWordUptoRow.holds Try.pinned (OpenSpec.upto fnExactWidenWordSpec)

/-- 'laws.FnExactJoin', WHERE WHAT IT READS IS OF BULK AT MOST 1048576: true; the input reads as it did. -/
def fnExactJoinUptoRow : OpenClaim := { program := "ytgeknlnclkdpmaa", sum := "d98d93b537fb5a42c58c45524876af04d4d8edbfbe54f70502b42a7a08dc8247", func := "loop.example/g03219/laws.FnExactJoin", spec := "fnExactJoin", inPlace := ["internal/abi.NoEscape", "internal/bytealg.MakeNoZero"], apart := false, narrowed := true }
def FnExactJoinUptoSaid : Prop := fnExactJoinUptoRow.holds Try.pinned (OpenSpec.upto fnExactJoinSpec)

/-- 'laws.FnWords', WHERE WHAT IT READS IS OF BULK AT MOST 1048576: true; the input reads as it did. -/
def fnWordsUptoRow : OpenClaim := { program := "ytgeknlnclkdpmaa", sum := "d98d93b537fb5a42c58c45524876af04d4d8edbfbe54f70502b42a7a08dc8247", func := "loop.example/g03219/laws.FnWords", spec := "fnWords", apart := false, narrowed := true }
def FnWordsUptoSaid : Prop := fnWordsUptoRow.holds Try.pinned (OpenSpec.upto fnWordsSpec)

/-- 'laws.FnExactApplyBinary', WHERE WHAT IT READS IS OF BULK AT MOST 1048576: true; the input reads as it did. -/
def fnExactApplyBinaryUptoRow : OpenClaim := { program := "ytgeknlnclkdpmaa", sum := "d98d93b537fb5a42c58c45524876af04d4d8edbfbe54f70502b42a7a08dc8247", func := "loop.example/g03219/laws.FnExactApplyBinary", spec := "fnExactApplyBinary", apart := false, narrowed := true }
def FnExactApplyBinaryUptoSaid : Prop := fnExactApplyBinaryUptoRow.holds Try.pinned (OpenSpec.upto fnExactApplyBinarySpec)

end Rows
end Go.Proofs.Ytgeknlnclkdpmaa
