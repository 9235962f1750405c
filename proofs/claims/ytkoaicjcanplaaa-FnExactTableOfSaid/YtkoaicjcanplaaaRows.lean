/-
  NARROWER THAN 'FOR EVERY INPUT', by the rows' own cells (each row's printed sentence says how): FnExactCompareTerms: loops · FnExactTermOk: loops · FnExactVarsOf: loops · FnExactPutTerm: loops · FnExactIsSimple: loops · FnExactMakeTerm: loops · FnExactEvalTerm: loops · FnExactSimplify: loops · FnExactTableOf: loops · FnExactAllOf: loops.
  DERIVED. THE GIVEN ROWS OF THIS SEAT. 13 by the template 'for every input the law returns true; each argument reads behind the call as it read before'; 0 by the template 'total and deterministic' (their statements: YtkoaicjcanplaaaTotals.lean).
  GIVEN WITH THE SEED: the statements are not yours to turn. If you find one false, say at which input.
  Laid BY PROGRAM, IN A SANDBOX (cutbox-rows.mjs): the forced cells as the released guide's own fill.sh prints them over the translation 83653307c6e0e543… (all of the seat's roots in one cut). By AI agents, Wed Nov 11 2026. No macro, syntax, notation, axiom, sorry.
-/
import Derived.Test.YtkoaicjcanplaaaChecked
import GoSem.Claim
import GoSem.ClaimJoined
import GoSem.ClaimMapViews
import Derived.JoinedTies
import Derived.KernelRfl
namespace Go.Proofs.Ytkoaicjcanplaaa
/- THE CELL 'sum', in the pinned program and in every row, IS THE sha256 OF THE DUMP (.gsa) THAT YtkoaicjcanplaaaProg.lean LOADS. Nothing in Lean hashes anything: it is a label: what it is worth is what the hold of that sum in a sandbox is worth. -/
noncomputable def Try.pinned : Pinned := { name := "ytkoaicjcanplaaa", sum := "83653307c6e0e5437796e84fb6453cf53353cce13a5e3b3430991f8d4a4afa0c", checked := Try.checked }
namespace Rows
def none {H : Type} : Left H := { results := [], args := [] }

/-- 'laws.FnSimple': WHATEVER THE INPUT: true; the input reads as it did. -/
def fnSimpleSpec : ChangeSpec := { name := "fnSimple", fn := fun _ => fun
  | [d] => { results := [.lit (.bool true)], args := [d] }
  | _ => none }
def fnSimpleRow : OpenClaim := { program := "ytkoaicjcanplaaa", sum := "83653307c6e0e5437796e84fb6453cf53353cce13a5e3b3430991f8d4a4afa0c", func := "loop.example/g03219/laws.FnSimple", spec := "fnSimple", inPlace := ["internal/bytealg.abigen_runtime_cmpstring"], unfollowed := true, recurses := true, apart := false }
def FnSimpleSaid : Prop := fnSimpleRow.holds Try.pinned (OpenSpec.ofChange fnSimpleSpec)

/-- ITS FALSE NEIGHBOUR: 'it returns false'. Refute it at one input. -/
def fnSimpleWrong : ChangeSpec := { name := "fnSimple", fn := fun _ => fun
  | [d] => { results := [.lit (.bool false)], args := [d] }
  | _ => none }
def FnSimpleWrongFalsely : Prop := fnSimpleRow.holds Try.pinned (OpenSpec.ofChange fnSimpleWrong)

/-- 'laws.FnExactCompareTerms': WHATEVER THE INPUT: true; the input reads as it did. -/
def fnExactCompareTermsSpec : ChangeSpec := { name := "fnExactCompareTerms", fn := fun _ => fun
  | [d1, d2] => { results := [.lit (.bool true)], args := [d1, d2] }
  | _ => none }
def fnExactCompareTermsRow : OpenClaim := { program := "ytkoaicjcanplaaa", sum := "83653307c6e0e5437796e84fb6453cf53353cce13a5e3b3430991f8d4a4afa0c", func := "loop.example/g03219/laws.FnExactCompareTerms", spec := "fnExactCompareTerms", inPlace := ["internal/bytealg.abigen_runtime_cmpstring"], recurses := true, loops := true, apart := false }
def FnExactCompareTermsSaid : Prop := fnExactCompareTermsRow.holds Try.pinned (OpenSpec.ofChange fnExactCompareTermsSpec)

/-- ITS FALSE NEIGHBOUR: 'it returns false'. Refute it at one input. -/
def fnExactCompareTermsWrong : ChangeSpec := { name := "fnExactCompareTerms", fn := fun _ => fun
  | [d1, d2] => { results := [.lit (.bool false)], args := [d1, d2] }
  | _ => none }
def FnExactCompareTermsWrongFalsely : Prop := fnExactCompareTermsRow.holds Try.pinned (OpenSpec.ofChange fnExactCompareTermsWrong)

/-- 'laws.FnExactTermOk': WHATEVER THE INPUT: true; the input reads as it did. -/
def fnExactTermOkSpec : ChangeSpec := { name := "fnExactTermOk", fn := fun _ => fun
  | [d] => { results := [.lit (.bool true)], args := [d] }
  | _ => none }
def fnExactTermOkRow : OpenClaim := { program := "ytkoaicjcanplaaa", sum := "83653307c6e0e5437796e84fb6453cf53353cce13a5e3b3430991f8d4a4afa0c", func := "loop.example/g03219/laws.FnExactTermOk", spec := "fnExactTermOk", recurses := true, loops := true, apart := false }
def FnExactTermOkSaid : Prop := fnExactTermOkRow.holds Try.pinned (OpenSpec.ofChange fnExactTermOkSpec)

/-- ITS FALSE NEIGHBOUR: 'it returns false'. Refute it at one input. -/
def fnExactTermOkWrong : ChangeSpec := { name := "fnExactTermOk", fn := fun _ => fun
  | [d] => { results := [.lit (.bool false)], args := [d] }
  | _ => none }
def FnExactTermOkWrongFalsely : Prop := fnExactTermOkRow.holds Try.pinned (OpenSpec.ofChange fnExactTermOkWrong)

/-- 'laws.FnCompare': WHATEVER THE INPUT: true; the input reads as it did. -/
def fnCompareSpec : ChangeSpec := { name := "fnCompare", fn := fun _ => fun
  | [d] => { results := [.lit (.bool true)], args := [d] }
  | _ => none }
def fnCompareRow : OpenClaim := { program := "ytkoaicjcanplaaa", sum := "83653307c6e0e5437796e84fb6453cf53353cce13a5e3b3430991f8d4a4afa0c", func := "loop.example/g03219/laws.FnCompare", spec := "fnCompare", inPlace := ["internal/bytealg.abigen_runtime_cmpstring"], recurses := true, apart := false }
def FnCompareSaid : Prop := fnCompareRow.holds Try.pinned (OpenSpec.ofChange fnCompareSpec)

/-- ITS FALSE NEIGHBOUR: 'it returns false'. Refute it at one input. -/
def fnCompareWrong : ChangeSpec := { name := "fnCompare", fn := fun _ => fun
  | [d] => { results := [.lit (.bool false)], args := [d] }
  | _ => none }
def FnCompareWrongFalsely : Prop := fnCompareRow.holds Try.pinned (OpenSpec.ofChange fnCompareWrong)

/-- 'laws.FnExactVarsOf': WHATEVER THE INPUT: true; the input reads as it did. -/
def fnExactVarsOfSpec : ChangeSpec := { name := "fnExactVarsOf", fn := fun _ => fun
  | [d] => { results := [.lit (.bool true)], args := [d] }
  | _ => none }
def fnExactVarsOfRow : OpenClaim := { program := "ytkoaicjcanplaaa", sum := "83653307c6e0e5437796e84fb6453cf53353cce13a5e3b3430991f8d4a4afa0c", func := "loop.example/g03219/laws.FnExactVarsOf", spec := "fnExactVarsOf", unfollowed := true, recurses := true, loops := true, apart := false }
def FnExactVarsOfSaid : Prop := fnExactVarsOfRow.holds Try.pinned (OpenSpec.ofChange fnExactVarsOfSpec)

/-- ITS FALSE NEIGHBOUR: 'it returns false'. Refute it at one input. -/
def fnExactVarsOfWrong : ChangeSpec := { name := "fnExactVarsOf", fn := fun _ => fun
  | [d] => { results := [.lit (.bool false)], args := [d] }
  | _ => none }
def FnExactVarsOfWrongFalsely : Prop := fnExactVarsOfRow.holds Try.pinned (OpenSpec.ofChange fnExactVarsOfWrong)

/-- 'laws.FnExactPutTerm': WHATEVER THE INPUT: true; the input reads as it did. -/
def fnExactPutTermSpec : ChangeSpec := { name := "fnExactPutTerm", fn := fun _ => fun
  | [d1, d2, d3] => { results := [.lit (.bool true)], args := [d1, d2, d3] }
  | _ => none }
def fnExactPutTermRow : OpenClaim := { program := "ytkoaicjcanplaaa", sum := "83653307c6e0e5437796e84fb6453cf53353cce13a5e3b3430991f8d4a4afa0c", func := "loop.example/g03219/laws.FnExactPutTerm", spec := "fnExactPutTerm", unfollowed := true, recurses := true, loops := true, apart := false }
def FnExactPutTermSaid : Prop := fnExactPutTermRow.holds Try.pinned (OpenSpec.ofChange fnExactPutTermSpec)

/-- ITS FALSE NEIGHBOUR: 'it returns false'. Refute it at one input. -/
def fnExactPutTermWrong : ChangeSpec := { name := "fnExactPutTerm", fn := fun _ => fun
  | [d1, d2, d3] => { results := [.lit (.bool false)], args := [d1, d2, d3] }
  | _ => none }
def FnExactPutTermWrongFalsely : Prop := fnExactPutTermRow.holds Try.pinned (OpenSpec.ofChange fnExactPutTermWrong)

/-- 'laws.FnExactIsSimple': WHATEVER THE INPUT: true; the input reads as it did. -/
def fnExactIsSimpleSpec : ChangeSpec := { name := "fnExactIsSimple", fn := fun _ => fun
  | [d] => { results := [.lit (.bool true)], args := [d] }
  | _ => none }
def fnExactIsSimpleRow : OpenClaim := { program := "ytkoaicjcanplaaa", sum := "83653307c6e0e5437796e84fb6453cf53353cce13a5e3b3430991f8d4a4afa0c", func := "loop.example/g03219/laws.FnExactIsSimple", spec := "fnExactIsSimple", inPlace := ["internal/bytealg.abigen_runtime_cmpstring"], recurses := true, loops := true, apart := false }
def FnExactIsSimpleSaid : Prop := fnExactIsSimpleRow.holds Try.pinned (OpenSpec.ofChange fnExactIsSimpleSpec)

/-- ITS FALSE NEIGHBOUR: 'it returns false'. Refute it at one input. -/
def fnExactIsSimpleWrong : ChangeSpec := { name := "fnExactIsSimple", fn := fun _ => fun
  | [d] => { results := [.lit (.bool false)], args := [d] }
  | _ => none }
def FnExactIsSimpleWrongFalsely : Prop := fnExactIsSimpleRow.holds Try.pinned (OpenSpec.ofChange fnExactIsSimpleWrong)

/-- 'laws.FnExactMakeTerm': WHATEVER THE INPUT: true; the input reads as it did. -/
def fnExactMakeTermSpec : ChangeSpec := { name := "fnExactMakeTerm", fn := fun _ => fun
  | [d1, d2, d3, d4] => { results := [.lit (.bool true)], args := [d1, d2, d3, d4] }
  | _ => none }
def fnExactMakeTermRow : OpenClaim := { program := "ytkoaicjcanplaaa", sum := "83653307c6e0e5437796e84fb6453cf53353cce13a5e3b3430991f8d4a4afa0c", func := "loop.example/g03219/laws.FnExactMakeTerm", spec := "fnExactMakeTerm", inPlace := ["internal/bytealg.abigen_runtime_cmpstring"], recurses := true, loops := true, apart := false }
def FnExactMakeTermSaid : Prop := fnExactMakeTermRow.holds Try.pinned (OpenSpec.ofChange fnExactMakeTermSpec)

/-- ITS FALSE NEIGHBOUR: 'it returns false'. Refute it at one input. -/
def fnExactMakeTermWrong : ChangeSpec := { name := "fnExactMakeTerm", fn := fun _ => fun
  | [d1, d2, d3, d4] => { results := [.lit (.bool false)], args := [d1, d2, d3, d4] }
  | _ => none }
def FnExactMakeTermWrongFalsely : Prop := fnExactMakeTermRow.holds Try.pinned (OpenSpec.ofChange fnExactMakeTermWrong)

/-- 'laws.FnExactEvalTerm': WHATEVER THE INPUT: true; the input reads as it did. -/
def fnExactEvalTermSpec : ChangeSpec := { name := "fnExactEvalTerm", fn := fun _ => fun
  | [d1, d2] => { results := [.lit (.bool true)], args := [d1, d2] }
  | _ => none }
def fnExactEvalTermRow : OpenClaim := { program := "ytkoaicjcanplaaa", sum := "83653307c6e0e5437796e84fb6453cf53353cce13a5e3b3430991f8d4a4afa0c", func := "loop.example/g03219/laws.FnExactEvalTerm", spec := "fnExactEvalTerm", unfollowed := true, recurses := true, loops := true, apart := false }
def FnExactEvalTermSaid : Prop := fnExactEvalTermRow.holds Try.pinned (OpenSpec.ofChange fnExactEvalTermSpec)

/-- ITS FALSE NEIGHBOUR: 'it returns false'. Refute it at one input. -/
def fnExactEvalTermWrong : ChangeSpec := { name := "fnExactEvalTerm", fn := fun _ => fun
  | [d1, d2] => { results := [.lit (.bool false)], args := [d1, d2] }
  | _ => none }
def FnExactEvalTermWrongFalsely : Prop := fnExactEvalTermRow.holds Try.pinned (OpenSpec.ofChange fnExactEvalTermWrong)

/-- 'laws.FnExactSimplify': WHATEVER THE INPUT: true; the input reads as it did. -/
def fnExactSimplifySpec : ChangeSpec := { name := "fnExactSimplify", fn := fun _ => fun
  | [d] => { results := [.lit (.bool true)], args := [d] }
  | _ => none }
def fnExactSimplifyRow : OpenClaim := { program := "ytkoaicjcanplaaa", sum := "83653307c6e0e5437796e84fb6453cf53353cce13a5e3b3430991f8d4a4afa0c", func := "loop.example/g03219/laws.FnExactSimplify", spec := "fnExactSimplify", inPlace := ["internal/bytealg.abigen_runtime_cmpstring"], recurses := true, loops := true, apart := false }
def FnExactSimplifySaid : Prop := fnExactSimplifyRow.holds Try.pinned (OpenSpec.ofChange fnExactSimplifySpec)

/-- ITS FALSE NEIGHBOUR: 'it returns false'. Refute it at one input. -/
def fnExactSimplifyWrong : ChangeSpec := { name := "fnExactSimplify", fn := fun _ => fun
  | [d] => { results := [.lit (.bool false)], args := [d] }
  | _ => none }
def FnExactSimplifyWrongFalsely : Prop := fnExactSimplifyRow.holds Try.pinned (OpenSpec.ofChange fnExactSimplifyWrong)

/-- 'laws.FnExactTableOf': WHATEVER THE INPUT: true; the input reads as it did. -/
def fnExactTableOfSpec : ChangeSpec := { name := "fnExactTableOf", fn := fun _ => fun
  | [d] => { results := [.lit (.bool true)], args := [d] }
  | _ => none }
def fnExactTableOfRow : OpenClaim := { program := "ytkoaicjcanplaaa", sum := "83653307c6e0e5437796e84fb6453cf53353cce13a5e3b3430991f8d4a4afa0c", func := "loop.example/g03219/laws.FnExactTableOf", spec := "fnExactTableOf", unfollowed := true, recurses := true, loops := true, apart := false }
def FnExactTableOfSaid : Prop := fnExactTableOfRow.holds Try.pinned (OpenSpec.ofChange fnExactTableOfSpec)

/-- ITS FALSE NEIGHBOUR: 'it returns false'. Refute it at one input. -/
def fnExactTableOfWrong : ChangeSpec := { name := "fnExactTableOf", fn := fun _ => fun
  | [d] => { results := [.lit (.bool false)], args := [d] }
  | _ => none }
def FnExactTableOfWrongFalsely : Prop := fnExactTableOfRow.holds Try.pinned (OpenSpec.ofChange fnExactTableOfWrong)

/-- 'laws.FnExactAllOf': WHATEVER THE INPUT: true; the input reads as it did. -/
def fnExactAllOfSpec : ChangeSpec := { name := "fnExactAllOf", fn := fun _ => fun
  | [d] => { results := [.lit (.bool true)], args := [d] }
  | _ => none }
def fnExactAllOfRow : OpenClaim := { program := "ytkoaicjcanplaaa", sum := "83653307c6e0e5437796e84fb6453cf53353cce13a5e3b3430991f8d4a4afa0c", func := "loop.example/g03219/laws.FnExactAllOf", spec := "fnExactAllOf", inPlace := ["internal/bytealg.abigen_runtime_cmpstring"], recurses := true, loops := true, apart := false }
def FnExactAllOfSaid : Prop := fnExactAllOfRow.holds Try.pinned (OpenSpec.ofChange fnExactAllOfSpec)

/-- ITS FALSE NEIGHBOUR: 'it returns false'. Refute it at one input. -/
def fnExactAllOfWrong : ChangeSpec := { name := "fnExactAllOf", fn := fun _ => fun
  | [d] => { results := [.lit (.bool false)], args := [d] }
  | _ => none }
def FnExactAllOfWrongFalsely : Prop := fnExactAllOfRow.holds Try.pinned (OpenSpec.ofChange fnExactAllOfWrong)

/-- 'laws.FnPut': WHATEVER THE INPUT: true; the input reads as it did. -/
def fnPutSpec : ChangeSpec := { name := "fnPut", fn := fun _ => fun
  | [d] => { results := [.lit (.bool true)], args := [d] }
  | _ => none }
def fnPutRow : OpenClaim := { program := "ytkoaicjcanplaaa", sum := "83653307c6e0e5437796e84fb6453cf53353cce13a5e3b3430991f8d4a4afa0c", func := "loop.example/g03219/laws.FnPut", spec := "fnPut", unfollowed := true, recurses := true, apart := false }
def FnPutSaid : Prop := fnPutRow.holds Try.pinned (OpenSpec.ofChange fnPutSpec)

/-- ITS FALSE NEIGHBOUR: 'it returns false'. Refute it at one input. -/
def fnPutWrong : ChangeSpec := { name := "fnPut", fn := fun _ => fun
  | [d] => { results := [.lit (.bool false)], args := [d] }
  | _ => none }
def FnPutWrongFalsely : Prop := fnPutRow.holds Try.pinned (OpenSpec.ofChange fnPutWrong)

/- THE SECOND FORM. 'bulk': how many values and letters a reading holds, each counted each time it is reached (what is shared counts as often as it is met; a slice's spare places count too). A statement '..UptoSaid' is the law's where the arguments, and the package variables that the reading takes, are together of bulk at most 1048576: NARROWER than '..Said'. Prove '..Said' where nothing that the law and all that it calls make is longer than what came in: it says more and counts as full. Else prove '..UptoSaid'. A law counts once. -/
mutual
def uptoBulk {H : Type} : DataW H → Nat
  | .lit (.string bytes) => bytes.length + 1
  | .lit _ => 1
  | .nil => 1
  | .ptr d => uptoBulk d + 1
  | .slice elems spare => uptoBulkAll elems + uptoBulkAll spare + 1
  | .agg parts => uptoBulkAll parts + 1
  | .iface _ d => uptoBulk d + 1
  | .map entries => uptoBulkEntries entries + 1
  | .held _ => 1
def uptoBulkAll {H : Type} : List (DataW H) → Nat
  | [] => 0
  | d :: r => uptoBulk d + uptoBulkAll r
def uptoBulkEntries {H : Type} : List (Lit × DataW H) → Nat
  | [] => 0
  | x :: r => uptoBulkEntry x + uptoBulkEntries r
def uptoBulkEntry {H : Type} : Lit × DataW H → Nat
  | (.string bytes, d) => bytes.length + uptoBulk d + 1
  | (_, d) => uptoBulk d + 1
 end
def uptoSmall : (H : Type) → List (DataW H) → Bool := fun _ ds => decide (uptoBulkAll ds ≤ 1048576)
def OpenSpec.upto (s : _root_.Go.ChangeSpec) : _root_.Go.OpenSpec := { _root_.Go.OpenSpec.ofChange s with cond := some uptoSmall }

/-- 'laws.FnSimple', WHERE WHAT IT READS IS OF BULK AT MOST 1048576: true; the input reads as it did. -/
def fnSimpleUptoRow : OpenClaim := { program := "ytkoaicjcanplaaa", sum := "83653307c6e0e5437796e84fb6453cf53353cce13a5e3b3430991f8d4a4afa0c", func := "loop.example/g03219/laws.FnSimple", spec := "fnSimple", inPlace := ["internal/bytealg.abigen_runtime_cmpstring"], unfollowed := true, recurses := true, apart := false, narrowed := true }
def FnSimpleUptoSaid : Prop := fnSimpleUptoRow.holds Try.pinned (OpenSpec.upto fnSimpleSpec)

/-- 'laws.FnExactCompareTerms', WHERE WHAT IT READS IS OF BULK AT MOST 1048576: true; the input reads as it did. -/
def fnExactCompareTermsUptoRow : OpenClaim := { program := "ytkoaicjcanplaaa", sum := "83653307c6e0e5437796e84fb6453cf53353cce13a5e3b3430991f8d4a4afa0c", func := "loop.example/g03219/laws.FnExactCompareTerms", spec := "fnExactCompareTerms", inPlace := ["internal/bytealg.abigen_runtime_cmpstring"], recurses := true, loops := true, apart := false, narrowed := true }
def FnExactCompareTermsUptoSaid : Prop := fnExactCompareTermsUptoRow.holds Try.pinned (OpenSpec.upto fnExactCompareTermsSpec)

/-- 'laws.FnExactTermOk', WHERE WHAT IT READS IS OF BULK AT MOST 1048576: true; the input reads as it did. -/
def fnExactTermOkUptoRow : OpenClaim := { program := "ytkoaicjcanplaaa", sum := "83653307c6e0e5437796e84fb6453cf53353cce13a5e3b3430991f8d4a4afa0c", func := "loop.example/g03219/laws.FnExactTermOk", spec := "fnExactTermOk", recurses := true, loops := true, apart := false, narrowed := true }
def FnExactTermOkUptoSaid : Prop := fnExactTermOkUptoRow.holds Try.pinned (OpenSpec.upto fnExactTermOkSpec)

/-- 'laws.FnCompare', WHERE WHAT IT READS IS OF BULK AT MOST 1048576: true; the input reads as it did. -/
def fnCompareUptoRow : OpenClaim := { program := "ytkoaicjcanplaaa", sum := "83653307c6e0e5437796e84fb6453cf53353cce13a5e3b3430991f8d4a4afa0c", func := "loop.example/g03219/laws.FnCompare", spec := "fnCompare", inPlace := ["internal/bytealg.abigen_runtime_cmpstring"], recurses := true, apart := false, narrowed := true }
def FnCompareUptoSaid : Prop := fnCompareUptoRow.holds Try.pinned (OpenSpec.upto fnCompareSpec)

/-- 'laws.FnExactVarsOf', WHERE WHAT IT READS IS OF BULK AT MOST 1048576: true; the input reads as it did. -/
def fnExactVarsOfUptoRow : OpenClaim := { program := "ytkoaicjcanplaaa", sum := "83653307c6e0e5437796e84fb6453cf53353cce13a5e3b3430991f8d4a4afa0c", func := "loop.example/g03219/laws.FnExactVarsOf", spec := "fnExactVarsOf", unfollowed := true, recurses := true, loops := true, apart := false, narrowed := true }
def FnExactVarsOfUptoSaid : Prop := fnExactVarsOfUptoRow.holds Try.pinned (OpenSpec.upto fnExactVarsOfSpec)

/-- 'laws.FnExactPutTerm', WHERE WHAT IT READS IS OF BULK AT MOST 1048576: true; the input reads as it did. -/
def fnExactPutTermUptoRow : OpenClaim := { program := "ytkoaicjcanplaaa", sum := "83653307c6e0e5437796e84fb6453cf53353cce13a5e3b3430991f8d4a4afa0c", func := "loop.example/g03219/laws.FnExactPutTerm", spec := "fnExactPutTerm", unfollowed := true, recurses := true, loops := true, apart := false, narrowed := true }
def FnExactPutTermUptoSaid : Prop := fnExactPutTermUptoRow.holds Try.pinned (OpenSpec.upto fnExactPutTermSpec)

/-- 'laws.FnExactIsSimple', WHERE WHAT IT READS IS OF BULK AT MOST 1048576: true; the input reads as it did. -/
def fnExactIsSimpleUptoRow : OpenClaim := { program := "ytkoaicjcanplaaa", sum := "83653307c6e0e5437796e84fb6453cf53353cce13a5e3b3430991f8d4a4afa0c", func := "loop.example/g03219/laws.FnExactIsSimple", spec := "fnExactIsSimple", inPlace := ["internal/bytealg.abigen_runtime_cmpstring"], recurses := true, loops := true, apart := false, narrowed := true }
def FnExactIsSimpleUptoSaid : Prop := fnExactIsSimpleUptoRow.holds Try.pinned (OpenSpec.upto fnExactIsSimpleSpec)

/-- 'laws.FnExactMakeTerm', WHERE WHAT IT READS IS OF BULK AT MOST 1048576: true; the input reads as it did. -/
def fnExactMakeTermUptoRow : OpenClaim := { program := "ytkoaicjcanplaaa", sum := "83653307c6e0e5437796e84fb6453cf53353cce13a5e3b3430991f8d4a4afa0c", func := "loop.example/g03219/laws.FnExactMakeTerm", spec := "fnExactMakeTerm", inPlace := ["internal/bytealg.abigen_runtime_cmpstring"], recurses := true, loops := true, apart := false, narrowed := true }
def FnExactMakeTermUptoSaid : Prop := fnExactMakeTermUptoRow.holds Try.pinned (OpenSpec.upto fnExactMakeTermSpec)

/-- 'laws.FnExactEvalTerm', WHERE WHAT IT READS IS OF BULK AT MOST 1048576: true; the input reads as it did. -/
def fnExactEvalTermUptoRow : OpenClaim := { program := "ytkoaicjcanplaaa", sum := "83653307c6e0e5437796e84fb6453cf53353cce13a5e3b3430991f8d4a4afa0c", func := "loop.example/g03219/laws.FnExactEvalTerm", spec := "fnExactEvalTerm", unfollowed := true, recurses := true, loops := true, apart := false, narrowed := true }
def FnExactEvalTermUptoSaid : Prop := fnExactEvalTermUptoRow.holds Try.pinned (OpenSpec.upto fnExactEvalTermSpec)

/-- 'laws.FnExactSimplify', WHERE WHAT IT READS IS OF BULK AT MOST 1048576: true; the input reads as it did. -/
def fnExactSimplifyUptoRow : OpenClaim := { program := "ytkoaicjcanplaaa", sum := "83653307c6e0e5437796e84fb6453cf53353cce13a5e3b3430991f8d4a4afa0c", func := "loop.example/g03219/laws.FnExactSimplify", spec := "fnExactSimplify", inPlace := ["internal/bytealg.abigen_runtime_cmpstring"], recurses := true, loops := true, apart := false, narrowed := true }
def FnExactSimplifyUptoSaid : Prop := fnExactSimplifyUptoRow.holds Try.pinned (OpenSpec.upto fnExactSimplifySpec)

/-- 'laws.FnExactTableOf', WHERE WHAT IT READS IS OF BULK AT MOST 1048576: true; the input reads as it did. -/
def fnExactTableOfUptoRow : OpenClaim := { program := "ytkoaicjcanplaaa", sum := "83653307c6e0e5437796e84fb6453cf53353cce13a5e3b3430991f8d4a4afa0c", func := "loop.example/g03219/laws.FnExactTableOf", spec := "fnExactTableOf", unfollowed := true, recurses := true, loops := true, apart := false, narrowed := true }
def FnExactTableOfUptoSaid : Prop := fnExactTableOfUptoRow.holds Try.pinned (OpenSpec.upto fnExactTableOfSpec)

/-- 'laws.FnExactAllOf', WHERE WHAT IT READS IS OF BULK AT MOST 1048576: true; the input reads as it did. -/
def fnExactAllOfUptoRow : OpenClaim := { program := "ytkoaicjcanplaaa", sum := "83653307c6e0e5437796e84fb6453cf53353cce13a5e3b3430991f8d4a4afa0c", func := "loop.example/g03219/laws.FnExactAllOf", spec := "fnExactAllOf", inPlace := ["internal/bytealg.abigen_runtime_cmpstring"], recurses := true, loops := true, apart := false, narrowed := true }
def FnExactAllOfUptoSaid : Prop := fnExactAllOfUptoRow.holds Try.pinned (OpenSpec.upto fnExactAllOfSpec)

/-- 'laws.FnPut', WHERE WHAT IT READS IS OF BULK AT MOST 1048576: true; the input reads as it did. -/
def fnPutUptoRow : OpenClaim := { program := "ytkoaicjcanplaaa", sum := "83653307c6e0e5437796e84fb6453cf53353cce13a5e3b3430991f8d4a4afa0c", func := "loop.example/g03219/laws.FnPut", spec := "fnPut", unfollowed := true, recurses := true, apart := false, narrowed := true }
def FnPutUptoSaid : Prop := fnPutUptoRow.holds Try.pinned (OpenSpec.upto fnPutSpec)

end Rows
end Go.Proofs.Ytkoaicjcanplaaa
