/-
  DERIVED. GIVEN WITH THE SEED: THE CARDS: each row of YtekddgkgeaolnaaDoorRows.lean that lists a variable, with what it lists TIED to the program's text (the seventh form; the later family's looks); each row that meets fmt, with fmt's text TOLD by the authors' own Lean function (tested against real Go, not proved from fmt's source: count such statements apart). THE CARD IS WHAT COUNTS. Prove the row's statement (the work); the ties are given (YtekddgkgeaolnaaDoorTie.lean); close each card by the builder's one call (the guide's Derived/Test/ToyasCard.lean, 'card_holds'). Laid BY PROGRAM, IN A SANDBOX (cutbox-door.mjs). By AI agents, Wed Nov 11 2026. No macro, syntax, notation, axiom, sorry.
-/
import Derived.Test.YtekddgkgeaolnaaDoorRows
import GoSem.ClaimSeven
namespace Go.Proofs.YtekddgkgeaolnaaDoor
namespace Rows

/-- THE TIED CARD OF 'laws.FnExactSplitLines'. -/
def fnExactSplitLinesCard : Claim7 := { stood := { row := fnExactSplitLinesRow, standIns := [], harness := (true, "570721f42c3e63e2d4371eec6bea2af7ddab7e04007f6f317749b110b40c3c16"), looks := true }, kinds := [], alts := [], laidByText := true, laidKinds := [.data, .pinned], laidTests := true, laidLooks := .later }
def FnExactSplitLinesCardSaid : Prop := Claim7.holds Tryd.pinned (.plain (OpenSpec.ofChange fnExactSplitLinesSpec)) fnExactSplitLinesCard

/-- THE TIED CARD OF 'laws.FnExactWords'. -/
def fnExactWordsCard : Claim7 := { stood := { row := fnExactWordsRow, standIns := [], harness := (true, "570721f42c3e63e2d4371eec6bea2af7ddab7e04007f6f317749b110b40c3c16"), looks := true }, kinds := [], alts := [], laidByText := true, laidKinds := [.data, .pinned], laidTests := true, laidLooks := .later }
def FnExactWordsCardSaid : Prop := Claim7.holds Tryd.pinned (.plain (OpenSpec.ofChange fnExactWordsSpec)) fnExactWordsCard

/-- THE TIED CARD OF 'laws.FnExactFormatInts'. -/
def fnExactFormatIntsCard : Claim7 := { stood := { row := fnExactFormatIntsRow, standIns := [], harness := (true, "570721f42c3e63e2d4371eec6bea2af7ddab7e04007f6f317749b110b40c3c16"), looks := true }, kinds := [], alts := [], laidByText := true, laidKinds := [.data, .data, .data], laidTests := true, laidLooks := .later }
def FnExactFormatIntsCardSaid : Prop := Claim7.holds Tryd.pinned (.plain (OpenSpec.ofChange fnExactFormatIntsSpec)) fnExactFormatIntsCard

/-- THE TIED CARD OF 'laws.FnExactFormatFormula'. -/
def fnExactFormatFormulaCard : Claim7 := { stood := { row := fnExactFormatFormulaRow, standIns := [], harness := (true, "570721f42c3e63e2d4371eec6bea2af7ddab7e04007f6f317749b110b40c3c16"), looks := true }, kinds := [], alts := [], laidByText := true, laidKinds := [.data, .data, .data], laidTests := true, laidLooks := .later }
def FnExactFormatFormulaCardSaid : Prop := Claim7.holds Tryd.pinned (.plain (OpenSpec.ofChange fnExactFormatFormulaSpec)) fnExactFormatFormulaCard

/-- THE TIED CARD OF 'laws.FnExactParseInt'. -/
def fnExactParseIntCard : Claim7 := { stood := { row := fnExactParseIntRow, standIns := [], harness := (true, "570721f42c3e63e2d4371eec6bea2af7ddab7e04007f6f317749b110b40c3c16"), looks := true }, kinds := [], alts := [], laidByText := true, laidKinds := [.data, .data, .data, .sentinel, .sentinel], laidTests := true, laidLooks := .later }
def FnExactParseIntCardSaid : Prop := Claim7.holds Tryd.pinned (.plain (OpenSpec.ofChange fnExactParseIntSpec)) fnExactParseIntCard

/-- THE TIED CARD OF 'laws.FnExactFormatTerm'. -/
def fnExactFormatTermCard : Claim7 := { stood := { row := fnExactFormatTermRow, standIns := [], harness := (true, "570721f42c3e63e2d4371eec6bea2af7ddab7e04007f6f317749b110b40c3c16"), looks := true }, kinds := [], alts := [], laidByText := true, laidKinds := [.data, .data, .data], laidTests := true, laidLooks := .later }
def FnExactFormatTermCardSaid : Prop := Claim7.holds Tryd.pinned (.plain (OpenSpec.ofChange fnExactFormatTermSpec)) fnExactFormatTermCard

/-- THE TIED CARD OF 'laws.FnExactParseInts'. -/
def fnExactParseIntsCard : Claim7 := { stood := { row := fnExactParseIntsRow, standIns := [], harness := (true, "570721f42c3e63e2d4371eec6bea2af7ddab7e04007f6f317749b110b40c3c16"), looks := true }, kinds := [], alts := [], laidByText := true, laidKinds := [.data, .data, .data, .data, .sentinel, .sentinel, .pinned], laidTests := true, laidLooks := .later }
def FnExactParseIntsCardSaid : Prop := Claim7.holds Tryd.pinned (.plain (OpenSpec.ofChange fnExactParseIntsSpec)) fnExactParseIntsCard

/-- THE SECOND FORM's CARD OF 'laws.FnExactSplitLines'. -/
def fnExactSplitLinesUptoCard : Claim7 := { stood := { row := fnExactSplitLinesUptoRow, standIns := [], harness := (true, "570721f42c3e63e2d4371eec6bea2af7ddab7e04007f6f317749b110b40c3c16"), looks := true }, kinds := [], alts := [], laidByText := true, laidKinds := [.data, .pinned], laidTests := true, laidLooks := .later }
def FnExactSplitLinesUptoCardSaid : Prop := Claim7.holds Tryd.pinned (.plain (OpenSpec.upto fnExactSplitLinesSpec)) fnExactSplitLinesUptoCard

/-- THE SECOND FORM's CARD OF 'laws.FnExactWords'. -/
def fnExactWordsUptoCard : Claim7 := { stood := { row := fnExactWordsUptoRow, standIns := [], harness := (true, "570721f42c3e63e2d4371eec6bea2af7ddab7e04007f6f317749b110b40c3c16"), looks := true }, kinds := [], alts := [], laidByText := true, laidKinds := [.data, .pinned], laidTests := true, laidLooks := .later }
def FnExactWordsUptoCardSaid : Prop := Claim7.holds Tryd.pinned (.plain (OpenSpec.upto fnExactWordsSpec)) fnExactWordsUptoCard

/-- THE SECOND FORM's CARD OF 'laws.FnExactFormatInts'. -/
def fnExactFormatIntsUptoCard : Claim7 := { stood := { row := fnExactFormatIntsUptoRow, standIns := [], harness := (true, "570721f42c3e63e2d4371eec6bea2af7ddab7e04007f6f317749b110b40c3c16"), looks := true }, kinds := [], alts := [], laidByText := true, laidKinds := [.data, .data, .data], laidTests := true, laidLooks := .later }
def FnExactFormatIntsUptoCardSaid : Prop := Claim7.holds Tryd.pinned (.plain (OpenSpec.upto fnExactFormatIntsSpec)) fnExactFormatIntsUptoCard

/-- THE SECOND FORM's CARD OF 'laws.FnExactFormatFormula'. -/
def fnExactFormatFormulaUptoCard : Claim7 := { stood := { row := fnExactFormatFormulaUptoRow, standIns := [], harness := (true, "570721f42c3e63e2d4371eec6bea2af7ddab7e04007f6f317749b110b40c3c16"), looks := true }, kinds := [], alts := [], laidByText := true, laidKinds := [.data, .data, .data], laidTests := true, laidLooks := .later }
def FnExactFormatFormulaUptoCardSaid : Prop := Claim7.holds Tryd.pinned (.plain (OpenSpec.upto fnExactFormatFormulaSpec)) fnExactFormatFormulaUptoCard

/-- THE SECOND FORM's CARD OF 'laws.FnExactParseInt'. -/
def fnExactParseIntUptoCard : Claim7 := { stood := { row := fnExactParseIntUptoRow, standIns := [], harness := (true, "570721f42c3e63e2d4371eec6bea2af7ddab7e04007f6f317749b110b40c3c16"), looks := true }, kinds := [], alts := [], laidByText := true, laidKinds := [.data, .data, .data, .sentinel, .sentinel], laidTests := true, laidLooks := .later }
def FnExactParseIntUptoCardSaid : Prop := Claim7.holds Tryd.pinned (.plain (OpenSpec.upto fnExactParseIntSpec)) fnExactParseIntUptoCard

/-- THE SECOND FORM's CARD OF 'laws.FnExactFormatTerm'. -/
def fnExactFormatTermUptoCard : Claim7 := { stood := { row := fnExactFormatTermUptoRow, standIns := [], harness := (true, "570721f42c3e63e2d4371eec6bea2af7ddab7e04007f6f317749b110b40c3c16"), looks := true }, kinds := [], alts := [], laidByText := true, laidKinds := [.data, .data, .data], laidTests := true, laidLooks := .later }
def FnExactFormatTermUptoCardSaid : Prop := Claim7.holds Tryd.pinned (.plain (OpenSpec.upto fnExactFormatTermSpec)) fnExactFormatTermUptoCard

/-- THE SECOND FORM's CARD OF 'laws.FnExactParseInts'. -/
def fnExactParseIntsUptoCard : Claim7 := { stood := { row := fnExactParseIntsUptoRow, standIns := [], harness := (true, "570721f42c3e63e2d4371eec6bea2af7ddab7e04007f6f317749b110b40c3c16"), looks := true }, kinds := [], alts := [], laidByText := true, laidKinds := [.data, .data, .data, .data, .sentinel, .sentinel, .pinned], laidTests := true, laidLooks := .later }
def FnExactParseIntsUptoCardSaid : Prop := Claim7.holds Tryd.pinned (.plain (OpenSpec.upto fnExactParseIntsSpec)) fnExactParseIntsUptoCard
end Rows
end Go.Proofs.YtekddgkgeaolnaaDoor
