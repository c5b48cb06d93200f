/-
  DERIVED. GIVEN WITH THE SEED: THE CARDS: each row of YtnmhoeafdengfaaDoorRows.lean that lists a variable, with what it lists TIED to the program's text (the seventh form; the later family's looks); each row that meets fmt, with fmt's text TOLD by the authors' own Lean function (tested against real Go, not proved from fmt's source: count such statements apart). THE CARD IS WHAT COUNTS. Prove the row's statement (the work); the ties are given (YtnmhoeafdengfaaDoorTie.lean); close each card by the builder's one call (the guide's Derived/Test/ToyasCard.lean, 'card_holds'). Laid BY PROGRAM, IN A SANDBOX (cutbox-door.mjs). By AI agents, Wed Nov 11 2026. No macro, syntax, notation, axiom, sorry.
-/
import Derived.Test.YtnmhoeafdengfaaDoorRows
import GoSem.ClaimSeven
namespace Go.Proofs.YtnmhoeafdengfaaDoor
namespace Rows

/-- THE TIED CARD OF 'laws.FnExactSheetText'. -/
def fnExactSheetTextCard : Claim7 := { stood := { row := fnExactSheetTextRow, standIns := [], harness := (true, "b6c781b03197b5c437053a7d982d4d9e57d02045cb998f53fbd00c592b961f6a"), looks := false }, kinds := [], alts := [], laidByText := true, laidKinds := [.data, .data, .data], laidTests := true, laidLooks := .later }
def FnExactSheetTextCardSaid : Prop := Claim7.holds Tryd.pinned (.plain (OpenSpec.ofChange fnExactSheetTextSpec)) fnExactSheetTextCard

/-- THE TIED CARD OF 'laws.FnSheets'. -/
def fnSheetsCard : Claim7 := { stood := { row := fnSheetsRow, standIns := [], harness := (true, "b6c781b03197b5c437053a7d982d4d9e57d02045cb998f53fbd00c592b961f6a"), looks := false }, kinds := [], alts := [], laidByText := true, laidKinds := [.data, .data, .data], laidTests := true, laidLooks := .later }
def FnSheetsCardSaid : Prop := Claim7.holds Tryd.pinned (.plain (OpenSpec.ofChange fnSheetsSpec)) fnSheetsCard

/-- THE SECOND FORM's CARD OF 'laws.FnExactSheetText'. -/
def fnExactSheetTextUptoCard : Claim7 := { stood := { row := fnExactSheetTextUptoRow, standIns := [], harness := (true, "b6c781b03197b5c437053a7d982d4d9e57d02045cb998f53fbd00c592b961f6a"), looks := false }, kinds := [], alts := [], laidByText := true, laidKinds := [.data, .data, .data], laidTests := true, laidLooks := .later }
def FnExactSheetTextUptoCardSaid : Prop := Claim7.holds Tryd.pinned (.plain (OpenSpec.upto fnExactSheetTextSpec)) fnExactSheetTextUptoCard

/-- THE SECOND FORM's CARD OF 'laws.FnSheets'. -/
def fnSheetsUptoCard : Claim7 := { stood := { row := fnSheetsUptoRow, standIns := [], harness := (true, "b6c781b03197b5c437053a7d982d4d9e57d02045cb998f53fbd00c592b961f6a"), looks := false }, kinds := [], alts := [], laidByText := true, laidKinds := [.data, .data, .data], laidTests := true, laidLooks := .later }
def FnSheetsUptoCardSaid : Prop := Claim7.holds Tryd.pinned (.plain (OpenSpec.upto fnSheetsSpec)) fnSheetsUptoCard
end Rows
end Go.Proofs.YtnmhoeafdengfaaDoor
