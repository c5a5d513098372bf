/-
  DERIVED. GIVEN WITH THE SEED: THE CARDS: each row of YtmflfcbebeikcaaDoorRows.lean that lists a variable, with what it lists TIED to the program's text (the seventh form; the later family's looks); each row that meets fmt, with fmt's text TOLD by the authors' own Lean function (tested against real Go, not proved from fmt's source: count such statements apart). THE CARD IS WHAT COUNTS. Prove the row's statement (the work); the ties are given (YtmflfcbebeikcaaDoorTie.lean); close each card by the builder's one call (the guide's Derived/Test/ToyasCard.lean, 'card_holds'). Laid BY PROGRAM, IN A SANDBOX (cutbox-door.mjs). By AI agents, Wed Nov 11 2026. No macro, syntax, notation, axiom, sorry.
-/
import Derived.Test.YtmflfcbebeikcaaDoorRows
import GoSem.ClaimSeven
namespace Go.Proofs.YtmflfcbebeikcaaDoor
namespace Rows

/-- THE TIED CARD OF 'vigillaw03.PrintExprs'. -/
def printExprsCard : Claim7 := { stood := { row := printExprsRow, standIns := [], harness := (true, "b368fec32f07ee2d4d2eadc4bf1c4af836e981e1637e804bbacba25a73435695"), looks := false }, kinds := [], alts := [], laidByText := true, laidKinds := [.data, .data, .data], laidTests := true, laidLooks := .later }
def PrintExprsCardSaid : Prop := Claim7.holds Tryd.pinned (.plain (OpenSpec.ofChange printExprsSpec)) printExprsCard

/-- THE TIED CARD OF 'vigillaw03.PrintDeep'. -/
def printDeepCard : Claim7 := { stood := { row := printDeepRow, standIns := [], harness := (true, "b368fec32f07ee2d4d2eadc4bf1c4af836e981e1637e804bbacba25a73435695"), looks := false }, kinds := [], alts := [], laidByText := true, laidKinds := [.data, .data, .data], laidTests := true, laidLooks := .later }
def PrintDeepCardSaid : Prop := Claim7.holds Tryd.pinned (.plain (OpenSpec.ofChange printDeepSpec)) printDeepCard

/-- THE TIED CARD OF 'vigillaw03.PrintExprApart'. -/
def printExprApartCard : Claim7 := { stood := { row := printExprApartRow, standIns := [], harness := (true, "b368fec32f07ee2d4d2eadc4bf1c4af836e981e1637e804bbacba25a73435695"), looks := false }, kinds := [], alts := [], laidByText := true, laidKinds := [.data, .data, .data], laidTests := true, laidLooks := .later }
def PrintExprApartCardSaid : Prop := Claim7.holds Tryd.pinned (.plain (OpenSpec.ofChange printExprApartSpec)) printExprApartCard

/-- THE TIED CARD OF 'vigillaw03.PrintApart'. -/
def printApartCard : Claim7 := { stood := { row := printApartRow, standIns := [], harness := (true, "b368fec32f07ee2d4d2eadc4bf1c4af836e981e1637e804bbacba25a73435695"), looks := false }, kinds := [], alts := [], laidByText := true, laidKinds := [.data, .data, .data], laidTests := true, laidLooks := .later }
def PrintApartCardSaid : Prop := Claim7.holds Tryd.pinned (.plain (OpenSpec.ofChange printApartSpec)) printApartCard

/-- THE TIED CARD OF 'vigillaw04.ParseExprBack'. -/
def parseExprBackCard : Claim7 := { stood := { row := parseExprBackRow, standIns := [], harness := (true, "b368fec32f07ee2d4d2eadc4bf1c4af836e981e1637e804bbacba25a73435695"), looks := false }, kinds := [], alts := [], laidByText := true, laidKinds := [.data, .data, .data], laidTests := true, laidLooks := .later }
def ParseExprBackCardSaid : Prop := Claim7.holds Tryd.pinned (.plain (OpenSpec.ofChange parseExprBackSpec)) parseExprBackCard

/-- THE SECOND FORM's CARD OF 'vigillaw03.PrintExprs'. -/
def printExprsUptoCard : Claim7 := { stood := { row := printExprsUptoRow, standIns := [], harness := (true, "b368fec32f07ee2d4d2eadc4bf1c4af836e981e1637e804bbacba25a73435695"), looks := false }, kinds := [], alts := [], laidByText := true, laidKinds := [.data, .data, .data], laidTests := true, laidLooks := .later }
def PrintExprsUptoCardSaid : Prop := Claim7.holds Tryd.pinned (.plain (OpenSpec.upto printExprsSpec)) printExprsUptoCard

/-- THE SECOND FORM's CARD OF 'vigillaw03.PrintDeep'. -/
def printDeepUptoCard : Claim7 := { stood := { row := printDeepUptoRow, standIns := [], harness := (true, "b368fec32f07ee2d4d2eadc4bf1c4af836e981e1637e804bbacba25a73435695"), looks := false }, kinds := [], alts := [], laidByText := true, laidKinds := [.data, .data, .data], laidTests := true, laidLooks := .later }
def PrintDeepUptoCardSaid : Prop := Claim7.holds Tryd.pinned (.plain (OpenSpec.upto printDeepSpec)) printDeepUptoCard

/-- THE SECOND FORM's CARD OF 'vigillaw03.PrintExprApart'. -/
def printExprApartUptoCard : Claim7 := { stood := { row := printExprApartUptoRow, standIns := [], harness := (true, "b368fec32f07ee2d4d2eadc4bf1c4af836e981e1637e804bbacba25a73435695"), looks := false }, kinds := [], alts := [], laidByText := true, laidKinds := [.data, .data, .data], laidTests := true, laidLooks := .later }
def PrintExprApartUptoCardSaid : Prop := Claim7.holds Tryd.pinned (.plain (OpenSpec.upto printExprApartSpec)) printExprApartUptoCard

/-- THE SECOND FORM's CARD OF 'vigillaw03.PrintApart'. -/
def printApartUptoCard : Claim7 := { stood := { row := printApartUptoRow, standIns := [], harness := (true, "b368fec32f07ee2d4d2eadc4bf1c4af836e981e1637e804bbacba25a73435695"), looks := false }, kinds := [], alts := [], laidByText := true, laidKinds := [.data, .data, .data], laidTests := true, laidLooks := .later }
def PrintApartUptoCardSaid : Prop := Claim7.holds Tryd.pinned (.plain (OpenSpec.upto printApartSpec)) printApartUptoCard

/-- THE SECOND FORM's CARD OF 'vigillaw04.ParseExprBack'. -/
def parseExprBackUptoCard : Claim7 := { stood := { row := parseExprBackUptoRow, standIns := [], harness := (true, "b368fec32f07ee2d4d2eadc4bf1c4af836e981e1637e804bbacba25a73435695"), looks := false }, kinds := [], alts := [], laidByText := true, laidKinds := [.data, .data, .data], laidTests := true, laidLooks := .later }
def ParseExprBackUptoCardSaid : Prop := Claim7.holds Tryd.pinned (.plain (OpenSpec.upto parseExprBackSpec)) parseExprBackUptoCard
end Rows
end Go.Proofs.YtmflfcbebeikcaaDoor
