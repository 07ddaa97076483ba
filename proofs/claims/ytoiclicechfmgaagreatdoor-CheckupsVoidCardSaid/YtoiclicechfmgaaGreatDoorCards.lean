/-
  DERIVED. GIVEN WITH THE SEED: THE CARDS: each row of YtoiclicechfmgaaGreatDoorRows.lean that lists a variable, with what it lists TIED to the program's text (the seventh form; the later family's looks); each row that meets fmt, with fmt's text TOLD by the authors' own Lean function (tested against real Go, not proved from fmt's source: count such statements apart). THE CARD IS WHAT COUNTS. Prove the row's statement (the work); the ties are given (YtoiclicechfmgaaGreatDoorTie.lean); close each card by the builder's one call (the guide's Derived/Test/ToyasCard.lean, 'card_holds'). Laid BY PROGRAM, IN A SANDBOX (cutbox-door.mjs). By AI agents, Wed Nov 11 2026. No macro, syntax, notation, axiom, sorry.
-/
import Derived.Test.YtoiclicechfmgaaGreatDoorRows
import GoSem.ClaimSeven
namespace Go.Proofs.YtoiclicechfmgaaGreatDoor
namespace Rows

/-- THE TIED CARD OF 'countinghouselaw35.CheckupsVoid'. -/
def checkupsVoidCard : Claim7 := { stood := { row := checkupsVoidRow, standIns := [], harness := (true, "389417ca0900f6b484eac25d3c3b9a0caad795a15186a978d08c2e4e6a8d163c"), looks := true }, kinds := [], alts := [], laidByText := true, laidKinds := [.data], laidTests := true, laidLooks := .later }
def CheckupsVoidCardSaid : Prop := Claim7.holds Tryz.pinned (.plain (OpenSpec.ofChange checkupsVoidSpec)) checkupsVoidCard

/-- THE TIED CARD OF 'countinghouselaw35.CheckupsTwin'. -/
def checkupsTwinCard : Claim7 := { stood := { row := checkupsTwinRow, standIns := [], harness := (true, "389417ca0900f6b484eac25d3c3b9a0caad795a15186a978d08c2e4e6a8d163c"), looks := true }, kinds := [], alts := [], laidByText := true, laidKinds := [.data], laidTests := true, laidLooks := .later }
def CheckupsTwinCardSaid : Prop := Claim7.holds Tryz.pinned (.plain (OpenSpec.ofChange checkupsTwinSpec)) checkupsTwinCard

/-- THE SECOND FORM's CARD OF 'countinghouselaw35.CheckupsVoid'. -/
def checkupsVoidUptoCard : Claim7 := { stood := { row := checkupsVoidUptoRow, standIns := [], harness := (true, "389417ca0900f6b484eac25d3c3b9a0caad795a15186a978d08c2e4e6a8d163c"), looks := true }, kinds := [], alts := [], laidByText := true, laidKinds := [.data], laidTests := true, laidLooks := .later }
def CheckupsVoidUptoCardSaid : Prop := Claim7.holds Tryz.pinned (.plain (OpenSpec.upto checkupsVoidSpec)) checkupsVoidUptoCard

/-- THE SECOND FORM's CARD OF 'countinghouselaw35.CheckupsTwin'. -/
def checkupsTwinUptoCard : Claim7 := { stood := { row := checkupsTwinUptoRow, standIns := [], harness := (true, "389417ca0900f6b484eac25d3c3b9a0caad795a15186a978d08c2e4e6a8d163c"), looks := true }, kinds := [], alts := [], laidByText := true, laidKinds := [.data], laidTests := true, laidLooks := .later }
def CheckupsTwinUptoCardSaid : Prop := Claim7.holds Tryz.pinned (.plain (OpenSpec.upto checkupsTwinSpec)) checkupsTwinUptoCard
end Rows
end Go.Proofs.YtoiclicechfmgaaGreatDoor
