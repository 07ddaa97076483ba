/-
  DERIVED. GIVEN WITH THE SEED: THE CARDS: each row of YtnegondlkfeleaaDoorRows.lean that lists a variable, with what it lists TIED to the program's text (the seventh form; the later family's looks); each row that meets fmt, with fmt's text TOLD by the authors' own Lean function (tested against real Go, not proved from fmt's source: count such statements apart). THE CARD IS WHAT COUNTS. Prove the row's statement (the work); the ties are given (YtnegondlkfeleaaDoorTie.lean); close each card by the builder's one call (the guide's Derived/Test/ToyasCard.lean, 'card_holds'). Laid BY PROGRAM, IN A SANDBOX (cutbox-door.mjs). By AI agents, Wed Nov 11 2026. No macro, syntax, notation, axiom, sorry.
-/
import Derived.Test.YtnegondlkfeleaaDoorRows
import GoSem.ClaimSeven
namespace Go.Proofs.YtnegondlkfeleaaDoor
namespace Rows

/-- THE TIED CARD OF 'countinghouselaw19.LogsVoid'. -/
def logsVoidCard : Claim7 := { stood := { row := logsVoidRow, standIns := [], harness := (true, "7da7162acca47c0ea40932e7dd5fd51f83429a2f5535366c429378c5a891c706"), looks := true }, kinds := [], alts := [], laidByText := true, laidKinds := [.data], laidTests := true, laidLooks := .later }
def LogsVoidCardSaid : Prop := Claim7.holds Tryd.pinned (.plain (OpenSpec.ofChange logsVoidSpec)) logsVoidCard

/-- THE TIED CARD OF 'countinghouselaw19.LogsOpened'. -/
def logsOpenedCard : Claim7 := { stood := { row := logsOpenedRow, standIns := [], harness := (true, "7da7162acca47c0ea40932e7dd5fd51f83429a2f5535366c429378c5a891c706"), looks := true }, kinds := [], alts := [], laidByText := true, laidKinds := [.data], laidTests := true, laidLooks := .later }
def LogsOpenedCardSaid : Prop := Claim7.holds Tryd.pinned (.plain (OpenSpec.ofChange logsOpenedSpec)) logsOpenedCard

/-- THE TIED CARD OF 'countinghouselaw20.StatesPlay'. -/
def statesPlayCard : Claim7 := { stood := { row := statesPlayRow, standIns := [], harness := (true, "7da7162acca47c0ea40932e7dd5fd51f83429a2f5535366c429378c5a891c706"), looks := true }, kinds := [], alts := [], laidByText := true, laidKinds := [.data], laidTests := true, laidLooks := .later }
def StatesPlayCardSaid : Prop := Claim7.holds Tryd.pinned (.plain (OpenSpec.ofChange statesPlaySpec)) statesPlayCard

/-- THE SECOND FORM's CARD OF 'countinghouselaw19.LogsVoid'. -/
def logsVoidUptoCard : Claim7 := { stood := { row := logsVoidUptoRow, standIns := [], harness := (true, "7da7162acca47c0ea40932e7dd5fd51f83429a2f5535366c429378c5a891c706"), looks := true }, kinds := [], alts := [], laidByText := true, laidKinds := [.data], laidTests := true, laidLooks := .later }
def LogsVoidUptoCardSaid : Prop := Claim7.holds Tryd.pinned (.plain (OpenSpec.upto logsVoidSpec)) logsVoidUptoCard

/-- THE SECOND FORM's CARD OF 'countinghouselaw19.LogsOpened'. -/
def logsOpenedUptoCard : Claim7 := { stood := { row := logsOpenedUptoRow, standIns := [], harness := (true, "7da7162acca47c0ea40932e7dd5fd51f83429a2f5535366c429378c5a891c706"), looks := true }, kinds := [], alts := [], laidByText := true, laidKinds := [.data], laidTests := true, laidLooks := .later }
def LogsOpenedUptoCardSaid : Prop := Claim7.holds Tryd.pinned (.plain (OpenSpec.upto logsOpenedSpec)) logsOpenedUptoCard

/-- THE SECOND FORM's CARD OF 'countinghouselaw20.StatesPlay'. -/
def statesPlayUptoCard : Claim7 := { stood := { row := statesPlayUptoRow, standIns := [], harness := (true, "7da7162acca47c0ea40932e7dd5fd51f83429a2f5535366c429378c5a891c706"), looks := true }, kinds := [], alts := [], laidByText := true, laidKinds := [.data], laidTests := true, laidLooks := .later }
def StatesPlayUptoCardSaid : Prop := Claim7.holds Tryd.pinned (.plain (OpenSpec.upto statesPlaySpec)) statesPlayUptoCard
end Rows
end Go.Proofs.YtnegondlkfeleaaDoor
