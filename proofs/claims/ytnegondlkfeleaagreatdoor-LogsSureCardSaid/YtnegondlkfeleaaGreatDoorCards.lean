/-
  DERIVED. GIVEN WITH THE SEED: THE CARDS: each row of YtnegondlkfeleaaGreatDoorRows.lean that lists a variable, with what it lists TIED to the program's text (the seventh form; the later family's looks); each row that meets fmt, with fmt's text TOLD by the authors' own Lean function (tested against real Go, not proved from fmt's source: count such statements apart). THE CARD IS WHAT COUNTS. Prove the row's statement (the work); the ties are given (YtnegondlkfeleaaGreatDoorTie.lean); close each card by the builder's one call (the guide's Derived/Test/ToyasCard.lean, 'card_holds'). Laid BY PROGRAM, IN A SANDBOX (cutbox-door.mjs). By AI agents, Wed Nov 11 2026. No macro, syntax, notation, axiom, sorry.
-/
import Derived.Test.YtnegondlkfeleaaGreatDoorRows
import GoSem.ClaimSeven
namespace Go.Proofs.YtnegondlkfeleaaGreatDoor
namespace Rows

/-- THE TIED CARD OF 'countinghouselaw19.LogsSure'. -/
def logsSureCard : Claim7 := { stood := { row := logsSureRow, standIns := [], harness := (true, "c03a3d41bac683abfb4fa86a46cb4ad7df54e88b251e69e9c157f48fdf682f15"), looks := true }, kinds := [], alts := [], laidByText := true, laidKinds := [.data], laidTests := true, laidLooks := .later }
def LogsSureCardSaid : Prop := Claim7.holds Tryz.pinned (.plain (OpenSpec.ofChange logsSureSpec)) logsSureCard

/-- THE SECOND FORM's CARD OF 'countinghouselaw19.LogsSure'. -/
def logsSureUptoCard : Claim7 := { stood := { row := logsSureUptoRow, standIns := [], harness := (true, "c03a3d41bac683abfb4fa86a46cb4ad7df54e88b251e69e9c157f48fdf682f15"), looks := true }, kinds := [], alts := [], laidByText := true, laidKinds := [.data], laidTests := true, laidLooks := .later }
def LogsSureUptoCardSaid : Prop := Claim7.holds Tryz.pinned (.plain (OpenSpec.upto logsSureSpec)) logsSureUptoCard
end Rows
end Go.Proofs.YtnegondlkfeleaaGreatDoor
