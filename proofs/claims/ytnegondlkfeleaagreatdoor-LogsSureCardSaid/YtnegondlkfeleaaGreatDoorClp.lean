/- A slice that has no room behind. -/
import Derived.Test.YtnegondlkfeleaaGreatDoorMem
namespace Go.Proofs.YtnegondlkfeleaaGreatDoor
open Go.RowKit

def Clp (v : Value) : Prop := ∃ A n, v = .slice A n n
end Go.Proofs.YtnegondlkfeleaaGreatDoor
