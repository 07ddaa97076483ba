/- A slice that has no room behind. -/
import Derived.Test.YtnegondlkfeleaaDoorMem
namespace Go.Proofs.YtnegondlkfeleaaDoor
open Go.RowKit

def Clp (v : Value) : Prop := ∃ A n, v = .slice A n n
end Go.Proofs.YtnegondlkfeleaaDoor
