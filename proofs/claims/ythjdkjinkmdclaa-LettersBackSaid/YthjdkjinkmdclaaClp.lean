/- A slice that has no room behind. -/
import Derived.Test.YthjdkjinkmdclaaMem
namespace Go.Proofs.Ythjdkjinkmdclaa
open Go.RowKit

def Clp (v : Value) : Prop := ∃ A n, v = .slice A n n
end Go.Proofs.Ythjdkjinkmdclaa
