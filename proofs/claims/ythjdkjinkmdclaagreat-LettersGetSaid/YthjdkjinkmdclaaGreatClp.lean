/- A slice that has no room behind. -/
import Derived.Test.YthjdkjinkmdclaaGreatMem
namespace Go.Proofs.YthjdkjinkmdclaaGreat
open Go.RowKit

def Clp (v : Value) : Prop := ∃ A n, v = .slice A n n
end Go.Proofs.YthjdkjinkmdclaaGreat
