/- A slice that has no room behind. -/
import Derived.Test.YtielnocnnffdfaaGreatMem
namespace Go.Proofs.YtielnocnnffdfaaGreat
open Go.RowKit

def Clp (v : Value) : Prop := ∃ A n, v = .slice A n n
end Go.Proofs.YtielnocnnffdfaaGreat
