/- A slice that has no room behind. -/
import Derived.Test.YtielnocnnffdfaaMem
namespace Go.Proofs.Ytielnocnnffdfaa
open Go.RowKit

def Clp (v : Value) : Prop := ∃ A n, v = .slice A n n
end Go.Proofs.Ytielnocnnffdfaa
