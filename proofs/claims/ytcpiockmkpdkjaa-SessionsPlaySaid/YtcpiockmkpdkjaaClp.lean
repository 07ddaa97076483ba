/- A slice that has no room behind. -/
import Derived.Test.YtcpiockmkpdkjaaMem
namespace Go.Proofs.Ytcpiockmkpdkjaa
open Go.RowKit

def Clp (v : Value) : Prop := ∃ A n, v = .slice A n n
end Go.Proofs.Ytcpiockmkpdkjaa
