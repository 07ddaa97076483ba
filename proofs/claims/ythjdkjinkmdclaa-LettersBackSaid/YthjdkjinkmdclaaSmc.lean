/- law01: whether two calls are the same. -/
import Derived.Test.YthjdkjinkmdclaaSms
namespace Go.Proofs.Ythjdkjinkmdclaa
open Go.RowKit

end Go.Proofs.Ythjdkjinkmdclaa
