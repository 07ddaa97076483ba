/- Lists, one more of each. -/
import Derived.Test.YthjdkjinkmdclaaGreatMemB
namespace Go.Proofs.YthjdkjinkmdclaaGreat
open Go.RowKit

theorem take_snoc_same {α : Type} (xs ys : List α) (k : Nat) (hx : k < xs.length) (hy : k < ys.length) (h : xs.take k = ys.take k) (he : xs[k] = ys[k]) : xs.take (k + 1) = ys.take (k + 1) := by
  rw [List.take_succ_eq_append_getElem hx, List.take_succ_eq_append_getElem hy, h, he]
end Go.Proofs.YthjdkjinkmdclaaGreat
