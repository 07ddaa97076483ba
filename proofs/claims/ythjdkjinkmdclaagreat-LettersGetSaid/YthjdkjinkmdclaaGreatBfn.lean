/- A buffer, carried on. -/
import Derived.Test.YthjdkjinkmdclaaGreatMemB
namespace Go.Proofs.YthjdkjinkmdclaaGreat
open Go.RowKit

theorem Bf.drew {B : Nat} {W0 w : World} {v : Value} {xs : List Int} (h : Bf B W0 w v xs) : Bf B W0 w.drew v xs := ⟨h.own, h.bel.drew, h.le⟩
theorem Bf.next {B : Nat} {W0 w w' : World} {v v' : Value} {xs ys : List Int} (h : Bf B W0 w v xs) (ho : Bo w.heap.size w' v' ys) (hb : Below w.heap.size w w') : Bf B W0 w' v' ys :=
  ⟨ho.le h.le, h.bel.trans (hb.mono h.le), Nat.le_trans h.le hb.size⟩
end Go.Proofs.YthjdkjinkmdclaaGreat
