/- The document's Num and Sign. -/
import Derived.Test.YtenobcfgapolhaaPuz
namespace Go.Proofs.Ytenobcfgapolhaa
open Go.RowKit

theorem Bf.start_ (w : World) : Bf w.heap.size w w (.slice none 0 0) [] := ⟨Bo.nil_ _ _, Below.refl _ _, Nat.le_refl _⟩

theorem zz_pos_eq {n : Int} (h : 0 ≤ n) : ((zz n : Nat) : Int) = 2 * n := by rw [zz, if_pos h]; omega
theorem zz_neg_eq {n : Int} (h : ¬ 0 ≤ n) : ((zz n : Nat) : Int) = 2 * (-(n + 1)) + 1 := by rw [zz, if_neg h]; omega

end Go.Proofs.Ytenobcfgapolhaa
