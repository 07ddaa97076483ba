/- The library's sort at uint64: the row that is sorted; Less; reverseRange. -/
import Derived.Test.YtnfabkbajhfnfaaMem
import Derived.Sort.Defs
import Derived.Sort.Statements
namespace Go.Proofs.Ytnfabkbajhfnfaa
open Go.RowKit

/-- Block g holds the numbers d, then rest; but for it and what is new nothing has turned since W. -/
structure Sd (W w : World) (g : Nat) (d : Array Int) (rest : List Value) : Prop where
  blk : Blk w g 24 ((d.toList.map fun x => Value.int .u64 x) ++ rest).toArray
  kp : W.grownBy w (some g)
theorem Sd.cell {W w : World} {g : Nat} {d : Array Int} {rest : List Value} (h : Sd W w g d rest) (i : Nat) (hi : i < d.size) : w.cell? ⟨g, i, none⟩ = some (.int .u64 d[i]!) := by
  rw [h.blk.cell]
  have : d[i]! = d[i] := getElem!_pos d i hi
  rw [this, List.getElem?_toArray, List.getElem?_append_left (by simpa using hi)]
  simp [hi]
theorem Sd.drew {W w : World} {g : Nat} {d : Array Int} {rest : List Value} (h : Sd W w g d rest) : Sd W w.drew g d rest :=
  ⟨h.blk.drew, ⟨h.kp.os, h.kp.tape, h.kp.output, h.kp.size, h.kp.block⟩⟩
theorem Sd.drewN {W w : World} {g : Nat} {d : Array Int} {rest : List Value} (h : Sd W w g d rest) : ∀ k, Sd W (w.drewN k) g d rest := fun k =>
  ⟨by have := (below_drewN_ w.heap.size w k); exact h.blk.below this h.blk.lt, h.kp.trans (grown_below_ (below_drewN_ w.heap.size w k) _)⟩
theorem Sd.set {W w : World} {g : Nat} {d : Array Int} {rest : List Value} (h : Sd W w g d rest) (i : Nat) (x : Int) (hi : i < d.size) : Sd W (w.setCell ⟨g, i, none⟩ (.int .u64 x)) g (d.setIfInBounds i x) rest := by
  refine ⟨?_, h.kp.trans (grown_set_ w g i _)⟩
  have := h.blk.set_ i (.int .u64 x)
  have e : ((d.toList.map fun x => Value.int .u64 x) ++ rest).toArray.setIfInBounds i (.int .u64 x) = (((d.setIfInBounds i x).toList.map fun x => Value.int .u64 x) ++ rest).toArray := by
    simp [List.setIfInBounds_toArray, List.set_append, hi, List.map_set]
  rw [e] at this
  exact this
theorem Sd.swp {W w : World} {g : Nat} {d : Array Int} {rest : List Value} (h : Sd W w g d rest) (i j : Nat) (hi : i < d.size) (hj : j < d.size) : Sd W ((w.setCell ⟨g, i, none⟩ (.int .u64 d[j]!)).setCell ⟨g, j, none⟩ (.int .u64 d[i]!)) g (Go.Sort.swp d i j) rest := by
  unfold Go.Sort.swp
  exact (h.set i _ hi).set j _ (by simpa using hj)
theorem nan_any (x : Int) (w : World) : Calls Try.prog 40 #[.int .u64 x] w fun e w' => e = .returned (.bool false) ∧ w' = w := by
  go_enter Try.func40, Try.ntmps40
  go_wp2
  go_ret
  exact ⟨by simp, rfl⟩
theorem less_any (x y : Int) (w : World) : Calls Try.prog 30 #[.int .u64 x, .int .u64 y] w fun e w' => e = .returned (.bool (decide (x < y))) ∧ w' = w := by
  go_enter Try.func30, Try.ntmps30
  go_wp2_with fail
  refine (nan_any x w).mono ?_
  rintro e w1 ⟨rfl, rfl⟩
  go_wp2
  go_ret
  exact ⟨rfl, rfl⟩
end Go.Proofs.Ytnfabkbajhfnfaa
