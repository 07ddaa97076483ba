/- logs: End and From of a log that no call made; Open without a disk. -/
import Derived.Test.YtnegondlkfeleaaDoorLoj
namespace Go.Proofs.YtnegondlkfeleaaDoor
open Go.RowKit

theorem ents_nil (w : World) : Ents w (.slice none 0 0) [] := ⟨[], rfl, ⟨none, 0, rfl, Nat.le_refl _, rfl, .inl rfl⟩, fun j h => by simp at h⟩
theorem vd_ct {p : Nat} {w : World} (h : Blk w p 37 vdC) : Ct w p 0 0 (.slice none 0 0) := ⟨by rw [h.cell]; rfl, by rw [h.cell]; rfl, by rw [h.cell]; rfl⟩
theorem lend_void (p : Nat) (w : World) (h : Blk w p 37 vdC) : Calls Tryd.prog 37 #[.pointer (some ⟨p, 0, none⟩)] w fun e w' => e = .returned (.agg #[.int .u64 0, .int .u64 0]) ∧ Below w.heap.size w w' :=
  lend_any p 0 0 _ [] w (vd_ct h) (ents_nil w) (fun j h => by simp at h) (by simp)
set_option maxHeartbeats 1000000 in
theorem lEnd_void (p : Nat) (w : World) (h : Blk w p 37 vdC) : Calls Tryd.prog 10 #[.pointer (some ⟨p, 0, none⟩)] w fun e w' => e = .returned (.tuple #[.int .u64 0, .int .u64 0]) ∧ Below w.heap.size w w' := by
  have LE := Lib.hid (lend_void p w h)
  clear h
  go_enter Tryd.func10, Tryd.ntmps10
  go_wp2_with fail
  refine LE.out.mono ?_
  rintro e w1 ⟨rfl, b1⟩
  have B1 := Lib.hid (bel2 b1 (below_alloc_ w1 (.cells #[.int .u64 0, .int .u64 0] 32)))
  clear b1
  go_wp2_with fail
  go_quiet (fail)
  go_wp2
  go_ret2
  exact ⟨rfl, B1.out.trans (below_drewN_ _ _ _)⟩
set_option maxHeartbeats 1000000 in
set_option maxRecDepth 100000 in
theorem lFrom_void (p : Nat) (i m : Int) (hi : 0 ≤ i) (w : World) (h : Blk w p 37 vdC) : Calls Tryd.prog 15 #[.pointer (some ⟨p, 0, none⟩), .int .u64 i, .int .i64 m] w fun e w' => e = .returned (.slice none 0 0) ∧ Below w.heap.size w w' := by
  have LE := Lib.hid (lend_void p w h)
  have hfd := mark_field
  have a0 := h.cell 0
  simp [vdC] at a0
  by_cases h0 : i ≤ 0
  · have n1 : decide (i ≤ 0) = true := decide_eq_true h0
    clear h
    go_enter Tryd.func15, Tryd.ntmps15
    go_wp2
    go_ret
    exact ⟨rfl, Below.refl _ _⟩
  · have n1 : decide (i ≤ 0) = false := decide_eq_false h0
    have n2 : (0 : Int) < i := by omega
    have n3 : decide ((0 : Int) < i) = true := decide_eq_true n2
    clear h
    go_enter Tryd.func15, Tryd.ntmps15
    go_wp2_with fail
    refine LE.out.mono ?_
    rintro e w1 ⟨rfl, b1⟩
    have B1 := Lib.hid b1
    clear b1
    go_wp2
    go_ret
    exact ⟨rfl, B1.out⟩
theorem lopen_nil (w : World) : Calls Tryd.prog 8 #[.pointer none] w fun e w' => e = .returned (.tuple #[.pointer none, .int .i64 2]) ∧ w = w' := by
  go_enter Tryd.func8, Tryd.ntmps8
  go_wp2
  go_ret2
  exact ⟨rfl, rfl⟩
end Go.Proofs.YtnegondlkfeleaaDoor
