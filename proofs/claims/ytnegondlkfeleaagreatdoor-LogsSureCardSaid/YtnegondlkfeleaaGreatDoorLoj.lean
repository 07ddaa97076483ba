/- logs: a log that is not there. -/
import Derived.Test.YtnegondlkfeleaaGreatDoorLoi
namespace Go.Proofs.YtnegondlkfeleaaGreatDoor
open Go.RowKit

theorem lbase_nil (w : World) : Calls Tryz.prog 15 #[.pointer none] w fun e w' => e = .returned (.tuple #[.int .u64 0, .int .u64 0]) ∧ w = w' := by
  go_enter Tryz.func15, Tryz.ntmps15
  go_wp2
  go_ret2
  exact ⟨rfl, rfl⟩
theorem lEnd_nil (w : World) : Calls Tryz.prog 13 #[.pointer none] w fun e w' => e = .returned (.tuple #[.int .u64 0, .int .u64 0]) ∧ w = w' := by
  go_enter Tryz.func13, Tryz.ntmps13
  go_wp2
  go_ret2
  exact ⟨rfl, rfl⟩
theorem ladd_nil (v : Value) (w : World) : Calls Tryz.prog 9 #[.pointer none, v] w fun e w' => e = .returned (.int .i64 2) ∧ w = w' := by
  go_enter Tryz.func9, Tryz.ntmps9
  go_wp2_with fail
  refine (lasked_nil _).mono ?_
  rintro e w1 ⟨rfl, rfl⟩
  go_wp2
  go_ret
  exact ⟨rfl, rfl⟩
theorem ldrop_nil (i : Int) (w : World) : Calls Tryz.prog 14 #[.pointer none, .int .u64 i] w fun e w' => e = .returned (.int .i64 2) ∧ w = w' := by
  go_enter Tryz.func14, Tryz.ntmps14
  go_wp2_with fail
  refine (lasked_nil _).mono ?_
  rintro e w1 ⟨rfl, rfl⟩
  go_wp2
  go_ret
  exact ⟨rfl, rfl⟩
theorem lfrom_nil (i n : Int) (w : World) : Calls Tryz.prog 11 #[.pointer none, .int .u64 i, .int .i64 n] w fun e w' => e = .returned (.slice none 0 0) ∧ w = w' := by
  go_enter Tryz.func11, Tryz.ntmps11
  go_wp2
  go_ret
  exact ⟨rfl, rfl⟩
/-- A log that no call made. -/
def vdC : Array Value := #[.int .u64 0, .int .u64 0, .slice none 0 0, .pointer none, .int .i64 0, .bool false]
theorem lasked_void (p : Nat) (w : World) (h : Blk w p 63 vdC) : Calls Tryz.prog 20 #[.pointer (some ⟨p, 0, none⟩)] w fun e w' => e = .returned (.int .i64 2) ∧ w = w' := by
  have a3 := h.cell 3
  simp [vdC] at a3
  go_enter Tryz.func20, Tryz.ntmps20
  go_wp2
  go_ret
  exact ⟨rfl, rfl⟩
theorem ladd_void (p : Nat) (v : Value) (w : World) (h : Blk w p 63 vdC) : Calls Tryz.prog 9 #[.pointer (some ⟨p, 0, none⟩), v] w fun e w' => e = .returned (.int .i64 2) ∧ w = w' := by
  go_enter Tryz.func9, Tryz.ntmps9
  go_wp2_with fail
  refine (lasked_void p _ h).mono ?_
  rintro e w1 ⟨rfl, rfl⟩
  go_wp2
  go_ret
  exact ⟨rfl, rfl⟩
theorem ldrop_void (p : Nat) (i : Int) (w : World) (h : Blk w p 63 vdC) : Calls Tryz.prog 14 #[.pointer (some ⟨p, 0, none⟩), .int .u64 i] w fun e w' => e = .returned (.int .i64 2) ∧ w = w' := by
  go_enter Tryz.func14, Tryz.ntmps14
  go_wp2_with fail
  refine (lasked_void p _ h).mono ?_
  rintro e w1 ⟨rfl, rfl⟩
  go_wp2
  go_ret
  exact ⟨rfl, rfl⟩
theorem lbase_void (p : Nat) (w : World) (h : Blk w p 63 vdC) : Calls Tryz.prog 15 #[.pointer (some ⟨p, 0, none⟩)] w fun e w' => e = .returned (.tuple #[.int .u64 0, .int .u64 0]) ∧ ∃ m, w' = w.drewN m := by
  have a0 := h.cell 0
  have a1 := h.cell 1
  simp [vdC] at a0 a1
  go_enter Tryz.func15, Tryz.ntmps15
  go_wp2_with fail
  go_quiet (fail)
  go_wp2
  go_ret2
  exact ⟨rfl, _, rfl⟩
end Go.Proofs.YtnegondlkfeleaaGreatDoor
