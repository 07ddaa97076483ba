/- logs: a log that is not there. -/
import Derived.Test.YtnegondlkfeleaaDoorLoi
namespace Go.Proofs.YtnegondlkfeleaaDoor
open Go.RowKit

theorem lbase_nil (w : World) : Calls Tryd.prog 9 #[.pointer none] w fun e w' => e = .returned (.tuple #[.int .u64 0, .int .u64 0]) ∧ w = w' := by
  go_enter Tryd.func9, Tryd.ntmps9
  go_wp2
  go_ret2
  exact ⟨rfl, rfl⟩
theorem lEnd_nil (w : World) : Calls Tryd.prog 10 #[.pointer none] w fun e w' => e = .returned (.tuple #[.int .u64 0, .int .u64 0]) ∧ w = w' := by
  go_enter Tryd.func10, Tryd.ntmps10
  go_wp2
  go_ret2
  exact ⟨rfl, rfl⟩
theorem ladd_nil (v : Value) (w : World) : Calls Tryd.prog 12 #[.pointer none, v] w fun e w' => e = .returned (.int .i64 2) ∧ w = w' := by
  go_enter Tryd.func12, Tryd.ntmps12
  go_wp2_with fail
  refine (lasked_nil _).mono ?_
  rintro e w1 ⟨rfl, rfl⟩
  go_wp2
  go_ret
  exact ⟨rfl, rfl⟩
theorem ldrop_nil (i : Int) (w : World) : Calls Tryd.prog 13 #[.pointer none, .int .u64 i] w fun e w' => e = .returned (.int .i64 2) ∧ w = w' := by
  go_enter Tryd.func13, Tryd.ntmps13
  go_wp2_with fail
  refine (lasked_nil _).mono ?_
  rintro e w1 ⟨rfl, rfl⟩
  go_wp2
  go_ret
  exact ⟨rfl, rfl⟩
theorem lfrom_nil (i n : Int) (w : World) : Calls Tryd.prog 15 #[.pointer none, .int .u64 i, .int .i64 n] w fun e w' => e = .returned (.slice none 0 0) ∧ w = w' := by
  go_enter Tryd.func15, Tryd.ntmps15
  go_wp2
  go_ret
  exact ⟨rfl, rfl⟩
theorem lterm_nil (i : Int) (w : World) : Calls Tryd.prog 11 #[.pointer none, .int .u64 i] w fun e w' => e = .returned (.tuple #[.int .u64 0, .bool false]) ∧ w = w' := by
  go_enter Tryd.func11, Tryd.ntmps11
  go_wp2
  go_ret2
  exact ⟨rfl, rfl⟩
theorem lreset_nil (i t : Int) (w : World) : Calls Tryd.prog 14 #[.pointer none, .int .u64 i, .int .u64 t] w fun e w' => e = .returned (.int .i64 2) ∧ w = w' := by
  go_enter Tryd.func14, Tryd.ntmps14
  go_wp2_with fail
  refine (lasked_nil _).mono ?_
  rintro e w1 ⟨rfl, rfl⟩
  go_wp2
  go_ret
  exact ⟨rfl, rfl⟩
/-- A log that no call made. -/
def vdC : Array Value := #[.int .u64 0, .int .u64 0, .slice none 0 0, .pointer none, .int .i64 0, .bool false]
theorem lasked_void (p : Nat) (w : World) (h : Blk w p 37 vdC) : Calls Tryd.prog 39 #[.pointer (some ⟨p, 0, none⟩)] w fun e w' => e = .returned (.int .i64 2) ∧ w = w' := by
  have a3 := h.cell 3
  simp [vdC] at a3
  go_enter Tryd.func39, Tryd.ntmps39
  go_wp2
  go_ret
  exact ⟨rfl, rfl⟩
theorem ladd_void (p : Nat) (v : Value) (w : World) (h : Blk w p 37 vdC) : Calls Tryd.prog 12 #[.pointer (some ⟨p, 0, none⟩), v] w fun e w' => e = .returned (.int .i64 2) ∧ w = w' := by
  go_enter Tryd.func12, Tryd.ntmps12
  go_wp2_with fail
  refine (lasked_void p _ h).mono ?_
  rintro e w1 ⟨rfl, rfl⟩
  go_wp2
  go_ret
  exact ⟨rfl, rfl⟩
theorem ldrop_void (p : Nat) (i : Int) (w : World) (h : Blk w p 37 vdC) : Calls Tryd.prog 13 #[.pointer (some ⟨p, 0, none⟩), .int .u64 i] w fun e w' => e = .returned (.int .i64 2) ∧ w = w' := by
  go_enter Tryd.func13, Tryd.ntmps13
  go_wp2_with fail
  refine (lasked_void p _ h).mono ?_
  rintro e w1 ⟨rfl, rfl⟩
  go_wp2
  go_ret
  exact ⟨rfl, rfl⟩
theorem lreset_void (p : Nat) (i t : Int) (w : World) (h : Blk w p 37 vdC) : Calls Tryd.prog 14 #[.pointer (some ⟨p, 0, none⟩), .int .u64 i, .int .u64 t] w fun e w' => e = .returned (.int .i64 2) ∧ w = w' := by
  go_enter Tryd.func14, Tryd.ntmps14
  go_wp2_with fail
  refine (lasked_void p _ h).mono ?_
  rintro e w1 ⟨rfl, rfl⟩
  go_wp2
  go_ret
  exact ⟨rfl, rfl⟩
theorem lbase_void (p : Nat) (w : World) (h : Blk w p 37 vdC) : Calls Tryd.prog 9 #[.pointer (some ⟨p, 0, none⟩)] w fun e w' => e = .returned (.tuple #[.int .u64 0, .int .u64 0]) ∧ ∃ m, w' = w.drewN m := by
  have a0 := h.cell 0
  have a1 := h.cell 1
  simp [vdC] at a0 a1
  go_enter Tryd.func9, Tryd.ntmps9
  go_wp2_with fail
  go_quiet (fail)
  go_wp2
  go_ret2
  exact ⟨rfl, _, rfl⟩
theorem lterm_void (p : Nat) (i : Int) (w : World) (h : Blk w p 37 vdC) : Calls Tryd.prog 11 #[.pointer (some ⟨p, 0, none⟩), .int .u64 i] w fun e w' => e = .returned (.tuple #[.int .u64 0, .bool false]) ∧ w = w' := by
  have a3 := h.cell 3
  simp [vdC] at a3
  go_enter Tryd.func11, Tryd.ntmps11
  go_wp2
  go_ret2
  exact ⟨rfl, rfl⟩
end Go.Proofs.YtnegondlkfeleaaDoor
