/- VotesVoid: walk. -/
import Derived.Test.YtameheoiaajmkaaPollA
import Derived.Deep.RegionHeld3
import Derived.Deep.DrawnRows
namespace Go.Proofs.Ytameheoiaajmkaa
open Go.RowKit
attribute [local go_sem ↓] Go.wp_at_zero Go.wp_at_succ

theorem quiet_add_ {P : Program} {f : FuncId} {args : Array Value} {w : World} {a n : Nat} {v : Value}
    (h : Calls P f args (w.drewN (a + n)) fun e w' => e = .returned v ∧ ∃ m, w' = (w.drewN (a + n)).drewN m) :
    Calls P f args (w.drewN (a + n)) fun e w'' => e = .returned v ∧ ∃ m, w'' = w.drewN (a + m) :=
  h.mono fun _ _ hh => ⟨hh.1, hh.2.elim fun m hm => ⟨n + m, by rw [hm, World.drewN_drewN, Nat.add_assoc]⟩⟩
theorem quiet_add_left_ {P : Program} {f : FuncId} {args : Array Value} {w : World} {a n : Nat} {v : Value}
    (h : Calls P f args (w.drewN (a + n)) fun e w' => e = .returned v ∧ w.drewN (a + n) = w') :
    Calls P f args (w.drewN (a + n)) fun e w'' => e = .returned v ∧ ∃ m, w'' = w.drewN (a + m) :=
  h.mono fun _ _ hh => ⟨hh.1, n, hh.2.symm⟩
theorem below_drewN_ (B : Nat) (w : World) (n : Nat) : Below B w (w.drewN n) := ⟨rfl, rfl, rfl, Nat.le_refl _, fun _ _ => rfl⟩

theorem won_no (b : Nat) (w : World) (hc : w.cell? ⟨b, 0, none⟩ = some (.int .i64 0)) : Calls Try.prog 15 #[.pointer (some ⟨b, 0, none⟩)] w fun e w' => e = .returned (.bool false) ∧ ∃ n, w' = w.drewN n := by
  go_enter Try.func15, Try.ntmps15
  go_wp2_with fail
  go_quiet ((go_at_call 20; exact quiet_left_ (there_no _ _ hc)))
  go_wp2
  go_ret
  exact ⟨rfl, _, rfl⟩

theorem lost_nil (w : World) : Calls Try.prog 16 #[.pointer none] w fun e w' => e = .returned (.bool false) ∧ ∃ n, w' = w.drewN n := by
  go_enter Try.func16, Try.ntmps16
  go_wp2_with fail
  go_quiet ((go_at_call 20; exact quiet_left_ (there_nil _)))
  go_wp2
  go_ret
  exact ⟨rfl, _, rfl⟩

theorem lost_no (b : Nat) (w : World) (hc : w.cell? ⟨b, 0, none⟩ = some (.int .i64 0)) : Calls Try.prog 16 #[.pointer (some ⟨b, 0, none⟩)] w fun e w' => e = .returned (.bool false) ∧ ∃ n, w' = w.drewN n := by
  go_enter Try.func16, Try.ntmps16
  go_wp2_with fail
  go_quiet ((go_at_call 20; exact quiet_left_ (there_no _ _ hc)))
  go_wp2
  go_ret
  exact ⟨rfl, _, rfl⟩

set_option maxHeartbeats 1000000 in
theorem void_walk (hlives : ∀ w, Calls Try.prog 8 #[] w fun e w' => e = .returned (.bool true) ∧ Below w.heap.size w w') (n : Int) (y : Bool) (w : World) :
    Calls Try.prog 5 #[.agg #[.int .u8 n, .bool y]] w fun e w' => e = .returned (.bool true) ∧ Below w.heap.size w w' := by
  have HL := Lib.hid hlives
  clear hlives
  go_enter Try.func5, Try.ntmps5
  go_wp2
  refine wp_loop_rounds 3 ?_
  rw [rounds_succ]
  go_wp2
  go_quiet (first | ((go_at_call 11; exact quiet_left_ (say_nil _ _ _))) | ((go_at_call 13; exact quiet_left_ (yes_nil _))) | ((go_at_call 15; exact Calls.quiet_of (won_nil _))) | ((go_at_call 16; exact Calls.quiet_of (lost_nil _))))
  go_wp2
  rw [rounds_succ]
  go_wp2
  go_quiet (first | ((go_at_call 11; exact quiet_add_left_ (say_no _ _ _ _ (by go_simp)))) | ((go_at_call 13; exact quiet_add_left_ (yes_no _ _ (by go_simp)))) | ((go_at_call 15; exact quiet_add_ (won_no _ _ (by go_simp)))) | ((go_at_call 16; exact quiet_add_ (lost_no _ _ (by go_simp)))))
  go_wp2
  rw [rounds_succ]
  go_wp2_with (go_at_call 8; refine (HL.out _).mono ?_; rintro e w' ⟨rfl, hb⟩)
  go_ret
  refine ⟨rfl, ?_⟩
  have h0 : Below w.heap.size w (((w.alloc (.cells #[.int .u8 n, .bool y] 30)).alloc (.cells #[.int .i64 0, .int .u8 0, .int .u8 0, .int .u8 0, .int .u8 0, .int .u8 0, .int .u8 0, .int .u8 0] 41)).alloc (.cells #[.pointer none, .pointer (some ⟨w.heap.size + 1, 0, none⟩)] 24)) :=
    (((Below.refl _ _).alloc (Nat.le_refl _) _).alloc (by simp) _).alloc (by simp; omega) _
  exact h0.trans ((below_drewN_ _ _ _).trans (hb.mono (by simp; omega)))
end Go.Proofs.Ytameheoiaajmkaa
