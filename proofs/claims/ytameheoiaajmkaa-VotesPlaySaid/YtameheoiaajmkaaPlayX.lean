/- VotesPlay: the other ways. -/
import Derived.Test.YtameheoiaajmkaaRefA
namespace Go.Proofs.Ytameheoiaajmkaa
open Go.RowKit

theorem play_long (hlives : ∀ w, Calls Try.prog 8 #[] w fun e w' => e = .returned (.bool true) ∧ Below w.heap.size w w') (n : Int) (A : Option Addr) (len cap : Nat) (w : World) (h : 200 < len) :
    Calls Try.prog 3 #[.int .i64 n, .slice A len cap] w fun e w' => e = .returned (.bool true) ∧ Below w.heap.size w w' := by
  have HL := Lib.hid hlives
  clear hlives
  have h' : (200 : Int) < (len : Int) := by omega
  go_enter Try.func3, Try.ntmps3
  go_wp2_with (fail)
  refine (HL.out _).mono ?_
  rintro e w' ⟨rfl, hb⟩
  go_wp2
  go_ret
  exact ⟨rfl, hb⟩

theorem play_off (hlives : ∀ w, Calls Try.prog 8 #[] w fun e w' => e = .returned (.bool true) ∧ Below w.heap.size w w') (n : Int) (A : Option Addr) (len cap : Nat) (w : World) (h : len ≤ 200) (hn : n < 1 ∨ 7 < n) :
    Calls Try.prog 3 #[.int .i64 n, .slice A len cap] w fun e w' => e = .returned (.bool true) ∧ Below w.heap.size w w' := by
  have HL := Lib.hid hlives
  have HN := Lib.hid hn
  clear hlives hn
  have h' : ¬ (200 : Int) < (len : Int) := by omega
  by_cases h1 : n < 1
  · have e1 : decide (n < 1) = true := decide_eq_true h1
    go_enter Try.func3, Try.ntmps3
    go_wp2_with (fail)
    refine (new_none n _ HN.out).mono ?_; rintro e w' ⟨rfl, rfl⟩
    go_wp2_with (fail)
    refine (HL.out _).mono ?_
    rintro e w' ⟨rfl, hb⟩
    go_wp2
    go_ret
    exact ⟨rfl, hb⟩
  · have h7 : 7 < n := by have := HN.out; omega
    have e1 : decide (n < 1) = false := decide_eq_false h1
    have e2 : decide (7 < n) = true := decide_eq_true h7
    go_enter Try.func3, Try.ntmps3
    go_wp2_with (fail)
    refine (new_none n _ HN.out).mono ?_; rintro e w' ⟨rfl, rfl⟩
    go_wp2_with (fail)
    refine (HL.out _).mono ?_
    rintro e w' ⟨rfl, hb⟩
    go_wp2
    go_ret
    exact ⟨rfl, hb⟩

theorem play_empty (hlives : ∀ w, Calls Try.prog 8 #[] w fun e w' => e = .returned (.bool true) ∧ Below w.heap.size w w') (n : Nat) (A : Option Addr) (cap : Nat) (w : World) (hn1 : 1 ≤ n) (hn7 : n ≤ 7) :
    Calls Try.prog 3 #[.int .i64 n, .slice A 0 cap] w fun e w' => e = .returned (.bool true) ∧ Below w.heap.size w w' := by
  have HL := Lib.hid hlives
  clear hlives
  have e1 : decide ((n : Int) < 1) = false := decide_eq_false (by omega)
  have e2 : decide ((7 : Int) < (n : Int)) = false := decide_eq_false (by omega)
  go_enter Try.func3, Try.ntmps3
  go_wp2_with (fail)
  refine (new_any n _ hn1 hn7).mono ?_; rintro e w' ⟨rfl, rfl⟩
  have b0 := Lib.hid ((Below.refl w.heap.size w).alloc (Nat.le_refl _) (.cells #[.int .i64 n, .int .u8 0, .int .u8 0, .int .u8 0, .int .u8 0, .int .u8 0, .int .u8 0, .int .u8 0] 41))
  go_wp2_with (fail)
  refine (refnew_any n _ hn7).mono ?_; rintro e w1 ⟨rfl, hr, hb, hz⟩
  rw [World.size_alloc] at hb
  have b1 := Lib.hid (b0.out.trans (hb.mono (Nat.le_succ _)))
  clear hr hb hz b0
  go_wp2_with (fail)
  refine wp_loop_rounds 1 ?_
  rw [rounds_succ]
  go_wp2_with (fail)
  refine (HL.out _).mono ?_
  rintro e w' ⟨rfl, hb⟩
  go_wp2
  go_ret
  exact ⟨rfl, b1.out.trans (hb.mono b1.out.size)⟩
end Go.Proofs.Ytameheoiaajmkaa
