/- law01: whether two calls are the same. -/
import Derived.Test.YthjdkjinkmdclaaGreatSms
namespace Go.Proofs.YthjdkjinkmdclaaGreat
open Go.RowKit

set_option maxHeartbeats 2000000 in
set_option maxRecDepth 100000 in
theorem samecall_any (c n d m : Int) (v u : Value) (xs ys : List (List Int)) (hx : ∀ q ∈ xs, q.length = 10) (hy : ∀ q ∈ ys, q.length = 10) (w : World) (hv : Steps w v xs) (hu : Steps w u ys) (hn : xs.length ≤ 1000000) :
    Calls Tryz.prog 42 #[.agg #[.int .u8 c, .int .u64 n, v], .agg #[.int .u8 d, .int .u64 m, u]] w fun e w' => e = .returned (.bool (decide (c = d ∧ n = m ∧ xs = ys))) ∧ Below w.heap.size w w' := by
  have HV := Lib.hid (Rd.alloc (Rd.alloc hv (.cells #[.int .u8 c, .int .u64 n, v] 30)) (.cells #[.int .u8 d, .int .u64 m, u] 30))
  have HU := Lib.hid (Rd.alloc (Rd.alloc hu (.cells #[.int .u8 c, .int .u64 n, v] 30)) (.cells #[.int .u8 d, .int .u64 m, u] 30))
  have HX := Lib.hid hx
  have HY := Lib.hid hy
  obtain ⟨A, e1, rfl, -⟩ := id hv
  obtain ⟨B, e2, rfl, -⟩ := id hu
  clear hv hu hx hy
  by_cases h1 : c = d
  · by_cases h2 : n = m
    · have HD := Lib.hid (show decide (xs = ys) = decide (c = d ∧ n = m ∧ xs = ys) by rw [decide_eq_decide]; simp [h1, h2])
      have e1 : (c == d) = true := by simpa using h1
      have e2 : (n == m) = true := by simpa using h2
      clear h1 h2
      go_enter Tryz.func42, Tryz.ntmps42
      go_wp2_with fail
      refine (same_steps xs ys HX.out HY.out _ _ _ HV.out HU.out (by omega)).mono ?_
      rintro e w' ⟨rfl, m, rfl⟩
      go_wp2
      go_ret
      exact ⟨by rw [← HD.out]; rfl, (below_alloc2_ _ _ _).trans (below_drewN_ _ _ _)⟩
    · have HD := Lib.hid (show decide (c = d ∧ n = m ∧ xs = ys) = false from decide_eq_false (fun h => h2 h.2.1))
      have e1 : (c == d) = true := by simpa using h1
      have e2 : (n == m) = false := by simpa using h2
      clear h1 h2
      go_enter Tryz.func42, Tryz.ntmps42
      go_wp2
      go_ret
      exact ⟨by rw [HD.out]; rfl, below_alloc2_ _ _ _⟩
  · have HD := Lib.hid (show decide (c = d ∧ n = m ∧ xs = ys) = false from decide_eq_false (fun h => h1 h.1))
    have e1 : (c == d) = false := by simpa using h1
    clear h1
    go_enter Tryz.func42, Tryz.ntmps42
    go_wp2
    go_ret
    exact ⟨by rw [HD.out]; rfl, below_alloc2_ _ _ _⟩
end Go.Proofs.YthjdkjinkmdclaaGreat
