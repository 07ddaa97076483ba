/- law01: whether two replies are the same. -/
import Derived.Test.YtcpiockmkpdkjaaSmg
import Derived.Test.YtcpiockmkpdkjaaPcr
namespace Go.Proofs.Ytcpiockmkpdkjaa
open Go.RowKit

set_option maxHeartbeats 1000000 in
theorem samer_any (E A F B : Int) (v u : Value) (xs ys : List (List Int)) (hx : ∀ q ∈ xs, q.length = 2) (hy : ∀ q ∈ ys, q.length = 2) (w : World) (hv : Gots w v xs) (hu : Gots w u ys) (hn : xs.length ≤ 1000000) :
    Calls Try.prog 11 #[.agg #[.int .i64 E, .int .i64 A, v], .agg #[.int .i64 F, .int .i64 B, u]] w fun e w' => e = .returned (.bool (decide (E = F ∧ A = B ∧ xs = ys))) ∧ Below w.heap.size w w' := by
  have HV := Lib.hid (Rd.alloc (Rd.alloc hv (.cells #[.int .i64 E, .int .i64 A, v] 33)) (.cells #[.int .i64 F, .int .i64 B, u] 33))
  have HU := Lib.hid (Rd.alloc (Rd.alloc hu (.cells #[.int .i64 E, .int .i64 A, v] 33)) (.cells #[.int .i64 F, .int .i64 B, u] 33))
  have HX := Lib.hid hx
  have HY := Lib.hid hy
  obtain ⟨a1, e1, rfl, -⟩ := id hv
  obtain ⟨a2, e2, rfl, -⟩ := id hu
  clear hv hu hx hy
  by_cases h1 : E = F
  · by_cases h2 : A = B
    · have HD := Lib.hid (show decide (xs = ys) = decide (E = F ∧ A = B ∧ xs = ys) by rw [decide_eq_decide]; simp [h1, h2])
      have e1 : (E == F) = true := by simpa using h1
      have e2 : (A == B) = true := by simpa using h2
      clear h1 h2
      go_enter Try.func11, Try.ntmps11
      go_wp2_with fail
      refine (same_gots xs ys HX.out HY.out _ _ _ HV.out HU.out (by omega)).mono ?_
      rintro e w' ⟨rfl, m, rfl⟩
      go_wp2
      go_ret
      exact ⟨by rw [← HD.out]; rfl, (below_alloc2_ _ _ _).trans (below_drewN_ _ _ _)⟩
    · have HD := Lib.hid (show decide (E = F ∧ A = B ∧ xs = ys) = false from decide_eq_false (fun h => h2 h.2.1))
      have e1 : (E == F) = true := by simpa using h1
      have e2 : (A == B) = false := by simpa using h2
      clear h1 h2
      go_enter Try.func11, Try.ntmps11
      go_wp2
      go_ret
      exact ⟨by rw [HD.out]; rfl, below_alloc2_ _ _ _⟩
  · have HD := Lib.hid (show decide (E = F ∧ A = B ∧ xs = ys) = false from decide_eq_false (fun h => h1 h.1))
    have e1 : (E == F) = false := by simpa using h1
    clear h1
    go_enter Try.func11, Try.ntmps11
    go_wp2
    go_ret
    exact ⟨by rw [HD.out]; rfl, below_alloc2_ _ _ _⟩
end Go.Proofs.Ytcpiockmkpdkjaa
