/- law16: great, state, sameState. -/
import Derived.Test.YtielnocnnffdfaaTwp
import Derived.Test.YtielnocnnffdfaaTwl
import Derived.Test.YtielnocnnffdfaaTwo
namespace Go.Proofs.Ytielnocnnffdfaa
open Go.RowKit

theorem great_any (A0 A1 A2 : Option Addr) (n0 n1 n2 c0 c1 c2 : Nat) (x3 : Int) (w : World) :
    Calls Try.prog 42 #[.agg #[.slice A0 n0 c0, .slice A1 n1 c1, .slice A2 n2 c2, .int .u64 x3]] w fun e w' => e = .returned (.bool (decide (100 < n0 ∨ 200 < n1 ∨ 200 < n2))) ∧ Below w.heap.size w w' := by
  by_cases t0 : 100 < n0
  · have t0' : (100 : Int) < (n0 : Int) := by omega
    have D := Lib.hid (decide_eq_true (show 100 < n0 ∨ 200 < n1 ∨ 200 < n2 from .inl t0))
    rw [D.out]
    go_enter Try.func42, Try.ntmps42
    go_wp2
    go_ret
    exact ⟨rfl, below_alloc_ _ _⟩
  have t0' : ¬ (100 : Int) < (n0 : Int) := by omega
  by_cases t1 : 200 < n1
  · have t1' : (200 : Int) < (n1 : Int) := by omega
    have D := Lib.hid (decide_eq_true (show 100 < n0 ∨ 200 < n1 ∨ 200 < n2 from .inr (.inl t1)))
    rw [D.out]
    go_enter Try.func42, Try.ntmps42
    go_wp2
    go_ret
    exact ⟨rfl, below_alloc_ _ _⟩
  have t1' : ¬ (200 : Int) < (n1 : Int) := by omega
  by_cases t2 : 200 < n2
  · have t2' : (200 : Int) < (n2 : Int) := by omega
    have D := Lib.hid (decide_eq_true (show 100 < n0 ∨ 200 < n1 ∨ 200 < n2 from .inr (.inr t2)))
    rw [D.out]
    go_enter Try.func42, Try.ntmps42
    go_wp2
    go_ret
    exact ⟨rfl, below_alloc_ _ _⟩
  have t2' : ¬ (200 : Int) < (n2 : Int) := by omega
  have D := Lib.hid (decide_eq_false (show ¬ (100 < n0 ∨ 200 < n1 ∨ 200 < n2) by omega))
  rw [D.out]
  go_enter Try.func42, Try.ntmps42
  go_wp2
  go_ret
  exact ⟨rfl, below_alloc_ _ _⟩

theorem state_any (A0 A1 A2 : Option Addr) (n0 n1 n2 c0 c1 c2 : Nat) (x3 : Int) (w : World) :
    Calls Try.prog 48 #[.agg #[.slice A0 n0 c0, .slice A1 n1 c1, .slice A2 n2 c2, .int .u64 x3]] w fun e w' => e = .returned (.agg #[.slice A0 n0 c0, .slice A1 n1 c1, .slice A2 n2 c2, .int .u64 x3]) ∧ Below w.heap.size w w' := by
  go_enter Try.func48, Try.ntmps48
  go_wp2
  have k1 := Blk.new (w.alloc (.cells #[.slice A0 n0 c0, .slice A1 n1 c1, .slice A2 n2 c2, .int .u64 x3] 93)) 100 #[.slice A0 n0 c0, .slice A1 n1 c1, .slice A2 n2 c2, .int .u64 x3]
  have y0 := k1.cell 0
  have y1 := k1.cell 1
  have y2 := k1.cell 2
  have y3 := k1.cell 3
  simp at y0 y1 y2 y3
  refine bodyPost_ret (v := .agg #[.slice A0 n0 c0, .slice A1 n1 c1, .slice A2 n2 c2, .int .u64 x3]) (by simp [results, Try.results48, go_sem, y0, y1, y2, y3]) rfl ?_
  exact ⟨rfl, below_alloc2_ _ _ _⟩

set_option maxHeartbeats 2000000 in
theorem ss_any (v0 v1 v2 : Value) (r0 r1 r2 : List (List Int)) (u0 u1 u2 : Value) (x3 : Int) (h0 : ∀ q ∈ r0, q.length = 1) (h1 : ∀ q ∈ r1, q.length = 5) (h2 : ∀ q ∈ r2, q.length = 7) (w : World) (hv0 : Partys w v0 r0) (hv1 : Lines w v1 r1) (hv2 : Offers w v2 r2) (hu0 : Partys w u0 r0) (hu1 : Lines w u1 r1) (hu2 : Offers w u2 r2)
    (hg0 : r0.length ≤ 1000000) (hg1 : r1.length ≤ 1000000) (hg2 : r2.length ≤ 1000000) :
    Calls Try.prog 53 #[.agg #[v0, v1, v2, .int .u64 x3], .agg #[u0, u1, u2, .int .u64 x3]] w fun e w' => e = .returned (.bool true) ∧ Below w.heap.size w w' := by
  have b2 := below_alloc2_ w (.cells #[v0, v1, v2, .int .u64 x3] 93) (.cells #[u0, u1, u2, .int .u64 x3] 100)
  have C0 := Lib.hid (fun m => Same_party r0 r0 h0 h0 v0 u0 ((((w.alloc (.cells #[v0, v1, v2, .int .u64 x3] 93)).alloc (.cells #[u0, u1, u2, .int .u64 x3] 100))).drewN m) (show Partys _ _ _ from Rd.drewN (Rd.below hv0 b2) m) (show Partys _ _ _ from Rd.drewN (Rd.below hu0 b2) m) hg0)
  have C1 := Lib.hid (fun m => Same_line r1 r1 h1 h1 v1 u1 ((((w.alloc (.cells #[v0, v1, v2, .int .u64 x3] 93)).alloc (.cells #[u0, u1, u2, .int .u64 x3] 100))).drewN m) (show Lines _ _ _ from Rd.drewN (Rd.below hv1 b2) m) (show Lines _ _ _ from Rd.drewN (Rd.below hu1 b2) m) hg1)
  have C2 := Lib.hid (fun m => Same_offer r2 r2 h2 h2 v2 u2 ((((w.alloc (.cells #[v0, v1, v2, .int .u64 x3] 93)).alloc (.cells #[u0, u1, u2, .int .u64 x3] 100))).drewN m) (show Offers _ _ _ from Rd.drewN (Rd.below hv2 b2) m) (show Offers _ _ _ from Rd.drewN (Rd.below hu2 b2) m) hg2)
  have D0 := Lib.hid (decide_eq_true (rfl : r0 = r0))
  have D1 := Lib.hid (decide_eq_true (rfl : r1 = r1))
  have D2 := Lib.hid (decide_eq_true (rfl : r2 = r2))
  have B2 := Lib.hid b2
  obtain ⟨E0, q0, rfl, -⟩ := id hv0
  obtain ⟨E1, q1, rfl, -⟩ := id hv1
  obtain ⟨E2, q2, rfl, -⟩ := id hv2
  obtain ⟨F0, p0, rfl, -⟩ := id hu0
  obtain ⟨F1, p1, rfl, -⟩ := id hu1
  obtain ⟨F2, p2, rfl, -⟩ := id hu2
  clear hv0 hv1 hv2 hu0 hu1 hu2 b2 h0 h1 h2
  go_enter Try.func53, Try.ntmps53
  go_wp2_with fail
  refine (C0.out 0).mono ?_
  rintro e w1 ⟨rfl, m1, rfl⟩
  rw [D0.out]
  go_wp2_with fail
  refine (C1.out m1).mono ?_
  rintro e w2 ⟨rfl, m2, rfl⟩
  rw [D1.out]
  go_wp2_with fail
  refine (C2.out (m1 + m2)).mono ?_
  rintro e w3 ⟨rfl, m3, rfl⟩
  rw [D2.out]
  go_wp2
  go_ret
  exact ⟨rfl, B2.out.trans (below_drewN_ _ _ _)⟩
end Go.Proofs.Ytielnocnnffdfaa
