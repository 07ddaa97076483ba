import Derived.Test.YtielnocnnffdfaaGreatRow
import Derived.Test.YtielnocnnffdfaaGreatSmp
import Derived.Test.YtielnocnnffdfaaGreatSmn
import Derived.Laws.StructEq
import Derived.Test.YtielnocnnffdfaaGreatSmo
/- law01: a twin of a list (countinghouse/api.Party), and whether it was left as it was. -/
namespace Go.Proofs.YtielnocnnffdfaaGreat
open Go.RowKit

theorem Same_party (r s : List (List Int)) (hr : ∀ q ∈ r, q.length = 1) (hs : ∀ q ∈ s, q.length = 1) (v u : Value) (w : World) (hv : Partys w v r) (hu : Partys w u s) (hb : r.length ≤ 1000000) :
    Calls Tryz.prog 49 #[v, u] w fun e w' => e = .returned (.bool (decide (r = s))) ∧ ∃ m, w' = w.drewN m := by
  have C := Lib.hid (same_partys r s hr hs v u w hv hu (by omega))
  obtain ⟨t, ht⟩ : ∃ t, t = decide (r = s) := ⟨_, rfl⟩
  rw [← ht] at C ⊢
  have T := Lib.hid ht
  obtain ⟨A, c, rfl, -⟩ := id hv
  obtain ⟨B, d, rfl, -⟩ := id hu
  clear hv hu ht
  go_enter Tryz.func49, Tryz.ntmps49
  go_wp2_with fail
  refine C.out.mono ?_
  rintro e w1 ⟨rfl, m, rfl⟩
  go_wp2
  go_ret
  exact ⟨rfl, m, rfl⟩

end Go.Proofs.YtielnocnnffdfaaGreat

/- law01: a twin of a list (countinghouse/api.Line), and whether it was left as it was. -/
namespace Go.Proofs.YtielnocnnffdfaaGreat
open Go.RowKit

theorem run_mark_line (w : World) : (binOp .eql 120 (.agg #[.int .u8 0, .int .u8 0, .int .u8 0, .int .i64 (-77), .int .i64 0]) (.agg #[.int .u8 0, .int .u8 0, .int .u8 0, .int .i64 (-77), .int .i64 0])).run Tryz.prog w = .ok (.bool true) w := by
  have u0 := Tryz.underlying86
  have a0 := Tryz.isAgg86
  have s0 := Tryz.sizeOf86
  have u1 := Tryz.underlying87
  have a1 := Tryz.isAgg87
  have s1 := Tryz.sizeOf87
  have u2 := Tryz.underlying2
  have a2 := Tryz.isAgg2
  have s2 := Tryz.sizeOf2
  have hS : Tryz.prog.underlying 120 = some (.struct (Tryz.prog.fieldsOf 120)) := by kernel_rfl
  have hp : Tryz.prog.stoodInHeld 120 = false := by kernel_rfl
  rw [run_eql_struct, show (10000 : Nat) = 9999 + 1 from rfl, run_equalIn_agg w 9999 120 _ _ hS hp]
  simp only [Program.fieldsOf, Tryz.underlying120]
  go_simp
theorem Same_line (r s : List (List Int)) (hr : ∀ q ∈ r, q.length = 5) (hs : ∀ q ∈ s, q.length = 5) (v u : Value) (w : World) (hv : Lines w v r) (hu : Lines w u s) (hb : r.length ≤ 1000000) :
    Calls Tryz.prog 50 #[v, u] w fun e w' => e = .returned (.bool (decide (r = s))) ∧ ∃ m, w' = w.drewN m := by
  have C := Lib.hid (same_lines r s hr hs v u w hv hu (by omega))
  obtain ⟨t, ht⟩ : ∃ t, t = decide (r = s) := ⟨_, rfl⟩
  rw [← ht] at C ⊢
  have T := Lib.hid ht
  obtain ⟨A, c, rfl, -⟩ := id hv
  obtain ⟨B, d, rfl, -⟩ := id hu
  clear hv hu ht
  go_enter Tryz.func50, Tryz.ntmps50
  go_wp2_with fail
  refine C.out.mono ?_
  rintro e w1 ⟨rfl, m, rfl⟩
  go_wp2
  go_ret
  exact ⟨rfl, m, rfl⟩

end Go.Proofs.YtielnocnnffdfaaGreat

/- law01: a twin of a list (countinghouse/api.Offer), and whether it was left as it was. -/
namespace Go.Proofs.YtielnocnnffdfaaGreat
open Go.RowKit

theorem run_mark_offer (w : World) : (binOp .eql 124 (.agg #[.int .u64 0, .int .u8 0, .int .u8 0, .int .u8 0, .int .i64 (-77), .int .i64 0, .int .i64 0]) (.agg #[.int .u64 0, .int .u8 0, .int .u8 0, .int .u8 0, .int .i64 (-77), .int .i64 0, .int .i64 0])).run Tryz.prog w = .ok (.bool true) w := by
  have u0 := Tryz.underlying25
  have a0 := Tryz.isAgg25
  have s0 := Tryz.sizeOf25
  have u1 := Tryz.underlying86
  have a1 := Tryz.isAgg86
  have s1 := Tryz.sizeOf86
  have u2 := Tryz.underlying87
  have a2 := Tryz.isAgg87
  have s2 := Tryz.sizeOf87
  have u3 := Tryz.underlying2
  have a3 := Tryz.isAgg2
  have s3 := Tryz.sizeOf2
  have u4 := Tryz.underlying89
  have a4 := Tryz.isAgg89
  have s4 := Tryz.sizeOf89
  have hS : Tryz.prog.underlying 124 = some (.struct (Tryz.prog.fieldsOf 124)) := by kernel_rfl
  have hp : Tryz.prog.stoodInHeld 124 = false := by kernel_rfl
  have hS2 : Tryz.prog.underlying 89 = some (.struct (Tryz.prog.fieldsOf 89)) := by kernel_rfl
  have hp2 : Tryz.prog.stoodInHeld 89 = false := by kernel_rfl
  have hq := fun (w : World) (a b c d : Int) => run_equalIn_agg w 9998 89 (P := Tryz.prog) #[.int .i64 a, .int .i64 b] #[.int .i64 c, .int .i64 d] hS2 hp2
  rw [run_eql_struct, show (10000 : Nat) = 9999 + 1 from rfl, run_equalIn_agg w 9999 124 _ _ hS hp]
  simp only [Program.fieldsOf, Tryz.underlying124]
  go_simp
theorem Same_offer (r s : List (List Int)) (hr : ∀ q ∈ r, q.length = 7) (hs : ∀ q ∈ s, q.length = 7) (v u : Value) (w : World) (hv : Offers w v r) (hu : Offers w u s) (hb : r.length ≤ 1000000) :
    Calls Tryz.prog 51 #[v, u] w fun e w' => e = .returned (.bool (decide (r = s))) ∧ ∃ m, w' = w.drewN m := by
  have C := Lib.hid (same_offers r s hr hs v u w hv hu (by omega))
  obtain ⟨t, ht⟩ : ∃ t, t = decide (r = s) := ⟨_, rfl⟩
  rw [← ht] at C ⊢
  have T := Lib.hid ht
  obtain ⟨A, c, rfl, -⟩ := id hv
  obtain ⟨B, d, rfl, -⟩ := id hu
  clear hv hu ht
  go_enter Tryz.func51, Tryz.ntmps51
  go_wp2_with fail
  refine C.out.mono ?_
  rintro e w1 ⟨rfl, m, rfl⟩
  go_wp2
  go_ret
  exact ⟨rfl, m, rfl⟩

end Go.Proofs.YtielnocnnffdfaaGreat

/- law16: great, state, sameState. -/
namespace Go.Proofs.YtielnocnnffdfaaGreat
open Go.RowKit

set_option maxHeartbeats 2000000 in
theorem ss_any (v0 v1 v2 : Value) (r0 r1 r2 : List (List Int)) (u0 u1 u2 : Value) (x3 : Int) (h0 : ∀ q ∈ r0, q.length = 1) (h1 : ∀ q ∈ r1, q.length = 5) (h2 : ∀ q ∈ r2, q.length = 7) (w : World) (hv0 : Partys w v0 r0) (hv1 : Lines w v1 r1) (hv2 : Offers w v2 r2) (hu0 : Partys w u0 r0) (hu1 : Lines w u1 r1) (hu2 : Offers w u2 r2)
    (hg0 : r0.length ≤ 1000000) (hg1 : r1.length ≤ 1000000) (hg2 : r2.length ≤ 1000000) :
    Calls Tryz.prog 19 #[.agg #[v0, v1, v2, .int .u64 x3], .agg #[u0, u1, u2, .int .u64 x3]] w fun e w' => e = .returned (.bool true) ∧ Below w.heap.size w w' := by
  have b2 := below_alloc2_ w (.cells #[v0, v1, v2, .int .u64 x3] 50) (.cells #[u0, u1, u2, .int .u64 x3] 53)
  have C0 := Lib.hid (fun m => Same_party r0 r0 h0 h0 v0 u0 ((((w.alloc (.cells #[v0, v1, v2, .int .u64 x3] 50)).alloc (.cells #[u0, u1, u2, .int .u64 x3] 53))).drewN m) (show Partys _ _ _ from Rd.drewN (Rd.below hv0 b2) m) (show Partys _ _ _ from Rd.drewN (Rd.below hu0 b2) m) hg0)
  have C1 := Lib.hid (fun m => Same_line r1 r1 h1 h1 v1 u1 ((((w.alloc (.cells #[v0, v1, v2, .int .u64 x3] 50)).alloc (.cells #[u0, u1, u2, .int .u64 x3] 53))).drewN m) (show Lines _ _ _ from Rd.drewN (Rd.below hv1 b2) m) (show Lines _ _ _ from Rd.drewN (Rd.below hu1 b2) m) hg1)
  have C2 := Lib.hid (fun m => Same_offer r2 r2 h2 h2 v2 u2 ((((w.alloc (.cells #[v0, v1, v2, .int .u64 x3] 50)).alloc (.cells #[u0, u1, u2, .int .u64 x3] 53))).drewN m) (show Offers _ _ _ from Rd.drewN (Rd.below hv2 b2) m) (show Offers _ _ _ from Rd.drewN (Rd.below hu2 b2) m) hg2)
  have D0 := Lib.hid (decide_eq_true (rfl : r0 = r0))
  have D1 := Lib.hid (decide_eq_true (rfl : r1 = r1))
  have D2 := Lib.hid (decide_eq_true (rfl : r2 = r2))
  have B2 := Lib.hid b2
  obtain ⟨E0, q0, rfl, -⟩ := id hv0
  obtain ⟨E1, q1, rfl, -⟩ := id hv1
  obtain ⟨E2, q2, rfl, -⟩ := id hv2
  obtain ⟨F0, p0, rfl, -⟩ := id hu0
  obtain ⟨F1, p1, rfl, -⟩ := id hu1
  obtain ⟨F2, p2, rfl, -⟩ := id hu2
  clear hv0 hv1 hv2 hu0 hu1 hu2 b2 h0 h1 h2
  go_enter Tryz.func19, Tryz.ntmps19
  go_wp2_with fail
  refine (C0.out 0).mono ?_
  rintro e w1 ⟨rfl, m1, rfl⟩
  rw [D0.out]
  go_wp2_with fail
  refine (C1.out m1).mono ?_
  rintro e w2 ⟨rfl, m2, rfl⟩
  rw [D1.out]
  go_wp2_with fail
  refine (C2.out (m1 + m2)).mono ?_
  rintro e w3 ⟨rfl, m3, rfl⟩
  rw [D2.out]
  go_wp2
  go_ret
  exact ⟨rfl, B2.out.trans (below_drewN_ _ _ _)⟩
end Go.Proofs.YtielnocnnffdfaaGreat
