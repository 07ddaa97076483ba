/- machines.State: packs.put, PutState. -/
import Derived.Test.YtielnocnnffdfaaPcs
namespace Go.Proofs.Ytielnocnnffdfaa
open Go.RowKit

theorem stateLen {r0 r1 r2 : List (List Int)} {x3 : Int} (t0 : r0.length ≤ 16) (t1 : r1.length ≤ 64) (t2 : r2.length ≤ 32) (i0 : ∀ q ∈ r0, fok partyK q) (i1 : ∀ q ∈ r1, fok lineK q) (i2 : ∀ q ∈ r2, fok offerK q) (h3 : fok1 .u64 x3) : (stateB (r0, r1, r2, [x3])).length ≤ 300000 := by
  have e0 : (partysB r0).length ≤ 90000 := list_len partyK r0 1 rfl t0 (by decide) i0
  have e1 : (linesB r1).length ≤ 90000 := list_len lineK r1 5 rfl t1 (by decide) i1
  have e2 : (offersB r2).length ≤ 90000 := list_len offerK r2 7 rfl t2 (by decide) i2
  have e3 := fB_len [.u64] [x3] ⟨h3, rfl⟩
  simp only [stateB, List.length_append, List.length_cons, List.length_nil] at e3 ⊢
  omega
set_option maxHeartbeats 4000000 in
set_option maxRecDepth 100000 in
theorem put_state_any (v0 : Value) (r0 : List (List Int)) (v1 : Value) (r1 : List (List Int)) (v2 : Value) (r2 : List (List Int)) (x3 : Int) (hin0 : ∀ q ∈ r0, fok partyK q) (hin1 : ∀ q ∈ r1, fok lineK q) (hin2 : ∀ q ∈ r2, fok offerK q) (h3 : fok1 .u64 x3) (w : World) (hv0 : Partys w v0 r0) (hg0 : r0.length ≤ 16) (hv1 : Lines w v1 r1) (hg1 : r1.length ≤ 64) (hv2 : Offers w v2 r2) (hg2 : r2.length ≤ 32) (hl : (stateB (r0, r1, r2, [x3])).length ≤ 70368744177664) :
    Calls Try.prog 86 #[.agg #[v0, v1, v2, .int .u64 x3], .bool true, .func (.func 87) #[] #[]] w fun e w' => ∃ v', e = .returned (.tuple #[v', .int .i64 0]) ∧ Bo w.heap.size w' v' (stateB (r0, r1, r2, [x3])) ∧ Below w.heap.size w w' := by
  have hb2 := below_alloc2_ w (.cells #[v0, v1, v2, .int .u64 x3] 93) (.cells #[.slice none 0 0] 181)
  have HB2 := Lib.hid hb2
  have hu : Pu ((w.alloc (.cells #[v0, v1, v2, .int .u64 x3] 93)).alloc (.cells #[.slice none 0 0] 181)) (w.heap.size + 1) none [] := ⟨⟨.slice none 0 0, by have := Blk.new (w.alloc (.cells #[v0, v1, v2, .int .u64 x3] 93)) 181 #[.slice none 0 0]; rw [World.size_alloc] at this; exact this, Bo.nil_ _ _, rfl⟩⟩
  have HU := Lib.hid hu
  have Q3 := Lib.hid h3
  clear h3
  have HI0 := Lib.hid hin0
  have HV0 := Lib.hid (Rd.below hv0 hb2)
  have HN0 := Lib.hid (off_new hv0)
  have HI1 := Lib.hid hin1
  have HV1 := Lib.hid (Rd.below hv1 hb2)
  have HN1 := Lib.hid (off_new hv1)
  have HI2 := Lib.hid hin2
  have HV2 := Lib.hid (Rd.below hv2 hb2)
  have HN2 := Lib.hid (off_new hv2)
  obtain ⟨E0, q0, rfl, -⟩ := id hv0
  clear hin0 hv0
  obtain ⟨E1, q1, rfl, -⟩ := id hv1
  clear hin1 hv1
  obtain ⟨E2, q2, rfl, -⟩ := id hv2
  clear hin2 hv2
  clear hu hb2
  go_enter Try.func86, Try.ntmps86
  go_wp2_with fail
  refine (pstate_any (w.heap.size + 1) _ r0 _ r1 _ r2 x3 HI0.out HI1.out HI2.out Q3.out none _ [] HU.out HV0.out HN0.out (by omega) HV1.out HN1.out (by omega) HV2.out HN2.out (by omega) (by simpa using hl)).mono ?_
  rintro e w1 ⟨rfl, hP⟩
  obtain ⟨v1, k1, ho1, hbel⟩ := hP.done HB2.out (Nat.le_succ _) (by simp <;> omega)
  have c1 := k1.cell 0
  simp at c1
  rw [List.nil_append] at ho1
  obtain ⟨A1', cp1, rfl, hc1, hcl⟩ := ho1.clip
  have HO := Lib.hid hcl
  have HB := Lib.hid hbel
  clear hP k1 ho1 hbel hcl
  go_wp2_with fail
  refine (byt_clip A1' _ cp1 _ hc1 (by omega)).mono ?_
  rintro e w2 ⟨rfl, rfl⟩
  go_wp2
  refine bodyPost_ret (results_tmp2 rfl _ _ _) rfl ?_
  exact ⟨_, rfl, HO.out, HB.out⟩
theorem put_state_no (v0 : Value) (r0 : List (List Int)) (v1 : Value) (r1 : List (List Int)) (v2 : Value) (r2 : List (List Int)) (x3 : Int) (f : Value) (w : World) :
    Calls Try.prog 86 #[.agg #[v0, v1, v2, .int .u64 x3], .bool false, f] w fun e w' => e = .returned (.tuple #[.slice none 0 0, .int .i64 3]) ∧ Below w.heap.size w w' := by
  go_enter Try.func86, Try.ntmps86
  go_wp2
  refine bodyPost_ret (results_tmp2 rfl _ _ _) rfl ?_
  exact ⟨rfl, below_alloc_ _ _⟩
/-- What PutState answers. -/
def stateR (a : List (List Int) × List (List Int) × List (List Int) × List Int) : List Int × Int := if a.1.length ≤ 16 ∧ a.2.1.length ≤ 64 ∧ a.2.2.1.length ≤ 32 then (stateB a, 0) else ([], 3)
set_option maxHeartbeats 4000000 in
theorem Put_state_any (v0 : Value) (r0 : List (List Int)) (v1 : Value) (r1 : List (List Int)) (v2 : Value) (r2 : List (List Int)) (x3 : Int) (hin0 : ∀ q ∈ r0, fok partyK q) (hin1 : ∀ q ∈ r1, fok lineK q) (hin2 : ∀ q ∈ r2, fok offerK q) (h3 : fok1 .u64 x3) (w : World) (hv0 : Partys w v0 r0) (hg0 : r0.length ≤ 1000000) (hv1 : Lines w v1 r1) (hg1 : r1.length ≤ 1000000) (hv2 : Offers w v2 r2) (hg2 : r2.length ≤ 1000000) :
    Calls Try.prog 46 #[.agg #[v0, v1, v2, .int .u64 x3]] w fun e w' => ∃ v', e = .returned (.tuple #[v', .int .i64 (stateR (r0, r1, r2, [x3])).2]) ∧ Bo w.heap.size w' v' (stateR (r0, r1, r2, [x3])).1 ∧ Below w.heap.size w w' := by
  have Q3 := Lib.hid h3
  clear h3
  have HI0 := Lib.hid hin0
  have HV0 := Lib.hid (Rd.alloc hv0 (.cells #[v0, v1, v2, .int .u64 x3] 93))
  have HI1 := Lib.hid hin1
  have HV1 := Lib.hid (Rd.alloc hv1 (.cells #[v0, v1, v2, .int .u64 x3] 93))
  have HI2 := Lib.hid hin2
  have HV2 := Lib.hid (Rd.alloc hv2 (.cells #[v0, v1, v2, .int .u64 x3] 93))
  obtain ⟨E0, q0, rfl, -⟩ := id hv0
  clear hin0 hv0
  obtain ⟨E1, q1, rfl, -⟩ := id hv1
  clear hin1 hv1
  obtain ⟨E2, q2, rfl, -⟩ := id hv2
  clear hin2 hv2
  by_cases t0 : r0.length ≤ 16
  rotate_left
  · have t0' : ¬ (r0.length : Int) ≤ 16 := by omega
    have HR := Lib.hid (show stateR (r0, r1, r2, [x3]) = ([], 3) from if_neg (by (try simp only); omega))
    rw [HR.out]
    go_enter Try.func46, Try.ntmps46
    go_wp2_with fail
    refine (put_state_no _ r0 _ r1 _ r2 x3 _ _).mono ?_
    rintro e w1 ⟨rfl, hb⟩
    have HB := Lib.hid hb
    clear hb
    go_wp2
    refine bodyPost_ret (results_tmp2 rfl _ _ _) rfl ?_
    exact ⟨_, rfl, Bo.nil_ _ _, (below_alloc_ _ _).trans (HB.out.mono (by simp))⟩
  by_cases t1 : r1.length ≤ 64
  rotate_left
  · have t1' : ¬ (r1.length : Int) ≤ 64 := by omega
    have t0' : (r0.length : Int) ≤ 16 := by omega
    have HR := Lib.hid (show stateR (r0, r1, r2, [x3]) = ([], 3) from if_neg (by (try simp only); omega))
    rw [HR.out]
    go_enter Try.func46, Try.ntmps46
    go_wp2_with fail
    refine (put_state_no _ r0 _ r1 _ r2 x3 _ _).mono ?_
    rintro e w1 ⟨rfl, hb⟩
    have HB := Lib.hid hb
    clear hb
    go_wp2
    refine bodyPost_ret (results_tmp2 rfl _ _ _) rfl ?_
    exact ⟨_, rfl, Bo.nil_ _ _, (below_alloc_ _ _).trans (HB.out.mono (by simp))⟩
  by_cases t2 : r2.length ≤ 32
  · have hl : (stateB (r0, r1, r2, [x3])).length ≤ 70368744177664 := by
      have := stateLen t0 t1 t2 HI0.out HI1.out HI2.out Q3.out
      omega
    have HR := Lib.hid (show stateR (r0, r1, r2, [x3]) = (stateB (r0, r1, r2, [x3]), 0) from if_pos ⟨t0, t1, t2⟩)
    have t0' : (r0.length : Int) ≤ 16 := by omega
    have t1' : (r1.length : Int) ≤ 64 := by omega
    have t2' : (r2.length : Int) ≤ 32 := by omega
    rw [HR.out]
    go_enter Try.func46, Try.ntmps46
    go_wp2_with fail
    refine (put_state_any _ r0 _ r1 _ r2 x3 HI0.out HI1.out HI2.out Q3.out _ HV0.out t0 HV1.out t1 HV2.out t2 hl).mono ?_
    rintro e w1 ⟨v1, rfl, ho, hb⟩
    have HO := Lib.hid ho
    have HB := Lib.hid hb
    clear ho hb
    go_wp2
    refine bodyPost_ret (results_tmp2 rfl _ _ _) rfl ?_
    exact ⟨_, rfl, HO.out.le (by simp), (below_alloc_ _ _).trans (HB.out.mono (by simp))⟩
  · have t2' : ¬ (r2.length : Int) ≤ 32 := by omega
    have t0' : (r0.length : Int) ≤ 16 := by omega
    have t1' : (r1.length : Int) ≤ 64 := by omega
    have HR := Lib.hid (show stateR (r0, r1, r2, [x3]) = ([], 3) from if_neg (by (try simp only); omega))
    rw [HR.out]
    go_enter Try.func46, Try.ntmps46
    go_wp2_with fail
    refine (put_state_no _ r0 _ r1 _ r2 x3 _ _).mono ?_
    rintro e w1 ⟨rfl, hb⟩
    have HB := Lib.hid hb
    clear hb
    go_wp2
    refine bodyPost_ret (results_tmp2 rfl _ _ _) rfl ?_
    exact ⟨_, rfl, Bo.nil_ _ _, (below_alloc_ _ _).trans (HB.out.mono (by simp))⟩
end Go.Proofs.Ytielnocnnffdfaa
