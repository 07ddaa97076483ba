/- law01: a twin of a list (countinghouse/api.Step), and whether it was left as it was. -/
import Derived.Test.YtielnocnnffdfaaRow
import Derived.Test.YtielnocnnffdfaaSms
import Derived.Laws.StructEq
namespace Go.Proofs.Ytielnocnnffdfaa
open Go.RowKit

theorem run_mark_step (w : World) : (binOp .eql 178 (.agg #[.int .u8 0, .int .u8 0, .int .u8 0, .int .u8 0, .int .u8 0, .int .i64 (-77), .int .i64 0, .int .i64 0, .int .i64 0, .int .u64 0]) (.agg #[.int .u8 0, .int .u8 0, .int .u8 0, .int .u8 0, .int .u8 0, .int .i64 (-77), .int .i64 0, .int .i64 0, .int .i64 0, .int .u64 0])).run Try.prog w = .ok (.bool true) w := by
  have u0 := Try.underlying176
  have a0 := Try.isAgg176
  have s0 := Try.sizeOf176
  have u1 := Try.underlying146
  have a1 := Try.isAgg146
  have s1 := Try.sizeOf146
  have u2 := Try.underlying148
  have a2 := Try.isAgg148
  have s2 := Try.sizeOf148
  have u3 := Try.underlying2
  have a3 := Try.isAgg2
  have s3 := Try.sizeOf2
  have u4 := Try.underlying153
  have a4 := Try.isAgg153
  have s4 := Try.sizeOf153
  have u5 := Try.underlying28
  have a5 := Try.isAgg28
  have s5 := Try.sizeOf28
  have hS : Try.prog.underlying 178 = some (.struct (Try.prog.fieldsOf 178)) := by kernel_rfl
  have hp : Try.prog.stoodInHeld 178 = false := by kernel_rfl
  have hS2 : Try.prog.underlying 153 = some (.struct (Try.prog.fieldsOf 153)) := by kernel_rfl
  have hp2 : Try.prog.stoodInHeld 153 = false := by kernel_rfl
  have hq := fun (w : World) (a b c d : Int) => run_equalIn_agg w 9998 153 (P := Try.prog) #[.int .i64 a, .int .i64 b] #[.int .i64 c, .int .i64 d] hS2 hp2
  rw [run_eql_struct, show (10000 : Nat) = 9999 + 1 from rfl, run_equalIn_agg w 9999 178 _ _ hS hp]
  simp only [Program.fieldsOf, Try.underlying178]
  go_simp
set_option maxHeartbeats 2000000 in
set_option maxRecDepth 100000 in
theorem twin_step (v : Value) (r : List (List Int)) (w : World) (hv : Steps w v r) (hn : r.length ≤ 1000000) :
    Calls Try.prog 106 #[v, .agg #[.int .u8 0, .int .u8 0, .int .u8 0, .int .u8 0, .int .u8 0, .int .i64 (-77), .int .i64 0, .int .i64 0, .int .i64 0, .int .u64 0]] w fun e w' => ∃ A c, e = .returned (.slice A r.length c) ∧ Tw w.heap.size w' 178 10 (.slice A r.length c) r.length (r.flatMap (fc stepK)) [.int .u8 0, .int .u8 0, .int .u8 0, .int .u8 0, .int .u8 0, .int .i64 (-77), .int .i64 0, .int .i64 0, .int .i64 0, .int .u64 0, .int .u8 0, .int .u8 0, .int .u8 0, .int .u8 0, .int .u8 0, .int .i64 (-77), .int .i64 0, .int .i64 0, .int .i64 0, .int .u64 0] ∧ Below w.heap.size w w' := by
  obtain ⟨i0, hi, hz0, hz1, hz2⟩ := info_parts step_info
  have hcl : (r.flatMap (fc stepK)).length = r.length * 10 := (flatMap_len _ _ fcstep_len r)
  have H1 := Lib.hid (rows_one stepK r)
  have HL := Lib.hid hcl
  obtain ⟨A, c, rfl, -⟩ := id hv
  obtain ⟨cs, hcs⟩ : ∃ cs, cs = (r.flatMap (fc stepK)) := ⟨_, rfl⟩
  rw [← hcs] at HL H1 ⊢
  have hv' : Rd w 10 (.slice A r.length c) r.length cs := by rw [hcs]; exact hv
  clear hv hcl
  obtain ⟨n, hnn⟩ : ∃ n, n = r.length := ⟨_, rfl⟩
  rw [← hnn] at hv' hn HL ⊢
  have hn' : (n : Int) ≤ 1000000 := by omega
  have hk0 := Blk.new w 178 #[.int .u8 0, .int .u8 0, .int .u8 0, .int .u8 0, .int .u8 0, .int .i64 (-77), .int .i64 0, .int .i64 0, .int .i64 0, .int .u64 0]
  have K0 := Lib.hid hk0
  clear hk0
  have HV := Lib.hid (hv'.below (below_alloc_ w (.cells #[.int .u8 0, .int .u8 0, .int .u8 0, .int .u8 0, .int .u8 0, .int .i64 (-77), .int .i64 0, .int .i64 0, .int .i64 0, .int .u64 0] 178)))
  clear hv' hcs hnn
  go_enter Try.func106, Try.ntmps106
  go_upto_region 2 with (at_make; refine wpList_make_own _ rfl _ _ 65 rfl (w.heap.size + 1) 178 i0 (.agg #[.int .u8 0, .int .u8 0, .int .u8 0, .int .u8 0, .int .u8 0, .int .i64 0, .int .i64 0, .int .i64 0, .int .i64 0, .int .u64 0]) 10 Try.underlying65 hi hz0 hz1 .i64 .i64 _ (n + 2) rfl rfl (by simp) (by rw [hz2]; omega) (by unfold maxLen; omega) (by simp) ?_; intro w1 ho1 hg1)
  simp only [World.size_alloc] at ho1
  have OB := Lib.hid (Ow.of_own ho1)
  have O1 := Lib.hid ((Ow.of_own ho1).le (B' := w.heap.size) (by omega))
  have B1 := Lib.hid ((below_alloc_ w (.cells #[.int .u8 0, .int .u8 0, .int .u8 0, .int .u8 0, .int .u8 0, .int .i64 (-77), .int .i64 0, .int .i64 0, .int .i64 0, .int .u64 0] 178)).trans ((below_of_grown_ hg1).mono (by simp)))
  have HV1 := Lib.hid (HV.out.below (below_of_grown_ hg1))
  have K1 := Lib.hid (K0.out.grown hg1 (by simp))
  clear ho1 hg1
  go_upto_region 3 with (at_builtin; refine wpList_ow_rows (n := 0) (m := n) rfl _ _ 65 178 (.agg #[.int .u8 0, .int .u8 0, .int .u8 0, .int .u8 0, .int .u8 0, .int .i64 0, .int .i64 0, .int .i64 0, .int .i64 0, .int .u64 0]) 10 48 rfl Try.underlying65 step_info rfl (by decide) rfl O1.out (by have := B1.out.size; omega) HV1.out H1.out rfl (by omega) (by unfold maxLen; omega) ?_; intro v2 w2 ho2 hg2)
  have B2 := Lib.hid (below_grown_own_ B1.out hg2.1 O1.out)
  have O2 := Lib.hid ho2
  have K2 := Lib.hid (K1.out.grown hg2.1 (fun e => by have := OB.out.blk_lt _ e.symm; omega))
  have k2 := K2.out
  have k2_0 := k2.cell 0
  have k2_1 := k2.cell 1
  have k2_2 := k2.cell 2
  have k2_3 := k2.cell 3
  have k2_4 := k2.cell 4
  have k2_5 := k2.cell 5
  have k2_6 := k2.cell 6
  have k2_7 := k2.cell 7
  have k2_8 := k2.cell 8
  have k2_9 := k2.cell 9
  simp at k2_0 k2_1 k2_2 k2_3 k2_4 k2_5 k2_6 k2_7 k2_8 k2_9
  clear k2
  clear ho2 hg2 O1 B1 HV1
  rw [Nat.zero_add, List.nil_append] at O2
  go_wp2_with (at_builtin; refine wpList_ow_rows (n := n) (m := 2) rfl _ _ 65 178 (.agg #[.int .u8 0, .int .u8 0, .int .u8 0, .int .u8 0, .int .u8 0, .int .i64 0, .int .i64 0, .int .i64 0, .int .i64 0, .int .u64 0]) 10 48 rfl Try.underlying65 step_info rfl (by decide) rfl (O2.out.below (below_alloc_ w2 (.cells #[.int .u8 0, .int .u8 0, .int .u8 0, .int .u8 0, .int .u8 0, .int .i64 (-77), .int .i64 0, .int .i64 0, .int .i64 0, .int .u64 0, .int .u8 0, .int .u8 0, .int .u8 0, .int .u8 0, .int .u8 0, .int .i64 (-77), .int .i64 0, .int .i64 0, .int .i64 0, .int .u64 0] 178))) (by have := B2.out.size; simp; omega) (Rd.lits w2 178 10 2 [.int .u8 0, .int .u8 0, .int .u8 0, .int .u8 0, .int .u8 0, .int .i64 (-77), .int .i64 0, .int .i64 0, .int .i64 0, .int .u64 0, .int .u8 0, .int .u8 0, .int .u8 0, .int .u8 0, .int .u8 0, .int .i64 (-77), .int .i64 0, .int .i64 0, .int .i64 0, .int .u64 0] rfl) (by decide) rfl (by omega) (by unfold maxLen; omega) ?_; intro v3 w3 ho3 hg3)
  have B3 := Lib.hid (below_grown_own_ (B2.out.trans ((below_alloc_ w2 (.cells #[.int .u8 0, .int .u8 0, .int .u8 0, .int .u8 0, .int .u8 0, .int .i64 (-77), .int .i64 0, .int .i64 0, .int .i64 0, .int .u64 0, .int .u8 0, .int .u8 0, .int .u8 0, .int .u8 0, .int .u8 0, .int .i64 (-77), .int .i64 0, .int .i64 0, .int .i64 0, .int .u64 0] 178)).mono B2.out.size)) hg3.1 (O2.out.below (below_alloc_ w2 (.cells #[.int .u8 0, .int .u8 0, .int .u8 0, .int .u8 0, .int .u8 0, .int .i64 (-77), .int .i64 0, .int .i64 0, .int .i64 0, .int .u64 0, .int .u8 0, .int .u8 0, .int .u8 0, .int .u8 0, .int .u8 0, .int .i64 (-77), .int .i64 0, .int .i64 0, .int .i64 0, .int .u64 0] 178))))
  obtain ⟨A3, c3, rfl⟩ := ho3.sl_
  obtain ⟨hc3, ht⟩ := Tw.mk_ ho3 HL.out
  obtain ⟨g3, c9, hv3, -⟩ := ht.room
  injection hv3 with hA3 _ hc9
  subst hA3
  subst hc9
  have T3 := Lib.hid ht
  clear ho3 hg3 ht O2 B2
  have hc3' : (n : Int) ≤ c3 := by omega
  go_wp2
  go_ret
  exact ⟨_, _, rfl, T3.out, B3.out⟩

set_option maxHeartbeats 2000000 in
set_option maxRecDepth 100000 in
theorem left_step (B : Nat) (t v : Value) (r : List (List Int)) (hr : ∀ q ∈ r, q.length = 10) (w : World) (ht : Tw B w 178 10 t r.length (r.flatMap (fc stepK)) [.int .u8 0, .int .u8 0, .int .u8 0, .int .u8 0, .int .u8 0, .int .i64 (-77), .int .i64 0, .int .i64 0, .int .i64 0, .int .u64 0, .int .u8 0, .int .u8 0, .int .u8 0, .int .u8 0, .int .u8 0, .int .i64 (-77), .int .i64 0, .int .i64 0, .int .i64 0, .int .u64 0]) (hv : Steps w v r) (hn : r.length ≤ 1000000) :
    Calls Try.prog 115 #[t, v, .agg #[.int .u8 0, .int .u8 0, .int .u8 0, .int .u8 0, .int .u8 0, .int .i64 (-77), .int .i64 0, .int .i64 0, .int .i64 0, .int .u64 0]] w fun e w' => e = .returned (.bool true) ∧ Below w.heap.size w w' := by
  have HR := Lib.hid hr
  have SA := Lib.hid (same_steps r r HR.out HR.out _ _ (w.alloc (.cells #[.int .u8 0, .int .u8 0, .int .u8 0, .int .u8 0, .int .u8 0, .int .i64 (-77), .int .i64 0, .int .i64 0, .int .i64 0, .int .u64 0] 178)) (ht.rd.alloc _) (Rd.alloc hv _) (by omega))
  have D := Lib.hid (decide_eq_true (rfl : r = r))
  obtain ⟨g, c, rfl, hc, -, hg, -, hm⟩ := ht.room
  have r0 : w.cell? ⟨g, r.length * 10, none⟩ = some (.int .u8 0) := by have := hm 0 _ rfl; simpa using this
  have r1 : w.cell? ⟨g, r.length * 10 + 1, none⟩ = some (.int .u8 0) := by have := hm 1 _ rfl; simpa using this
  have r2 : w.cell? ⟨g, r.length * 10 + 2, none⟩ = some (.int .u8 0) := by have := hm 2 _ rfl; simpa using this
  have r3 : w.cell? ⟨g, r.length * 10 + 3, none⟩ = some (.int .u8 0) := by have := hm 3 _ rfl; simpa using this
  have r4 : w.cell? ⟨g, r.length * 10 + 4, none⟩ = some (.int .u8 0) := by have := hm 4 _ rfl; simpa using this
  have r5 : w.cell? ⟨g, r.length * 10 + 5, none⟩ = some (.int .i64 (-77)) := by have := hm 5 _ rfl; simpa using this
  have r6 : w.cell? ⟨g, r.length * 10 + 6, none⟩ = some (.int .i64 0) := by have := hm 6 _ rfl; simpa using this
  have r7 : w.cell? ⟨g, r.length * 10 + 7, none⟩ = some (.int .i64 0) := by have := hm 7 _ rfl; simpa using this
  have r8 : w.cell? ⟨g, r.length * 10 + 8, none⟩ = some (.int .i64 0) := by have := hm 8 _ rfl; simpa using this
  have r9 : w.cell? ⟨g, r.length * 10 + 9, none⟩ = some (.int .u64 0) := by have := hm 9 _ rfl; simpa using this
  have r10 : w.cell? ⟨g, r.length * 10 + 10, none⟩ = some (.int .u8 0) := by have := hm 10 _ rfl; simpa using this
  have r11 : w.cell? ⟨g, r.length * 10 + 11, none⟩ = some (.int .u8 0) := by have := hm 11 _ rfl; simpa using this
  have r12 : w.cell? ⟨g, r.length * 10 + 12, none⟩ = some (.int .u8 0) := by have := hm 12 _ rfl; simpa using this
  have r13 : w.cell? ⟨g, r.length * 10 + 13, none⟩ = some (.int .u8 0) := by have := hm 13 _ rfl; simpa using this
  have r14 : w.cell? ⟨g, r.length * 10 + 14, none⟩ = some (.int .u8 0) := by have := hm 14 _ rfl; simpa using this
  have r15 : w.cell? ⟨g, r.length * 10 + 15, none⟩ = some (.int .i64 (-77)) := by have := hm 15 _ rfl; simpa using this
  have r16 : w.cell? ⟨g, r.length * 10 + 16, none⟩ = some (.int .i64 0) := by have := hm 16 _ rfl; simpa using this
  have r17 : w.cell? ⟨g, r.length * 10 + 17, none⟩ = some (.int .i64 0) := by have := hm 17 _ rfl; simpa using this
  have r18 : w.cell? ⟨g, r.length * 10 + 18, none⟩ = some (.int .i64 0) := by have := hm 18 _ rfl; simpa using this
  have r19 : w.cell? ⟨g, r.length * 10 + 19, none⟩ = some (.int .u64 0) := by have := hm 19 _ rfl; simpa using this
  have K0 := Lib.hid (Blk.new w 178 #[.int .u8 0, .int .u8 0, .int .u8 0, .int .u8 0, .int .u8 0, .int .i64 (-77), .int .i64 0, .int .i64 0, .int .i64 0, .int .u64 0])
  have hme := run_mark_step
  have k0 := K0.out
  have k0_0 := k0.cell 0
  have k0_1 := k0.cell 1
  have k0_2 := k0.cell 2
  have k0_3 := k0.cell 3
  have k0_4 := k0.cell 4
  have k0_5 := k0.cell 5
  have k0_6 := k0.cell 6
  have k0_7 := k0.cell 7
  have k0_8 := k0.cell 8
  have k0_9 := k0.cell 9
  simp only [List.getElem?_toArray, List.getElem?_cons_zero, List.getElem?_cons_succ] at k0_0 k0_1 k0_2 k0_3 k0_4 k0_5 k0_6 k0_7 k0_8 k0_9
  replace r0 := cell_on (below_alloc_ w (.cells #[.int .u8 0, .int .u8 0, .int .u8 0, .int .u8 0, .int .u8 0, .int .i64 (-77), .int .i64 0, .int .i64 0, .int .i64 0, .int .u64 0] 178)) hg r0
  replace r1 := cell_on (below_alloc_ w (.cells #[.int .u8 0, .int .u8 0, .int .u8 0, .int .u8 0, .int .u8 0, .int .i64 (-77), .int .i64 0, .int .i64 0, .int .i64 0, .int .u64 0] 178)) hg r1
  replace r2 := cell_on (below_alloc_ w (.cells #[.int .u8 0, .int .u8 0, .int .u8 0, .int .u8 0, .int .u8 0, .int .i64 (-77), .int .i64 0, .int .i64 0, .int .i64 0, .int .u64 0] 178)) hg r2
  replace r3 := cell_on (below_alloc_ w (.cells #[.int .u8 0, .int .u8 0, .int .u8 0, .int .u8 0, .int .u8 0, .int .i64 (-77), .int .i64 0, .int .i64 0, .int .i64 0, .int .u64 0] 178)) hg r3
  replace r4 := cell_on (below_alloc_ w (.cells #[.int .u8 0, .int .u8 0, .int .u8 0, .int .u8 0, .int .u8 0, .int .i64 (-77), .int .i64 0, .int .i64 0, .int .i64 0, .int .u64 0] 178)) hg r4
  replace r5 := cell_on (below_alloc_ w (.cells #[.int .u8 0, .int .u8 0, .int .u8 0, .int .u8 0, .int .u8 0, .int .i64 (-77), .int .i64 0, .int .i64 0, .int .i64 0, .int .u64 0] 178)) hg r5
  replace r6 := cell_on (below_alloc_ w (.cells #[.int .u8 0, .int .u8 0, .int .u8 0, .int .u8 0, .int .u8 0, .int .i64 (-77), .int .i64 0, .int .i64 0, .int .i64 0, .int .u64 0] 178)) hg r6
  replace r7 := cell_on (below_alloc_ w (.cells #[.int .u8 0, .int .u8 0, .int .u8 0, .int .u8 0, .int .u8 0, .int .i64 (-77), .int .i64 0, .int .i64 0, .int .i64 0, .int .u64 0] 178)) hg r7
  replace r8 := cell_on (below_alloc_ w (.cells #[.int .u8 0, .int .u8 0, .int .u8 0, .int .u8 0, .int .u8 0, .int .i64 (-77), .int .i64 0, .int .i64 0, .int .i64 0, .int .u64 0] 178)) hg r8
  replace r9 := cell_on (below_alloc_ w (.cells #[.int .u8 0, .int .u8 0, .int .u8 0, .int .u8 0, .int .u8 0, .int .i64 (-77), .int .i64 0, .int .i64 0, .int .i64 0, .int .u64 0] 178)) hg r9
  replace r10 := cell_on (below_alloc_ w (.cells #[.int .u8 0, .int .u8 0, .int .u8 0, .int .u8 0, .int .u8 0, .int .i64 (-77), .int .i64 0, .int .i64 0, .int .i64 0, .int .u64 0] 178)) hg r10
  replace r11 := cell_on (below_alloc_ w (.cells #[.int .u8 0, .int .u8 0, .int .u8 0, .int .u8 0, .int .u8 0, .int .i64 (-77), .int .i64 0, .int .i64 0, .int .i64 0, .int .u64 0] 178)) hg r11
  replace r12 := cell_on (below_alloc_ w (.cells #[.int .u8 0, .int .u8 0, .int .u8 0, .int .u8 0, .int .u8 0, .int .i64 (-77), .int .i64 0, .int .i64 0, .int .i64 0, .int .u64 0] 178)) hg r12
  replace r13 := cell_on (below_alloc_ w (.cells #[.int .u8 0, .int .u8 0, .int .u8 0, .int .u8 0, .int .u8 0, .int .i64 (-77), .int .i64 0, .int .i64 0, .int .i64 0, .int .u64 0] 178)) hg r13
  replace r14 := cell_on (below_alloc_ w (.cells #[.int .u8 0, .int .u8 0, .int .u8 0, .int .u8 0, .int .u8 0, .int .i64 (-77), .int .i64 0, .int .i64 0, .int .i64 0, .int .u64 0] 178)) hg r14
  replace r15 := cell_on (below_alloc_ w (.cells #[.int .u8 0, .int .u8 0, .int .u8 0, .int .u8 0, .int .u8 0, .int .i64 (-77), .int .i64 0, .int .i64 0, .int .i64 0, .int .u64 0] 178)) hg r15
  replace r16 := cell_on (below_alloc_ w (.cells #[.int .u8 0, .int .u8 0, .int .u8 0, .int .u8 0, .int .u8 0, .int .i64 (-77), .int .i64 0, .int .i64 0, .int .i64 0, .int .u64 0] 178)) hg r16
  replace r17 := cell_on (below_alloc_ w (.cells #[.int .u8 0, .int .u8 0, .int .u8 0, .int .u8 0, .int .u8 0, .int .i64 (-77), .int .i64 0, .int .i64 0, .int .i64 0, .int .u64 0] 178)) hg r17
  replace r18 := cell_on (below_alloc_ w (.cells #[.int .u8 0, .int .u8 0, .int .u8 0, .int .u8 0, .int .u8 0, .int .i64 (-77), .int .i64 0, .int .i64 0, .int .i64 0, .int .u64 0] 178)) hg r18
  replace r19 := cell_on (below_alloc_ w (.cells #[.int .u8 0, .int .u8 0, .int .u8 0, .int .u8 0, .int .u8 0, .int .i64 (-77), .int .i64 0, .int .i64 0, .int .i64 0, .int .u64 0] 178)) hg r19
  clear hm ht k0
  obtain ⟨A1, c1, rfl, -⟩ := id hv
  obtain ⟨n, hnn⟩ : ∃ n, n = r.length := ⟨_, rfl⟩
  rw [← hnn] at hc SA r0 r1 r2 r3 r4 r5 r6 r7 r8 r9 r10 r11 r12 r13 r14 r15 r16 r17 r18 r19 ⊢
  have hc' : (n : Int) + 2 ≤ c := by omega
  have hn' : (n : Int) ≤ 1000000 := by omega
  have hlt : ¬ ((c - n : Nat) : Int) < 2 := by omega
  have hlt0 : (0 : Int) < ((c - n : Nat) : Int) := by omega
  have hlt1 : (1 : Int) < ((c - n : Nat) : Int) := by omega
  clear hv hnn
  go_enter Try.func115, Try.ntmps115
  go_wp2_with fail
  refine SA.out.mono ?_
  rintro e w1 ⟨rfl, m, rfl⟩
  rw [D.out]
  go_wp2_with fail
  clear hlt hlt0 hlt1
  generalize hdd : c - n = d
  have hlt : ¬ (d : Int) < 2 := by omega
  have hltb : decide ((d : Int) < 2) = false := decide_eq_false hlt
  have hlt0 : (0 : Int) < (d : Int) := by omega
  have hlt1 : (1 : Int) < (d : Int) := by omega
  clear hdd
  go_quiet (fail)
  go_wp2
  go_ret
  exact ⟨rfl, (below_alloc_ w (.cells #[.int .u8 0, .int .u8 0, .int .u8 0, .int .u8 0, .int .u8 0, .int .i64 (-77), .int .i64 0, .int .i64 0, .int .i64 0, .int .u64 0] 178)).trans ((below_drewN_ (w.alloc (.cells #[.int .u8 0, .int .u8 0, .int .u8 0, .int .u8 0, .int .u8 0, .int .i64 (-77), .int .i64 0, .int .i64 0, .int .i64 0, .int .u64 0] 178)).heap.size _ _).mono (by simp))⟩

theorem Twin_step (v : Value) (r : List (List Int)) (w : World) (hv : Steps w v r) (hn : r.length ≤ 1000000) :
    Calls Try.prog 67 #[v] w fun e w' => ∃ A c, e = .returned (.slice A r.length c) ∧ Tw w.heap.size w' 178 10 (.slice A r.length c) r.length (r.flatMap (fc stepK)) [.int .u8 0, .int .u8 0, .int .u8 0, .int .u8 0, .int .u8 0, .int .i64 (-77), .int .i64 0, .int .i64 0, .int .i64 0, .int .u64 0, .int .u8 0, .int .u8 0, .int .u8 0, .int .u8 0, .int .u8 0, .int .i64 (-77), .int .i64 0, .int .i64 0, .int .i64 0, .int .u64 0] ∧ Below w.heap.size w w' := by
  have C := Lib.hid (twin_step v r w hv hn)
  obtain ⟨A, c, rfl, -⟩ := id hv
  clear hv
  go_enter Try.func67, Try.ntmps67
  go_wp2_with fail
  refine C.out.mono ?_
  rintro e w1 ⟨A1, c1, rfl, hT, hB⟩
  have T1 := Lib.hid hT
  have B1 := Lib.hid hB
  clear hT hB
  go_wp2
  go_ret
  exact ⟨A1, c1, rfl, T1.out, B1.out⟩
theorem Left_step (B : Nat) (t v : Value) (r : List (List Int)) (hr : ∀ q ∈ r, q.length = 10) (w : World) (ht : Tw B w 178 10 t r.length (r.flatMap (fc stepK)) [.int .u8 0, .int .u8 0, .int .u8 0, .int .u8 0, .int .u8 0, .int .i64 (-77), .int .i64 0, .int .i64 0, .int .i64 0, .int .u64 0, .int .u8 0, .int .u8 0, .int .u8 0, .int .u8 0, .int .u8 0, .int .i64 (-77), .int .i64 0, .int .i64 0, .int .i64 0, .int .u64 0]) (hv : Steps w v r) (hn : r.length ≤ 1000000) :
    Calls Try.prog 77 #[t, v] w fun e w' => e = .returned (.bool true) ∧ Below w.heap.size w w' := by
  have C := Lib.hid (left_step B t v r hr w ht hv hn)
  obtain ⟨A, c, rfl, -⟩ := id hv
  obtain ⟨g, c1, rfl, -⟩ := ht.room
  clear hv ht
  go_enter Try.func77, Try.ntmps77
  go_wp2_with fail
  refine C.out.mono ?_
  rintro e w1 ⟨rfl, hB⟩
  have B1 := Lib.hid hB
  clear hB
  go_wp2
  go_ret
  exact ⟨rfl, B1.out⟩

end Go.Proofs.Ytielnocnnffdfaa
