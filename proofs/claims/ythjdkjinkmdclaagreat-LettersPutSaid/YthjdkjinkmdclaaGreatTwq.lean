import Derived.Test.YthjdkjinkmdclaaGreatRow
import Derived.Test.YthjdkjinkmdclaaGreatSms
import Derived.Laws.StructEq
import Derived.Test.YthjdkjinkmdclaaGreatSml
/- law01: a twin of a list (countinghouse/api.Step), and whether it was left as it was. -/
namespace Go.Proofs.YthjdkjinkmdclaaGreat
open Go.RowKit

theorem run_mark_step (w : World) : (binOp .eql 104 (.agg #[.int .u8 0, .int .u8 0, .int .u8 0, .int .u8 0, .int .u8 0, .int .i64 (-77), .int .i64 0, .int .i64 0, .int .i64 0, .int .u64 0]) (.agg #[.int .u8 0, .int .u8 0, .int .u8 0, .int .u8 0, .int .u8 0, .int .i64 (-77), .int .i64 0, .int .i64 0, .int .i64 0, .int .u64 0])).run Tryz.prog w = .ok (.bool true) w := by
  have u0 := Tryz.underlying98
  have a0 := Tryz.isAgg98
  have s0 := Tryz.sizeOf98
  have u1 := Tryz.underlying99
  have a1 := Tryz.isAgg99
  have s1 := Tryz.sizeOf99
  have u2 := Tryz.underlying100
  have a2 := Tryz.isAgg100
  have s2 := Tryz.sizeOf100
  have u3 := Tryz.underlying2
  have a3 := Tryz.isAgg2
  have s3 := Tryz.sizeOf2
  have u4 := Tryz.underlying102
  have a4 := Tryz.isAgg102
  have s4 := Tryz.sizeOf102
  have u5 := Tryz.underlying23
  have a5 := Tryz.isAgg23
  have s5 := Tryz.sizeOf23
  have hS : Tryz.prog.underlying 104 = some (.struct (Tryz.prog.fieldsOf 104)) := by kernel_rfl
  have hp : Tryz.prog.stoodInHeld 104 = false := by kernel_rfl
  have hS2 : Tryz.prog.underlying 102 = some (.struct (Tryz.prog.fieldsOf 102)) := by kernel_rfl
  have hp2 : Tryz.prog.stoodInHeld 102 = false := by kernel_rfl
  have hq := fun (w : World) (a b c d : Int) => run_equalIn_agg w 9998 102 (P := Tryz.prog) #[.int .i64 a, .int .i64 b] #[.int .i64 c, .int .i64 d] hS2 hp2
  rw [run_eql_struct, show (10000 : Nat) = 9999 + 1 from rfl, run_equalIn_agg w 9999 104 _ _ hS hp]
  simp only [Program.fieldsOf, Tryz.underlying104]
  go_simp
set_option maxHeartbeats 2000000 in
set_option maxRecDepth 100000 in
theorem twin_step (v : Value) (r : List (List Int)) (w : World) (hv : Steps w v r) (hn : r.length ≤ 1000000) :
    Calls Tryz.prog 56 #[v, .agg #[.int .u8 0, .int .u8 0, .int .u8 0, .int .u8 0, .int .u8 0, .int .i64 (-77), .int .i64 0, .int .i64 0, .int .i64 0, .int .u64 0]] w fun e w' => ∃ A c, e = .returned (.slice A r.length c) ∧ Tw w.heap.size w' 104 10 (.slice A r.length c) r.length (r.flatMap (fc stepK)) [.int .u8 0, .int .u8 0, .int .u8 0, .int .u8 0, .int .u8 0, .int .i64 (-77), .int .i64 0, .int .i64 0, .int .i64 0, .int .u64 0, .int .u8 0, .int .u8 0, .int .u8 0, .int .u8 0, .int .u8 0, .int .i64 (-77), .int .i64 0, .int .i64 0, .int .i64 0, .int .u64 0] ∧ Below w.heap.size w w' := by
  obtain ⟨i0, hi, hz0, hz1, hz2⟩ := info_parts step_info
  have hcl : (r.flatMap (fc stepK)).length = r.length * 10 := (flatMap_len _ _ fcstep_len r)
  have H1 := Lib.hid (rows_one stepK r)
  have HL := Lib.hid hcl
  obtain ⟨A, c, rfl, -⟩ := id hv
  obtain ⟨cs, hcs⟩ : ∃ cs, cs = (r.flatMap (fc stepK)) := ⟨_, rfl⟩
  rw [← hcs] at HL H1 ⊢
  have hv' : Rd w 10 (.slice A r.length c) r.length cs := by rw [hcs]; exact hv
  clear hv hcl
  obtain ⟨n, hnn⟩ : ∃ n, n = r.length := ⟨_, rfl⟩
  rw [← hnn] at hv' hn HL ⊢
  have hn' : (n : Int) ≤ 1000000 := by omega
  have hk0 := Blk.new w 104 #[.int .u8 0, .int .u8 0, .int .u8 0, .int .u8 0, .int .u8 0, .int .i64 (-77), .int .i64 0, .int .i64 0, .int .i64 0, .int .u64 0]
  have K0 := Lib.hid hk0
  clear hk0
  have HV := Lib.hid (hv'.below (below_alloc_ w (.cells #[.int .u8 0, .int .u8 0, .int .u8 0, .int .u8 0, .int .u8 0, .int .i64 (-77), .int .i64 0, .int .i64 0, .int .i64 0, .int .u64 0] 104)))
  clear hv' hcs hnn
  go_enter Tryz.func56, Tryz.ntmps56
  go_upto_region 2 with (at_make; refine wpList_make_own _ rfl _ _ 26 rfl (w.heap.size + 1) 104 i0 (.agg #[.int .u8 0, .int .u8 0, .int .u8 0, .int .u8 0, .int .u8 0, .int .i64 0, .int .i64 0, .int .i64 0, .int .i64 0, .int .u64 0]) 10 Tryz.underlying26 hi hz0 hz1 .i64 .i64 _ (n + 2) rfl rfl (by simp) (by rw [hz2]; omega) (by unfold maxLen; omega) (by simp) ?_; intro w1 ho1 hg1)
  simp only [World.size_alloc] at ho1
  have OB := Lib.hid (Ow.of_own ho1)
  have O1 := Lib.hid ((Ow.of_own ho1).le (B' := w.heap.size) (by omega))
  have B1 := Lib.hid ((below_alloc_ w (.cells #[.int .u8 0, .int .u8 0, .int .u8 0, .int .u8 0, .int .u8 0, .int .i64 (-77), .int .i64 0, .int .i64 0, .int .i64 0, .int .u64 0] 104)).trans ((below_of_grown_ hg1).mono (by simp)))
  have HV1 := Lib.hid (HV.out.below (below_of_grown_ hg1))
  have K1 := Lib.hid (K0.out.grown hg1 (by simp))
  clear ho1 hg1
  go_upto_region 3 with (at_builtin; refine wpList_ow_rows (n := 0) (m := n) rfl _ _ 26 104 (.agg #[.int .u8 0, .int .u8 0, .int .u8 0, .int .u8 0, .int .u8 0, .int .i64 0, .int .i64 0, .int .i64 0, .int .i64 0, .int .u64 0]) 10 48 rfl Tryz.underlying26 step_info rfl (by decide) rfl O1.out (by have := B1.out.size; omega) HV1.out H1.out rfl (by omega) (by unfold maxLen; omega) ?_; intro v2 w2 ho2 hg2)
  have B2 := Lib.hid (below_grown_own_ B1.out hg2.1 O1.out)
  have O2 := Lib.hid ho2
  have K2 := Lib.hid (K1.out.grown hg2.1 (fun e => by have := OB.out.blk_lt _ e.symm; omega))
  have k2 := K2.out
  have k2_0 := k2.cell 0
  have k2_1 := k2.cell 1
  have k2_2 := k2.cell 2
  have k2_3 := k2.cell 3
  have k2_4 := k2.cell 4
  have k2_5 := k2.cell 5
  have k2_6 := k2.cell 6
  have k2_7 := k2.cell 7
  have k2_8 := k2.cell 8
  have k2_9 := k2.cell 9
  simp at k2_0 k2_1 k2_2 k2_3 k2_4 k2_5 k2_6 k2_7 k2_8 k2_9
  clear k2
  clear ho2 hg2 O1 B1 HV1
  rw [Nat.zero_add, List.nil_append] at O2
  go_wp2_with (at_builtin; refine wpList_ow_rows (n := n) (m := 2) rfl _ _ 26 104 (.agg #[.int .u8 0, .int .u8 0, .int .u8 0, .int .u8 0, .int .u8 0, .int .i64 0, .int .i64 0, .int .i64 0, .int .i64 0, .int .u64 0]) 10 48 rfl Tryz.underlying26 step_info rfl (by decide) rfl (O2.out.below (below_alloc_ w2 (.cells #[.int .u8 0, .int .u8 0, .int .u8 0, .int .u8 0, .int .u8 0, .int .i64 (-77), .int .i64 0, .int .i64 0, .int .i64 0, .int .u64 0, .int .u8 0, .int .u8 0, .int .u8 0, .int .u8 0, .int .u8 0, .int .i64 (-77), .int .i64 0, .int .i64 0, .int .i64 0, .int .u64 0] 104))) (by have := B2.out.size; simp; omega) (Rd.lits w2 104 10 2 [.int .u8 0, .int .u8 0, .int .u8 0, .int .u8 0, .int .u8 0, .int .i64 (-77), .int .i64 0, .int .i64 0, .int .i64 0, .int .u64 0, .int .u8 0, .int .u8 0, .int .u8 0, .int .u8 0, .int .u8 0, .int .i64 (-77), .int .i64 0, .int .i64 0, .int .i64 0, .int .u64 0] rfl) (by decide) rfl (by omega) (by unfold maxLen; omega) ?_; intro v3 w3 ho3 hg3)
  have B3 := Lib.hid (below_grown_own_ (B2.out.trans ((below_alloc_ w2 (.cells #[.int .u8 0, .int .u8 0, .int .u8 0, .int .u8 0, .int .u8 0, .int .i64 (-77), .int .i64 0, .int .i64 0, .int .i64 0, .int .u64 0, .int .u8 0, .int .u8 0, .int .u8 0, .int .u8 0, .int .u8 0, .int .i64 (-77), .int .i64 0, .int .i64 0, .int .i64 0, .int .u64 0] 104)).mono B2.out.size)) hg3.1 (O2.out.below (below_alloc_ w2 (.cells #[.int .u8 0, .int .u8 0, .int .u8 0, .int .u8 0, .int .u8 0, .int .i64 (-77), .int .i64 0, .int .i64 0, .int .i64 0, .int .u64 0, .int .u8 0, .int .u8 0, .int .u8 0, .int .u8 0, .int .u8 0, .int .i64 (-77), .int .i64 0, .int .i64 0, .int .i64 0, .int .u64 0] 104))))
  obtain ⟨A3, c3, rfl⟩ := ho3.sl_
  obtain ⟨hc3, ht⟩ := Tw.mk_ ho3 HL.out
  obtain ⟨g3, c9, hv3, -⟩ := ht.room
  injection hv3 with hA3 _ hc9
  subst hA3
  subst hc9
  have T3 := Lib.hid ht
  clear ho3 hg3 ht O2 B2
  have hc3' : (n : Int) ≤ c3 := by omega
  go_wp2
  go_ret
  exact ⟨_, _, rfl, T3.out, B3.out⟩

set_option maxHeartbeats 2000000 in
set_option maxRecDepth 100000 in
theorem left_step (B : Nat) (t v : Value) (r : List (List Int)) (hr : ∀ q ∈ r, q.length = 10) (w : World) (ht : Tw B w 104 10 t r.length (r.flatMap (fc stepK)) [.int .u8 0, .int .u8 0, .int .u8 0, .int .u8 0, .int .u8 0, .int .i64 (-77), .int .i64 0, .int .i64 0, .int .i64 0, .int .u64 0, .int .u8 0, .int .u8 0, .int .u8 0, .int .u8 0, .int .u8 0, .int .i64 (-77), .int .i64 0, .int .i64 0, .int .i64 0, .int .u64 0]) (hv : Steps w v r) (hn : r.length ≤ 1000000) :
    Calls Tryz.prog 69 #[t, v, .agg #[.int .u8 0, .int .u8 0, .int .u8 0, .int .u8 0, .int .u8 0, .int .i64 (-77), .int .i64 0, .int .i64 0, .int .i64 0, .int .u64 0]] w fun e w' => e = .returned (.bool true) ∧ Below w.heap.size w w' := by
  have HR := Lib.hid hr
  have SA := Lib.hid (same_steps r r HR.out HR.out _ _ (w.alloc (.cells #[.int .u8 0, .int .u8 0, .int .u8 0, .int .u8 0, .int .u8 0, .int .i64 (-77), .int .i64 0, .int .i64 0, .int .i64 0, .int .u64 0] 104)) (ht.rd.alloc _) (Rd.alloc hv _) (by omega))
  have D := Lib.hid (decide_eq_true (rfl : r = r))
  obtain ⟨g, c, rfl, hc, -, hg, -, hm⟩ := ht.room
  have r0 : w.cell? ⟨g, r.length * 10, none⟩ = some (.int .u8 0) := by have := hm 0 _ rfl; simpa using this
  have r1 : w.cell? ⟨g, r.length * 10 + 1, none⟩ = some (.int .u8 0) := by have := hm 1 _ rfl; simpa using this
  have r2 : w.cell? ⟨g, r.length * 10 + 2, none⟩ = some (.int .u8 0) := by have := hm 2 _ rfl; simpa using this
  have r3 : w.cell? ⟨g, r.length * 10 + 3, none⟩ = some (.int .u8 0) := by have := hm 3 _ rfl; simpa using this
  have r4 : w.cell? ⟨g, r.length * 10 + 4, none⟩ = some (.int .u8 0) := by have := hm 4 _ rfl; simpa using this
  have r5 : w.cell? ⟨g, r.length * 10 + 5, none⟩ = some (.int .i64 (-77)) := by have := hm 5 _ rfl; simpa using this
  have r6 : w.cell? ⟨g, r.length * 10 + 6, none⟩ = some (.int .i64 0) := by have := hm 6 _ rfl; simpa using this
  have r7 : w.cell? ⟨g, r.length * 10 + 7, none⟩ = some (.int .i64 0) := by have := hm 7 _ rfl; simpa using this
  have r8 : w.cell? ⟨g, r.length * 10 + 8, none⟩ = some (.int .i64 0) := by have := hm 8 _ rfl; simpa using this
  have r9 : w.cell? ⟨g, r.length * 10 + 9, none⟩ = some (.int .u64 0) := by have := hm 9 _ rfl; simpa using this
  have r10 : w.cell? ⟨g, r.length * 10 + 10, none⟩ = some (.int .u8 0) := by have := hm 10 _ rfl; simpa using this
  have r11 : w.cell? ⟨g, r.length * 10 + 11, none⟩ = some (.int .u8 0) := by have := hm 11 _ rfl; simpa using this
  have r12 : w.cell? ⟨g, r.length * 10 + 12, none⟩ = some (.int .u8 0) := by have := hm 12 _ rfl; simpa using this
  have r13 : w.cell? ⟨g, r.length * 10 + 13, none⟩ = some (.int .u8 0) := by have := hm 13 _ rfl; simpa using this
  have r14 : w.cell? ⟨g, r.length * 10 + 14, none⟩ = some (.int .u8 0) := by have := hm 14 _ rfl; simpa using this
  have r15 : w.cell? ⟨g, r.length * 10 + 15, none⟩ = some (.int .i64 (-77)) := by have := hm 15 _ rfl; simpa using this
  have r16 : w.cell? ⟨g, r.length * 10 + 16, none⟩ = some (.int .i64 0) := by have := hm 16 _ rfl; simpa using this
  have r17 : w.cell? ⟨g, r.length * 10 + 17, none⟩ = some (.int .i64 0) := by have := hm 17 _ rfl; simpa using this
  have r18 : w.cell? ⟨g, r.length * 10 + 18, none⟩ = some (.int .i64 0) := by have := hm 18 _ rfl; simpa using this
  have r19 : w.cell? ⟨g, r.length * 10 + 19, none⟩ = some (.int .u64 0) := by have := hm 19 _ rfl; simpa using this
  have K0 := Lib.hid (Blk.new w 104 #[.int .u8 0, .int .u8 0, .int .u8 0, .int .u8 0, .int .u8 0, .int .i64 (-77), .int .i64 0, .int .i64 0, .int .i64 0, .int .u64 0])
  have hme := run_mark_step
  have k0 := K0.out
  have k0_0 := k0.cell 0
  have k0_1 := k0.cell 1
  have k0_2 := k0.cell 2
  have k0_3 := k0.cell 3
  have k0_4 := k0.cell 4
  have k0_5 := k0.cell 5
  have k0_6 := k0.cell 6
  have k0_7 := k0.cell 7
  have k0_8 := k0.cell 8
  have k0_9 := k0.cell 9
  simp only [List.getElem?_toArray, List.getElem?_cons_zero, List.getElem?_cons_succ] at k0_0 k0_1 k0_2 k0_3 k0_4 k0_5 k0_6 k0_7 k0_8 k0_9
  replace r0 := cell_on (below_alloc_ w (.cells #[.int .u8 0, .int .u8 0, .int .u8 0, .int .u8 0, .int .u8 0, .int .i64 (-77), .int .i64 0, .int .i64 0, .int .i64 0, .int .u64 0] 104)) hg r0
  replace r1 := cell_on (below_alloc_ w (.cells #[.int .u8 0, .int .u8 0, .int .u8 0, .int .u8 0, .int .u8 0, .int .i64 (-77), .int .i64 0, .int .i64 0, .int .i64 0, .int .u64 0] 104)) hg r1
  replace r2 := cell_on (below_alloc_ w (.cells #[.int .u8 0, .int .u8 0, .int .u8 0, .int .u8 0, .int .u8 0, .int .i64 (-77), .int .i64 0, .int .i64 0, .int .i64 0, .int .u64 0] 104)) hg r2
  replace r3 := cell_on (below_alloc_ w (.cells #[.int .u8 0, .int .u8 0, .int .u8 0, .int .u8 0, .int .u8 0, .int .i64 (-77), .int .i64 0, .int .i64 0, .int .i64 0, .int .u64 0] 104)) hg r3
  replace r4 := cell_on (below_alloc_ w (.cells #[.int .u8 0, .int .u8 0, .int .u8 0, .int .u8 0, .int .u8 0, .int .i64 (-77), .int .i64 0, .int .i64 0, .int .i64 0, .int .u64 0] 104)) hg r4
  replace r5 := cell_on (below_alloc_ w (.cells #[.int .u8 0, .int .u8 0, .int .u8 0, .int .u8 0, .int .u8 0, .int .i64 (-77), .int .i64 0, .int .i64 0, .int .i64 0, .int .u64 0] 104)) hg r5
  replace r6 := cell_on (below_alloc_ w (.cells #[.int .u8 0, .int .u8 0, .int .u8 0, .int .u8 0, .int .u8 0, .int .i64 (-77), .int .i64 0, .int .i64 0, .int .i64 0, .int .u64 0] 104)) hg r6
  replace r7 := cell_on (below_alloc_ w (.cells #[.int .u8 0, .int .u8 0, .int .u8 0, .int .u8 0, .int .u8 0, .int .i64 (-77), .int .i64 0, .int .i64 0, .int .i64 0, .int .u64 0] 104)) hg r7
  replace r8 := cell_on (below_alloc_ w (.cells #[.int .u8 0, .int .u8 0, .int .u8 0, .int .u8 0, .int .u8 0, .int .i64 (-77), .int .i64 0, .int .i64 0, .int .i64 0, .int .u64 0] 104)) hg r8
  replace r9 := cell_on (below_alloc_ w (.cells #[.int .u8 0, .int .u8 0, .int .u8 0, .int .u8 0, .int .u8 0, .int .i64 (-77), .int .i64 0, .int .i64 0, .int .i64 0, .int .u64 0] 104)) hg r9
  replace r10 := cell_on (below_alloc_ w (.cells #[.int .u8 0, .int .u8 0, .int .u8 0, .int .u8 0, .int .u8 0, .int .i64 (-77), .int .i64 0, .int .i64 0, .int .i64 0, .int .u64 0] 104)) hg r10
  replace r11 := cell_on (below_alloc_ w (.cells #[.int .u8 0, .int .u8 0, .int .u8 0, .int .u8 0, .int .u8 0, .int .i64 (-77), .int .i64 0, .int .i64 0, .int .i64 0, .int .u64 0] 104)) hg r11
  replace r12 := cell_on (below_alloc_ w (.cells #[.int .u8 0, .int .u8 0, .int .u8 0, .int .u8 0, .int .u8 0, .int .i64 (-77), .int .i64 0, .int .i64 0, .int .i64 0, .int .u64 0] 104)) hg r12
  replace r13 := cell_on (below_alloc_ w (.cells #[.int .u8 0, .int .u8 0, .int .u8 0, .int .u8 0, .int .u8 0, .int .i64 (-77), .int .i64 0, .int .i64 0, .int .i64 0, .int .u64 0] 104)) hg r13
  replace r14 := cell_on (below_alloc_ w (.cells #[.int .u8 0, .int .u8 0, .int .u8 0, .int .u8 0, .int .u8 0, .int .i64 (-77), .int .i64 0, .int .i64 0, .int .i64 0, .int .u64 0] 104)) hg r14
  replace r15 := cell_on (below_alloc_ w (.cells #[.int .u8 0, .int .u8 0, .int .u8 0, .int .u8 0, .int .u8 0, .int .i64 (-77), .int .i64 0, .int .i64 0, .int .i64 0, .int .u64 0] 104)) hg r15
  replace r16 := cell_on (below_alloc_ w (.cells #[.int .u8 0, .int .u8 0, .int .u8 0, .int .u8 0, .int .u8 0, .int .i64 (-77), .int .i64 0, .int .i64 0, .int .i64 0, .int .u64 0] 104)) hg r16
  replace r17 := cell_on (below_alloc_ w (.cells #[.int .u8 0, .int .u8 0, .int .u8 0, .int .u8 0, .int .u8 0, .int .i64 (-77), .int .i64 0, .int .i64 0, .int .i64 0, .int .u64 0] 104)) hg r17
  replace r18 := cell_on (below_alloc_ w (.cells #[.int .u8 0, .int .u8 0, .int .u8 0, .int .u8 0, .int .u8 0, .int .i64 (-77), .int .i64 0, .int .i64 0, .int .i64 0, .int .u64 0] 104)) hg r18
  replace r19 := cell_on (below_alloc_ w (.cells #[.int .u8 0, .int .u8 0, .int .u8 0, .int .u8 0, .int .u8 0, .int .i64 (-77), .int .i64 0, .int .i64 0, .int .i64 0, .int .u64 0] 104)) hg r19
  clear hm ht k0
  obtain ⟨A1, c1, rfl, -⟩ := id hv
  obtain ⟨n, hnn⟩ : ∃ n, n = r.length := ⟨_, rfl⟩
  rw [← hnn] at hc SA r0 r1 r2 r3 r4 r5 r6 r7 r8 r9 r10 r11 r12 r13 r14 r15 r16 r17 r18 r19 ⊢
  have hc' : (n : Int) + 2 ≤ c := by omega
  have hn' : (n : Int) ≤ 1000000 := by omega
  have hlt : ¬ ((c - n : Nat) : Int) < 2 := by omega
  have hlt0 : (0 : Int) < ((c - n : Nat) : Int) := by omega
  have hlt1 : (1 : Int) < ((c - n : Nat) : Int) := by omega
  clear hv hnn
  go_enter Tryz.func69, Tryz.ntmps69
  go_wp2_with fail
  refine SA.out.mono ?_
  rintro e w1 ⟨rfl, m, rfl⟩
  rw [D.out]
  go_wp2_with fail
  clear hlt hlt0 hlt1
  generalize hdd : c - n = d
  have hlt : ¬ (d : Int) < 2 := by omega
  have hltb : decide ((d : Int) < 2) = false := decide_eq_false hlt
  have hlt0 : (0 : Int) < (d : Int) := by omega
  have hlt1 : (1 : Int) < (d : Int) := by omega
  clear hdd
  go_quiet (fail)
  go_wp2
  go_ret
  exact ⟨rfl, (below_alloc_ w (.cells #[.int .u8 0, .int .u8 0, .int .u8 0, .int .u8 0, .int .u8 0, .int .i64 (-77), .int .i64 0, .int .i64 0, .int .i64 0, .int .u64 0] 104)).trans ((below_drewN_ (w.alloc (.cells #[.int .u8 0, .int .u8 0, .int .u8 0, .int .u8 0, .int .u8 0, .int .i64 (-77), .int .i64 0, .int .i64 0, .int .i64 0, .int .u64 0] 104)).heap.size _ _).mono (by simp))⟩

theorem Twin_step (v : Value) (r : List (List Int)) (w : World) (hv : Steps w v r) (hn : r.length ≤ 1000000) :
    Calls Tryz.prog 45 #[v] w fun e w' => ∃ A c, e = .returned (.slice A r.length c) ∧ Tw w.heap.size w' 104 10 (.slice A r.length c) r.length (r.flatMap (fc stepK)) [.int .u8 0, .int .u8 0, .int .u8 0, .int .u8 0, .int .u8 0, .int .i64 (-77), .int .i64 0, .int .i64 0, .int .i64 0, .int .u64 0, .int .u8 0, .int .u8 0, .int .u8 0, .int .u8 0, .int .u8 0, .int .i64 (-77), .int .i64 0, .int .i64 0, .int .i64 0, .int .u64 0] ∧ Below w.heap.size w w' := by
  have C := Lib.hid (twin_step v r w hv hn)
  obtain ⟨A, c, rfl, -⟩ := id hv
  clear hv
  go_enter Tryz.func45, Tryz.ntmps45
  go_wp2_with fail
  refine C.out.mono ?_
  rintro e w1 ⟨A1, c1, rfl, hT, hB⟩
  have T1 := Lib.hid hT
  have B1 := Lib.hid hB
  clear hT hB
  go_wp2
  go_ret
  exact ⟨A1, c1, rfl, T1.out, B1.out⟩
theorem Left_step (B : Nat) (t v : Value) (r : List (List Int)) (hr : ∀ q ∈ r, q.length = 10) (w : World) (ht : Tw B w 104 10 t r.length (r.flatMap (fc stepK)) [.int .u8 0, .int .u8 0, .int .u8 0, .int .u8 0, .int .u8 0, .int .i64 (-77), .int .i64 0, .int .i64 0, .int .i64 0, .int .u64 0, .int .u8 0, .int .u8 0, .int .u8 0, .int .u8 0, .int .u8 0, .int .i64 (-77), .int .i64 0, .int .i64 0, .int .i64 0, .int .u64 0]) (hv : Steps w v r) (hn : r.length ≤ 1000000) :
    Calls Tryz.prog 50 #[t, v] w fun e w' => e = .returned (.bool true) ∧ Below w.heap.size w w' := by
  have C := Lib.hid (left_step B t v r hr w ht hv hn)
  obtain ⟨A, c, rfl, -⟩ := id hv
  obtain ⟨g, c1, rfl, -⟩ := ht.room
  clear hv ht
  go_enter Tryz.func50, Tryz.ntmps50
  go_wp2_with fail
  refine C.out.mono ?_
  rintro e w1 ⟨rfl, hB⟩
  have B1 := Lib.hid hB
  clear hB
  go_wp2
  go_ret
  exact ⟨rfl, B1.out⟩

end Go.Proofs.YthjdkjinkmdclaaGreat

/- law01: a twin of a call, and whether it was left as it was. -/
namespace Go.Proofs.YthjdkjinkmdclaaGreat
open Go.RowKit

/-- What stands behind a twin's steps. -/
def stepMk : List Value := [.int .u8 0, .int .u8 0, .int .u8 0, .int .u8 0, .int .u8 0, .int .i64 (-77), .int .i64 0, .int .i64 0, .int .i64 0, .int .u64 0, .int .u8 0, .int .u8 0, .int .u8 0, .int .u8 0, .int .u8 0, .int .i64 (-77), .int .i64 0, .int .i64 0, .int .i64 0, .int .u64 0]
set_option maxHeartbeats 2000000 in
set_option maxRecDepth 100000 in
theorem Twin_call (x0 x1 : Int) (v : Value) (r : List (List Int)) (w : World) (hv : Steps w v r) (hn : r.length ≤ 1000000) :
    Calls Tryz.prog 23 #[.agg #[.int .u8 x0, .int .u64 x1, v]] w fun e w' => ∃ A c, e = .returned (.agg #[.int .u8 x0, .int .u64 x1, .slice A r.length c]) ∧ Tw w.heap.size w' 104 10 (.slice A r.length c) r.length (r.flatMap (fc stepK)) stepMk ∧ Below w.heap.size w w' := by
  have b2 := below_alloc2_ w (.cells #[.int .u8 x0, .int .u64 x1, v] 30) (.cells #[.int .u8 0, .int .u64 0, .slice none 0 0] 30)
  have k0 := (Blk.new w 30 #[.int .u8 x0, .int .u64 x1, v]).alloc (.cells #[.int .u8 0, .int .u64 0, .slice none 0 0] 30)
  have k1 := Blk.new (w.alloc (.cells #[.int .u8 x0, .int .u64 x1, v] 30)) 30 #[.int .u8 0, .int .u64 0, .slice none 0 0]
  rw [World.size_alloc] at k1
  have K0 := Lib.hid k0
  have K1 := Lib.hid k1
  have B2 := Lib.hid b2
  have V := Lib.hid (show Steps _ v r from Rd.below hv b2)
  have c2 := k0.cell 2
  simp only [List.getElem?_toArray, List.getElem?_cons_zero, List.getElem?_cons_succ] at c2
  obtain ⟨A, c, rfl, -⟩ := id hv
  clear hv k0 k1 b2
  go_enter Tryz.func23, Tryz.ntmps23
  go_wp2_with fail
  refine (Twin_step _ r _ V.out hn).mono ?_
  rintro e w1 ⟨A1, c1, rfl, hT, hB⟩
  have T1 := Lib.hid (hT.le_ (B' := w.heap.size) (by simp; omega))
  have B1 := Lib.hid hB
  have J0 := Lib.hid (K0.out.below hB K0.out.lt)
  have J1 := Lib.hid (K1.out.below hB K1.out.lt)
  have TL := Lib.hid hT
  clear hT hB c2
  have f0 := J0.out.free
  have f1 := J1.out.free
  have j0 := J0.out.cell 0
  have j1 := J0.out.cell 1
  have j2 := J0.out.cell 2
  have i0 := J1.out.cell 0
  have i1 := J1.out.cell 1
  have i2 := J1.out.cell 2
  simp only [List.getElem?_toArray, List.getElem?_cons_zero, List.getElem?_cons_succ] at j0 j1 j2 i0 i1 i2
  go_wp2
  have bf := ((((J1.out.far (p := ⟨w.heap.size, 2, none⟩) (by simp) (.slice A1 r.length c1)).set_ 0 (.int .u8 x0)).set_ 1 (.int .u64 x1)).set_ 2 (.slice A1 r.length c1))
  have y0 := bf.cell 0
  have y1 := bf.cell 1
  have y2 := bf.cell 2
  simp at y0 y1 y2
  refine bodyPost_ret (v := .agg #[.int .u8 x0, .int .u64 x1, .slice A1 r.length c1]) (by simp [results, Tryz.results23, go_sem, y0, y1, y2]) rfl ?_
  refine ⟨A1, c1, rfl, ?_, ?_⟩
  · have hk1 := (J0.out.set_ 2 (.slice A1 r.length c1))
    have hk2 := (J1.out.far (p := ⟨w.heap.size, 2, none⟩) (by simp) (.slice A1 r.length c1))
    exact (((T1.out.aside J0.out (by decide) 2 _).aside hk2 (by decide) 0 _).aside (hk2.set_ 0 _) (by decide) 1 _).aside ((hk2.set_ 0 _).set_ 1 _) (by decide) 2 _
  · exact ((((B2.out.trans (B1.out.mono B2.out.size)).setCell (p := ⟨w.heap.size, 2, none⟩) (Nat.le_refl _) _).setCell (p := ⟨w.heap.size + 1, 0, none⟩) (Nat.le_succ _) _).setCell (p := ⟨w.heap.size + 1, 1, none⟩) (Nat.le_succ _) _).setCell (p := ⟨w.heap.size + 1, 2, none⟩) (Nat.le_succ _) _
set_option maxHeartbeats 2000000 in
set_option maxRecDepth 100000 in
theorem Left_call (B : Nat) (x0 x1 : Int) (t v : Value) (r : List (List Int)) (hr : ∀ q ∈ r, q.length = 10) (w : World) (ht : Tw B w 104 10 t r.length (r.flatMap (fc stepK)) stepMk) (hv : Steps w v r) (hn : r.length ≤ 1000000) :
    Calls Tryz.prog 32 #[.agg #[.int .u8 x0, .int .u64 x1, t], .agg #[.int .u8 x0, .int .u64 x1, v]] w fun e w' => e = .returned (.bool true) ∧ Below w.heap.size w w' := by
  have b2 := below_alloc2_ w (.cells #[.int .u8 x0, .int .u64 x1, t] 30) (.cells #[.int .u8 x0, .int .u64 x1, v] 30)
  have C := Lib.hid (Left_step B t v r hr _ (ht.below b2) (show Steps _ _ r from Rd.below hv b2) hn)
  have B2 := Lib.hid b2
  obtain ⟨A, c, rfl, -⟩ := id hv
  obtain ⟨g, c1, rfl, -⟩ := ht.room
  clear hv ht b2
  go_enter Tryz.func32, Tryz.ntmps32
  go_wp2_with fail
  refine C.out.mono ?_
  rintro e w1 ⟨rfl, hB⟩
  have B1 := Lib.hid (B2.out.trans (hB.mono B2.out.size))
  clear hB
  go_wp2
  go_ret
  exact ⟨rfl, B1.out⟩
end Go.Proofs.YthjdkjinkmdclaaGreat

/- law01: whether two lists of bytes are the same. -/
namespace Go.Proofs.YthjdkjinkmdclaaGreat
open Go.RowKit

theorem Bs.old {w : World} {v : Value} {xs : List Int} (h : Bs w v xs) : ∃ A c, v = .slice A xs.length c ∧ xs.length ≤ c ∧ (xs = [] ∨ ∃ g o, A = some ⟨g, o, none⟩ ∧ ∀ j (h : j < xs.length), w.cell? ⟨g, o + j, none⟩ = some (.int .u8 xs[j])) := by
  obtain ⟨A, c, rfl, hc, hl, h0 | ⟨g, o, rfl, hg, hh⟩⟩ := h
  · exact ⟨A, c, rfl, hc, .inl (List.eq_nil_of_length_eq_zero h0)⟩
  · exact ⟨_, c, rfl, hc, .inr ⟨g, o, rfl, fun j hj => hh j _ (by simp [bc, hj])⟩⟩

set_option maxHeartbeats 2000000 in
theorem same_bytes (xs ys : List Int) (v u : Value) (w : World) (hv : Bs w v xs) (hu : Bs w u ys) (hb : xs.length ≤ 4611686018427387904) :
    Calls Tryz.prog 31 #[v, u] w fun e w' => e = .returned (.bool (decide (xs = ys))) ∧ ∃ m, w' = w.drewN m := by
  obtain ⟨A, c, rfl, hc, hA⟩ := hv.old
  obtain ⟨B, d, rfl, hd, hB⟩ := hu.old
  clear hv hu
  by_cases hl : xs.length = ys.length
  · by_cases h0 : xs = []
    · subst h0
      have hy : ys = [] := List.eq_nil_of_length_eq_zero (by simpa using hl.symm)
      subst hy
      clear hA hB
      go_enter Tryz.func31, Tryz.ntmps31
      go_wp2
      refine wp_loop_rounds 1 ?_
      rw [rounds_succ]
      go_wp2
      go_ret
      exact ⟨by simp, 0, rfl⟩
    · rcases hA with h | ⟨g, o, rfl, hcell⟩
      · exact absurd h h0
      rcases hB with rfl | ⟨g', o', rfl, hcell'⟩
      · exact absurd (List.eq_nil_of_length_eq_zero (by simpa using hl)) h0
      obtain ⟨n, hn⟩ : ∃ n, n = xs.length := ⟨_, rfl⟩
      have hn' : n = ys.length := hn.trans hl
      have HN := Lib.hid hn
      have HN' := Lib.hid hn'
      have hb' : (n : Int) ≤ 4611686018427387904 := by omega
      have HC := Lib.hid hcell
      have HC' := Lib.hid hcell'
      rw [← hn, ← hn']
      have hcn : n ≤ c := by omega
      have hdn : n ≤ d := by omega
      clear hcell hcell' hn hn' hl h0 hc hd hb
      go_enter Tryz.func31, Tryz.ntmps31
      go_wp2
      go_loopw [5] (fun i wr => ∃ k m : Nat, k ≤ n ∧ i = .int .i64 k ∧ wr = w.drewN m ∧ xs.take k = ys.take k) (fun i _ => n - (intOf i).toNat)
      case atStart => exact ⟨0, 0, Nat.zero_le _, rfl, rfl, rfl⟩
      case round =>
        obtain ⟨k, m, hk, rfl, rfl, ht⟩ := hrel
        have HT := Lib.hid ht
        clear ht
        by_cases hkn : k < n
        · have hx : k < xs.length := by have := HN.out; omega
          have hy : k < ys.length := by have := HN'.out; omega
          have c1 := HC.out k hx
          have d1 := HC'.out k hy
          obtain ⟨p, hp⟩ : ∃ p, p = xs[k] := ⟨_, rfl⟩
          obtain ⟨q, hq⟩ : ∃ q, q = ys[k] := ⟨_, rfl⟩
          rw [← hp] at c1
          rw [← hq] at d1
          have HP := Lib.hid hp
          have HQ := Lib.hid hq
          clear hp hq
          by_cases hpq : p = q
          · subst hpq
            go_wp2_with fail
            go_quiet (fail)
            go_wp2
            exact ⟨⟨k + 1, _, by omega, by go_num, rfl, take_snoc_same xs ys k hx hy HT.out (by rw [← HP.out, ← HQ.out])⟩, by simp [intOf]; omega⟩
          · have hne : (p != q) = true := by simpa using hpq
            go_wp2_with fail
            go_quiet (fail)
            go_wp2
            go_ret
            refine ⟨?_, _, World.drewN_drewN _ _ _⟩
            have : ¬ xs = ys := fun e => by
              have h1 : xs[k] = ys[k] := by subst e; rfl
              rw [← HP.out, ← HQ.out] at h1
              exact hpq h1
            rw [decide_eq_false this]; rfl
        · obtain rfl : k = n := by omega
          go_wp2
          go_ret
          refine ⟨?_, _, rfl⟩
          have : xs = ys := by
            have h1 := HT.out
            rw [List.take_of_length_le (by have := HN.out; omega), List.take_of_length_le (by have := HN'.out; omega)] at h1
            exact h1
          rw [decide_eq_true this]; rfl
  · have hl' : ¬ (xs.length : Int) = (ys.length : Int) := by omega
    have hne : ¬ xs = ys := fun e => hl (by rw [e])
    have D := Lib.hid (decide_eq_false hne)
    clear hA hB hne
    go_enter Tryz.func31, Tryz.ntmps31
    go_wp2
    go_ret
    exact ⟨by rw [D.out]; rfl, 0, rfl⟩
theorem sameb_any (xs ys : List Int) (v u : Value) (w : World) (hv : Bs w v xs) (hu : Bs w u ys) (hb : xs.length ≤ 4611686018427387904) :
    Calls Tryz.prog 11 #[v, u] w fun e w' => e = .returned (.bool (decide (xs = ys))) ∧ ∃ m, w' = w.drewN m := by
  have C := Lib.hid (same_bytes xs ys v u w hv hu hb)
  obtain ⟨t, ht⟩ : ∃ t, t = decide (xs = ys) := ⟨_, rfl⟩
  rw [← ht] at C ⊢
  have T := Lib.hid ht
  obtain ⟨A, c, rfl, -⟩ := id hv
  obtain ⟨B, d, rfl, -⟩ := id hu
  clear hv hu ht
  go_enter Tryz.func11, Tryz.ntmps11
  go_wp2_with fail
  refine C.out.mono ?_
  rintro e w1 ⟨rfl, m, rfl⟩
  go_wp2
  go_ret
  exact ⟨rfl, m, rfl⟩
end Go.Proofs.YthjdkjinkmdclaaGreat

/- law01: a twin of a list (byte), and whether it was left as it was. -/
namespace Go.Proofs.YthjdkjinkmdclaaGreat
open Go.RowKit

set_option maxHeartbeats 2000000 in
set_option maxRecDepth 100000 in
theorem twin_byte (v : Value) (r : List Int) (w : World) (hv : Bs w v r) (hn : r.length ≤ 1000000) :
    Calls Tryz.prog 34 #[v, .int .u8 195] w fun e w' => ∃ A c, e = .returned (.slice A r.length c) ∧ Tw w.heap.size w' 5 1 (.slice A r.length c) r.length (bc r) [.int .u8 195, .int .u8 195] ∧ Below w.heap.size w w' := by
  obtain ⟨i0, hi, hz0, hz1, hz2⟩ := info_parts byt_info
  have hcl : (bc r).length = r.length * 1 := (by simp)
  have H1 := Lib.hid (bc_one r)
  have HL := Lib.hid hcl
  obtain ⟨A, c, rfl, -⟩ := id hv
  obtain ⟨cs, hcs⟩ : ∃ cs, cs = (bc r) := ⟨_, rfl⟩
  rw [← hcs] at HL H1 ⊢
  have hv' : Rd w 1 (.slice A r.length c) r.length cs := by rw [hcs]; exact hv
  clear hv hcl
  obtain ⟨n, hnn⟩ : ∃ n, n = r.length := ⟨_, rfl⟩
  rw [← hnn] at hv' hn HL ⊢
  have hn' : (n : Int) ≤ 1000000 := by omega
  have HV := Lib.hid hv'
  clear hv' hcs hnn
  go_enter Tryz.func34, Tryz.ntmps34
  go_upto_region 2 with (at_make; refine wpList_make_own _ rfl _ _ 25 rfl w.heap.size 5 i0 (.int .u8 0) 1 Tryz.underlying25 hi hz0 hz1 .i64 .i64 _ (n + 2) rfl rfl (by simp) (by rw [hz2]; omega) (by unfold maxLen; omega) (by simp) ?_; intro w1 ho1 hg1)
  have O1 := Lib.hid ((Ow.of_own ho1).le (B' := w.heap.size) (by omega))
  have B1 := Lib.hid (below_of_grown_ hg1)
  have HV1 := Lib.hid (HV.out.below (below_of_grown_ hg1))
  clear ho1 hg1
  go_upto_region 3 with (at_builtin; refine wpList_ow_rows (n := 0) (m := n) rfl _ _ 25 5 (.int .u8 0) 1 1 rfl Tryz.underlying25 byt_info rfl (by decide) rfl O1.out (by have := B1.out.size; omega) HV1.out H1.out rfl (by omega) (by unfold maxLen; omega) ?_; intro v2 w2 ho2 hg2)
  have B2 := Lib.hid (below_grown_own_ B1.out hg2.1 O1.out)
  have O2 := Lib.hid ho2
  clear ho2 hg2 O1 B1 HV1
  rw [Nat.zero_add, List.nil_append] at O2
  go_wp2_with (at_builtin; refine wpList_ow_rows (n := n) (m := 2) rfl _ _ 25 5 (.int .u8 0) 1 1 rfl Tryz.underlying25 byt_info rfl (by decide) rfl (O2.out.below (below_alloc_ w2 (.cells #[.int .u8 195, .int .u8 195] 5))) (by have := B2.out.size; simp; omega) (Rd.lits w2 5 1 2 [.int .u8 195, .int .u8 195] rfl) (by decide) rfl (by omega) (by unfold maxLen; omega) ?_; intro v3 w3 ho3 hg3)
  have B3 := Lib.hid (below_grown_own_ (B2.out.trans ((below_alloc_ w2 (.cells #[.int .u8 195, .int .u8 195] 5)).mono B2.out.size)) hg3.1 (O2.out.below (below_alloc_ w2 (.cells #[.int .u8 195, .int .u8 195] 5))))
  obtain ⟨A3, c3, rfl⟩ := ho3.sl_
  obtain ⟨hc3, ht⟩ := Tw.mk_ ho3 HL.out
  obtain ⟨g3, c9, hv3, -⟩ := ht.room
  injection hv3 with hA3 _ hc9
  subst hA3
  subst hc9
  have T3 := Lib.hid ht
  clear ho3 hg3 ht O2 B2
  have hc3' : (n : Int) ≤ c3 := by omega
  go_wp2
  go_ret
  exact ⟨_, _, rfl, T3.out, B3.out⟩

set_option maxHeartbeats 2000000 in
set_option maxRecDepth 100000 in
theorem left_byte (B : Nat) (t v : Value) (r : List Int) (w : World) (ht : Tw B w 5 1 t r.length (bc r) [.int .u8 195, .int .u8 195]) (hv : Bs w v r) (hn : r.length ≤ 1000000) :
    Calls Tryz.prog 44 #[t, v, .int .u8 195] w fun e w' => e = .returned (.bool true) ∧ Below w.heap.size w w' := by
  have SA := Lib.hid (same_bytes r r _ _ w ((show Bs w t r from ht.rd)) (hv) (by omega))
  have D := Lib.hid (decide_eq_true (rfl : r = r))
  obtain ⟨g, c, rfl, hc, -, hg, -, hm⟩ := ht.room
  have r0 : w.cell? ⟨g, r.length, none⟩ = some (.int .u8 195) := by have := hm 0 _ rfl; simpa using this
  have r1 : w.cell? ⟨g, r.length + 1, none⟩ = some (.int .u8 195) := by have := hm 1 _ rfl; simpa using this
  clear hm ht
  obtain ⟨A1, c1, rfl, -⟩ := id hv
  obtain ⟨n, hnn⟩ : ∃ n, n = r.length := ⟨_, rfl⟩
  rw [← hnn] at hc SA r0 r1 ⊢
  have hc' : (n : Int) + 2 ≤ c := by omega
  have hn' : (n : Int) ≤ 1000000 := by omega
  have hlt : ¬ ((c - n : Nat) : Int) < 2 := by omega
  have hlt0 : (0 : Int) < ((c - n : Nat) : Int) := by omega
  have hlt1 : (1 : Int) < ((c - n : Nat) : Int) := by omega
  clear hv hnn
  go_enter Tryz.func44, Tryz.ntmps44
  go_wp2_with fail
  refine SA.out.mono ?_
  rintro e w1 ⟨rfl, m, rfl⟩
  rw [D.out]
  go_wp2_with fail
  go_ret
  exact ⟨rfl, below_drewN_ _ _ _⟩

theorem Twin_byte (v : Value) (r : List Int) (w : World) (hv : Bs w v r) (hn : r.length ≤ 1000000) :
    Calls Tryz.prog 15 #[v] w fun e w' => ∃ A c, e = .returned (.slice A r.length c) ∧ Tw w.heap.size w' 5 1 (.slice A r.length c) r.length (bc r) [.int .u8 195, .int .u8 195] ∧ Below w.heap.size w w' := by
  have C := Lib.hid (twin_byte v r w hv hn)
  obtain ⟨A, c, rfl, -⟩ := id hv
  clear hv
  go_enter Tryz.func15, Tryz.ntmps15
  go_wp2_with fail
  refine C.out.mono ?_
  rintro e w1 ⟨A1, c1, rfl, hT, hB⟩
  have T1 := Lib.hid hT
  have B1 := Lib.hid hB
  clear hT hB
  go_wp2
  go_ret
  exact ⟨A1, c1, rfl, T1.out, B1.out⟩
theorem Left_byte (B : Nat) (t v : Value) (r : List Int) (w : World) (ht : Tw B w 5 1 t r.length (bc r) [.int .u8 195, .int .u8 195]) (hv : Bs w v r) (hn : r.length ≤ 1000000) :
    Calls Tryz.prog 19 #[t, v] w fun e w' => e = .returned (.bool true) ∧ Below w.heap.size w w' := by
  have C := Lib.hid (left_byte B t v r  w ht hv hn)
  obtain ⟨A, c, rfl, -⟩ := id hv
  obtain ⟨g, c1, rfl, -⟩ := ht.room
  clear hv ht
  go_enter Tryz.func19, Tryz.ntmps19
  go_wp2_with fail
  refine C.out.mono ?_
  rintro e w1 ⟨rfl, hB⟩
  have B1 := Lib.hid hB
  clear hB
  go_wp2
  go_ret
  exact ⟨rfl, B1.out⟩

end Go.Proofs.YthjdkjinkmdclaaGreat

/- law01: a twin of bytes, with the room that it has. -/
namespace Go.Proofs.YthjdkjinkmdclaaGreat
open Go.RowKit

/-- 'out = append(out, xs...)' where there is room. -/
theorem wp_ow_room {o : Oper} {a : Act} {K : Act → World → Prop} {Q : Exit → Act → World → Prop} (s x : Operand) (t e : TypeId) (z : Value) (size bytes : Nat)
    (ho : o.op = .call { callee := .builtin .append, args := #[s, x], argTypes := #[t, t] }) (ht : Tryz.prog.underlying t = some (.slice e))
    (hinf : (Tryz.prog.info? e).map (fun i => (i.zero, i.size, i.bytes)) = some (some z, size, bytes))
    {B n m cap g : Nat} {y : Value} {xs ys : List Value} (hs : a.eval s = .slice (some ⟨g, 0, none⟩) n cap) {w0 : World} (hown : Ow B w0 e size (.slice (some ⟨g, 0, none⟩) n cap) n xs) (hy : Rd w0 size y m ys) (h1 : ∀ u ∈ ys, u.oneCell' = true)
    (hx : a.eval x = y) (hroom : n + m ≤ cap)
    (h : ∀ w', Ow B w' e size (.slice (some ⟨g, 0, none⟩) (n + m) cap) (n + m) (xs ++ ys) → w0.grownBy w' (some g) → K (a.put o.dst (.slice (some ⟨g, 0, none⟩) (n + m) cap)) w') : Oper.wp Tryz.prog o a w0 K Q := by
  obtain ⟨i0, hi, hz0, hz1, hz2⟩ := info_parts hinf
  obtain ⟨A, c, rfl, hc, hl, hh⟩ := hy
  rcases id hown with ⟨hv, _⟩ | ⟨g', c', cur, hv, hBg, hg, hcc, hlx, hsz, htk⟩
  · cases hv
  injection hv with e1 e2 e3
  injection e1 with e1
  injection e1 with e1
  subst e1; subst e3
  cases A with
  | none =>
    rcases hh with h0 | ⟨g2, o', hA, _⟩
    · subst h0
      have hys : ys = [] := List.eq_nil_of_length_eq_zero (by simpa using hl)
      subst hys
      have hr : (Builtin.append_ #[t, t] o.type #[.slice (some ⟨g, 0, none⟩) n cap, .slice none 0 c]).run Tryz.prog w0 = .ok (.slice (some ⟨g, 0, none⟩) n cap) w0 := by
        simp [Builtin.append_, run_underlying ht, sizeOf, typeInfo, hi, Builtin.lenOf, Builtin.firstCells, hcc, storeCells]
      unfold Oper.wp
      simp [execOp, ho, resolve, invoke, builtin, hs, hx, hr, Result.andThen]
      exact h w0 (by rw [List.append_nil]; exact hown) (grown_refl_ _ _)
    · cases hA
  | some ad =>
    have hnews : ∀ j u, ys[j]? = some u → w0.cell? (ad.add j) = some u := by
      intro j u hj
      rcases hh with h0 | ⟨g2, o', hA, hg2, hcell⟩
      · subst h0
        have hys : ys = [] := List.eq_nil_of_length_eq_zero (by simpa using hl)
        subst hys
        cases hj
      · obtain rfl : ad = ⟨g2, o', none⟩ := Option.some.inj hA
        rw [Addr.add_lit]
        exact hcell j u hj
    subst hz1
    have hfit : n * i0.size + ys.length ≤ cur.size := by rw [hl, ← Nat.add_mul]; exact Nat.le_trans (Nat.mul_le_mul_right _ hroom) hsz
    have hr := run_append_room (P := Tryz.prog) w0 t o.type e i0 ht hi g n cap cur hg ad m c ys hl hnews h1 hroom hfit
    unfold Oper.wp
    simp [execOp, ho, resolve, invoke, builtin, hs, hx, hr, Result.andThen]
    refine h _ (.inr ⟨g, cap, _, rfl, hBg, setRow_heap w0 g cur _ e _ hg, hroom, ?_, ?_, ?_⟩) ⟨rfl, rfl, rfl, by simp, fun k hk hne => setRow_other w0 g k _ (fun e => hne (by rw [e]))⟩
    · rw [List.length_append, hlx, hl, Nat.add_mul]
    · simp only [List.size_toArray, List.length_append, List.length_take, List.length_drop, Array.length_toList]
      omega
    · have hlen : (xs ++ ys).length = (n + m) * i0.size := by rw [List.length_append, hlx, hl, Nat.add_mul]
      rw [htk, ← hlen]
      show List.take _ (xs ++ (ys ++ _)) = _
      rw [← List.append_assoc]
      exact List.take_left
theorem wpList_ow_room {ops : Array Oper} {rest : List Oper} {o : Oper} {a : Act} {Q : Exit → Act → World → Prop} (hgd : o.guard = none) (s x : Operand) (t e : TypeId) (z : Value) (size bytes : Nat)
    (ho : o.op = .call { callee := .builtin .append, args := #[s, x], argTypes := #[t, t] }) (ht : Tryz.prog.underlying t = some (.slice e))
    (hinf : (Tryz.prog.info? e).map (fun i => (i.zero, i.size, i.bytes)) = some (some z, size, bytes))
    {B n m cap g : Nat} {y : Value} {xs ys : List Value} (hs : a.eval s = .slice (some ⟨g, 0, none⟩) n cap) {w0 : World} (hown : Ow B w0 e size (.slice (some ⟨g, 0, none⟩) n cap) n xs) (hy : Rd w0 size y m ys) (h1 : ∀ u ∈ ys, u.oneCell' = true)
    (hx : a.eval x = y) (hroom : n + m ≤ cap)
    (h : ∀ w', Ow B w' e size (.slice (some ⟨g, 0, none⟩) (n + m) cap) (n + m) (xs ++ ys) → w0.grownBy w' (some g) → wpList Tryz.prog ops Q rest (a.put o.dst (.slice (some ⟨g, 0, none⟩) (n + m) cap)) w') : wpList Tryz.prog ops Q (o :: rest) a w0 :=
  wpList_plain hgd fun _ hK => wp_ow_room s x t e z size bytes ho ht hinf hs hown hy h1 hx hroom fun w' h1 h2 => hK _ _ (h w' h1 h2)
set_option maxHeartbeats 2000000 in
set_option maxRecDepth 100000 in
theorem twin_bytec (v : Value) (r : List Int) (w : World) (hv : Bs w v r) (hn : r.length ≤ 1000000) :
    Calls Tryz.prog 34 #[v, .int .u8 195] w fun e w' => ∃ g, e = .returned (.slice (some ⟨g, 0, none⟩) r.length (r.length + 2)) ∧ Tw w.heap.size w' 5 1 (.slice (some ⟨g, 0, none⟩) r.length (r.length + 2)) r.length (bc r) [.int .u8 195, .int .u8 195] ∧ Below w.heap.size w w' := by
  obtain ⟨i0, hi, hz0, hz1, hz2⟩ := info_parts byt_info
  have hcl : (bc r).length = r.length * 1 := (by simp)
  have H1 := Lib.hid (bc_one r)
  have HL := Lib.hid hcl
  obtain ⟨A, c, rfl, -⟩ := id hv
  obtain ⟨cs, hcs⟩ : ∃ cs, cs = (bc r) := ⟨_, rfl⟩
  rw [← hcs] at HL H1 ⊢
  have hv' : Rd w 1 (.slice A r.length c) r.length cs := by rw [hcs]; exact hv
  clear hv hcl
  obtain ⟨n, hnn⟩ : ∃ n, n = r.length := ⟨_, rfl⟩
  rw [← hnn] at hv' hn HL ⊢
  have hn' : (n : Int) ≤ 1000000 := by omega
  have HV := Lib.hid hv'
  clear hv' hcs hnn
  go_enter Tryz.func34, Tryz.ntmps34
  go_upto_region 2 with (at_make; refine wpList_make_own _ rfl _ _ 25 rfl w.heap.size 5 i0 (.int .u8 0) 1 Tryz.underlying25 hi hz0 hz1 .i64 .i64 _ (n + 2) rfl rfl (by simp) (by rw [hz2]; omega) (by unfold maxLen; omega) (by simp) ?_; intro w1 ho1 hg1)
  have O1 := Lib.hid ((Ow.of_own ho1).le (B' := w.heap.size) (by omega))
  have B1 := Lib.hid (below_of_grown_ hg1)
  have HV1 := Lib.hid (HV.out.below (below_of_grown_ hg1))
  clear ho1 hg1
  go_upto_region 3 with (at_builtin; refine wpList_ow_room (n := 0) (m := n) (cap := n + 2) rfl _ _ 25 5 (.int .u8 0) 1 1 rfl Tryz.underlying25 byt_info rfl O1.out HV1.out H1.out rfl (by omega) ?_; intro w2 ho2 hg2)
  have B2 := Lib.hid (below_grown_own_ B1.out hg2 O1.out)
  have O2 := Lib.hid ho2
  clear ho2 hg2 O1 B1 HV1
  rw [Nat.zero_add, List.nil_append] at O2
  go_wp2_with (at_builtin; refine wpList_ow_room (n := n) (m := 2) (cap := n + 2) rfl _ _ 25 5 (.int .u8 0) 1 1 rfl Tryz.underlying25 byt_info rfl (O2.out.below (below_alloc_ w2 (.cells #[.int .u8 195, .int .u8 195] 5))) (Rd.lits w2 5 1 2 [.int .u8 195, .int .u8 195] rfl) (by decide) rfl (Nat.le_refl _) ?_; intro w3 ho3 hg3)
  have B3 := Lib.hid (below_grown_own_ (B2.out.trans ((below_alloc_ w2 (.cells #[.int .u8 195, .int .u8 195] 5)).mono B2.out.size)) hg3 (O2.out.below (below_alloc_ w2 (.cells #[.int .u8 195, .int .u8 195] 5))))
  obtain ⟨hc3, ht⟩ := Tw.mk_ ho3 HL.out
  have T3 := Lib.hid ht
  clear ho3 hg3 ht O2 B2
  have hc3' : (n : Int) ≤ (n : Int) + 2 := by omega
  go_wp2
  go_ret
  exact ⟨_, rfl, T3.out, B3.out⟩
theorem Twin_bytec (v : Value) (r : List Int) (w : World) (hv : Bs w v r) (hn : r.length ≤ 1000000) :
    Calls Tryz.prog 15 #[v] w fun e w' => ∃ g, e = .returned (.slice (some ⟨g, 0, none⟩) r.length (r.length + 2)) ∧ Tw w.heap.size w' 5 1 (.slice (some ⟨g, 0, none⟩) r.length (r.length + 2)) r.length (bc r) [.int .u8 195, .int .u8 195] ∧ Below w.heap.size w w' := by
  have C := Lib.hid (twin_bytec v r w hv hn)
  obtain ⟨A, c, rfl, -⟩ := id hv
  clear hv
  go_enter Tryz.func15, Tryz.ntmps15
  go_wp2_with fail
  refine C.out.mono ?_
  rintro e w1 ⟨g1, rfl, hT, hB⟩
  have T1 := Lib.hid hT
  have B1 := Lib.hid hB
  clear hT hB
  go_wp2
  go_ret
  exact ⟨g1, rfl, T1.out, B1.out⟩
end Go.Proofs.YthjdkjinkmdclaaGreat
