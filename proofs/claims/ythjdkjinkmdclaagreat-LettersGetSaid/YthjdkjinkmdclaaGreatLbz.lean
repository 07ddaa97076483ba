import Derived.Test.YthjdkjinkmdclaaGreatRow
import Derived.Test.YthjdkjinkmdclaaGreatSms
import Derived.Laws.StructEq
import Derived.Test.YthjdkjinkmdclaaGreatSml
import Derived.Test.YthjdkjinkmdclaaGreatPlw
import Derived.Test.YthjdkjinkmdclaaGreatPqc
import Derived.Test.YthjdkjinkmdclaaGreatBfn
import Derived.Test.YthjdkjinkmdclaaGreatLaz
import Derived.Test.YthjdkjinkmdclaaGreatPqe
import Derived.Test.YthjdkjinkmdclaaGreatPqr
import Derived.Shelf.RegionOpen
/- law01: a twin of a list (countinghouse/api.Step), and whether it was left as it was. -/
namespace Go.Proofs.YthjdkjinkmdclaaGreat
open Go.RowKit

theorem run_mark_step (w : World) : (binOp .eql 104 (.agg #[.int .u8 0, .int .u8 0, .int .u8 0, .int .u8 0, .int .u8 0, .int .i64 (-77), .int .i64 0, .int .i64 0, .int .i64 0, .int .u64 0]) (.agg #[.int .u8 0, .int .u8 0, .int .u8 0, .int .u8 0, .int .u8 0, .int .i64 (-77), .int .i64 0, .int .i64 0, .int .i64 0, .int .u64 0])).run Tryz.prog w = .ok (.bool true) w := by
  have u0 := Tryz.underlying98
  have a0 := Tryz.isAgg98
  have s0 := Tryz.sizeOf98
  have u1 := Tryz.underlying99
  have a1 := Tryz.isAgg99
  have s1 := Tryz.sizeOf99
  have u2 := Tryz.underlying100
  have a2 := Tryz.isAgg100
  have s2 := Tryz.sizeOf100
  have u3 := Tryz.underlying2
  have a3 := Tryz.isAgg2
  have s3 := Tryz.sizeOf2
  have u4 := Tryz.underlying102
  have a4 := Tryz.isAgg102
  have s4 := Tryz.sizeOf102
  have u5 := Tryz.underlying23
  have a5 := Tryz.isAgg23
  have s5 := Tryz.sizeOf23
  have hS : Tryz.prog.underlying 104 = some (.struct (Tryz.prog.fieldsOf 104)) := by kernel_rfl
  have hp : Tryz.prog.stoodInHeld 104 = false := by kernel_rfl
  have hS2 : Tryz.prog.underlying 102 = some (.struct (Tryz.prog.fieldsOf 102)) := by kernel_rfl
  have hp2 : Tryz.prog.stoodInHeld 102 = false := by kernel_rfl
  have hq := fun (w : World) (a b c d : Int) => run_equalIn_agg w 9998 102 (P := Tryz.prog) #[.int .i64 a, .int .i64 b] #[.int .i64 c, .int .i64 d] hS2 hp2
  rw [run_eql_struct, show (10000 : Nat) = 9999 + 1 from rfl, run_equalIn_agg w 9999 104 _ _ hS hp]
  simp only [Program.fieldsOf, Tryz.underlying104]
  go_simp
set_option maxHeartbeats 2000000 in
set_option maxRecDepth 100000 in
theorem twin_step (v : Value) (r : List (List Int)) (w : World) (hv : Steps w v r) (hn : r.length ≤ 1000000) :
    Calls Tryz.prog 56 #[v, .agg #[.int .u8 0, .int .u8 0, .int .u8 0, .int .u8 0, .int .u8 0, .int .i64 (-77), .int .i64 0, .int .i64 0, .int .i64 0, .int .u64 0]] w fun e w' => ∃ A c, e = .returned (.slice A r.length c) ∧ Tw w.heap.size w' 104 10 (.slice A r.length c) r.length (r.flatMap (fc stepK)) [.int .u8 0, .int .u8 0, .int .u8 0, .int .u8 0, .int .u8 0, .int .i64 (-77), .int .i64 0, .int .i64 0, .int .i64 0, .int .u64 0, .int .u8 0, .int .u8 0, .int .u8 0, .int .u8 0, .int .u8 0, .int .i64 (-77), .int .i64 0, .int .i64 0, .int .i64 0, .int .u64 0] ∧ Below w.heap.size w w' := by
  obtain ⟨i0, hi, hz0, hz1, hz2⟩ := info_parts step_info
  have hcl : (r.flatMap (fc stepK)).length = r.length * 10 := (flatMap_len _ _ fcstep_len r)
  have H1 := Lib.hid (rows_one stepK r)
  have HL := Lib.hid hcl
  obtain ⟨A, c, rfl, -⟩ := id hv
  obtain ⟨cs, hcs⟩ : ∃ cs, cs = (r.flatMap (fc stepK)) := ⟨_, rfl⟩
  rw [← hcs] at HL H1 ⊢
  have hv' : Rd w 10 (.slice A r.length c) r.length cs := by rw [hcs]; exact hv
  clear hv hcl
  obtain ⟨n, hnn⟩ : ∃ n, n = r.length := ⟨_, rfl⟩
  rw [← hnn] at hv' hn HL ⊢
  have hn' : (n : Int) ≤ 1000000 := by omega
  have hk0 := Blk.new w 104 #[.int .u8 0, .int .u8 0, .int .u8 0, .int .u8 0, .int .u8 0, .int .i64 (-77), .int .i64 0, .int .i64 0, .int .i64 0, .int .u64 0]
  have K0 := Lib.hid hk0
  clear hk0
  have HV := Lib.hid (hv'.below (below_alloc_ w (.cells #[.int .u8 0, .int .u8 0, .int .u8 0, .int .u8 0, .int .u8 0, .int .i64 (-77), .int .i64 0, .int .i64 0, .int .i64 0, .int .u64 0] 104)))
  clear hv' hcs hnn
  go_enter Tryz.func56, Tryz.ntmps56
  go_upto_region 2 with (at_make; refine wpList_make_own _ rfl _ _ 26 rfl (w.heap.size + 1) 104 i0 (.agg #[.int .u8 0, .int .u8 0, .int .u8 0, .int .u8 0, .int .u8 0, .int .i64 0, .int .i64 0, .int .i64 0, .int .i64 0, .int .u64 0]) 10 Tryz.underlying26 hi hz0 hz1 .i64 .i64 _ (n + 2) rfl rfl (by simp) (by rw [hz2]; omega) (by unfold maxLen; omega) (by simp) ?_; intro w1 ho1 hg1)
  simp only [World.size_alloc] at ho1
  have OB := Lib.hid (Ow.of_own ho1)
  have O1 := Lib.hid ((Ow.of_own ho1).le (B' := w.heap.size) (by omega))
  have B1 := Lib.hid ((below_alloc_ w (.cells #[.int .u8 0, .int .u8 0, .int .u8 0, .int .u8 0, .int .u8 0, .int .i64 (-77), .int .i64 0, .int .i64 0, .int .i64 0, .int .u64 0] 104)).trans ((below_of_grown_ hg1).mono (by simp)))
  have HV1 := Lib.hid (HV.out.below (below_of_grown_ hg1))
  have K1 := Lib.hid (K0.out.grown hg1 (by simp))
  clear ho1 hg1
  go_upto_region 3 with (at_builtin; refine wpList_ow_rows (n := 0) (m := n) rfl _ _ 26 104 (.agg #[.int .u8 0, .int .u8 0, .int .u8 0, .int .u8 0, .int .u8 0, .int .i64 0, .int .i64 0, .int .i64 0, .int .i64 0, .int .u64 0]) 10 48 rfl Tryz.underlying26 step_info rfl (by decide) rfl O1.out (by have := B1.out.size; omega) HV1.out H1.out rfl (by omega) (by unfold maxLen; omega) ?_; intro v2 w2 ho2 hg2)
  have B2 := Lib.hid (below_grown_own_ B1.out hg2.1 O1.out)
  have O2 := Lib.hid ho2
  have K2 := Lib.hid (K1.out.grown hg2.1 (fun e => by have := OB.out.blk_lt _ e.symm; omega))
  have k2 := K2.out
  have k2_0 := k2.cell 0
  have k2_1 := k2.cell 1
  have k2_2 := k2.cell 2
  have k2_3 := k2.cell 3
  have k2_4 := k2.cell 4
  have k2_5 := k2.cell 5
  have k2_6 := k2.cell 6
  have k2_7 := k2.cell 7
  have k2_8 := k2.cell 8
  have k2_9 := k2.cell 9
  simp at k2_0 k2_1 k2_2 k2_3 k2_4 k2_5 k2_6 k2_7 k2_8 k2_9
  clear k2
  clear ho2 hg2 O1 B1 HV1
  rw [Nat.zero_add, List.nil_append] at O2
  go_wp2_with (at_builtin; refine wpList_ow_rows (n := n) (m := 2) rfl _ _ 26 104 (.agg #[.int .u8 0, .int .u8 0, .int .u8 0, .int .u8 0, .int .u8 0, .int .i64 0, .int .i64 0, .int .i64 0, .int .i64 0, .int .u64 0]) 10 48 rfl Tryz.underlying26 step_info rfl (by decide) rfl (O2.out.below (below_alloc_ w2 (.cells #[.int .u8 0, .int .u8 0, .int .u8 0, .int .u8 0, .int .u8 0, .int .i64 (-77), .int .i64 0, .int .i64 0, .int .i64 0, .int .u64 0, .int .u8 0, .int .u8 0, .int .u8 0, .int .u8 0, .int .u8 0, .int .i64 (-77), .int .i64 0, .int .i64 0, .int .i64 0, .int .u64 0] 104))) (by have := B2.out.size; simp; omega) (Rd.lits w2 104 10 2 [.int .u8 0, .int .u8 0, .int .u8 0, .int .u8 0, .int .u8 0, .int .i64 (-77), .int .i64 0, .int .i64 0, .int .i64 0, .int .u64 0, .int .u8 0, .int .u8 0, .int .u8 0, .int .u8 0, .int .u8 0, .int .i64 (-77), .int .i64 0, .int .i64 0, .int .i64 0, .int .u64 0] rfl) (by decide) rfl (by omega) (by unfold maxLen; omega) ?_; intro v3 w3 ho3 hg3)
  have B3 := Lib.hid (below_grown_own_ (B2.out.trans ((below_alloc_ w2 (.cells #[.int .u8 0, .int .u8 0, .int .u8 0, .int .u8 0, .int .u8 0, .int .i64 (-77), .int .i64 0, .int .i64 0, .int .i64 0, .int .u64 0, .int .u8 0, .int .u8 0, .int .u8 0, .int .u8 0, .int .u8 0, .int .i64 (-77), .int .i64 0, .int .i64 0, .int .i64 0, .int .u64 0] 104)).mono B2.out.size)) hg3.1 (O2.out.below (below_alloc_ w2 (.cells #[.int .u8 0, .int .u8 0, .int .u8 0, .int .u8 0, .int .u8 0, .int .i64 (-77), .int .i64 0, .int .i64 0, .int .i64 0, .int .u64 0, .int .u8 0, .int .u8 0, .int .u8 0, .int .u8 0, .int .u8 0, .int .i64 (-77), .int .i64 0, .int .i64 0, .int .i64 0, .int .u64 0] 104))))
  obtain ⟨A3, c3, rfl⟩ := ho3.sl_
  obtain ⟨hc3, ht⟩ := Tw.mk_ ho3 HL.out
  obtain ⟨g3, c9, hv3, -⟩ := ht.room
  injection hv3 with hA3 _ hc9
  subst hA3
  subst hc9
  have T3 := Lib.hid ht
  clear ho3 hg3 ht O2 B2
  have hc3' : (n : Int) ≤ c3 := by omega
  go_wp2
  go_ret
  exact ⟨_, _, rfl, T3.out, B3.out⟩

set_option maxHeartbeats 2000000 in
set_option maxRecDepth 100000 in
theorem left_step (B : Nat) (t v : Value) (r : List (List Int)) (hr : ∀ q ∈ r, q.length = 10) (w : World) (ht : Tw B w 104 10 t r.length (r.flatMap (fc stepK)) [.int .u8 0, .int .u8 0, .int .u8 0, .int .u8 0, .int .u8 0, .int .i64 (-77), .int .i64 0, .int .i64 0, .int .i64 0, .int .u64 0, .int .u8 0, .int .u8 0, .int .u8 0, .int .u8 0, .int .u8 0, .int .i64 (-77), .int .i64 0, .int .i64 0, .int .i64 0, .int .u64 0]) (hv : Steps w v r) (hn : r.length ≤ 1000000) :
    Calls Tryz.prog 69 #[t, v, .agg #[.int .u8 0, .int .u8 0, .int .u8 0, .int .u8 0, .int .u8 0, .int .i64 (-77), .int .i64 0, .int .i64 0, .int .i64 0, .int .u64 0]] w fun e w' => e = .returned (.bool true) ∧ Below w.heap.size w w' := by
  have HR := Lib.hid hr
  have SA := Lib.hid (same_steps r r HR.out HR.out _ _ (w.alloc (.cells #[.int .u8 0, .int .u8 0, .int .u8 0, .int .u8 0, .int .u8 0, .int .i64 (-77), .int .i64 0, .int .i64 0, .int .i64 0, .int .u64 0] 104)) (ht.rd.alloc _) (Rd.alloc hv _) (by omega))
  have D := Lib.hid (decide_eq_true (rfl : r = r))
  obtain ⟨g, c, rfl, hc, -, hg, -, hm⟩ := ht.room
  have r0 : w.cell? ⟨g, r.length * 10, none⟩ = some (.int .u8 0) := by have := hm 0 _ rfl; simpa using this
  have r1 : w.cell? ⟨g, r.length * 10 + 1, none⟩ = some (.int .u8 0) := by have := hm 1 _ rfl; simpa using this
  have r2 : w.cell? ⟨g, r.length * 10 + 2, none⟩ = some (.int .u8 0) := by have := hm 2 _ rfl; simpa using this
  have r3 : w.cell? ⟨g, r.length * 10 + 3, none⟩ = some (.int .u8 0) := by have := hm 3 _ rfl; simpa using this
  have r4 : w.cell? ⟨g, r.length * 10 + 4, none⟩ = some (.int .u8 0) := by have := hm 4 _ rfl; simpa using this
  have r5 : w.cell? ⟨g, r.length * 10 + 5, none⟩ = some (.int .i64 (-77)) := by have := hm 5 _ rfl; simpa using this
  have r6 : w.cell? ⟨g, r.length * 10 + 6, none⟩ = some (.int .i64 0) := by have := hm 6 _ rfl; simpa using this
  have r7 : w.cell? ⟨g, r.length * 10 + 7, none⟩ = some (.int .i64 0) := by have := hm 7 _ rfl; simpa using this
  have r8 : w.cell? ⟨g, r.length * 10 + 8, none⟩ = some (.int .i64 0) := by have := hm 8 _ rfl; simpa using this
  have r9 : w.cell? ⟨g, r.length * 10 + 9, none⟩ = some (.int .u64 0) := by have := hm 9 _ rfl; simpa using this
  have r10 : w.cell? ⟨g, r.length * 10 + 10, none⟩ = some (.int .u8 0) := by have := hm 10 _ rfl; simpa using this
  have r11 : w.cell? ⟨g, r.length * 10 + 11, none⟩ = some (.int .u8 0) := by have := hm 11 _ rfl; simpa using this
  have r12 : w.cell? ⟨g, r.length * 10 + 12, none⟩ = some (.int .u8 0) := by have := hm 12 _ rfl; simpa using this
  have r13 : w.cell? ⟨g, r.length * 10 + 13, none⟩ = some (.int .u8 0) := by have := hm 13 _ rfl; simpa using this
  have r14 : w.cell? ⟨g, r.length * 10 + 14, none⟩ = some (.int .u8 0) := by have := hm 14 _ rfl; simpa using this
  have r15 : w.cell? ⟨g, r.length * 10 + 15, none⟩ = some (.int .i64 (-77)) := by have := hm 15 _ rfl; simpa using this
  have r16 : w.cell? ⟨g, r.length * 10 + 16, none⟩ = some (.int .i64 0) := by have := hm 16 _ rfl; simpa using this
  have r17 : w.cell? ⟨g, r.length * 10 + 17, none⟩ = some (.int .i64 0) := by have := hm 17 _ rfl; simpa using this
  have r18 : w.cell? ⟨g, r.length * 10 + 18, none⟩ = some (.int .i64 0) := by have := hm 18 _ rfl; simpa using this
  have r19 : w.cell? ⟨g, r.length * 10 + 19, none⟩ = some (.int .u64 0) := by have := hm 19 _ rfl; simpa using this
  have K0 := Lib.hid (Blk.new w 104 #[.int .u8 0, .int .u8 0, .int .u8 0, .int .u8 0, .int .u8 0, .int .i64 (-77), .int .i64 0, .int .i64 0, .int .i64 0, .int .u64 0])
  have hme := run_mark_step
  have k0 := K0.out
  have k0_0 := k0.cell 0
  have k0_1 := k0.cell 1
  have k0_2 := k0.cell 2
  have k0_3 := k0.cell 3
  have k0_4 := k0.cell 4
  have k0_5 := k0.cell 5
  have k0_6 := k0.cell 6
  have k0_7 := k0.cell 7
  have k0_8 := k0.cell 8
  have k0_9 := k0.cell 9
  simp only [List.getElem?_toArray, List.getElem?_cons_zero, List.getElem?_cons_succ] at k0_0 k0_1 k0_2 k0_3 k0_4 k0_5 k0_6 k0_7 k0_8 k0_9
  replace r0 := cell_on (below_alloc_ w (.cells #[.int .u8 0, .int .u8 0, .int .u8 0, .int .u8 0, .int .u8 0, .int .i64 (-77), .int .i64 0, .int .i64 0, .int .i64 0, .int .u64 0] 104)) hg r0
  replace r1 := cell_on (below_alloc_ w (.cells #[.int .u8 0, .int .u8 0, .int .u8 0, .int .u8 0, .int .u8 0, .int .i64 (-77), .int .i64 0, .int .i64 0, .int .i64 0, .int .u64 0] 104)) hg r1
  replace r2 := cell_on (below_alloc_ w (.cells #[.int .u8 0, .int .u8 0, .int .u8 0, .int .u8 0, .int .u8 0, .int .i64 (-77), .int .i64 0, .int .i64 0, .int .i64 0, .int .u64 0] 104)) hg r2
  replace r3 := cell_on (below_alloc_ w (.cells #[.int .u8 0, .int .u8 0, .int .u8 0, .int .u8 0, .int .u8 0, .int .i64 (-77), .int .i64 0, .int .i64 0, .int .i64 0, .int .u64 0] 104)) hg r3
  replace r4 := cell_on (below_alloc_ w (.cells #[.int .u8 0, .int .u8 0, .int .u8 0, .int .u8 0, .int .u8 0, .int .i64 (-77), .int .i64 0, .int .i64 0, .int .i64 0, .int .u64 0] 104)) hg r4
  replace r5 := cell_on (below_alloc_ w (.cells #[.int .u8 0, .int .u8 0, .int .u8 0, .int .u8 0, .int .u8 0, .int .i64 (-77), .int .i64 0, .int .i64 0, .int .i64 0, .int .u64 0] 104)) hg r5
  replace r6 := cell_on (below_alloc_ w (.cells #[.int .u8 0, .int .u8 0, .int .u8 0, .int .u8 0, .int .u8 0, .int .i64 (-77), .int .i64 0, .int .i64 0, .int .i64 0, .int .u64 0] 104)) hg r6
  replace r7 := cell_on (below_alloc_ w (.cells #[.int .u8 0, .int .u8 0, .int .u8 0, .int .u8 0, .int .u8 0, .int .i64 (-77), .int .i64 0, .int .i64 0, .int .i64 0, .int .u64 0] 104)) hg r7
  replace r8 := cell_on (below_alloc_ w (.cells #[.int .u8 0, .int .u8 0, .int .u8 0, .int .u8 0, .int .u8 0, .int .i64 (-77), .int .i64 0, .int .i64 0, .int .i64 0, .int .u64 0] 104)) hg r8
  replace r9 := cell_on (below_alloc_ w (.cells #[.int .u8 0, .int .u8 0, .int .u8 0, .int .u8 0, .int .u8 0, .int .i64 (-77), .int .i64 0, .int .i64 0, .int .i64 0, .int .u64 0] 104)) hg r9
  replace r10 := cell_on (below_alloc_ w (.cells #[.int .u8 0, .int .u8 0, .int .u8 0, .int .u8 0, .int .u8 0, .int .i64 (-77), .int .i64 0, .int .i64 0, .int .i64 0, .int .u64 0] 104)) hg r10
  replace r11 := cell_on (below_alloc_ w (.cells #[.int .u8 0, .int .u8 0, .int .u8 0, .int .u8 0, .int .u8 0, .int .i64 (-77), .int .i64 0, .int .i64 0, .int .i64 0, .int .u64 0] 104)) hg r11
  replace r12 := cell_on (below_alloc_ w (.cells #[.int .u8 0, .int .u8 0, .int .u8 0, .int .u8 0, .int .u8 0, .int .i64 (-77), .int .i64 0, .int .i64 0, .int .i64 0, .int .u64 0] 104)) hg r12
  replace r13 := cell_on (below_alloc_ w (.cells #[.int .u8 0, .int .u8 0, .int .u8 0, .int .u8 0, .int .u8 0, .int .i64 (-77), .int .i64 0, .int .i64 0, .int .i64 0, .int .u64 0] 104)) hg r13
  replace r14 := cell_on (below_alloc_ w (.cells #[.int .u8 0, .int .u8 0, .int .u8 0, .int .u8 0, .int .u8 0, .int .i64 (-77), .int .i64 0, .int .i64 0, .int .i64 0, .int .u64 0] 104)) hg r14
  replace r15 := cell_on (below_alloc_ w (.cells #[.int .u8 0, .int .u8 0, .int .u8 0, .int .u8 0, .int .u8 0, .int .i64 (-77), .int .i64 0, .int .i64 0, .int .i64 0, .int .u64 0] 104)) hg r15
  replace r16 := cell_on (below_alloc_ w (.cells #[.int .u8 0, .int .u8 0, .int .u8 0, .int .u8 0, .int .u8 0, .int .i64 (-77), .int .i64 0, .int .i64 0, .int .i64 0, .int .u64 0] 104)) hg r16
  replace r17 := cell_on (below_alloc_ w (.cells #[.int .u8 0, .int .u8 0, .int .u8 0, .int .u8 0, .int .u8 0, .int .i64 (-77), .int .i64 0, .int .i64 0, .int .i64 0, .int .u64 0] 104)) hg r17
  replace r18 := cell_on (below_alloc_ w (.cells #[.int .u8 0, .int .u8 0, .int .u8 0, .int .u8 0, .int .u8 0, .int .i64 (-77), .int .i64 0, .int .i64 0, .int .i64 0, .int .u64 0] 104)) hg r18
  replace r19 := cell_on (below_alloc_ w (.cells #[.int .u8 0, .int .u8 0, .int .u8 0, .int .u8 0, .int .u8 0, .int .i64 (-77), .int .i64 0, .int .i64 0, .int .i64 0, .int .u64 0] 104)) hg r19
  clear hm ht k0
  obtain ⟨A1, c1, rfl, -⟩ := id hv
  obtain ⟨n, hnn⟩ : ∃ n, n = r.length := ⟨_, rfl⟩
  rw [← hnn] at hc SA r0 r1 r2 r3 r4 r5 r6 r7 r8 r9 r10 r11 r12 r13 r14 r15 r16 r17 r18 r19 ⊢
  have hc' : (n : Int) + 2 ≤ c := by omega
  have hn' : (n : Int) ≤ 1000000 := by omega
  have hlt : ¬ ((c - n : Nat) : Int) < 2 := by omega
  have hlt0 : (0 : Int) < ((c - n : Nat) : Int) := by omega
  have hlt1 : (1 : Int) < ((c - n : Nat) : Int) := by omega
  clear hv hnn
  go_enter Tryz.func69, Tryz.ntmps69
  go_wp2_with fail
  refine SA.out.mono ?_
  rintro e w1 ⟨rfl, m, rfl⟩
  rw [D.out]
  go_wp2_with fail
  clear hlt hlt0 hlt1
  generalize hdd : c - n = d
  have hlt : ¬ (d : Int) < 2 := by omega
  have hltb : decide ((d : Int) < 2) = false := decide_eq_false hlt
  have hlt0 : (0 : Int) < (d : Int) := by omega
  have hlt1 : (1 : Int) < (d : Int) := by omega
  clear hdd
  go_quiet (fail)
  go_wp2
  go_ret
  exact ⟨rfl, (below_alloc_ w (.cells #[.int .u8 0, .int .u8 0, .int .u8 0, .int .u8 0, .int .u8 0, .int .i64 (-77), .int .i64 0, .int .i64 0, .int .i64 0, .int .u64 0] 104)).trans ((below_drewN_ (w.alloc (.cells #[.int .u8 0, .int .u8 0, .int .u8 0, .int .u8 0, .int .u8 0, .int .i64 (-77), .int .i64 0, .int .i64 0, .int .i64 0, .int .u64 0] 104)).heap.size _ _).mono (by simp))⟩

theorem Twin_step (v : Value) (r : List (List Int)) (w : World) (hv : Steps w v r) (hn : r.length ≤ 1000000) :
    Calls Tryz.prog 45 #[v] w fun e w' => ∃ A c, e = .returned (.slice A r.length c) ∧ Tw w.heap.size w' 104 10 (.slice A r.length c) r.length (r.flatMap (fc stepK)) [.int .u8 0, .int .u8 0, .int .u8 0, .int .u8 0, .int .u8 0, .int .i64 (-77), .int .i64 0, .int .i64 0, .int .i64 0, .int .u64 0, .int .u8 0, .int .u8 0, .int .u8 0, .int .u8 0, .int .u8 0, .int .i64 (-77), .int .i64 0, .int .i64 0, .int .i64 0, .int .u64 0] ∧ Below w.heap.size w w' := by
  have C := Lib.hid (twin_step v r w hv hn)
  obtain ⟨A, c, rfl, -⟩ := id hv
  clear hv
  go_enter Tryz.func45, Tryz.ntmps45
  go_wp2_with fail
  refine C.out.mono ?_
  rintro e w1 ⟨A1, c1, rfl, hT, hB⟩
  have T1 := Lib.hid hT
  have B1 := Lib.hid hB
  clear hT hB
  go_wp2
  go_ret
  exact ⟨A1, c1, rfl, T1.out, B1.out⟩
theorem Left_step (B : Nat) (t v : Value) (r : List (List Int)) (hr : ∀ q ∈ r, q.length = 10) (w : World) (ht : Tw B w 104 10 t r.length (r.flatMap (fc stepK)) [.int .u8 0, .int .u8 0, .int .u8 0, .int .u8 0, .int .u8 0, .int .i64 (-77), .int .i64 0, .int .i64 0, .int .i64 0, .int .u64 0, .int .u8 0, .int .u8 0, .int .u8 0, .int .u8 0, .int .u8 0, .int .i64 (-77), .int .i64 0, .int .i64 0, .int .i64 0, .int .u64 0]) (hv : Steps w v r) (hn : r.length ≤ 1000000) :
    Calls Tryz.prog 50 #[t, v] w fun e w' => e = .returned (.bool true) ∧ Below w.heap.size w w' := by
  have C := Lib.hid (left_step B t v r hr w ht hv hn)
  obtain ⟨A, c, rfl, -⟩ := id hv
  obtain ⟨g, c1, rfl, -⟩ := ht.room
  clear hv ht
  go_enter Tryz.func50, Tryz.ntmps50
  go_wp2_with fail
  refine C.out.mono ?_
  rintro e w1 ⟨rfl, hB⟩
  have B1 := Lib.hid hB
  clear hB
  go_wp2
  go_ret
  exact ⟨rfl, B1.out⟩

end Go.Proofs.YthjdkjinkmdclaaGreat

/- law01: a twin of a call, and whether it was left as it was. -/
namespace Go.Proofs.YthjdkjinkmdclaaGreat
open Go.RowKit

/-- What stands behind a twin's steps. -/
def stepMk : List Value := [.int .u8 0, .int .u8 0, .int .u8 0, .int .u8 0, .int .u8 0, .int .i64 (-77), .int .i64 0, .int .i64 0, .int .i64 0, .int .u64 0, .int .u8 0, .int .u8 0, .int .u8 0, .int .u8 0, .int .u8 0, .int .i64 (-77), .int .i64 0, .int .i64 0, .int .i64 0, .int .u64 0]
set_option maxHeartbeats 2000000 in
set_option maxRecDepth 100000 in
theorem Twin_call (x0 x1 : Int) (v : Value) (r : List (List Int)) (w : World) (hv : Steps w v r) (hn : r.length ≤ 1000000) :
    Calls Tryz.prog 23 #[.agg #[.int .u8 x0, .int .u64 x1, v]] w fun e w' => ∃ A c, e = .returned (.agg #[.int .u8 x0, .int .u64 x1, .slice A r.length c]) ∧ Tw w.heap.size w' 104 10 (.slice A r.length c) r.length (r.flatMap (fc stepK)) stepMk ∧ Below w.heap.size w w' := by
  have b2 := below_alloc2_ w (.cells #[.int .u8 x0, .int .u64 x1, v] 30) (.cells #[.int .u8 0, .int .u64 0, .slice none 0 0] 30)
  have k0 := (Blk.new w 30 #[.int .u8 x0, .int .u64 x1, v]).alloc (.cells #[.int .u8 0, .int .u64 0, .slice none 0 0] 30)
  have k1 := Blk.new (w.alloc (.cells #[.int .u8 x0, .int .u64 x1, v] 30)) 30 #[.int .u8 0, .int .u64 0, .slice none 0 0]
  rw [World.size_alloc] at k1
  have K0 := Lib.hid k0
  have K1 := Lib.hid k1
  have B2 := Lib.hid b2
  have V := Lib.hid (show Steps _ v r from Rd.below hv b2)
  have c2 := k0.cell 2
  simp only [List.getElem?_toArray, List.getElem?_cons_zero, List.getElem?_cons_succ] at c2
  obtain ⟨A, c, rfl, -⟩ := id hv
  clear hv k0 k1 b2
  go_enter Tryz.func23, Tryz.ntmps23
  go_wp2_with fail
  refine (Twin_step _ r _ V.out hn).mono ?_
  rintro e w1 ⟨A1, c1, rfl, hT, hB⟩
  have T1 := Lib.hid (hT.le_ (B' := w.heap.size) (by simp; omega))
  have B1 := Lib.hid hB
  have J0 := Lib.hid (K0.out.below hB K0.out.lt)
  have J1 := Lib.hid (K1.out.below hB K1.out.lt)
  have TL := Lib.hid hT
  clear hT hB c2
  have f0 := J0.out.free
  have f1 := J1.out.free
  have j0 := J0.out.cell 0
  have j1 := J0.out.cell 1
  have j2 := J0.out.cell 2
  have i0 := J1.out.cell 0
  have i1 := J1.out.cell 1
  have i2 := J1.out.cell 2
  simp only [List.getElem?_toArray, List.getElem?_cons_zero, List.getElem?_cons_succ] at j0 j1 j2 i0 i1 i2
  go_wp2
  have bf := ((((J1.out.far (p := ⟨w.heap.size, 2, none⟩) (by simp) (.slice A1 r.length c1)).set_ 0 (.int .u8 x0)).set_ 1 (.int .u64 x1)).set_ 2 (.slice A1 r.length c1))
  have y0 := bf.cell 0
  have y1 := bf.cell 1
  have y2 := bf.cell 2
  simp at y0 y1 y2
  refine bodyPost_ret (v := .agg #[.int .u8 x0, .int .u64 x1, .slice A1 r.length c1]) (by simp [results, Tryz.results23, go_sem, y0, y1, y2]) rfl ?_
  refine ⟨A1, c1, rfl, ?_, ?_⟩
  · have hk1 := (J0.out.set_ 2 (.slice A1 r.length c1))
    have hk2 := (J1.out.far (p := ⟨w.heap.size, 2, none⟩) (by simp) (.slice A1 r.length c1))
    exact (((T1.out.aside J0.out (by decide) 2 _).aside hk2 (by decide) 0 _).aside (hk2.set_ 0 _) (by decide) 1 _).aside ((hk2.set_ 0 _).set_ 1 _) (by decide) 2 _
  · exact ((((B2.out.trans (B1.out.mono B2.out.size)).setCell (p := ⟨w.heap.size, 2, none⟩) (Nat.le_refl _) _).setCell (p := ⟨w.heap.size + 1, 0, none⟩) (Nat.le_succ _) _).setCell (p := ⟨w.heap.size + 1, 1, none⟩) (Nat.le_succ _) _).setCell (p := ⟨w.heap.size + 1, 2, none⟩) (Nat.le_succ _) _
set_option maxHeartbeats 2000000 in
set_option maxRecDepth 100000 in
theorem Left_call (B : Nat) (x0 x1 : Int) (t v : Value) (r : List (List Int)) (hr : ∀ q ∈ r, q.length = 10) (w : World) (ht : Tw B w 104 10 t r.length (r.flatMap (fc stepK)) stepMk) (hv : Steps w v r) (hn : r.length ≤ 1000000) :
    Calls Tryz.prog 32 #[.agg #[.int .u8 x0, .int .u64 x1, t], .agg #[.int .u8 x0, .int .u64 x1, v]] w fun e w' => e = .returned (.bool true) ∧ Below w.heap.size w w' := by
  have b2 := below_alloc2_ w (.cells #[.int .u8 x0, .int .u64 x1, t] 30) (.cells #[.int .u8 x0, .int .u64 x1, v] 30)
  have C := Lib.hid (Left_step B t v r hr _ (ht.below b2) (show Steps _ _ r from Rd.below hv b2) hn)
  have B2 := Lib.hid b2
  obtain ⟨A, c, rfl, -⟩ := id hv
  obtain ⟨g, c1, rfl, -⟩ := ht.room
  clear hv ht b2
  go_enter Tryz.func32, Tryz.ntmps32
  go_wp2_with fail
  refine C.out.mono ?_
  rintro e w1 ⟨rfl, hB⟩
  have B1 := Lib.hid (B2.out.trans (hB.mono B2.out.size))
  clear hB
  go_wp2
  go_ret
  exact ⟨rfl, B1.out⟩
end Go.Proofs.YthjdkjinkmdclaaGreat

/- law01: whether two lists of bytes are the same. -/
namespace Go.Proofs.YthjdkjinkmdclaaGreat
open Go.RowKit

theorem Bs.old {w : World} {v : Value} {xs : List Int} (h : Bs w v xs) : ∃ A c, v = .slice A xs.length c ∧ xs.length ≤ c ∧ (xs = [] ∨ ∃ g o, A = some ⟨g, o, none⟩ ∧ ∀ j (h : j < xs.length), w.cell? ⟨g, o + j, none⟩ = some (.int .u8 xs[j])) := by
  obtain ⟨A, c, rfl, hc, hl, h0 | ⟨g, o, rfl, hg, hh⟩⟩ := h
  · exact ⟨A, c, rfl, hc, .inl (List.eq_nil_of_length_eq_zero h0)⟩
  · exact ⟨_, c, rfl, hc, .inr ⟨g, o, rfl, fun j hj => hh j _ (by simp [bc, hj])⟩⟩

set_option maxHeartbeats 2000000 in
theorem same_bytes (xs ys : List Int) (v u : Value) (w : World) (hv : Bs w v xs) (hu : Bs w u ys) (hb : xs.length ≤ 4611686018427387904) :
    Calls Tryz.prog 31 #[v, u] w fun e w' => e = .returned (.bool (decide (xs = ys))) ∧ ∃ m, w' = w.drewN m := by
  obtain ⟨A, c, rfl, hc, hA⟩ := hv.old
  obtain ⟨B, d, rfl, hd, hB⟩ := hu.old
  clear hv hu
  by_cases hl : xs.length = ys.length
  · by_cases h0 : xs = []
    · subst h0
      have hy : ys = [] := List.eq_nil_of_length_eq_zero (by simpa using hl.symm)
      subst hy
      clear hA hB
      go_enter Tryz.func31, Tryz.ntmps31
      go_wp2
      refine wp_loop_rounds 1 ?_
      rw [rounds_succ]
      go_wp2
      go_ret
      exact ⟨by simp, 0, rfl⟩
    · rcases hA with h | ⟨g, o, rfl, hcell⟩
      · exact absurd h h0
      rcases hB with rfl | ⟨g', o', rfl, hcell'⟩
      · exact absurd (List.eq_nil_of_length_eq_zero (by simpa using hl)) h0
      obtain ⟨n, hn⟩ : ∃ n, n = xs.length := ⟨_, rfl⟩
      have hn' : n = ys.length := hn.trans hl
      have HN := Lib.hid hn
      have HN' := Lib.hid hn'
      have hb' : (n : Int) ≤ 4611686018427387904 := by omega
      have HC := Lib.hid hcell
      have HC' := Lib.hid hcell'
      rw [← hn, ← hn']
      have hcn : n ≤ c := by omega
      have hdn : n ≤ d := by omega
      clear hcell hcell' hn hn' hl h0 hc hd hb
      go_enter Tryz.func31, Tryz.ntmps31
      go_wp2
      go_loopw [5] (fun i wr => ∃ k m : Nat, k ≤ n ∧ i = .int .i64 k ∧ wr = w.drewN m ∧ xs.take k = ys.take k) (fun i _ => n - (intOf i).toNat)
      case atStart => exact ⟨0, 0, Nat.zero_le _, rfl, rfl, rfl⟩
      case round =>
        obtain ⟨k, m, hk, rfl, rfl, ht⟩ := hrel
        have HT := Lib.hid ht
        clear ht
        by_cases hkn : k < n
        · have hx : k < xs.length := by have := HN.out; omega
          have hy : k < ys.length := by have := HN'.out; omega
          have c1 := HC.out k hx
          have d1 := HC'.out k hy
          obtain ⟨p, hp⟩ : ∃ p, p = xs[k] := ⟨_, rfl⟩
          obtain ⟨q, hq⟩ : ∃ q, q = ys[k] := ⟨_, rfl⟩
          rw [← hp] at c1
          rw [← hq] at d1
          have HP := Lib.hid hp
          have HQ := Lib.hid hq
          clear hp hq
          by_cases hpq : p = q
          · subst hpq
            go_wp2_with fail
            go_quiet (fail)
            go_wp2
            exact ⟨⟨k + 1, _, by omega, by go_num, rfl, take_snoc_same xs ys k hx hy HT.out (by rw [← HP.out, ← HQ.out])⟩, by simp [intOf]; omega⟩
          · have hne : (p != q) = true := by simpa using hpq
            go_wp2_with fail
            go_quiet (fail)
            go_wp2
            go_ret
            refine ⟨?_, _, World.drewN_drewN _ _ _⟩
            have : ¬ xs = ys := fun e => by
              have h1 : xs[k] = ys[k] := by subst e; rfl
              rw [← HP.out, ← HQ.out] at h1
              exact hpq h1
            rw [decide_eq_false this]; rfl
        · obtain rfl : k = n := by omega
          go_wp2
          go_ret
          refine ⟨?_, _, rfl⟩
          have : xs = ys := by
            have h1 := HT.out
            rw [List.take_of_length_le (by have := HN.out; omega), List.take_of_length_le (by have := HN'.out; omega)] at h1
            exact h1
          rw [decide_eq_true this]; rfl
  · have hl' : ¬ (xs.length : Int) = (ys.length : Int) := by omega
    have hne : ¬ xs = ys := fun e => hl (by rw [e])
    have D := Lib.hid (decide_eq_false hne)
    clear hA hB hne
    go_enter Tryz.func31, Tryz.ntmps31
    go_wp2
    go_ret
    exact ⟨by rw [D.out]; rfl, 0, rfl⟩
theorem sameb_any (xs ys : List Int) (v u : Value) (w : World) (hv : Bs w v xs) (hu : Bs w u ys) (hb : xs.length ≤ 4611686018427387904) :
    Calls Tryz.prog 11 #[v, u] w fun e w' => e = .returned (.bool (decide (xs = ys))) ∧ ∃ m, w' = w.drewN m := by
  have C := Lib.hid (same_bytes xs ys v u w hv hu hb)
  obtain ⟨t, ht⟩ : ∃ t, t = decide (xs = ys) := ⟨_, rfl⟩
  rw [← ht] at C ⊢
  have T := Lib.hid ht
  obtain ⟨A, c, rfl, -⟩ := id hv
  obtain ⟨B, d, rfl, -⟩ := id hu
  clear hv hu ht
  go_enter Tryz.func11, Tryz.ntmps11
  go_wp2_with fail
  refine C.out.mono ?_
  rintro e w1 ⟨rfl, m, rfl⟩
  go_wp2
  go_ret
  exact ⟨rfl, m, rfl⟩
end Go.Proofs.YthjdkjinkmdclaaGreat

/- law01: a twin of a list (byte), and whether it was left as it was. -/
namespace Go.Proofs.YthjdkjinkmdclaaGreat
open Go.RowKit

set_option maxHeartbeats 2000000 in
set_option maxRecDepth 100000 in
theorem twin_byte (v : Value) (r : List Int) (w : World) (hv : Bs w v r) (hn : r.length ≤ 1000000) :
    Calls Tryz.prog 34 #[v, .int .u8 195] w fun e w' => ∃ A c, e = .returned (.slice A r.length c) ∧ Tw w.heap.size w' 5 1 (.slice A r.length c) r.length (bc r) [.int .u8 195, .int .u8 195] ∧ Below w.heap.size w w' := by
  obtain ⟨i0, hi, hz0, hz1, hz2⟩ := info_parts byt_info
  have hcl : (bc r).length = r.length * 1 := (by simp)
  have H1 := Lib.hid (bc_one r)
  have HL := Lib.hid hcl
  obtain ⟨A, c, rfl, -⟩ := id hv
  obtain ⟨cs, hcs⟩ : ∃ cs, cs = (bc r) := ⟨_, rfl⟩
  rw [← hcs] at HL H1 ⊢
  have hv' : Rd w 1 (.slice A r.length c) r.length cs := by rw [hcs]; exact hv
  clear hv hcl
  obtain ⟨n, hnn⟩ : ∃ n, n = r.length := ⟨_, rfl⟩
  rw [← hnn] at hv' hn HL ⊢
  have hn' : (n : Int) ≤ 1000000 := by omega
  have HV := Lib.hid hv'
  clear hv' hcs hnn
  go_enter Tryz.func34, Tryz.ntmps34
  go_upto_region 2 with (at_make; refine wpList_make_own _ rfl _ _ 25 rfl w.heap.size 5 i0 (.int .u8 0) 1 Tryz.underlying25 hi hz0 hz1 .i64 .i64 _ (n + 2) rfl rfl (by simp) (by rw [hz2]; omega) (by unfold maxLen; omega) (by simp) ?_; intro w1 ho1 hg1)
  have O1 := Lib.hid ((Ow.of_own ho1).le (B' := w.heap.size) (by omega))
  have B1 := Lib.hid (below_of_grown_ hg1)
  have HV1 := Lib.hid (HV.out.below (below_of_grown_ hg1))
  clear ho1 hg1
  go_upto_region 3 with (at_builtin; refine wpList_ow_rows (n := 0) (m := n) rfl _ _ 25 5 (.int .u8 0) 1 1 rfl Tryz.underlying25 byt_info rfl (by decide) rfl O1.out (by have := B1.out.size; omega) HV1.out H1.out rfl (by omega) (by unfold maxLen; omega) ?_; intro v2 w2 ho2 hg2)
  have B2 := Lib.hid (below_grown_own_ B1.out hg2.1 O1.out)
  have O2 := Lib.hid ho2
  clear ho2 hg2 O1 B1 HV1
  rw [Nat.zero_add, List.nil_append] at O2
  go_wp2_with (at_builtin; refine wpList_ow_rows (n := n) (m := 2) rfl _ _ 25 5 (.int .u8 0) 1 1 rfl Tryz.underlying25 byt_info rfl (by decide) rfl (O2.out.below (below_alloc_ w2 (.cells #[.int .u8 195, .int .u8 195] 5))) (by have := B2.out.size; simp; omega) (Rd.lits w2 5 1 2 [.int .u8 195, .int .u8 195] rfl) (by decide) rfl (by omega) (by unfold maxLen; omega) ?_; intro v3 w3 ho3 hg3)
  have B3 := Lib.hid (below_grown_own_ (B2.out.trans ((below_alloc_ w2 (.cells #[.int .u8 195, .int .u8 195] 5)).mono B2.out.size)) hg3.1 (O2.out.below (below_alloc_ w2 (.cells #[.int .u8 195, .int .u8 195] 5))))
  obtain ⟨A3, c3, rfl⟩ := ho3.sl_
  obtain ⟨hc3, ht⟩ := Tw.mk_ ho3 HL.out
  obtain ⟨g3, c9, hv3, -⟩ := ht.room
  injection hv3 with hA3 _ hc9
  subst hA3
  subst hc9
  have T3 := Lib.hid ht
  clear ho3 hg3 ht O2 B2
  have hc3' : (n : Int) ≤ c3 := by omega
  go_wp2
  go_ret
  exact ⟨_, _, rfl, T3.out, B3.out⟩

set_option maxHeartbeats 2000000 in
set_option maxRecDepth 100000 in
theorem left_byte (B : Nat) (t v : Value) (r : List Int) (w : World) (ht : Tw B w 5 1 t r.length (bc r) [.int .u8 195, .int .u8 195]) (hv : Bs w v r) (hn : r.length ≤ 1000000) :
    Calls Tryz.prog 44 #[t, v, .int .u8 195] w fun e w' => e = .returned (.bool true) ∧ Below w.heap.size w w' := by
  have SA := Lib.hid (same_bytes r r _ _ w ((show Bs w t r from ht.rd)) (hv) (by omega))
  have D := Lib.hid (decide_eq_true (rfl : r = r))
  obtain ⟨g, c, rfl, hc, -, hg, -, hm⟩ := ht.room
  have r0 : w.cell? ⟨g, r.length, none⟩ = some (.int .u8 195) := by have := hm 0 _ rfl; simpa using this
  have r1 : w.cell? ⟨g, r.length + 1, none⟩ = some (.int .u8 195) := by have := hm 1 _ rfl; simpa using this
  clear hm ht
  obtain ⟨A1, c1, rfl, -⟩ := id hv
  obtain ⟨n, hnn⟩ : ∃ n, n = r.length := ⟨_, rfl⟩
  rw [← hnn] at hc SA r0 r1 ⊢
  have hc' : (n : Int) + 2 ≤ c := by omega
  have hn' : (n : Int) ≤ 1000000 := by omega
  have hlt : ¬ ((c - n : Nat) : Int) < 2 := by omega
  have hlt0 : (0 : Int) < ((c - n : Nat) : Int) := by omega
  have hlt1 : (1 : Int) < ((c - n : Nat) : Int) := by omega
  clear hv hnn
  go_enter Tryz.func44, Tryz.ntmps44
  go_wp2_with fail
  refine SA.out.mono ?_
  rintro e w1 ⟨rfl, m, rfl⟩
  rw [D.out]
  go_wp2_with fail
  go_ret
  exact ⟨rfl, below_drewN_ _ _ _⟩

theorem Twin_byte (v : Value) (r : List Int) (w : World) (hv : Bs w v r) (hn : r.length ≤ 1000000) :
    Calls Tryz.prog 15 #[v] w fun e w' => ∃ A c, e = .returned (.slice A r.length c) ∧ Tw w.heap.size w' 5 1 (.slice A r.length c) r.length (bc r) [.int .u8 195, .int .u8 195] ∧ Below w.heap.size w w' := by
  have C := Lib.hid (twin_byte v r w hv hn)
  obtain ⟨A, c, rfl, -⟩ := id hv
  clear hv
  go_enter Tryz.func15, Tryz.ntmps15
  go_wp2_with fail
  refine C.out.mono ?_
  rintro e w1 ⟨A1, c1, rfl, hT, hB⟩
  have T1 := Lib.hid hT
  have B1 := Lib.hid hB
  clear hT hB
  go_wp2
  go_ret
  exact ⟨A1, c1, rfl, T1.out, B1.out⟩
theorem Left_byte (B : Nat) (t v : Value) (r : List Int) (w : World) (ht : Tw B w 5 1 t r.length (bc r) [.int .u8 195, .int .u8 195]) (hv : Bs w v r) (hn : r.length ≤ 1000000) :
    Calls Tryz.prog 19 #[t, v] w fun e w' => e = .returned (.bool true) ∧ Below w.heap.size w w' := by
  have C := Lib.hid (left_byte B t v r  w ht hv hn)
  obtain ⟨A, c, rfl, -⟩ := id hv
  obtain ⟨g, c1, rfl, -⟩ := ht.room
  clear hv ht
  go_enter Tryz.func19, Tryz.ntmps19
  go_wp2_with fail
  refine C.out.mono ?_
  rintro e w1 ⟨rfl, hB⟩
  have B1 := Lib.hid hB
  clear hB
  go_wp2
  go_ret
  exact ⟨rfl, B1.out⟩

end Go.Proofs.YthjdkjinkmdclaaGreat

/- law01: a twin of bytes, with the room that it has. -/
namespace Go.Proofs.YthjdkjinkmdclaaGreat
open Go.RowKit

/-- 'out = append(out, xs...)' where there is room. -/
theorem wp_ow_room {o : Oper} {a : Act} {K : Act → World → Prop} {Q : Exit → Act → World → Prop} (s x : Operand) (t e : TypeId) (z : Value) (size bytes : Nat)
    (ho : o.op = .call { callee := .builtin .append, args := #[s, x], argTypes := #[t, t] }) (ht : Tryz.prog.underlying t = some (.slice e))
    (hinf : (Tryz.prog.info? e).map (fun i => (i.zero, i.size, i.bytes)) = some (some z, size, bytes))
    {B n m cap g : Nat} {y : Value} {xs ys : List Value} (hs : a.eval s = .slice (some ⟨g, 0, none⟩) n cap) {w0 : World} (hown : Ow B w0 e size (.slice (some ⟨g, 0, none⟩) n cap) n xs) (hy : Rd w0 size y m ys) (h1 : ∀ u ∈ ys, u.oneCell' = true)
    (hx : a.eval x = y) (hroom : n + m ≤ cap)
    (h : ∀ w', Ow B w' e size (.slice (some ⟨g, 0, none⟩) (n + m) cap) (n + m) (xs ++ ys) → w0.grownBy w' (some g) → K (a.put o.dst (.slice (some ⟨g, 0, none⟩) (n + m) cap)) w') : Oper.wp Tryz.prog o a w0 K Q := by
  obtain ⟨i0, hi, hz0, hz1, hz2⟩ := info_parts hinf
  obtain ⟨A, c, rfl, hc, hl, hh⟩ := hy
  rcases id hown with ⟨hv, _⟩ | ⟨g', c', cur, hv, hBg, hg, hcc, hlx, hsz, htk⟩
  · cases hv
  injection hv with e1 e2 e3
  injection e1 with e1
  injection e1 with e1
  subst e1; subst e3
  cases A with
  | none =>
    rcases hh with h0 | ⟨g2, o', hA, _⟩
    · subst h0
      have hys : ys = [] := List.eq_nil_of_length_eq_zero (by simpa using hl)
      subst hys
      have hr : (Builtin.append_ #[t, t] o.type #[.slice (some ⟨g, 0, none⟩) n cap, .slice none 0 c]).run Tryz.prog w0 = .ok (.slice (some ⟨g, 0, none⟩) n cap) w0 := by
        simp [Builtin.append_, run_underlying ht, sizeOf, typeInfo, hi, Builtin.lenOf, Builtin.firstCells, hcc, storeCells]
      unfold Oper.wp
      simp [execOp, ho, resolve, invoke, builtin, hs, hx, hr, Result.andThen]
      exact h w0 (by rw [List.append_nil]; exact hown) (grown_refl_ _ _)
    · cases hA
  | some ad =>
    have hnews : ∀ j u, ys[j]? = some u → w0.cell? (ad.add j) = some u := by
      intro j u hj
      rcases hh with h0 | ⟨g2, o', hA, hg2, hcell⟩
      · subst h0
        have hys : ys = [] := List.eq_nil_of_length_eq_zero (by simpa using hl)
        subst hys
        cases hj
      · obtain rfl : ad = ⟨g2, o', none⟩ := Option.some.inj hA
        rw [Addr.add_lit]
        exact hcell j u hj
    subst hz1
    have hfit : n * i0.size + ys.length ≤ cur.size := by rw [hl, ← Nat.add_mul]; exact Nat.le_trans (Nat.mul_le_mul_right _ hroom) hsz
    have hr := run_append_room (P := Tryz.prog) w0 t o.type e i0 ht hi g n cap cur hg ad m c ys hl hnews h1 hroom hfit
    unfold Oper.wp
    simp [execOp, ho, resolve, invoke, builtin, hs, hx, hr, Result.andThen]
    refine h _ (.inr ⟨g, cap, _, rfl, hBg, setRow_heap w0 g cur _ e _ hg, hroom, ?_, ?_, ?_⟩) ⟨rfl, rfl, rfl, by simp, fun k hk hne => setRow_other w0 g k _ (fun e => hne (by rw [e]))⟩
    · rw [List.length_append, hlx, hl, Nat.add_mul]
    · simp only [List.size_toArray, List.length_append, List.length_take, List.length_drop, Array.length_toList]
      omega
    · have hlen : (xs ++ ys).length = (n + m) * i0.size := by rw [List.length_append, hlx, hl, Nat.add_mul]
      rw [htk, ← hlen]
      show List.take _ (xs ++ (ys ++ _)) = _
      rw [← List.append_assoc]
      exact List.take_left
theorem wpList_ow_room {ops : Array Oper} {rest : List Oper} {o : Oper} {a : Act} {Q : Exit → Act → World → Prop} (hgd : o.guard = none) (s x : Operand) (t e : TypeId) (z : Value) (size bytes : Nat)
    (ho : o.op = .call { callee := .builtin .append, args := #[s, x], argTypes := #[t, t] }) (ht : Tryz.prog.underlying t = some (.slice e))
    (hinf : (Tryz.prog.info? e).map (fun i => (i.zero, i.size, i.bytes)) = some (some z, size, bytes))
    {B n m cap g : Nat} {y : Value} {xs ys : List Value} (hs : a.eval s = .slice (some ⟨g, 0, none⟩) n cap) {w0 : World} (hown : Ow B w0 e size (.slice (some ⟨g, 0, none⟩) n cap) n xs) (hy : Rd w0 size y m ys) (h1 : ∀ u ∈ ys, u.oneCell' = true)
    (hx : a.eval x = y) (hroom : n + m ≤ cap)
    (h : ∀ w', Ow B w' e size (.slice (some ⟨g, 0, none⟩) (n + m) cap) (n + m) (xs ++ ys) → w0.grownBy w' (some g) → wpList Tryz.prog ops Q rest (a.put o.dst (.slice (some ⟨g, 0, none⟩) (n + m) cap)) w') : wpList Tryz.prog ops Q (o :: rest) a w0 :=
  wpList_plain hgd fun _ hK => wp_ow_room s x t e z size bytes ho ht hinf hs hown hy h1 hx hroom fun w' h1 h2 => hK _ _ (h w' h1 h2)
set_option maxHeartbeats 2000000 in
set_option maxRecDepth 100000 in
theorem twin_bytec (v : Value) (r : List Int) (w : World) (hv : Bs w v r) (hn : r.length ≤ 1000000) :
    Calls Tryz.prog 34 #[v, .int .u8 195] w fun e w' => ∃ g, e = .returned (.slice (some ⟨g, 0, none⟩) r.length (r.length + 2)) ∧ Tw w.heap.size w' 5 1 (.slice (some ⟨g, 0, none⟩) r.length (r.length + 2)) r.length (bc r) [.int .u8 195, .int .u8 195] ∧ Below w.heap.size w w' := by
  obtain ⟨i0, hi, hz0, hz1, hz2⟩ := info_parts byt_info
  have hcl : (bc r).length = r.length * 1 := (by simp)
  have H1 := Lib.hid (bc_one r)
  have HL := Lib.hid hcl
  obtain ⟨A, c, rfl, -⟩ := id hv
  obtain ⟨cs, hcs⟩ : ∃ cs, cs = (bc r) := ⟨_, rfl⟩
  rw [← hcs] at HL H1 ⊢
  have hv' : Rd w 1 (.slice A r.length c) r.length cs := by rw [hcs]; exact hv
  clear hv hcl
  obtain ⟨n, hnn⟩ : ∃ n, n = r.length := ⟨_, rfl⟩
  rw [← hnn] at hv' hn HL ⊢
  have hn' : (n : Int) ≤ 1000000 := by omega
  have HV := Lib.hid hv'
  clear hv' hcs hnn
  go_enter Tryz.func34, Tryz.ntmps34
  go_upto_region 2 with (at_make; refine wpList_make_own _ rfl _ _ 25 rfl w.heap.size 5 i0 (.int .u8 0) 1 Tryz.underlying25 hi hz0 hz1 .i64 .i64 _ (n + 2) rfl rfl (by simp) (by rw [hz2]; omega) (by unfold maxLen; omega) (by simp) ?_; intro w1 ho1 hg1)
  have O1 := Lib.hid ((Ow.of_own ho1).le (B' := w.heap.size) (by omega))
  have B1 := Lib.hid (below_of_grown_ hg1)
  have HV1 := Lib.hid (HV.out.below (below_of_grown_ hg1))
  clear ho1 hg1
  go_upto_region 3 with (at_builtin; refine wpList_ow_room (n := 0) (m := n) (cap := n + 2) rfl _ _ 25 5 (.int .u8 0) 1 1 rfl Tryz.underlying25 byt_info rfl O1.out HV1.out H1.out rfl (by omega) ?_; intro w2 ho2 hg2)
  have B2 := Lib.hid (below_grown_own_ B1.out hg2 O1.out)
  have O2 := Lib.hid ho2
  clear ho2 hg2 O1 B1 HV1
  rw [Nat.zero_add, List.nil_append] at O2
  go_wp2_with (at_builtin; refine wpList_ow_room (n := n) (m := 2) (cap := n + 2) rfl _ _ 25 5 (.int .u8 0) 1 1 rfl Tryz.underlying25 byt_info rfl (O2.out.below (below_alloc_ w2 (.cells #[.int .u8 195, .int .u8 195] 5))) (Rd.lits w2 5 1 2 [.int .u8 195, .int .u8 195] rfl) (by decide) rfl (Nat.le_refl _) ?_; intro w3 ho3 hg3)
  have B3 := Lib.hid (below_grown_own_ (B2.out.trans ((below_alloc_ w2 (.cells #[.int .u8 195, .int .u8 195] 5)).mono B2.out.size)) hg3 (O2.out.below (below_alloc_ w2 (.cells #[.int .u8 195, .int .u8 195] 5))))
  obtain ⟨hc3, ht⟩ := Tw.mk_ ho3 HL.out
  have T3 := Lib.hid ht
  clear ho3 hg3 ht O2 B2
  have hc3' : (n : Int) ≤ (n : Int) + 2 := by omega
  go_wp2
  go_ret
  exact ⟨_, rfl, T3.out, B3.out⟩
theorem Twin_bytec (v : Value) (r : List Int) (w : World) (hv : Bs w v r) (hn : r.length ≤ 1000000) :
    Calls Tryz.prog 15 #[v] w fun e w' => ∃ g, e = .returned (.slice (some ⟨g, 0, none⟩) r.length (r.length + 2)) ∧ Tw w.heap.size w' 5 1 (.slice (some ⟨g, 0, none⟩) r.length (r.length + 2)) r.length (bc r) [.int .u8 195, .int .u8 195] ∧ Below w.heap.size w w' := by
  have C := Lib.hid (twin_bytec v r w hv hn)
  obtain ⟨A, c, rfl, -⟩ := id hv
  clear hv
  go_enter Tryz.func15, Tryz.ntmps15
  go_wp2_with fail
  refine C.out.mono ?_
  rintro e w1 ⟨g1, rfl, hT, hB⟩
  have T1 := Lib.hid hT
  have B1 := Lib.hid hB
  clear hT hB
  go_wp2
  go_ret
  exact ⟨g1, rfl, T1.out, B1.out⟩
end Go.Proofs.YthjdkjinkmdclaaGreat

/- The document's Num and Sign. -/
namespace Go.Proofs.YthjdkjinkmdclaaGreat
open Go.RowKit

theorem Bf.start_ (w : World) : Bf w.heap.size w w (.slice none 0 0) [] := ⟨Bo.nil_ _ _, Below.refl _ _, Nat.le_refl _⟩

set_option maxHeartbeats 1000000 in
theorem rnum_any (v : Value) (xs : List Int) (n : Nat) (w : World) (h : Bs w v xs) (hn : n < 18446744073709551616) (hl : xs.length ≤ 70368744177664) :
    Calls Tryz.prog 26 #[v, .int .u64 n] w fun e w' => ∃ v', e = .returned v' ∧ Bo w.heap.size w' v' (xs ++ nb n) ∧ Below w.heap.size w w' := by
  have H := Lib.hid h
  have HL := Lib.hid hl
  have HN := Lib.hid hn
  have hl0 : ([] : List Int).length + xs.length ≤ 140737488355328 := by simp; omega
  clear h hl hn
  go_enter Tryz.func26, Tryz.ntmps26
  go_wp2_with (at_builtin; refine wpList_bf_bytes rfl _ _ 25 rfl Tryz.underlying25 rfl (Bf.start_ w) H.out rfl hl0 ?_; intro v1 w1 hB1)
  have HB := Lib.hid hB1
  clear hB1 hl0
  go_loopg [1, 5] n (fun g c1 c5 wr => ∃ ys, c1 = .int .u64 g ∧ g < 18446744073709551616 ∧ Bf w.heap.size w wr c5 ys ∧ ys ++ nb g = xs ++ nb n)
  case atStart => exact ⟨_, rfl, HN.out, HB.out, rfl⟩
  case round =>
    obtain ⟨ys, rfl, hg, hB, he⟩ := hrel
    have HE := Lib.hid he
    have HB' := Lib.hid hB
    have hlen : ys.length ≤ 140737488355000 := by
      have h1 := congrArg List.length he
      simp only [List.length_append] at h1
      have h2 := nb_ten HN.out
      have h3 := HL.out
      omega
    clear he hB HB
    by_cases h1 : gk < 128
    · have h1' : ¬ (128 : Int) ≤ (gk : Int) := by omega
      have hgb : IntKind.u8.wrap (gk : Int) = gk := IntWalk.u8_in _ (by omega)
      go_wp2_with (at_builtin; refine wpList_bf_byte rfl _ _ 25 rfl Tryz.underlying25 rfl HB'.out rfl (by omega) ?_; intro v2 w2 hB2)
      go_ret
      refine ⟨_, rfl, ?_, hB2.bel⟩
      rw [← HE.out, nb_lt h1]
      exact hB2.own
    · have h1' : (128 : Int) ≤ (gk : Int) := by omega
      go_wp2_with (at_builtin; refine wpList_bf_byte rfl _ _ 25 rfl Tryz.underlying25 rfl HB'.out rfl (by omega) ?_; intro v2 w2 hB2)
      go_roundg (gk / 128)
      case measure => omega
      case rel =>
        refine ⟨_, by go_num, by omega, hB2, ?_⟩
        rw [← HE.out, nb_ge h1]
        simp
        omega

theorem zz_pos_eq {n : Int} (h : 0 ≤ n) : ((zz n : Nat) : Int) = 2 * n := by rw [zz, if_pos h]; omega
theorem zz_neg_eq {n : Int} (h : ¬ 0 ≤ n) : ((zz n : Nat) : Int) = 2 * (-(n + 1)) + 1 := by rw [zz, if_neg h]; omega

/-- The document's Sign. -/
theorem rsign_any (v : Value) (xs : List Int) (n : Int) (w : World) (h : Bs w v xs) (h1 : -9223372036854775808 ≤ n) (h2 : n ≤ 9223372036854775807) (hl : xs.length ≤ 70368744177664) :
    Calls Tryz.prog 68 #[v, .int .i64 n] w fun e w' => ∃ v', e = .returned v' ∧ Bo w.heap.size w' v' (xs ++ sb n) ∧ Below w.heap.size w w' := by
  have H := Lib.hid h
  have HZ := Lib.hid (zz_lt h1 h2)
  clear h
  by_cases h0 : 0 ≤ n
  · have E1 := Lib.hid (zz_pos_eq h0)
    go_enter Tryz.func68, Tryz.ntmps68
    go_wp2_with fail
    rw [← E1.out]
    refine (rnum_any v xs (zz n) w H.out HZ.out hl).mono ?_
    rintro e w1 ⟨v1, rfl, ho, hb⟩
    have HO := Lib.hid ho
    have HB := Lib.hid hb
    clear ho hb
    go_wp2
    go_ret
    exact ⟨_, rfl, HO.out, HB.out⟩
  · have E1 := Lib.hid (zz_neg_eq h0)
    go_enter Tryz.func68, Tryz.ntmps68
    go_wp2_with fail
    rw [← E1.out]
    refine (rnum_any v xs (zz n) w H.out HZ.out hl).mono ?_
    rintro e w1 ⟨v1, rfl, ho, hb⟩
    have HO := Lib.hid ho
    have HB := Lib.hid hb
    clear ho hb
    go_wp2
    go_ret
    exact ⟨_, rfl, HO.out, HB.out⟩

end Go.Proofs.YthjdkjinkmdclaaGreat

/- The document's bytes of a command. -/
namespace Go.Proofs.YthjdkjinkmdclaaGreat
open Go.RowKit

set_option maxHeartbeats 8000000 in
set_option maxRecDepth 100000 in
theorem rcmd_any (u v : Value) (xs : List Int) (r : List (List Int)) (hin : ∀ q ∈ r, fok stepK q) (w : World) (hu : Bs w u xs) (hv : Steps w v r) (hg : r.length ≤ 1000000) (hl : xs.length + (cmdB r).length ≤ 70368744177664) :
    Calls Tryz.prog 48 #[u, .agg #[v]] w fun e w' => ∃ v', e = .returned v' ∧ Bo w.heap.size w' v' (xs ++ cmdB r) ∧ Below w.heap.size w w' := by
  have k0 := Blk.new w 28 #[v]
  have bw := below_alloc_ w (.cells #[v] 28)
  have K := Lib.hid k0
  have HU := Lib.hid (Bs.below hu bw)
  have V := Lib.hid (show Steps _ v r from Rd.below hv bw)
  have I := Lib.hid hin
  have BW := Lib.hid bw
  simp only [stepsB, listB, List.length_append] at hl
  have HL := Lib.hid hl
  obtain ⟨A0, q0, rfl, -⟩ := id hv
  have i0 : (r.length : Int) ≤ 1000000 := by omega
  have hW1 : w.heap.size < (w.alloc (.cells #[.slice A0 r.length q0] 28)).heap.size := by simp
  clear k0 bw hu hv hin hl
  go_enter Tryz.func48, Tryz.ntmps48
  go_wp2_with fail
  refine (rnum_any u xs r.length _ HU.out (by omega) (by have := HL.out; omega)).mono ?_
  rintro e w1 ⟨u1, rfl, ho, hb⟩
  have F1 := Lib.hid (show Bf _ _ w1 u1 (xs ++ nb r.length) from ⟨ho, hb, hb.size⟩)
  clear ho hb
  generalize w.alloc (.cells #[.slice A0 r.length q0] 28) = W at *
  go_wp2_with fail
  go_loopg [0, 5] r.length (fun g c0 c5 wr => ∃ k : Nat, k ≤ r.length ∧ g = r.length - k ∧ c5 = .int .i64 k ∧ Bf W.heap.size W wr c0 (xs ++ nb r.length ++ (r.take k).flatMap (fB stepK)))
  case atStart => exact ⟨0, Nat.zero_le _, by omega, rfl, by simpa using F1.out⟩
  case round =>
    obtain ⟨k, hk, hgk, rfl, hF⟩ := hrel
    have GK := Lib.hid hgk
    have HF := Lib.hid hF
    have k1 := K.out.below hF.bel K.out.lt
    have d0 := k1.cell 0
    simp at d0
    clear hgk hF k1
    by_cases hkn : k < r.length
    · skip
      obtain ⟨g, o, c', hA, hc', hgl, hcell⟩ := Rd.at_ fcstep_len (Rd.below V.out (HF.out.bel.mono (Nat.le_refl _))) (by omega)
      obtain ⟨y0, y1, y2, y3, y4, y5, y6, y7, y8, y9, hq, o0, o1, o2, o3, o4, o5, o6, o7, o8, o9⟩ := step_fok (I.out _ (List.getElem_mem hkn))
      have x0' : wr.cell? ⟨g, o + k * 10, none⟩ = some (.int .u8 y0) := by have := hcell k hkn 0 (.int .u8 y0) (by omega) (by rw [hq]; rfl); simpa using this
      have x1' : wr.cell? ⟨g, o + k * 10 + 1, none⟩ = some (.int .u8 y1) := by have := hcell k hkn 1 (.int .u8 y1) (by omega) (by rw [hq]; rfl); simpa using this
      have x2' : wr.cell? ⟨g, o + k * 10 + 2, none⟩ = some (.int .u8 y2) := by have := hcell k hkn 2 (.int .u8 y2) (by omega) (by rw [hq]; rfl); simpa using this
      have x3' : wr.cell? ⟨g, o + k * 10 + 3, none⟩ = some (.int .u8 y3) := by have := hcell k hkn 3 (.int .u8 y3) (by omega) (by rw [hq]; rfl); simpa using this
      have x4' : wr.cell? ⟨g, o + k * 10 + 4, none⟩ = some (.int .u8 y4) := by have := hcell k hkn 4 (.int .u8 y4) (by omega) (by rw [hq]; rfl); simpa using this
      have x5' : wr.cell? ⟨g, o + k * 10 + 5, none⟩ = some (.int .i64 y5) := by have := hcell k hkn 5 (.int .i64 y5) (by omega) (by rw [hq]; rfl); simpa using this
      have x6' : wr.cell? ⟨g, o + k * 10 + 6, none⟩ = some (.int .i64 y6) := by have := hcell k hkn 6 (.int .i64 y6) (by omega) (by rw [hq]; rfl); simpa using this
      have x7' : wr.cell? ⟨g, o + k * 10 + 7, none⟩ = some (.int .i64 y7) := by have := hcell k hkn 7 (.int .i64 y7) (by omega) (by rw [hq]; rfl); simpa using this
      have x8' : wr.cell? ⟨g, o + k * 10 + 8, none⟩ = some (.int .i64 y8) := by have := hcell k hkn 8 (.int .i64 y8) (by omega) (by rw [hq]; rfl); simpa using this
      have x9' : wr.cell? ⟨g, o + k * 10 + 9, none⟩ = some (.int .u64 y9) := by have := hcell k hkn 9 (.int .u64 y9) (by omega) (by rw [hq]; rfl); simpa using this
      injection hA with e1 e2 e3
      subst e1; subst e3
      have Q := Lib.hid hq
      have OK0 := Lib.hid o0
      have OK1 := Lib.hid o1
      have OK2 := Lib.hid o2
      have OK3 := Lib.hid o3
      have OK4 := Lib.hid o4
      have OK5 := Lib.hid o5
      have OK6 := Lib.hid o6
      have OK7 := Lib.hid o7
      have OK8 := Lib.hid o8
      have OK9 := Lib.hid o9
      clear hcell e2 hq o0 o1 o2 o3 o4 o5 o6 o7 o8 o9
      have hb : (xs ++ nb r.length ++ (r.take k).flatMap (fB stepK)).length + (fB stepK [y0, y1, y2, y3, y4, y5, y6, y7, y8, y9]).length ≤ 70368744177664 := by
        have h1 := HL.out
        have h2 := flat_len_le (fB stepK) r (k + 1)
        rw [flat_snoc (fB stepK) r k hkn, Q.out] at h2
        simp only [List.length_append] at h1 h2 ⊢
        omega
      have hfl : fB stepK [y0, y1, y2, y3, y4, y5, y6, y7, y8, y9] = ([y0] ++ ([y1] ++ ([y2] ++ ([y3] ++ ([y4] ++ (sb y5 ++ (sb y6 ++ (sb y7 ++ (sb y8 ++ (nb y9.toNat ++ [])))))))))) := rfl
      rw [hfl] at hb
      have HFL := Lib.hid hfl
      clear hfl
      simp only [List.length_append, List.length_nil, List.length_cons] at hb
      have HB := Lib.hid hb
      clear hb
      have e9 : y9 = ((y9.toNat : Nat) : Int) := by have := OK9.out.1; omega
      have HY9 := Lib.hid (show y9.toNat < 18446744073709551616 by have := OK9.out.2; omega)
      obtain ⟨m9, hm9⟩ : ∃ m, m = y9.toNat := ⟨_, rfl⟩
      rw [← hm9] at HY9 HFL HB e9
      subst e9
      clear hm9 OK9
      have nk := Blk.new wr 104 #[.int .u8 y0, .int .u8 y1, .int .u8 y2, .int .u8 y3, .int .u8 y4, .int .i64 y5, .int .i64 y6, .int .i64 y7, .int .i64 y8, .int .u64 m9]
      have NK := Lib.hid nk
      have n0 := nk.cell 0
      have n1 := nk.cell 1
      have n2 := nk.cell 2
      have n3 := nk.cell 3
      have n4 := nk.cell 4
      have n5 := nk.cell 5
      have n6 := nk.cell 6
      have n7 := nk.cell 7
      have n8 := nk.cell 8
      have n9 := nk.cell 9
      simp at n0 n1 n2 n3 n4 n5 n6 n7 n8 n9
      have WF := Lib.hid (HF.out.alloc (.cells #[.int .u8 y0, .int .u8 y1, .int .u8 y2, .int .u8 y3, .int .u8 y4, .int .i64 y5, .int .i64 y6, .int .i64 y7, .int .i64 y8, .int .u64 m9] 104))
      clear nk
      have hlit : Bs ((wr.alloc (.cells #[.int .u8 y0, .int .u8 y1, .int .u8 y2, .int .u8 y3, .int .u8 y4, .int .i64 y5, .int .i64 y6, .int .i64 y7, .int .i64 y8, .int .u64 m9] 104)).alloc (.cells #[.int .u8 y0, .int .u8 y1, .int .u8 y2, .int .u8 y3, .int .u8 y4] 5)) (.slice (some ⟨wr.heap.size + 1, 0, none⟩) 5 5) [y0, y1, y2, y3, y4] := by have := Bs.lits (wr.alloc (.cells #[.int .u8 y0, .int .u8 y1, .int .u8 y2, .int .u8 y3, .int .u8 y4, .int .i64 y5, .int .i64 y6, .int .i64 y7, .int .i64 y8, .int .u64 m9] 104)) [y0, y1, y2, y3, y4]; rwa [World.size_alloc] at this
      have HLIT := Lib.hid hlit
      clear hlit
      go_wp2_with (at_builtin; go_must (refine wpList_bf_bytesK rfl _ _ 25 rfl Tryz.underlying25 rfl (WF.out.alloc (.cells #[.int .u8 y0, .int .u8 y1, .int .u8 y2, .int .u8 y3, .int .u8 y4] 5)) HLIT.out rfl (by have := HB.out; (try simp only [List.length_append, List.length_cons, List.length_nil] at this); (try simp only [List.length_append, List.length_cons, List.length_nil]); omega) ?_); intro v2 w2 hB2 hK2)
      have N2 := Lib.hid ((NK.out.alloc (.cells #[.int .u8 y0, .int .u8 y1, .int .u8 y2, .int .u8 y3, .int .u8 y4] 5)).grown hK2.1 (fun e => Ow.notat (WF.out.alloc (.cells #[.int .u8 y0, .int .u8 y1, .int .u8 y2, .int .u8 y3, .int .u8 y4] 5)).own (NK.out.alloc (.cells #[.int .u8 y0, .int .u8 y1, .int .u8 y2, .int .u8 y3, .int .u8 y4] 5)) (by decide) e.symm))
      have F2 := Lib.hid hB2
      clear hB2 hK2 n0 n1 n2 n3 n4 n5 n6 n7 n8 n9 x0' x1' x2' x3' x4' x5' x6' x7' x8' x9'
      have hsa : wr.heap.size < w2.heap.size := N2.out.lt
      have KS : ∀ X, Below w2.heap.size w2 X → X.cell? ⟨wr.heap.size, 5, none⟩ = some (.int .i64 y5) ∧ X.cell? ⟨wr.heap.size, 6, none⟩ = some (.int .i64 y6) := fun X hb => ⟨((N2.out.below hb hsa).cell 5).trans rfl, ((N2.out.below hb hsa).cell 6).trans rfl⟩
      have K0 := Lib.hid (KS _ (Below.refl w2.heap.size w2).drew)
      have K1 := Lib.hid (fun X (hb : Below w2.drew.heap.size w2.drew X) => KS X ((Below.refl w2.heap.size w2).drew.trans hb))
      have K2 := Lib.hid (fun X Y (hb : Below w2.drew.heap.size w2.drew X) (hb2 : Below X.heap.size X Y) => KS Y (((Below.refl w2.heap.size w2).drew.trans hb).trans (hb2.mono hb.size)))
      clear KS
      go_wp2_with fail
      go_region_held3 (fun w' => w'.cell? ⟨wr.heap.size, 5, none⟩ = some (.int .i64 y5) ∧ w'.cell? ⟨wr.heap.size, 6, none⟩ = some (.int .i64 y6)) (first
         | (with_reducible exact K2.out _ _ hbya hbza)
         | (with_reducible exact K1.out _ hbya)
         | (with_reducible exact K0.out)
         | fail)
        (first
         | (go_at_call 68; refine (rsign_any z1a _ y6 _ (by exact hoya.bs) OK6.out.1 OK6.out.2 (by have := HB.out; (try simp only [List.length_append, List.length_cons, List.length_nil] at this); (try simp only [List.length_append, List.length_cons, List.length_nil]); omega)).mono ?_; rintro e wza ⟨z2a, rfl, hoza, hbza⟩)
         | (go_at_call 68; refine (rsign_any v2 (xs ++ nb r.length ++ (r.take k).flatMap (fB stepK) ++ [y0, y1, y2, y3, y4]) y5 _ (by exact F2.out.own.bs) OK5.out.1 OK5.out.2 (by have := HB.out; (try simp only [List.length_append, List.length_cons, List.length_nil] at this); (try simp only [List.length_append, List.length_cons, List.length_nil]); omega)).mono ?_; rintro e wya ⟨z1a, rfl, hoya, hbya⟩))
      have FEa := Lib.hid ((Bf.next F2.out.drew hoya hbya).next hoza hbza)
      have bba : Below w2.heap.size w2 wza := ((Below.refl w2.heap.size w2).drew.trans hbya).trans (hbza.mono hbya.size)
      have N3 := Lib.hid (N2.out.below bba hsa)
      clear hoya hbya hoza hbza K0 K1 K2 bba
      have hsb : wr.heap.size < wza.heap.size := N3.out.lt
      have KS : ∀ X, Below wza.heap.size wza X → X.cell? ⟨wr.heap.size, 7, none⟩ = some (.int .i64 y7) ∧ X.cell? ⟨wr.heap.size, 8, none⟩ = some (.int .i64 y8) := fun X hb => ⟨((N3.out.below hb hsb).cell 7).trans rfl, ((N3.out.below hb hsb).cell 8).trans rfl⟩
      have K0 := Lib.hid (KS _ (Below.refl wza.heap.size wza).drew)
      have K1 := Lib.hid (fun X (hb : Below wza.drew.heap.size wza.drew X) => KS X ((Below.refl wza.heap.size wza).drew.trans hb))
      have K2 := Lib.hid (fun X Y (hb : Below wza.drew.heap.size wza.drew X) (hb2 : Below X.heap.size X Y) => KS Y (((Below.refl wza.heap.size wza).drew.trans hb).trans (hb2.mono hb.size)))
      clear KS
      go_wp2_with fail
      go_region_held3 (fun w' => w'.cell? ⟨wr.heap.size, 7, none⟩ = some (.int .i64 y7) ∧ w'.cell? ⟨wr.heap.size, 8, none⟩ = some (.int .i64 y8)) (first
         | (with_reducible exact K2.out _ _ hbyb hbzb)
         | (with_reducible exact K1.out _ hbyb)
         | (with_reducible exact K0.out)
         | fail)
        (first
         | (go_at_call 68; refine (rsign_any z1b _ y8 _ (by exact hoyb.bs) OK8.out.1 OK8.out.2 (by have := HB.out; (try simp only [List.length_append, List.length_cons, List.length_nil] at this); (try simp only [List.length_append, List.length_cons, List.length_nil]); omega)).mono ?_; rintro e wzb ⟨z2b, rfl, hozb, hbzb⟩)
         | (go_at_call 68; refine (rsign_any z2a (xs ++ nb r.length ++ (r.take k).flatMap (fB stepK) ++ [y0, y1, y2, y3, y4] ++ sb y5 ++ sb y6) y7 _ (by exact FEa.out.own.bs) OK7.out.1 OK7.out.2 (by have := HB.out; (try simp only [List.length_append, List.length_cons, List.length_nil] at this); (try simp only [List.length_append, List.length_cons, List.length_nil]); omega)).mono ?_; rintro e wyb ⟨z1b, rfl, hoyb, hbyb⟩))
      have FEb := Lib.hid ((Bf.next FEa.out.drew hoyb hbyb).next hozb hbzb)
      have bbb : Below wza.heap.size wza wzb := ((Below.refl wza.heap.size wza).drew.trans hbyb).trans (hbzb.mono hbyb.size)
      have N4 := N3.out.below bbb hsb
      have p9 := N4.cell 9
      simp only [List.getElem?_toArray, List.getElem?_cons_zero, List.getElem?_cons_succ] at p9
      clear hoyb hbyb hozb hbzb K0 K1 K2 bbb N4
      go_wp2_with fail
      refine (rnum_any z2b (xs ++ nb r.length ++ (r.take k).flatMap (fB stepK) ++ [y0, y1, y2, y3, y4] ++ sb y5 ++ sb y6 ++ sb y7 ++ sb y8) m9 _ FEb.out.own.bs HY9.out (by have := HB.out; (try simp only [List.length_append, List.length_cons, List.length_nil] at this); (try simp only [List.length_append, List.length_cons, List.length_nil]); omega)).mono ?_
      rintro e w9 ⟨u9, rfl, ho, hb⟩
      have FE := Lib.hid (FEb.out.next ho hb)
      clear ho hb p9
      go_wp2
      go_roundg (r.length - (k + 1))
      case measure => have := GK.out; omega
      case rel =>
        refine ⟨k + 1, by omega, rfl, by go_num, ?_⟩
        rw [flat_snoc (fB stepK) r k hkn, Q.out, HFL.out]
        have := FE.out
        simpa only [List.append_nil, List.append_assoc, List.cons_append, List.nil_append] using this
    · obtain rfl : k = r.length := by omega
      have HE := Lib.hid (show Bf W.heap.size W wr _ (xs ++ nb r.length ++ r.flatMap (fB stepK)) from by have := HF.out; rwa [List.take_length] at this)
      clear HF
      go_wp2
      go_ret
      refine ⟨_, rfl, ?_, BW.out.trans (HE.out.bel.mono (by omega))⟩
      have := HE.out.own.le (B' := w.heap.size) (by omega)
      simp only [List.append_assoc] at this
      exact this
set_option maxHeartbeats 4000000 in
theorem rputcmd_any (v : Value) (r : List (List Int)) (hin : ∀ q ∈ r, fok stepK q) (w : World) (hv : Steps w v r) (hg : r.length ≤ 1000000) :
    Calls Tryz.prog 29 #[.agg #[v]] w fun e w' => ∃ v', e = .returned (.tuple #[v', .int .i64 (cmdR r).2]) ∧ Bo w.heap.size w' v' (cmdR r).1 ∧ Below w.heap.size w w' := by
  have HI := Lib.hid hin
  have HV := Lib.hid (show Steps _ v r from Rd.alloc hv (.cells #[v] 28))
  obtain ⟨E0, q0, rfl, -⟩ := id hv
  clear hin hv
  by_cases t0 : r.length ≤ 8
  rotate_left
  · have t0' : (8 : Int) < (r.length : Int) := by omega
    have HR := Lib.hid (show cmdR r = ([], 3) from if_neg t0)
    rw [HR.out]
    go_enter Tryz.func29, Tryz.ntmps29
    go_wp2
    refine bodyPost_ret (results_tmp2 rfl _ _ _) rfl ?_
    exact ⟨_, rfl, Bo.nil_ _ _, below_alloc_ _ _⟩
  have t0' : ¬ (8 : Int) < (r.length : Int) := by omega
  have hl : ([] : List Int).length + (cmdB r).length ≤ 70368744177664 := by
    have := list_len stepK r 10 rfl t0 (by decide) HI.out
    simp only [List.length_nil, cmdB, stepsB] at this ⊢
    omega
  have HL := Lib.hid hl
  have HR := Lib.hid (show cmdR r = (cmdB r, 0) from if_pos t0)
  rw [HR.out]
  clear hl
  go_enter Tryz.func29, Tryz.ntmps29
  go_wp2_with fail
  refine (rcmd_any _ _ [] r HI.out _ (Bs.nils _ _ _) HV.out (by omega) HL.out).mono ?_
  rintro e w1 ⟨v1, rfl, ho, hb⟩
  have HO := Lib.hid ho
  have HB := Lib.hid hb
  clear ho hb
  go_wp2
  refine bodyPost_ret (results_tmp2 rfl _ _ _) rfl ?_
  exact ⟨_, rfl, HO.out.le (by simp), (below_alloc_ _ _).trans (HB.out.mono (by simp))⟩
end Go.Proofs.YthjdkjinkmdclaaGreat

/- The document's bytes of an entry. -/
namespace Go.Proofs.YthjdkjinkmdclaaGreat
open Go.RowKit

set_option maxHeartbeats 8000000 in
set_option maxRecDepth 100000 in
theorem rentry_any (u v : Value) (xs : List Int) (x0 x1 x3 : Nat) (x2 : Int) (r : List (List Int)) (h0 : x0 < 18446744073709551616) (h1 : x1 < 18446744073709551616) (h3 : x3 < 18446744073709551616) (hin : ∀ q ∈ r, fok stepK q) (w : World) (hu : Bs w u xs) (hv : Steps w v r) (hg : r.length ≤ 1000000) (hl : xs.length + (entryB ([(x0 : Int), x1, x2, x3], r)).length ≤ 70368744177664) :
    Calls Tryz.prog 47 #[u, .agg #[.int .u64 x0, .int .u64 x1, .int .u8 x2, .int .u64 x3, v]] w fun e w' => ∃ v', e = .returned v' ∧ Bo w.heap.size w' v' (xs ++ entryB ([(x0 : Int), x1, x2, x3], r)) ∧ Below w.heap.size w w' := by
  have k0 := Blk.new w 63 #[.int .u64 x0, .int .u64 x1, .int .u8 x2, .int .u64 x3, v]
  have bw := below_alloc_ w (.cells #[.int .u64 x0, .int .u64 x1, .int .u8 x2, .int .u64 x3, v] 63)
  have K := Lib.hid k0
  have HU := Lib.hid (Bs.below hu bw)
  have V := Lib.hid (show Steps _ v r from Rd.below hv bw)
  have I := Lib.hid hin
  have BW := Lib.hid bw
  have H0 := Lib.hid h0
  have H1 := Lib.hid h1
  have H3 := Lib.hid h3
  have hfl : entryB ([(x0 : Int), x1, x2, x3], r) = nb x0 ++ (nb x1 ++ ([x2] ++ (nb x3 ++ []))) ++ cmdB r := rfl
  have HFL := Lib.hid hfl
  rw [hfl] at hl ⊢
  simp only [List.length_append, List.length_cons, List.length_nil] at hl
  have HL := Lib.hid hl
  obtain ⟨A0, q0, rfl, -⟩ := id hv
  have hW1 : w.heap.size < (w.alloc (.cells #[.int .u64 x0, .int .u64 x1, .int .u8 x2, .int .u64 x3, .slice A0 r.length q0] 63)).heap.size := by simp
  have ku := HU.out
  obtain ⟨W, hW⟩ : ∃ W, W = w.alloc (.cells #[.int .u64 x0, .int .u64 x1, .int .u8 x2, .int .u64 x3, .slice A0 r.length q0] 63) := ⟨_, rfl⟩
  have KS : ∀ X, Below W.heap.size W X → (X.cell? ⟨w.heap.size, 0, none⟩ = some (.int .u64 x0) ∧ X.cell? ⟨w.heap.size, 1, none⟩ = some (.int .u64 x1)) ∧ (X.cell? ⟨w.heap.size, 3, none⟩ = some (.int .u64 x3) ∧ X.cell? ⟨w.heap.size, 4, none⟩ = some (.slice A0 r.length q0)) ∧ X.cell? ⟨w.heap.size, 2, none⟩ = some (.int .u8 x2) := by
    rw [hW]
    exact fun X hb => ⟨⟨((K.out.below hb hW1).cell 0).trans rfl, ((K.out.below hb hW1).cell 1).trans rfl⟩, ⟨((K.out.below hb hW1).cell 3).trans rfl, ((K.out.below hb hW1).cell 4).trans rfl⟩, ((K.out.below hb hW1).cell 2).trans rfl⟩
  have F0 := Lib.hid (show Below W.heap.size W W.drew from (Below.refl W.heap.size W).drew)
  have HKS := Lib.hid KS
  subst hW
  clear k0 bw hu hv hin hl h0 h1 h3 hfl KS ku
  go_enter Tryz.func47, Tryz.ntmps47
  go_wp2_with fail
  go_region_held3 (fun w' => w'.cell? ⟨w.heap.size, 0, none⟩ = some (.int .u64 x0) ∧ w'.cell? ⟨w.heap.size, 1, none⟩ = some (.int .u64 x1)) (first
     | (with_reducible exact (HKS.out _ B2.out).1)
     | (with_reducible exact (HKS.out _ B1.out).1)
     | (with_reducible exact (HKS.out _ F0.out).1)
     | fail)
    (first
     | (go_at_call 26; refine (rnum_any u1 (xs ++ nb x0) x1 _ (by exact G1.out.own.bs) H1.out (by have := HL.out; (try simp only [List.length_append, List.length_cons, List.length_nil] at this); (try simp only [List.length_append]); omega)).mono ?_; rintro e w2 ⟨u2, rfl, ho2, hb2⟩; have B2 := Lib.hid (B1.out.trans (hb2.mono B1.out.size)); have G2 := Lib.hid (G1.out.next ho2 hb2); clear ho2 hb2)
     | (go_at_call 26; refine (rnum_any u xs x0 _ (by exact HU.out) H0.out (by have := HL.out; (try simp only [List.length_append, List.length_cons, List.length_nil] at this); (try simp only [List.length_append, List.length_cons, List.length_nil]); omega)).mono ?_; rintro e w1 ⟨u1, rfl, ho1, hb1⟩; have B1 := Lib.hid (F0.out.trans (hb1.mono F0.out.size)); have G1 := Lib.hid (show Bf (w.alloc (.cells #[.int .u64 x0, .int .u64 x1, .int .u8 x2, .int .u64 x3, .slice A0 r.length q0] 63)).heap.size (w.alloc (.cells #[.int .u64 x0, .int .u64 x1, .int .u8 x2, .int .u64 x3, .slice A0 r.length q0] 63)) w1 u1 _ from ⟨ho1, F0.out.trans hb1, hb1.size⟩); clear ho1 hb1))
  generalize w.alloc (.cells #[.int .u64 x0, .int .u64 x1, .int .u8 x2, .int .u64 x3, .slice A0 r.length q0] 63) = W at *
  have s2 := (HKS.out _ B2.out).2.2
  go_wp2_with (at_builtin; go_must (refine wpList_bf_byte rfl _ _ 25 rfl Tryz.underlying25 rfl G2.out rfl (by have := HL.out; (try simp only [List.length_append, List.length_cons, List.length_nil] at this); (try simp only [List.length_append]); omega) ?_); intro v3 w3 hB3)
  have G3 := Lib.hid hB3
  have B3 := Lib.hid G3.out.bel.drew
  clear hB3 s2
  go_region_held3 (fun w' => w'.cell? ⟨w.heap.size, 3, none⟩ = some (.int .u64 x3) ∧ w'.cell? ⟨w.heap.size, 4, none⟩ = some (.slice A0 r.length q0)) (first
     | (with_reducible exact (HKS.out _ G5.out.bel).2.1)
     | (with_reducible exact (HKS.out _ G4.out.bel).2.1)
     | (with_reducible exact (HKS.out _ B3.out).2.1)
     | fail)
    (first
     | (go_at_call 48; refine (rcmd_any u4 _ (xs ++ nb x0 ++ nb x1 ++ [x2] ++ nb x3) r I.out _ (by exact G4.out.own.bs) (show Steps _ _ r from Rd.below V.out (G4.out.bel.mono (Nat.le_refl _))) (by omega) (by have := HL.out; (try simp only [List.length_append, List.length_cons, List.length_nil] at this); (try simp only [List.length_append, List.length_cons, List.length_nil]); omega)).mono ?_; rintro e w5 ⟨u5, rfl, ho5, hb5⟩; have G5 := Lib.hid (G4.out.next ho5 hb5); clear ho5 hb5)
     | (go_at_call 26; refine (rnum_any v3 (xs ++ nb x0 ++ nb x1 ++ [x2]) x3 _ (by exact G3.out.own.bs) H3.out (by have := HL.out; (try simp only [List.length_append, List.length_cons, List.length_nil] at this); (try simp only [List.length_append, List.length_cons, List.length_nil]); omega)).mono ?_; rintro e w4 ⟨u4, rfl, ho4, hb4⟩; have G4 := Lib.hid (G3.out.drew.next ho4 hb4); clear ho4 hb4))
  go_wp2
  go_ret
  refine ⟨u5, rfl, ?_, BW.out.trans (G5.out.bel.mono (by omega))⟩
  have := G5.out.own.le (B' := w.heap.size) (by omega)
  simpa only [List.append_assoc, List.append_nil, List.cons_append, List.nil_append] using this
set_option maxHeartbeats 4000000 in
theorem rputentry_any (x0 x1 x2 x3 : Int) (v : Value) (r : List (List Int)) (h0 : fok1 .u64 x0) (h1 : fok1 .u64 x1) (h2 : fok1 .u8 x2) (h3 : fok1 .u64 x3) (hin : ∀ q ∈ r, fok stepK q) (w : World) (hv : Steps w v r) (hg : r.length ≤ 1000000) :
    Calls Tryz.prog 28 #[.agg #[.int .u64 x0, .int .u64 x1, .int .u8 x2, .int .u64 x3, v]] w fun e w' => ∃ v', e = .returned (.tuple #[v', .int .i64 (entryR ([x0, x1, x2, x3], r)).2]) ∧ Bo w.heap.size w' v' (entryR ([x0, x1, x2, x3], r)).1 ∧ Below w.heap.size w w' := by
  have HE := Lib.hid (show fok entryK [x0, x1, x2, x3] from ⟨h0, h1, h2, h3, rfl⟩)
  obtain ⟨x0, rfl⟩ : ∃ m : Nat, x0 = (m : Int) := ⟨x0.toNat, by have := h0.1; omega⟩
  obtain ⟨x1, rfl⟩ : ∃ m : Nat, x1 = (m : Int) := ⟨x1.toNat, by have := h1.1; omega⟩
  obtain ⟨x3, rfl⟩ : ∃ m : Nat, x3 = (m : Int) := ⟨x3.toNat, by have := h3.1; omega⟩
  have H0 := Lib.hid (show x0 < 18446744073709551616 by have := h0.2; omega)
  have H1 := Lib.hid (show x1 < 18446744073709551616 by have := h1.2; omega)
  have H3 := Lib.hid (show x3 < 18446744073709551616 by have := h3.2; omega)
  have HI := Lib.hid hin
  have HV := Lib.hid (show Steps _ v r from Rd.alloc hv (.cells #[.int .u64 x0, .int .u64 x1, .int .u8 x2, .int .u64 x3, v] 63))
  obtain ⟨E0, q0, rfl, -⟩ := id hv
  clear hin hv h0 h1 h2 h3
  by_cases t0 : r.length ≤ 8
  rotate_left
  · have t0' : (8 : Int) < (r.length : Int) := by omega
    have HR := Lib.hid (show entryR ([x0, x1, x2, x3], r) = ([], 3) from if_neg t0)
    rw [HR.out]
    go_enter Tryz.func28, Tryz.ntmps28
    go_wp2
    refine bodyPost_ret (results_tmp2 rfl _ _ _) rfl ?_
    exact ⟨_, rfl, Bo.nil_ _ _, below_alloc_ _ _⟩
  have t0' : ¬ (8 : Int) < (r.length : Int) := by omega
  have hl : ([] : List Int).length + (entryB ([x0, x1, x2, x3], r)).length ≤ 70368744177664 := by
    have h1 := list_len stepK r 10 rfl t0 (by decide) HI.out
    have h2 := fB_len entryK _ HE.out
    simp only [entryB, entryK, List.length_nil, List.length_append, List.length_cons, stepsB] at h1 h2 ⊢
    omega
  have HL := Lib.hid hl
  have HR := Lib.hid (show entryR ([x0, x1, x2, x3], r) = (entryB ([x0, x1, x2, x3], r), 0) from if_pos t0)
  rw [HR.out]
  clear hl
  go_enter Tryz.func28, Tryz.ntmps28
  go_wp2_with fail
  refine (rentry_any _ _ [] x0 x1 x3 x2 r H0.out H1.out H3.out HI.out _ (Bs.nils _ _ _) HV.out (by omega) HL.out).mono ?_
  rintro e w1 ⟨v1, rfl, ho, hb⟩
  have HO := Lib.hid ho
  have HB := Lib.hid hb
  clear ho hb
  go_wp2
  refine bodyPost_ret (results_tmp2 rfl _ _ _) rfl ?_
  exact ⟨_, rfl, HO.out.le (by simp), (below_alloc_ _ _).trans (HB.out.mono (by simp))⟩
end Go.Proofs.YthjdkjinkmdclaaGreat

/- The document's bytes of a reply. -/
namespace Go.Proofs.YthjdkjinkmdclaaGreat
open Go.RowKit

set_option maxHeartbeats 8000000 in
set_option maxRecDepth 100000 in
theorem rreply_any (u v : Value) (xs : List Int) (E F : Int) (r : List (List Int)) (hE : in64 E) (hF : in64 F) (hin : ∀ q ∈ r, fok gotK q) (w : World) (hu : Bs w u xs) (hv : Gots w v r) (hg : r.length ≤ 1000000) (hl : xs.length + (replyB ([E, F], r)).length ≤ 70368744177664) :
    Calls Tryz.prog 49 #[u, .agg #[.int .i64 E, .int .i64 F, v]] w fun e w' => ∃ v', e = .returned v' ∧ Bo w.heap.size w' v' (xs ++ replyB ([E, F], r)) ∧ Below w.heap.size w w' := by
  have k0 := Blk.new w 34 #[.int .i64 E, .int .i64 F, v]
  have bw := below_alloc_ w (.cells #[.int .i64 E, .int .i64 F, v] 34)
  have K := Lib.hid k0
  have HU := Lib.hid (Bs.below hu bw)
  have V := Lib.hid (show Gots _ v r from Rd.below hv bw)
  have I := Lib.hid hin
  have BW := Lib.hid bw
  have OKE := Lib.hid hE
  have OKF := Lib.hid hF
  have hfl0 : replyB ([E, F], r) = (sb E ++ (sb F ++ [])) ++ (nb r.length ++ r.flatMap (fB gotK)) := rfl
  rw [hfl0] at hl ⊢
  simp only [List.length_append, List.length_nil] at hl
  have HL := Lib.hid hl
  obtain ⟨A0, q0, rfl, -⟩ := id hv
  have i0 : (r.length : Int) ≤ 1000000 := by omega
  have hW1 : w.heap.size < (w.alloc (.cells #[.int .i64 E, .int .i64 F, .slice A0 r.length q0] 34)).heap.size := by simp
  have HF0 := Lib.hid (show Below (w.alloc (.cells #[.int .i64 E, .int .i64 F, .slice A0 r.length q0] 34)).heap.size (w.alloc (.cells #[.int .i64 E, .int .i64 F, .slice A0 r.length q0] 34)) _ from (Below.refl _ _).drew)
  have KS : ∀ X, Below (w.alloc (.cells #[.int .i64 E, .int .i64 F, .slice A0 r.length q0] 34)).heap.size (w.alloc (.cells #[.int .i64 E, .int .i64 F, .slice A0 r.length q0] 34)) X → X.cell? ⟨w.heap.size, 0, none⟩ = some (.int .i64 E) ∧ X.cell? ⟨w.heap.size, 1, none⟩ = some (.int .i64 F) := fun X hb => ⟨((K.out.below hb hW1).cell 0).trans rfl, ((K.out.below hb hW1).cell 1).trans rfl⟩
  have HKS := Lib.hid KS
  clear k0 bw hu hv hin hl hE hF hfl0 KS
  go_enter Tryz.func49, Tryz.ntmps49
  go_wp2_with fail
  go_region_held3 (fun w' => w'.cell? ⟨w.heap.size, 0, none⟩ = some (.int .i64 E) ∧ w'.cell? ⟨w.heap.size, 1, none⟩ = some (.int .i64 F)) (first
     | (with_reducible exact HKS.out _ G2.out.bel)
     | (with_reducible exact HKS.out _ G1.out.bel)
     | (with_reducible exact HKS.out _ HF0.out)
     | fail)
    (first
     | (go_at_call 68; refine (rsign_any u1 (xs ++ sb E) F _ (by exact G1.out.own.bs) OKF.out.1 OKF.out.2 (by have := HL.out; (try simp only [List.length_append, List.length_cons, List.length_nil] at this); (try simp only [List.length_append]); omega)).mono ?_; rintro e w2 ⟨u2, rfl, ho2, hb2⟩; have G2 := Lib.hid (G1.out.next ho2 hb2); clear ho2 hb2)
     | (go_at_call 68; refine (rsign_any u xs E _ (by exact HU.out) OKE.out.1 OKE.out.2 (by have := HL.out; (try simp only [List.length_append, List.length_cons, List.length_nil] at this); (try simp only [List.length_append, List.length_cons, List.length_nil]); omega)).mono ?_; rintro e w1 ⟨u1, rfl, ho1, hb1⟩; have G1 := Lib.hid (show Bf (w.alloc (.cells #[.int .i64 E, .int .i64 F, .slice A0 r.length q0] 34)).heap.size (w.alloc (.cells #[.int .i64 E, .int .i64 F, .slice A0 r.length q0] 34)) w1 u1 _ from ⟨ho1, HF0.out.trans hb1, hb1.size⟩); clear ho1 hb1))
  generalize w.alloc (.cells #[.int .i64 E, .int .i64 F, .slice A0 r.length q0] 34) = W at *
  have k2 := K.out.below G2.out.bel K.out.lt
  have d2 := k2.cell 2
  simp only [List.getElem?_toArray, List.getElem?_cons_zero, List.getElem?_cons_succ] at d2
  clear k2
  go_wp2_with fail
  refine (rnum_any u2 (xs ++ sb E ++ sb F) r.length _ (by exact G2.out.own.bs) (by omega) (by have := HL.out; (try simp only [List.length_append, List.length_cons, List.length_nil] at this); (try simp only [List.length_append]); omega)).mono ?_
  rintro e w3 ⟨u3, rfl, ho, hb⟩
  have F1 := Lib.hid (G2.out.next ho hb)
  clear ho hb d2
  go_wp2_with fail
  go_loopg [0, 5] r.length (fun g c0 c5 wr => ∃ k : Nat, k ≤ r.length ∧ g = r.length - k ∧ c5 = .int .i64 k ∧ Bf W.heap.size W wr c0 (xs ++ sb E ++ sb F ++ nb r.length ++ (r.take k).flatMap (fB gotK)))
  case atStart => exact ⟨0, Nat.zero_le _, by omega, rfl, by simpa using F1.out⟩
  case round =>
    obtain ⟨k, hk, hgk, rfl, hF⟩ := hrel
    have GK := Lib.hid hgk
    have HF := Lib.hid hF
    have k1 := K.out.below hF.bel K.out.lt
    have d2 := k1.cell 2
    simp at d2
    clear hgk hF k1
    by_cases hkn : k < r.length
    · skip
      obtain ⟨g, o, c', hA, hc', hgl, hcell⟩ := Rd.at_ fcgot_len (Rd.below V.out (HF.out.bel.mono (Nat.le_refl _))) (by omega)
      obtain ⟨y0, y1, hq, o0, o1⟩ := got_fok (I.out _ (List.getElem_mem hkn))
      have x0' : wr.cell? ⟨g, o + k * 2, none⟩ = some (.int .i64 y0) := by have := hcell k hkn 0 (.int .i64 y0) (by omega) (by rw [hq]; rfl); simpa using this
      have x1' : wr.cell? ⟨g, o + k * 2 + 1, none⟩ = some (.int .i64 y1) := by have := hcell k hkn 1 (.int .i64 y1) (by omega) (by rw [hq]; rfl); simpa using this
      injection hA with e1 e2 e3
      subst e1; subst e3
      have Q := Lib.hid hq
      have OK0 := Lib.hid o0
      have OK1 := Lib.hid o1
      clear hcell e2 hq o0 o1
      have hb : (xs ++ sb E ++ sb F ++ nb r.length ++ (r.take k).flatMap (fB gotK)).length + (fB gotK [y0, y1]).length ≤ 70368744177664 := by
        have h1 := HL.out
        have h2 := flat_len_le (fB gotK) r (k + 1)
        rw [flat_snoc (fB gotK) r k hkn, Q.out] at h2
        simp only [List.length_append] at h1 h2 ⊢
        omega
      have hfl : fB gotK [y0, y1] = (sb y0 ++ (sb y1 ++ [])) := rfl
      rw [hfl] at hb
      have HFL := Lib.hid hfl
      clear hfl
      simp only [List.length_append, List.length_nil] at hb
      have HB := Lib.hid hb
      clear hb
      have hwb : w.heap.size < wr.heap.size := by have := HF.out.le; omega
      have KS : ∀ X, Below wr.heap.size wr X → X.cell? ⟨w.heap.size, 2, none⟩ = some (.slice (some ⟨g, o, none⟩) r.length q0) ∧ X.cell? ⟨g, o + k * 2, none⟩ = some (.int .i64 y0) ∧ X.cell? ⟨g, o + k * 2 + 1, none⟩ = some (.int .i64 y1) :=
        fun X hb => ⟨cell_on hb hwb d2, cell_on hb (Nat.lt_of_lt_of_le hgl (Nat.le_refl _)) x0', cell_on hb (Nat.lt_of_lt_of_le hgl (Nat.le_refl _)) x1'⟩
      have K0 := Lib.hid (KS _ (Below.refl wr.heap.size wr).drew)
      have K1 := Lib.hid (fun X (hb : Below wr.drew.heap.size wr.drew X) => KS X ((Below.refl wr.heap.size wr).drew.trans hb))
      have K2 := Lib.hid (fun X Y (hb : Below wr.drew.heap.size wr.drew X) (hb2 : Below X.heap.size X Y) => KS Y (((Below.refl wr.heap.size wr).drew.trans hb).trans (hb2.mono hb.size)))
      have h2k : k * 2 + 1 + 1 ≤ r.length * 2 := by omega
      clear KS
      go_wp2_with fail
      go_region_held3 (fun w' => w'.cell? ⟨w.heap.size, 2, none⟩ = some (.slice (some ⟨g, o, none⟩) r.length q0) ∧ w'.cell? ⟨g, o + k * 2, none⟩ = some (.int .i64 y0) ∧ w'.cell? ⟨g, o + k * 2 + 1, none⟩ = some (.int .i64 y1)) (first
         | (with_reducible exact K2.out _ _ hby hbz)
         | (with_reducible exact K1.out _ hby)
         | (with_reducible exact K0.out)
         | fail)
        (first
         | (go_at_call 68; refine (rsign_any z1 _ y1 _ (by exact hoy.bs) OK1.out.1 OK1.out.2 (by have := HB.out; (try simp only [List.length_append, List.length_cons, List.length_nil] at this); (try simp only [List.length_append]); omega)).mono ?_; rintro e wz ⟨z2, rfl, hoz, hbz⟩)
         | (go_at_call 68; refine (rsign_any _ (xs ++ sb E ++ sb F ++ nb r.length ++ (r.take k).flatMap (fB gotK)) y0 _ (by exact HF.out.own.bs) OK0.out.1 OK0.out.2 (by have := HB.out; (try simp only [List.length_append, List.length_cons, List.length_nil] at this); (try simp only [List.length_append]); omega)).mono ?_; rintro e wy ⟨z1, rfl, hoy, hby⟩))
      have FE := Lib.hid ((Bf.next HF.out.drew hoy hby).next hoz hbz)
      clear hoy hby hoz hbz K0 K1 K2
      go_wp2
      go_roundg (r.length - (k + 1))
      case measure => have := GK.out; omega
      case rel =>
        refine ⟨k + 1, by omega, rfl, by go_num, ?_⟩
        rw [flat_snoc (fB gotK) r k hkn, Q.out, HFL.out]
        have := FE.out
        simpa only [List.append_nil, List.append_assoc, List.cons_append, List.nil_append] using this
    · obtain rfl : k = r.length := by omega
      have HE := Lib.hid (show Bf W.heap.size W wr _ (xs ++ sb E ++ sb F ++ nb r.length ++ r.flatMap (fB gotK)) from by have := HF.out; rwa [List.take_length] at this)
      clear HF
      go_wp2
      go_ret
      refine ⟨_, rfl, ?_, BW.out.trans (HE.out.bel.mono (by omega))⟩
      have := HE.out.own.le (B' := w.heap.size) (by omega)
      simp only [List.append_assoc, List.append_nil] at this ⊢
      exact this
set_option maxHeartbeats 4000000 in
theorem rputreply_any (E F : Int) (v : Value) (r : List (List Int)) (hE : fok1 .i64 E) (hF : fok1 .i64 F) (hin : ∀ q ∈ r, fok gotK q) (w : World) (hv : Gots w v r) (hg : r.length ≤ 1000000) :
    Calls Tryz.prog 30 #[.agg #[.int .i64 E, .int .i64 F, v]] w fun e w' => ∃ v', e = .returned (.tuple #[v', .int .i64 (replyR ([E, F], r)).2]) ∧ Bo w.heap.size w' v' (replyR ([E, F], r)).1 ∧ Below w.heap.size w w' := by
  have HE := Lib.hid (show fok replyK [E, F] from ⟨hE, hF, rfl⟩)
  have H0 := Lib.hid hE
  have H1 := Lib.hid hF
  have HI := Lib.hid hin
  have HV := Lib.hid (show Gots _ v r from Rd.alloc hv (.cells #[.int .i64 E, .int .i64 F, v] 34))
  obtain ⟨E0, q0, rfl, -⟩ := id hv
  clear hin hv hE hF
  by_cases t0 : r.length ≤ 8
  rotate_left
  · have t0' : (8 : Int) < (r.length : Int) := by omega
    have HR := Lib.hid (show replyR ([E, F], r) = ([], 3) from if_neg t0)
    rw [HR.out]
    go_enter Tryz.func30, Tryz.ntmps30
    go_wp2
    refine bodyPost_ret (results_tmp2 rfl _ _ _) rfl ?_
    exact ⟨_, rfl, Bo.nil_ _ _, below_alloc_ _ _⟩
  have t0' : ¬ (8 : Int) < (r.length : Int) := by omega
  have hl : ([] : List Int).length + (replyB ([E, F], r)).length ≤ 70368744177664 := by
    have h1 := list_len gotK r 2 rfl t0 (by decide) HI.out
    have h2 := fB_len replyK _ HE.out
    simp only [replyB, replyK, List.length_nil, List.length_append, List.length_cons, gotsB] at h1 h2 ⊢
    omega
  have HL := Lib.hid hl
  have HR := Lib.hid (show replyR ([E, F], r) = (replyB ([E, F], r), 0) from if_pos t0)
  rw [HR.out]
  clear hl
  go_enter Tryz.func30, Tryz.ntmps30
  go_wp2_with fail
  refine (rreply_any _ _ [] E F r H0.out H1.out HI.out _ (Bs.nils _ _ _) HV.out (by omega) HL.out).mono ?_
  rintro e w1 ⟨v1, rfl, ho, hb⟩
  have HO := Lib.hid ho
  have HB := Lib.hid hb
  clear ho hb
  go_wp2
  refine bodyPost_ret (results_tmp2 rfl _ _ _) rfl ?_
  exact ⟨_, rfl, HO.out.le (by simp), (below_alloc_ _ _).trans (HB.out.mono (by simp))⟩
end Go.Proofs.YthjdkjinkmdclaaGreat

/- The document's bytes of a letter. -/
namespace Go.Proofs.YthjdkjinkmdclaaGreat
open Go.RowKit

/-- A letter as the document has it. -/
def letO (L : Lt) (ve vd vs vg : Value) : Array Value :=
  #[.int .i64 L.kind, .int .u8 L.src, .int .u8 L.dst, .int .u64 L.term, .int .u64 L.index, .int .u64 L.mark, .int .u64 L.commit, .bool L.yes, ve, vd, .int .u8 L.cl, .int .u64 L.num, vs, .int .i64 L.e, .int .i64 L.re, .int .i64 L.ra, vg]
theorem Lw.sl {w : World} {L : Lt} {ve vd vs vg : Value} (h : Lw w L ve vd vs vg) : ∃ Ae ce Ad cd As cs Ag cg, ve = .slice Ae L.es.length ce ∧ vd = .slice Ad L.data.length cd ∧ vs = .slice As L.steps.length cs ∧ vg = .slice Ag L.gots.length cg := by
  obtain ⟨ss, -, ⟨Ae, ce, he, -⟩, -⟩ := h.es
  obtain ⟨Ad, cd, hd, -⟩ := h.data
  obtain ⟨As, cs, hs, -⟩ := h.steps
  obtain ⟨Ag, cg, hg, -⟩ := h.gots
  exact ⟨Ae, ce, Ad, cd, As, cs, Ag, cg, he, hd, hs, hg⟩
theorem rnumI_any (v : Value) (xs : List Int) (x : Int) (w : World) (h : Bs w v xs) (hx : fok1 .u64 x) (hl : xs.length ≤ 70368744177664) :
    Calls Tryz.prog 26 #[v, .int .u64 x] w fun e w' => ∃ v', e = .returned v' ∧ Bo w.heap.size w' v' (xs ++ nb x.toNat) ∧ Below w.heap.size w w' := by
  obtain ⟨h1, h2⟩ := toNat_u64 hx
  have := rnum_any v xs x.toNat w h h1 hl
  rw [h2] at this
  exact this
theorem nbI_len {x : Int} (hx : fok1 .u64 x) : (nb x.toNat).length ≤ 10 := nb_ten (toNat_u64 hx).1
/-- What Put answers, by the parts of its kind. -/
theorem putL_of {L : Lt} {ps : List Pc} (h : pcs L.kind = some ps) (h7 : ¬ (L.e < 0 ∧ L.kind = 7)) (hb : (ps.any fun q => (putPc L q).2) = false) :
    putL L = ([L.kind, L.src, L.dst] ++ nb L.term.toNat ++ (ps.flatMap fun q => (putPc L q).1), 0) := by
  unfold putL
  rw [h]
  simp only [decide_eq_false h7, putPcs_eq, List.any_append, hb]
  simp [heads, putPc]
theorem putL_bad {L : Lt} {ps : List Pc} (h : pcs L.kind = some ps) (hb : (L.e < 0 ∧ L.kind = 7) ∨ (ps.any fun q => (putPc L q).2) = true) : putL L = ([], 1) := by
  unfold putL
  rw [h]
  simp only [putPcs_eq, List.any_append]
  rw [if_pos]
  rcases hb with hb | hb
  · simp [hb]
  · simp [hb]
theorem rflag_any (y : Bool) (w : World) : Calls Tryz.prog 27 #[.bool y] w fun e w' => e = .returned (.int .u8 (if y then 1 else 0)) ∧ w = w' := by
  cases y
  · go_enter Tryz.func27, Tryz.ntmps27
    go_wp2
    go_ret
    exact ⟨rfl, rfl⟩
  · go_enter Tryz.func27, Tryz.ntmps27
    go_wp2
    go_ret
    exact ⟨rfl, rfl⟩
/-- What is owned goes on where another block grows. -/
theorem Ow.beside {B size n : Nat} {e : TypeId} {w w' : World} {v : Value} {xs : List Value} {r : Option Nat} (h : Ow B w e size v n xs) (hg : w.grownBy w' r) (hr : ∀ k, r = some k → k < B) : Ow B w' e size v n xs := by
  rcases h with h | ⟨b, c, cur, rfl, hB, hb, h⟩
  · exact .inl h
  · exact .inr ⟨b, c, cur, rfl, hB, hb.grown hg (fun he => by have := hr _ he.symm; omega), h⟩
set_option maxHeartbeats 1000000 in
set_option maxRecDepth 100000 in
theorem rput_0 {w : World} {L : Lt} {ve vd vs vg : Value} (hw : Lw w L ve vd vs vg) (hk : pcs L.kind = none) :
    Calls Tryz.prog 9 #[.agg (letO L ve vd vs vg)] w fun e w' => ∃ v', e = .returned (.tuple #[v', .int .i64 (putL L).2]) ∧ Bo w.heap.size w' v' (putL L).1 ∧ Below w.heap.size w w' := by
  obtain ⟨Ae, ce, Ad, cd, As, cs, Ag, cg, rfl, rfl, rfl, rfl⟩ := hw.sl
  obtain ⟨ne, hne⟩ : ∃ n, n = L.es.length := ⟨_, rfl⟩
  obtain ⟨nd, hnd⟩ : ∃ n, n = L.data.length := ⟨_, rfl⟩
  obtain ⟨ns, hns⟩ : ∃ n, n = L.steps.length := ⟨_, rfl⟩
  obtain ⟨ng, hng⟩ : ∃ n, n = L.gots.length := ⟨_, rfl⟩
  rw [← hne, ← hnd, ← hns, ← hng] at hw ⊢
  have NE := Lib.hid hne
  have ND := Lib.hid hnd
  have NS := Lib.hid hns
  have NG := Lib.hid hng
  have b0 := below_alloc_ w (.cells (letO L (.slice Ae ne ce) (.slice Ad nd cd) (.slice As ns cs) (.slice Ag ng cg)) 44)
  have HW := Lib.hid (hw.below b0)
  have K := Lib.hid (Blk.new w 44 (letO L (.slice Ae ne ce) (.slice Ad nd cd) (.slice As ns cs) (.slice Ag ng cg)))
  have B0 := Lib.hid b0
  have OK := Lib.hid hw.ok
  have HD0 := Lib.hid hw.data
  clear hw b0 hne hnd hns hng
  have x1 : (L.kind == 1) = false := beq_eq_false_iff_ne.2 (fun e => by rw [e] at hk; cases hk)
  have x2 : (L.kind == 2) = false := beq_eq_false_iff_ne.2 (fun e => by rw [e] at hk; cases hk)
  have x3 : (L.kind == 3) = false := beq_eq_false_iff_ne.2 (fun e => by rw [e] at hk; cases hk)
  have x4 : (L.kind == 4) = false := beq_eq_false_iff_ne.2 (fun e => by rw [e] at hk; cases hk)
  have x5 : (L.kind == 5) = false := beq_eq_false_iff_ne.2 (fun e => by rw [e] at hk; cases hk)
  have x6 : (L.kind == 6) = false := beq_eq_false_iff_ne.2 (fun e => by rw [e] at hk; cases hk)
  have x7 : (L.kind == 7) = false := beq_eq_false_iff_ne.2 (fun e => by rw [e] at hk; cases hk)
  have PL := Lib.hid (show putL L = ([], 1) by unfold putL; rw [hk])
  have kb := OK.out.kind
  have hwk : IntKind.u8.wrap L.kind = L.kind := by rw [IntKind.wrap_u8]; unfold byt at kb; omega
  obtain ⟨kd, hkd⟩ : ∃ k, k = L.kind := ⟨_, rfl⟩
  have KD := Lib.hid hkd
  rw [← hkd] at x1 x2 x3 x4 x5 x6 x7 hwk
  clear kb
  simp only [letO, ← hkd] at K B0 HW ⊢
  clear hkd
  go_enter Tryz.func9, Tryz.ntmps9
  go_upto_region 1 with fail
  obtain ⟨w0, hw0⟩ : ∃ w0, w0 = w.alloc (.cells #[.int .i64 kd, .int .u8 L.src, .int .u8 L.dst, .int .u64 L.term, .int .u64 L.index, .int .u64 L.mark, .int .u64 L.commit, .bool L.yes, .slice Ae ne ce, .slice Ad nd cd, .int .u8 L.cl, .int .u64 L.num, .slice As ns cs, .int .i64 L.e, .int .i64 L.re, .int .i64 L.ra, .slice Ag ng cg] 44) := ⟨_, rfl⟩
  rw [← hw0] at K B0 HW ⊢
  have hsz : w.heap.size + 1 ≤ w0.heap.size := by rw [hw0]; simp
  clear hw0
  have c0 := K.out.cell 0
  have c1 := K.out.cell 1
  have c2 := K.out.cell 2
  simp only [List.getElem?_toArray, List.getElem?_cons_zero, List.getElem?_cons_succ] at c0 c1 c2
  have b1 := below_alloc_ w0 (.cells #[.int .u8 kd, .int .u8 L.src, .int .u8 L.dst] 5)
  have hx := Bs.lits w0 [kd, L.src, L.dst]
  have k1 := K.out.below b1 K.out.lt
  have d3 := k1.cell 3
  simp only [List.getElem?_toArray, List.getElem?_cons_zero, List.getElem?_cons_succ] at d3
  have Z1 := Lib.hid (show Bs (w0.alloc (.cells #[.int .u8 kd, .int .u8 L.src, .int .u8 L.dst] 5)) (.slice (some ⟨w0.heap.size, 0, none⟩) 3 3) [kd, L.src, L.dst] from hx)
  have K1 := Lib.hid k1
  have W1 := Lib.hid (HW.out.below b1)
  have B1 := Lib.hid (B0.out.trans (b1.mono B0.out.size))
  have SZ := Lib.hid (Nat.le_trans hsz b1.size)
  clear b1 hx k1 B0 HW K hsz
  go_wp2_with fail
  refine (rnumI_any _ [kd, L.src, L.dst] L.term _ Z1.out OK.out.term (by simp)).mono ?_
  rintro e w2 ⟨v4, rfl, ho, hb⟩
  have B2 := Lib.hid (B1.out.trans (hb.mono B1.out.size))
  have W2 := Lib.hid (W1.out.below hb)
  have k2 := K1.out.below hb K1.out.lt
  have K2 := Lib.hid k2
  have O4 := Lib.hid (ho.le SZ.out)
  have SZ2 := Lib.hid (Nat.le_trans SZ.out hb.size)
  obtain ⟨xs, hxs⟩ : ∃ xs, xs = [kd, L.src, L.dst] ++ nb L.term.toNat := ⟨_, rfl⟩
  rw [← hxs] at O4
  have XS := Lib.hid hxs
  have hxl : xs.length ≤ 20 := by rw [hxs]; have := nbI_len OK.out.term; simp; omega
  have e0 := k2.cell 0
  simp only [List.getElem?_toArray, List.getElem?_cons_zero] at e0
  obtain ⟨A4, m4, p4, rfl⟩ := O4.out.sl
  clear ho hb k2 hxs B1 W1 K1 Z1 c0 c1 c2 d3 SZ
  go_wp2
  refine bodyPost_ret (results_tmp2 rfl _ _ _) rfl ?_
  rw [PL.out]
  exact ⟨_, rfl, Bo.nil_ _ _, B2.out⟩
set_option maxHeartbeats 1000000 in
set_option maxRecDepth 100000 in
theorem rput_1 {w : World} {L : Lt} {ve vd vs vg : Value} (hw : Lw w L ve vd vs vg) (hk : L.kind = 1) :
    Calls Tryz.prog 9 #[.agg (letO L ve vd vs vg)] w fun e w' => ∃ v', e = .returned (.tuple #[v', .int .i64 (putL L).2]) ∧ Bo w.heap.size w' v' (putL L).1 ∧ Below w.heap.size w w' := by
  obtain ⟨Ae, ce, Ad, cd, As, cs, Ag, cg, rfl, rfl, rfl, rfl⟩ := hw.sl
  obtain ⟨ne, hne⟩ : ∃ n, n = L.es.length := ⟨_, rfl⟩
  obtain ⟨nd, hnd⟩ : ∃ n, n = L.data.length := ⟨_, rfl⟩
  obtain ⟨ns, hns⟩ : ∃ n, n = L.steps.length := ⟨_, rfl⟩
  obtain ⟨ng, hng⟩ : ∃ n, n = L.gots.length := ⟨_, rfl⟩
  rw [← hne, ← hnd, ← hns, ← hng] at hw ⊢
  have NE := Lib.hid hne
  have ND := Lib.hid hnd
  have NS := Lib.hid hns
  have NG := Lib.hid hng
  have b0 := below_alloc_ w (.cells (letO L (.slice Ae ne ce) (.slice Ad nd cd) (.slice As ns cs) (.slice Ag ng cg)) 44)
  have HW := Lib.hid (hw.below b0)
  have K := Lib.hid (Blk.new w 44 (letO L (.slice Ae ne ce) (.slice Ad nd cd) (.slice As ns cs) (.slice Ag ng cg)))
  have B0 := Lib.hid b0
  have OK := Lib.hid hw.ok
  have HD0 := Lib.hid hw.data
  clear hw b0 hne hnd hns hng
  have PL := Lib.hid (show putL L = ([1, L.src, L.dst] ++ nb L.term.toNat ++ nb L.index.toNat ++ nb L.mark.toNat, 0) from by
    rw [putL_of (ps := [.index, .mark]) (by rw [hk]; rfl) (by rw [hk]; omega) rfl, hk]
    simp [putPc])
  simp only [letO, hk] at K B0 HW ⊢
  go_enter Tryz.func9, Tryz.ntmps9
  go_upto_region 1 with fail
  obtain ⟨w0, hw0⟩ : ∃ w0, w0 = w.alloc (.cells #[.int .i64 1, .int .u8 L.src, .int .u8 L.dst, .int .u64 L.term, .int .u64 L.index, .int .u64 L.mark, .int .u64 L.commit, .bool L.yes, .slice Ae ne ce, .slice Ad nd cd, .int .u8 L.cl, .int .u64 L.num, .slice As ns cs, .int .i64 L.e, .int .i64 L.re, .int .i64 L.ra, .slice Ag ng cg] 44) := ⟨_, rfl⟩
  rw [← hw0] at K B0 HW ⊢
  have hsz : w.heap.size + 1 ≤ w0.heap.size := by rw [hw0]; simp
  clear hw0
  have c0 := K.out.cell 0
  have c1 := K.out.cell 1
  have c2 := K.out.cell 2
  simp only [List.getElem?_toArray, List.getElem?_cons_zero, List.getElem?_cons_succ] at c0 c1 c2
  have b1 := below_alloc_ w0 (.cells #[.int .u8 1, .int .u8 L.src, .int .u8 L.dst] 5)
  have hx := Bs.lits w0 [1, L.src, L.dst]
  have k1 := K.out.below b1 K.out.lt
  have d3 := k1.cell 3
  simp only [List.getElem?_toArray, List.getElem?_cons_zero, List.getElem?_cons_succ] at d3
  have Z1 := Lib.hid (show Bs (w0.alloc (.cells #[.int .u8 1, .int .u8 L.src, .int .u8 L.dst] 5)) (.slice (some ⟨w0.heap.size, 0, none⟩) 3 3) [1, L.src, L.dst] from hx)
  have K1 := Lib.hid k1
  have W1 := Lib.hid (HW.out.below b1)
  have B1 := Lib.hid (B0.out.trans (b1.mono B0.out.size))
  have SZ := Lib.hid (Nat.le_trans hsz b1.size)
  clear b1 hx k1 B0 HW K hsz
  go_wp2_with fail
  refine (rnumI_any _ [1, L.src, L.dst] L.term _ Z1.out OK.out.term (by simp)).mono ?_
  rintro e w2 ⟨v4, rfl, ho, hb⟩
  have B2 := Lib.hid (B1.out.trans (hb.mono B1.out.size))
  have W2 := Lib.hid (W1.out.below hb)
  have k2 := K1.out.below hb K1.out.lt
  have K2 := Lib.hid k2
  have O4 := Lib.hid (ho.le SZ.out)
  have SZ2 := Lib.hid (Nat.le_trans SZ.out hb.size)
  obtain ⟨xs, hxs⟩ : ∃ xs, xs = [1, L.src, L.dst] ++ nb L.term.toNat := ⟨_, rfl⟩
  rw [← hxs] at O4
  have XS := Lib.hid hxs
  have hxl : xs.length ≤ 20 := by rw [hxs]; have := nbI_len OK.out.term; simp; omega
  have e0 := k2.cell 0
  simp only [List.getElem?_toArray, List.getElem?_cons_zero] at e0
  obtain ⟨A4, m4, p4, rfl⟩ := O4.out.sl
  clear ho hb k2 hxs B1 W1 K1 Z1 c0 c1 c2 d3 SZ
  go_upto_region 5 with fail
  have k5 := K2.out.drew
  have s4 := k5.cell 4
  have s5 := k5.cell 5
  simp only [List.getElem?_toArray, List.getElem?_cons_zero, List.getElem?_cons_succ] at s4 s5
  have S0 := Lib.hid (And.intro s4 (s5))
  have SS := Lib.hid (show ∀ X, Below (w.heap.size + 1) w2.drew X → X.cell? ⟨w.heap.size, 4, none⟩ = some (.int .u64 L.index) ∧ X.cell? ⟨w.heap.size, 5, none⟩ = some (.int .u64 L.mark) from fun X hb => ⟨(hb.cell (Nat.lt_succ_self w.heap.size)).trans s4, (hb.cell (Nat.lt_succ_self w.heap.size)).trans s5⟩)
  have Z4 := Lib.hid (show Bs w2.drew _ xs from O4.out.bs)
  have SA := Lib.hid trivial
  clear k5 s4 s5 e0
  go_region_held3 (fun w' => w'.cell? ⟨w.heap.size, 4, none⟩ = some (.int .u64 L.index) ∧ w'.cell? ⟨w.heap.size, 5, none⟩ = some (.int .u64 L.mark)) (first
    | (with_reducible exact S9.out)
    | (with_reducible exact S8.out)
    | (with_reducible exact S7.out)
    | (with_reducible exact S6.out)
    | (with_reducible exact S5.out)
    | (with_reducible exact SA.out)
    | (with_reducible exact S0.out)
    | fail)
    (first
    | (go_at_call 26; refine (rnumI_any _ (xs ++ nb L.index.toNat) L.mark _ Z7.out OK.out.mark (by have := nbI_len OK.out.index; have := nbI_len OK.out.mark; have := nbI_len OK.out.commit; have := nbI_len OK.out.num; (try simp only [List.length_append]); omega)).mono ?_; rintro e u8 ⟨x8, rfl, hw8, hb8⟩; have Y8 := Lib.hid (show Below (w.heap.size + 1) w2.drew u8 from Y7.out.trans (hb8.mono (Nat.le_trans SZ2.out Y7.out.size))); have Z8 := Lib.hid hw8.bs; have O8 := Lib.hid (hw8.le (show w.heap.size + 1 ≤ _ from Nat.le_trans SZ2.out Y7.out.size)); have S8 := Lib.hid (SS.out _ Y8.out); obtain ⟨A8, m8, p8, rfl⟩ := hw8.sl; clear hw8 hb8)
    | (go_at_call 26; refine (rnumI_any _ (xs) L.index _ Z4.out OK.out.index (by have := nbI_len OK.out.index; have := nbI_len OK.out.mark; have := nbI_len OK.out.commit; have := nbI_len OK.out.num; (try simp only [List.length_append, List.length_cons, List.length_nil]); omega)).mono ?_; rintro e u7 ⟨x7, rfl, hw7, hb7⟩; have Y7 := Lib.hid (show Below (w.heap.size + 1) w2.drew u7 from hb7.mono SZ2.out); have Z7 := Lib.hid hw7.bs; have O7 := Lib.hid (hw7.le (show w.heap.size + 1 ≤ _ from SZ2.out)); have S7 := Lib.hid (SS.out _ Y7.out); obtain ⟨A7, m7, p7, rfl⟩ := hw7.sl; clear hw7 hb7))
  all_goals
    have hbl := Lib.hid (B2.out.trans (show Below w.heap.size w2 u8 from (Below.refl w.heap.size w2).drew.trans (Y8.out.mono (Nat.le_succ _))))
    go_wp2
    refine bodyPost_ret (results_tmp2 rfl _ _ _) rfl ?_
    rw [PL.out, ← XS.out]
    exact ⟨_, rfl, O8.out.le (Nat.le_succ _), hbl.out⟩
set_option maxHeartbeats 1000000 in
set_option maxRecDepth 100000 in
theorem rput_2 {w : World} {L : Lt} {ve vd vs vg : Value} (hw : Lw w L ve vd vs vg) (hk : L.kind = 2) :
    Calls Tryz.prog 9 #[.agg (letO L ve vd vs vg)] w fun e w' => ∃ v', e = .returned (.tuple #[v', .int .i64 (putL L).2]) ∧ Bo w.heap.size w' v' (putL L).1 ∧ Below w.heap.size w w' := by
  obtain ⟨Ae, ce, Ad, cd, As, cs, Ag, cg, rfl, rfl, rfl, rfl⟩ := hw.sl
  obtain ⟨ne, hne⟩ : ∃ n, n = L.es.length := ⟨_, rfl⟩
  obtain ⟨nd, hnd⟩ : ∃ n, n = L.data.length := ⟨_, rfl⟩
  obtain ⟨ns, hns⟩ : ∃ n, n = L.steps.length := ⟨_, rfl⟩
  obtain ⟨ng, hng⟩ : ∃ n, n = L.gots.length := ⟨_, rfl⟩
  rw [← hne, ← hnd, ← hns, ← hng] at hw ⊢
  have NE := Lib.hid hne
  have ND := Lib.hid hnd
  have NS := Lib.hid hns
  have NG := Lib.hid hng
  have b0 := below_alloc_ w (.cells (letO L (.slice Ae ne ce) (.slice Ad nd cd) (.slice As ns cs) (.slice Ag ng cg)) 44)
  have HW := Lib.hid (hw.below b0)
  have K := Lib.hid (Blk.new w 44 (letO L (.slice Ae ne ce) (.slice Ad nd cd) (.slice As ns cs) (.slice Ag ng cg)))
  have B0 := Lib.hid b0
  have OK := Lib.hid hw.ok
  have HD0 := Lib.hid hw.data
  clear hw b0 hne hnd hns hng
  have PL := Lib.hid (show putL L = ([2, L.src, L.dst] ++ nb L.term.toNat ++ [if L.yes then 1 else 0] ++ nb L.index.toNat, 0) from by
    rw [putL_of (ps := [.yes, .index]) (by rw [hk]; rfl) (by rw [hk]; omega) rfl, hk]
    simp [putPc])
  simp only [letO, hk] at K B0 HW ⊢
  go_enter Tryz.func9, Tryz.ntmps9
  go_upto_region 1 with fail
  obtain ⟨w0, hw0⟩ : ∃ w0, w0 = w.alloc (.cells #[.int .i64 2, .int .u8 L.src, .int .u8 L.dst, .int .u64 L.term, .int .u64 L.index, .int .u64 L.mark, .int .u64 L.commit, .bool L.yes, .slice Ae ne ce, .slice Ad nd cd, .int .u8 L.cl, .int .u64 L.num, .slice As ns cs, .int .i64 L.e, .int .i64 L.re, .int .i64 L.ra, .slice Ag ng cg] 44) := ⟨_, rfl⟩
  rw [← hw0] at K B0 HW ⊢
  have hsz : w.heap.size + 1 ≤ w0.heap.size := by rw [hw0]; simp
  clear hw0
  have c0 := K.out.cell 0
  have c1 := K.out.cell 1
  have c2 := K.out.cell 2
  simp only [List.getElem?_toArray, List.getElem?_cons_zero, List.getElem?_cons_succ] at c0 c1 c2
  have b1 := below_alloc_ w0 (.cells #[.int .u8 2, .int .u8 L.src, .int .u8 L.dst] 5)
  have hx := Bs.lits w0 [2, L.src, L.dst]
  have k1 := K.out.below b1 K.out.lt
  have d3 := k1.cell 3
  simp only [List.getElem?_toArray, List.getElem?_cons_zero, List.getElem?_cons_succ] at d3
  have Z1 := Lib.hid (show Bs (w0.alloc (.cells #[.int .u8 2, .int .u8 L.src, .int .u8 L.dst] 5)) (.slice (some ⟨w0.heap.size, 0, none⟩) 3 3) [2, L.src, L.dst] from hx)
  have K1 := Lib.hid k1
  have W1 := Lib.hid (HW.out.below b1)
  have B1 := Lib.hid (B0.out.trans (b1.mono B0.out.size))
  have SZ := Lib.hid (Nat.le_trans hsz b1.size)
  clear b1 hx k1 B0 HW K hsz
  go_wp2_with fail
  refine (rnumI_any _ [2, L.src, L.dst] L.term _ Z1.out OK.out.term (by simp)).mono ?_
  rintro e w2 ⟨v4, rfl, ho, hb⟩
  have B2 := Lib.hid (B1.out.trans (hb.mono B1.out.size))
  have W2 := Lib.hid (W1.out.below hb)
  have k2 := K1.out.below hb K1.out.lt
  have K2 := Lib.hid k2
  have O4 := Lib.hid (ho.le SZ.out)
  have SZ2 := Lib.hid (Nat.le_trans SZ.out hb.size)
  obtain ⟨xs, hxs⟩ : ∃ xs, xs = [2, L.src, L.dst] ++ nb L.term.toNat := ⟨_, rfl⟩
  rw [← hxs] at O4
  have XS := Lib.hid hxs
  have hxl : xs.length ≤ 20 := by rw [hxs]; have := nbI_len OK.out.term; simp; omega
  have e0 := k2.cell 0
  simp only [List.getElem?_toArray, List.getElem?_cons_zero] at e0
  obtain ⟨A4, m4, p4, rfl⟩ := O4.out.sl
  clear ho hb k2 hxs B1 W1 K1 Z1 c0 c1 c2 d3 SZ
  go_upto_region 7 with fail
  have k5 := K2.out.drew
  have s4 := k5.cell 4
  have s7 := k5.cell 7
  simp only [List.getElem?_toArray, List.getElem?_cons_zero, List.getElem?_cons_succ] at s4 s7
  have S0 := Lib.hid (And.intro s4 (s7))
  have SS := Lib.hid (show ∀ X, Below (w.heap.size + 1) w2.drew X → X.cell? ⟨w.heap.size, 4, none⟩ = some (.int .u64 L.index) ∧ X.cell? ⟨w.heap.size, 7, none⟩ = some (.bool L.yes) from fun X hb => ⟨(hb.cell (Nat.lt_succ_self w.heap.size)).trans s4, (hb.cell (Nat.lt_succ_self w.heap.size)).trans s7⟩)
  obtain ⟨f, hf⟩ : ∃ f : Int, f = if L.yes then 1 else 0 := ⟨_, rfl⟩
  rw [← hf] at PL
  have HF := Lib.hid hf
  clear hf
  have ba := below_alloc_ w2 (.cells #[.int .u8 f] 5)
  have bd : Below (w.heap.size + 1) w2.drew (w2.alloc (.cells #[.int .u8 f] 5)).drew := (below_alloc_ w2.drew (.cells #[.int .u8 f] 5)).mono SZ2.out
  have GA := Lib.hid (show Bf (w.heap.size + 1) w2.drew (w2.alloc (.cells #[.int .u8 f] 5)).drew _ xs from ⟨O4.out.below ba.drew, bd, Nat.le_trans SZ2.out ba.size⟩)
  have LA := Lib.hid (show Bs (w2.alloc (.cells #[.int .u8 f] 5)).drew _ [f] from Bs.lits w2 [f])
  have SA := Lib.hid (SS.out _ bd)
  clear ba bd
  clear k5 s4 s7 e0
  go_region_held3 (fun w' => w'.cell? ⟨w.heap.size, 4, none⟩ = some (.int .u64 L.index) ∧ w'.cell? ⟨w.heap.size, 7, none⟩ = some (.bool L.yes)) (first
    | (with_reducible exact S9.out)
    | (with_reducible exact S8.out)
    | (with_reducible exact S7.out)
    | (with_reducible exact S6.out)
    | (with_reducible exact S5.out)
    | (with_reducible exact SA.out)
    | (with_reducible exact S0.out)
    | fail)
    (first
    | (go_at_call 27; refine (rflag_any L.yes _).mono ?_; rw [← HF.out]; rintro e uf ⟨rfl, rfl⟩)
    | (refine step_bf_bytes rfl _ _ 25 rfl Tryz.underlying25 rfl GA.out LA.out rfl (by have := nbI_len OK.out.index; have := nbI_len OK.out.mark; have := nbI_len OK.out.commit; have := nbI_len OK.out.num; (try simp only [List.length_cons, List.length_nil]); omega) ?_; intro v6 u6 hB6 hg6; have Y6 := Lib.hid hB6.bel; have O6 := Lib.hid hB6.own; have Z6 := Lib.hid hB6.own.bs; have S6 := Lib.hid (SS.out _ Y6.out); obtain ⟨A6, m6, p6, rfl⟩ := hB6.own.sl; clear hB6 hg6)
    | (go_at_call 26; refine (rnumI_any _ (xs ++ [f]) L.index _ Z6.out OK.out.index (by have := nbI_len OK.out.index; have := nbI_len OK.out.mark; have := nbI_len OK.out.commit; have := nbI_len OK.out.num; (try simp only [List.length_append, List.length_cons, List.length_nil]); omega)).mono ?_; rintro e u7 ⟨x7, rfl, hw7, hb7⟩; have Y7 := Lib.hid (show Below (w.heap.size + 1) w2.drew u7 from Y6.out.trans (hb7.mono (Nat.le_trans SZ2.out Y6.out.size))); have Z7 := Lib.hid hw7.bs; have O7 := Lib.hid (hw7.le (show w.heap.size + 1 ≤ _ from Nat.le_trans SZ2.out Y6.out.size)); have S7 := Lib.hid (SS.out _ Y7.out); obtain ⟨A7, m7, p7, rfl⟩ := hw7.sl; clear hw7 hb7))
  all_goals
    have hbl := Lib.hid (B2.out.trans (show Below w.heap.size w2 u7 from (Below.refl w.heap.size w2).drew.trans (Y7.out.mono (Nat.le_succ _))))
    go_wp2
    refine bodyPost_ret (results_tmp2 rfl _ _ _) rfl ?_
    rw [PL.out, ← XS.out]
    exact ⟨_, rfl, O7.out.le (Nat.le_succ _), hbl.out⟩
set_option maxHeartbeats 1000000 in
set_option maxRecDepth 100000 in
theorem rput_3 {w : World} {L : Lt} {ve vd vs vg : Value} (hw : Lw w L ve vd vs vg) (hk : L.kind = 3) :
    Calls Tryz.prog 9 #[.agg (letO L ve vd vs vg)] w fun e w' => ∃ v', e = .returned (.tuple #[v', .int .i64 (putL L).2]) ∧ Bo w.heap.size w' v' (putL L).1 ∧ Below w.heap.size w w' := by
  obtain ⟨Ae, ce, Ad, cd, As, cs, Ag, cg, rfl, rfl, rfl, rfl⟩ := hw.sl
  obtain ⟨ne, hne⟩ : ∃ n, n = L.es.length := ⟨_, rfl⟩
  obtain ⟨nd, hnd⟩ : ∃ n, n = L.data.length := ⟨_, rfl⟩
  obtain ⟨ns, hns⟩ : ∃ n, n = L.steps.length := ⟨_, rfl⟩
  obtain ⟨ng, hng⟩ : ∃ n, n = L.gots.length := ⟨_, rfl⟩
  rw [← hne, ← hnd, ← hns, ← hng] at hw ⊢
  have NE := Lib.hid hne
  have ND := Lib.hid hnd
  have NS := Lib.hid hns
  have NG := Lib.hid hng
  have b0 := below_alloc_ w (.cells (letO L (.slice Ae ne ce) (.slice Ad nd cd) (.slice As ns cs) (.slice Ag ng cg)) 44)
  have HW := Lib.hid (hw.below b0)
  have K := Lib.hid (Blk.new w 44 (letO L (.slice Ae ne ce) (.slice Ad nd cd) (.slice As ns cs) (.slice Ag ng cg)))
  have B0 := Lib.hid b0
  have OK := Lib.hid hw.ok
  have HD0 := Lib.hid hw.data
  have W00 := Lib.hid hw
  clear hw b0 hne hnd hns hng
  have PB := Lib.hid (show (8 < L.es.length ∨ ∃ e ∈ L.es, (entryR e).2 ≠ 0) → putL L = ([], 1) from fun h => putL_bad (ps := [.index, .mark, .commit, .entries]) (by rw [hk]; rfl) (.inr (by
    simp only [putPc, List.any_cons, List.any_nil, Bool.false_or, Bool.or_false]
    rcases h with h | ⟨e, he, h⟩
    · simp [h]
    · rw [Bool.or_eq_true]
      exact .inr (List.any_eq_true.2 ⟨e, he, by simp [h]⟩))))
  have PG := Lib.hid (show L.es.length ≤ 8 → (∀ e ∈ L.es, (entryR e).2 = 0) → putL L = ([3, L.src, L.dst] ++ nb L.term.toNat ++ nb L.index.toNat ++ nb L.mark.toNat ++ nb L.commit.toNat ++ nb L.es.length ++ upE L.es L.es.length, 0) from fun h h2 => by
    rw [putL_of (ps := [.index, .mark, .commit, .entries]) (by rw [hk]; rfl) (by rw [hk]; omega) ?_, hk]
    · unfold upE
      rw [List.take_length]
      simp [putPc]
    · simp only [putPc, List.any_cons, List.any_nil, Bool.false_or, Bool.or_false]
      rw [decide_eq_false (by omega), Bool.false_or, List.any_eq_false]
      intro e he
      have h3 := (ent_len e (OK.out.es e he).1 (OK.out.es e he).2).1
      simp [h2 e he]; omega)
  have UL := Lib.hid (upE_len (fun e he => OK.out.es e he))
  have HW0 := Lib.hid W00.out
  simp only [letO, hk] at K B0 HW ⊢
  go_enter Tryz.func9, Tryz.ntmps9
  go_upto_region 1 with fail
  obtain ⟨w0, hw0⟩ : ∃ w0, w0 = w.alloc (.cells #[.int .i64 3, .int .u8 L.src, .int .u8 L.dst, .int .u64 L.term, .int .u64 L.index, .int .u64 L.mark, .int .u64 L.commit, .bool L.yes, .slice Ae ne ce, .slice Ad nd cd, .int .u8 L.cl, .int .u64 L.num, .slice As ns cs, .int .i64 L.e, .int .i64 L.re, .int .i64 L.ra, .slice Ag ng cg] 44) := ⟨_, rfl⟩
  rw [← hw0] at K B0 HW ⊢
  have hsz : w.heap.size + 1 ≤ w0.heap.size := by rw [hw0]; simp
  clear hw0
  have c0 := K.out.cell 0
  have c1 := K.out.cell 1
  have c2 := K.out.cell 2
  simp only [List.getElem?_toArray, List.getElem?_cons_zero, List.getElem?_cons_succ] at c0 c1 c2
  have b1 := below_alloc_ w0 (.cells #[.int .u8 3, .int .u8 L.src, .int .u8 L.dst] 5)
  have hx := Bs.lits w0 [3, L.src, L.dst]
  have k1 := K.out.below b1 K.out.lt
  have d3 := k1.cell 3
  simp only [List.getElem?_toArray, List.getElem?_cons_zero, List.getElem?_cons_succ] at d3
  have Z1 := Lib.hid (show Bs (w0.alloc (.cells #[.int .u8 3, .int .u8 L.src, .int .u8 L.dst] 5)) (.slice (some ⟨w0.heap.size, 0, none⟩) 3 3) [3, L.src, L.dst] from hx)
  have K1 := Lib.hid k1
  have W1 := Lib.hid (HW.out.below b1)
  have B1 := Lib.hid (B0.out.trans (b1.mono B0.out.size))
  have SZ := Lib.hid (Nat.le_trans hsz b1.size)
  clear b1 hx k1 B0 HW K hsz
  go_wp2_with fail
  refine (rnumI_any _ [3, L.src, L.dst] L.term _ Z1.out OK.out.term (by simp)).mono ?_
  rintro e w2 ⟨v4, rfl, ho, hb⟩
  have B2 := Lib.hid (B1.out.trans (hb.mono B1.out.size))
  have W2 := Lib.hid (W1.out.below hb)
  have k2 := K1.out.below hb K1.out.lt
  have K2 := Lib.hid k2
  have O4 := Lib.hid (ho.le SZ.out)
  have SZ2 := Lib.hid (Nat.le_trans SZ.out hb.size)
  obtain ⟨xs, hxs⟩ : ∃ xs, xs = [3, L.src, L.dst] ++ nb L.term.toNat := ⟨_, rfl⟩
  rw [← hxs] at O4
  have XS := Lib.hid hxs
  have hxl : xs.length ≤ 20 := by rw [hxs]; have := nbI_len OK.out.term; simp; omega
  have e0 := k2.cell 0
  simp only [List.getElem?_toArray, List.getElem?_cons_zero] at e0
  obtain ⟨A4, m4, p4, rfl⟩ := O4.out.sl
  clear ho hb k2 hxs B1 W1 K1 Z1 c0 c1 c2 d3 SZ
  go_upto_region 9 with fail
  have k5 := K2.out.drew
  have s4 := k5.cell 4
  have s5 := k5.cell 5
  have s6 := k5.cell 6
  simp only [List.getElem?_toArray, List.getElem?_cons_zero, List.getElem?_cons_succ] at s4 s5 s6
  have S0 := Lib.hid (And.intro s4 (And.intro s5 (s6)))
  have SS := Lib.hid (show ∀ X, Below (w.heap.size + 1) w2.drew X → X.cell? ⟨w.heap.size, 4, none⟩ = some (.int .u64 L.index) ∧ X.cell? ⟨w.heap.size, 5, none⟩ = some (.int .u64 L.mark) ∧ X.cell? ⟨w.heap.size, 6, none⟩ = some (.int .u64 L.commit) from fun X hb => ⟨(hb.cell (Nat.lt_succ_self w.heap.size)).trans s4, (hb.cell (Nat.lt_succ_self w.heap.size)).trans s5, (hb.cell (Nat.lt_succ_self w.heap.size)).trans s6⟩)
  have Z4 := Lib.hid (show Bs w2.drew _ xs from O4.out.bs)
  have SA := Lib.hid trivial
  clear k5 s4 s5 s6 e0
  go_region_held3 (fun w' => w'.cell? ⟨w.heap.size, 4, none⟩ = some (.int .u64 L.index) ∧ w'.cell? ⟨w.heap.size, 5, none⟩ = some (.int .u64 L.mark) ∧ w'.cell? ⟨w.heap.size, 6, none⟩ = some (.int .u64 L.commit)) (first
    | (with_reducible exact S9.out)
    | (with_reducible exact S8.out)
    | (with_reducible exact S7.out)
    | (with_reducible exact S6.out)
    | (with_reducible exact S5.out)
    | (with_reducible exact SA.out)
    | (with_reducible exact S0.out)
    | fail)
    (first
    | (go_at_call 26; refine (rnumI_any _ (xs ++ nb L.index.toNat ++ nb L.mark.toNat) L.commit _ Z8.out OK.out.commit (by have := nbI_len OK.out.index; have := nbI_len OK.out.mark; have := nbI_len OK.out.commit; have := nbI_len OK.out.num; (try simp only [List.length_append]); omega)).mono ?_; rintro e u9 ⟨x9, rfl, hw9, hb9⟩; have Y9 := Lib.hid (show Below (w.heap.size + 1) w2.drew u9 from Y8.out.trans (hb9.mono (Nat.le_trans SZ2.out Y8.out.size))); have Z9 := Lib.hid hw9.bs; have O9 := Lib.hid (hw9.le (show w.heap.size + 1 ≤ _ from Nat.le_trans SZ2.out Y8.out.size)); have S9 := Lib.hid (SS.out _ Y9.out); obtain ⟨A9, m9, p9, rfl⟩ := hw9.sl; clear hw9 hb9)
    | (go_at_call 26; refine (rnumI_any _ (xs ++ nb L.index.toNat) L.mark _ Z7.out OK.out.mark (by have := nbI_len OK.out.index; have := nbI_len OK.out.mark; have := nbI_len OK.out.commit; have := nbI_len OK.out.num; (try simp only [List.length_append]); omega)).mono ?_; rintro e u8 ⟨x8, rfl, hw8, hb8⟩; have Y8 := Lib.hid (show Below (w.heap.size + 1) w2.drew u8 from Y7.out.trans (hb8.mono (Nat.le_trans SZ2.out Y7.out.size))); have Z8 := Lib.hid hw8.bs; have O8 := Lib.hid (hw8.le (show w.heap.size + 1 ≤ _ from Nat.le_trans SZ2.out Y7.out.size)); have S8 := Lib.hid (SS.out _ Y8.out); obtain ⟨A8, m8, p8, rfl⟩ := hw8.sl; clear hw8 hb8)
    | (go_at_call 26; refine (rnumI_any _ (xs) L.index _ Z4.out OK.out.index (by have := nbI_len OK.out.index; have := nbI_len OK.out.mark; have := nbI_len OK.out.commit; have := nbI_len OK.out.num; (try simp only [List.length_append, List.length_cons, List.length_nil]); omega)).mono ?_; rintro e u7 ⟨x7, rfl, hw7, hb7⟩; have Y7 := Lib.hid (show Below (w.heap.size + 1) w2.drew u7 from hb7.mono SZ2.out); have Z7 := Lib.hid hw7.bs; have O7 := Lib.hid (hw7.le (show w.heap.size + 1 ≤ _ from SZ2.out)); have S7 := Lib.hid (SS.out _ Y7.out); obtain ⟨A7, m7, p7, rfl⟩ := hw7.sl; clear hw7 hb7))
  have B9 := Lib.hid (B2.out.trans (show Below w.heap.size w2 u9 from (Below.refl w.heap.size w2).drew.trans (Y9.out.mono (Nat.le_succ _))))
  have K9 := Lib.hid (K2.out.drew.below Y9.out (Nat.lt_succ_self _))
  have SZ9 := Lib.hid (Nat.le_trans SZ2.out Y9.out.size)
  have i8 := K9.out.cell 8
  simp only [List.getElem?_toArray, List.getElem?_cons_zero, List.getElem?_cons_succ] at i8
  clear S0 SS Y7 Z7 O7 S7 Y8 Z8 O8 S8 S9 SA Y9
  by_cases h8 : 8 < ne
  · have h8' : (8 : Int) < ne := by omega
    have PL := Lib.hid (PB.out (.inl (by rw [← NE.out]; exact h8)))
    go_wp2
    refine bodyPost_ret (results_tmp2 rfl _ _ _) rfl ?_
    rw [PL.out]
    exact ⟨_, rfl, Bo.nil_ _ _, B9.out⟩
  have h8' : ¬ (8 : Int) < ne := by omega
  have hwl : IntKind.u64.wrap (ne : Int) = ne := IntWalk.u64_in _ (by omega)
  have hzl : (xs ++ nb L.index.toNat ++ nb L.mark.toNat ++ nb L.commit.toNat).length ≤ 100 := by have := nbI_len OK.out.index; have := nbI_len OK.out.mark; have := nbI_len OK.out.commit; simp only [List.length_append]; omega
  go_wp2_with fail
  refine (rnumI_any _ (xs ++ nb L.index.toNat ++ nb L.mark.toNat ++ nb L.commit.toNat) (ne : Int) _ Z9.out ⟨by omega, by omega⟩ (by omega)).mono ?_
  rintro e u ⟨va, rfl, ha, hba⟩
  obtain ⟨ys, hys⟩ : ∃ ys, ys = xs ++ nb L.index.toNat ++ nb L.mark.toNat ++ nb L.commit.toNat ++ nb (ne : Int).toNat := ⟨_, rfl⟩
  rw [← hys] at ha
  have hyl : ys.length ≤ 200 := by rw [hys]; have := nb_ten (n := ne) (by omega); rw [List.length_append, Int.toNat_natCast]; omega
  have YS := Lib.hid hys
  have BU := Lib.hid (B9.out.trans (hba.mono B9.out.size))
  have KU := Lib.hid (K9.out.below hba K9.out.lt)
  have SZU := Lib.hid (Nat.le_trans SZ9.out hba.size)
  have OU := Lib.hid (ha.le SZ9.out)
  obtain ⟨Aa, ma, pa, rfl⟩ := ha.sl
  clear ha hba hys i8 B9 K9 SZ9 Z9 O9 hzl
  go_wp2_with fail
  go_loopg [4, 5, 6, 7] ne (fun g c4 c5 c6 c7 wr => ∃ j : Nat, j ≤ ne ∧ g = ne - j ∧ c5 = .int .i64 j ∧ (∃ A m p, c4 = .slice A m p) ∧ Bo (w.heap.size + 1) wr c4 (ys ++ upE L.es j) ∧ Below (w.heap.size + 1) u wr ∧ ∀ e ∈ L.es.take j, (entryR e).2 = 0)
  case atStart => exact ⟨0, Nat.zero_le _, by omega, rfl, ⟨_, _, _, rfl⟩, by simpa [upE] using OU.out, Below.refl _ _, by simp⟩
  case round =>
    obtain ⟨j, hj, hg, rfl, ⟨A6, m6, p6, rfl⟩, ho, hbw, hall⟩ := hrel
    have G := Lib.hid hg
    have O := Lib.hid ho
    have BW := Lib.hid hbw
    have AL := Lib.hid hall
    have KW := Lib.hid (KU.out.below hbw (Nat.lt_succ_self _))
    have BWW := Lib.hid (BU.out.trans (hbw.mono (Nat.le_succ _)))
    have SZW := Lib.hid (Nat.le_trans SZU.out hbw.size)
    have i8 := KW.out.cell 8
    simp only [List.getElem?_toArray, List.getElem?_cons_zero, List.getElem?_cons_succ] at i8
    clear hg ho hbw hall
    by_cases hjn : j < ne
    · have hjn' : (j : Int) < ne := by omega
      have hjl : j < L.es.length := by rw [← NE.out]; exact hjn
      have hwj : IntKind.i64.wrap ((j : Int) + 1) = (j : Int) + 1 := IntWalk.i64_in _ (by omega)
      have hj0 : (0 : Int) ≤ j := by omega
      obtain ⟨ge, oe, ce', hv, -, hge, hcell⟩ := ((HW0.out.es).below BWW.out).at_ (by omega)
      injection hv with hv1 hv2 hv3
      subst hv1
      clear hv2 hv3
      obtain ⟨s, hs, hh⟩ := hcell j hjl
      have hf := (OK.out.es _ (List.getElem_mem hjl)).1
      have hst := (OK.out.es _ (List.getElem_mem hjl)).2
      have hl6 := HW0.out.s6 _ (List.getElem_mem hjl)
      have hup := UL.out j (by omega)
      have hS : upE L.es (j + 1) = upE L.es j ++ textB (entryR L.es[j]).1 := by
        unfold upE; rw [List.take_succ_eq_append_getElem hjl, List.flatMap_append]; simp
      have hA : ∀ e0, e0 = L.es[j] → (entryR e0).2 = 0 → ∀ e ∈ L.es.take (j + 1), (entryR e).2 = 0 := by
        intro e0 he0 h0 e he
        rw [List.take_succ_eq_append_getElem hjl] at he
        rcases List.mem_append.1 he with he | he
        · exact AL.out e he
        · simp at he; rw [he, ← he0]; exact h0
      have hBad : (entryR L.es[j]).2 ≠ 0 → putL L = ([], 1) := fun h => PB.out (.inr ⟨_, List.getElem_mem hjl, h⟩)
      obtain ⟨e, he⟩ : ∃ e, e = L.es[j] := ⟨_, rfl⟩
      have hA2 := hA e he
      rw [← he] at hs hh hf hst hl6 hS hBad
      obtain ⟨el1, el2⟩ := ent_len e hf hst
      obtain ⟨ef, rows⟩ := e
      obtain ⟨x0, x1, x2, x3, rfl, f0, f1, f2, f3⟩ := entry_fok hf
      simp only at hs hst hl6
      have c0 : wr.cell? ⟨ge, oe + j * 5, none⟩ = some (.int .u64 x0) := by have := hh 0 (.int .u64 x0) (by omega) rfl; simpa using this
      have c1 : wr.cell? ⟨ge, oe + j * 5 + 1, none⟩ = some (.int .u64 x1) := hh 1 (.int .u64 x1) (by omega) rfl
      have c2 : wr.cell? ⟨ge, oe + j * 5 + 2, none⟩ = some (.int .u8 x2) := hh 2 (.int .u8 x2) (by omega) rfl
      have c3 : wr.cell? ⟨ge, oe + j * 5 + 3, none⟩ = some (.int .u64 x3) := hh 3 (.int .u64 x3) (by omega) rfl
      have c4 : wr.cell? ⟨ge, oe + j * 5 + 4, none⟩ = some s := hh 4 s (by omega) rfl
      obtain ⟨As', cs', rfl, -⟩ := id hs
      have ST := Lib.hid hs
      have F := Lib.hid (show (fok1 .u64 x0 ∧ fok1 .u64 x1 ∧ fok1 .u8 x2 ∧ fok1 .u64 x3) ∧ ∀ q ∈ rows, fok stepK q from ⟨⟨f0, f1, f2, f3⟩, hst⟩)
      have HS := Lib.hid hS
      have HA2 := Lib.hid hA2
      have HBD := Lib.hid hBad
      have EL1 := Lib.hid el1
      clear hcell hh hs hf hst he hA hA2 hS hBad el1 el2 f0 f1 f2 f3
      go_wp2_with fail
      refine (rputentry_any x0 x1 x2 x3 _ rows F.out.1.1 F.out.1.2.1 F.out.1.2.2.1 F.out.1.2.2.2 F.out.2 _ ST.out hl6).mono ?_
      rintro e w5 ⟨vx, rfl, hx, hb5⟩
      obtain ⟨er, her⟩ : ∃ x, x = (entryR ([x0, x1, x2, x3], rows)).2 := ⟨_, rfl⟩
      obtain ⟨eb, heb⟩ : ∃ x, x = (entryR ([x0, x1, x2, x3], rows)).1 := ⟨_, rfl⟩
      rw [← heb] at hx HS EL1
      rw [← her] at HA2 HBD ⊢
      clear her heb c0 c1 c2 c3 c4 i8
      by_cases he0 : er = 0
      · subst he0
        obtain ⟨Ax, mx, px, rfl⟩ := hx.sl
        obtain rfl : mx = eb.length := by obtain ⟨A', c', hv, -, -, -⟩ := hx.bs; injection hv
        obtain ⟨nx, hnx⟩ : ∃ n, n = eb.length := ⟨_, rfl⟩
        have NX := Lib.hid hnx
        have el := EL1.out
        rw [← hnx] at hx el ⊢
        have HX := Lib.hid hx
        have hwx : IntKind.u64.wrap (nx : Int) = nx := IntWalk.u64_in _ (by omega)
        have O5 := Lib.hid (O.out.below hb5)
        have B5 := Lib.hid (BW.out.trans (hb5.mono SZW.out))
        have hj8 : j * 70000 ≤ 8 * 70000 := Nat.mul_le_mul_right _ (by omega)
        have hzz : (ys ++ upE L.es j).length ≤ 1000000 := by rw [List.length_append]; omega
        have SZ5 := Lib.hid (Nat.le_trans SZW.out hb5.size)
        clear hx hb5 hnx
        go_wp2_with fail
        refine (rnumI_any _ (ys ++ upE L.es j) (nx : Int) _ O5.out.bs ⟨by omega, by omega⟩ (by omega)).mono ?_
        rintro e w6 ⟨v6, rfl, h6, hb6⟩
        have GA := Lib.hid (show Bf (w.heap.size + 1) u w6 v6 _ from ⟨h6.le SZ5.out, B5.out.trans (hb6.mono (Nat.le_trans SZU.out B5.out.size)), Nat.le_trans SZ5.out hb6.size⟩)
        have LA := Lib.hid (show Bs w6 _ eb from HX.out.bs.below hb6)
        obtain ⟨A9, m9, p9, rfl⟩ := h6.sl
        clear h6 hb6
        go_wp2_with (at_builtin; go_must (refine wpList_bf_bytesK rfl _ _ 25 rfl Tryz.underlying25 rfl GA.out LA.out rfl (by have := NX.out; have := nb_ten (n := nx) (by omega); rw [List.length_append, Int.toNat_natCast]; omega) ?_); intro v7 u7 hB7 hg7; obtain ⟨A7, m7, p7, rfl⟩ := hB7.own.sl; have HB7 := Lib.hid hB7; clear hB7 hg7)
        go_roundg (ne - (j + 1))
        case measure => have := G.out; omega
        case rel =>
          refine ⟨j + 1, by omega, rfl, by go_num, ⟨_, _, _, rfl⟩, ?_, HB7.out.bel, HA2.out trivial⟩
          rw [HS.out]
          have := HB7.out.own
          rw [Int.toNat_natCast, NX.out] at this
          unfold textB
          simpa using this
      · have hkb : (er == 0) = false := beq_eq_false_iff_ne.2 he0
        have PL := Lib.hid (HBD.out he0)
        have BF := Lib.hid (BWW.out.trans (hb5.mono BWW.out.size))
        obtain ⟨Ax, mx, px, rfl⟩ := hx.sl
        clear hx hb5
        go_wp2
        refine bodyPost_ret (results_tmp2 rfl _ _ _) rfl ?_
        rw [PL.out]
        exact ⟨_, rfl, Bo.nil_ _ _, BF.out⟩
    · obtain rfl : j = ne := by omega
      have PL := Lib.hid (PG.out (by rw [← NE.out]; omega) (by have := AL.out; rw [NE.out, List.take_length] at this; exact this))
      go_wp2
      refine bodyPost_ret (results_tmp2 rfl _ _ _) rfl ?_
      rw [PL.out, ← XS.out, ← NE.out]
      refine ⟨_, rfl, ?_, BWW.out⟩
      have := O.out.le (Nat.le_succ _)
      rw [YS.out, Int.toNat_natCast] at this
      exact this
set_option maxHeartbeats 1000000 in
set_option maxRecDepth 100000 in
theorem rput_4 {w : World} {L : Lt} {ve vd vs vg : Value} (hw : Lw w L ve vd vs vg) (hk : L.kind = 4) :
    Calls Tryz.prog 9 #[.agg (letO L ve vd vs vg)] w fun e w' => ∃ v', e = .returned (.tuple #[v', .int .i64 (putL L).2]) ∧ Bo w.heap.size w' v' (putL L).1 ∧ Below w.heap.size w w' := by
  obtain ⟨Ae, ce, Ad, cd, As, cs, Ag, cg, rfl, rfl, rfl, rfl⟩ := hw.sl
  obtain ⟨ne, hne⟩ : ∃ n, n = L.es.length := ⟨_, rfl⟩
  obtain ⟨nd, hnd⟩ : ∃ n, n = L.data.length := ⟨_, rfl⟩
  obtain ⟨ns, hns⟩ : ∃ n, n = L.steps.length := ⟨_, rfl⟩
  obtain ⟨ng, hng⟩ : ∃ n, n = L.gots.length := ⟨_, rfl⟩
  rw [← hne, ← hnd, ← hns, ← hng] at hw ⊢
  have NE := Lib.hid hne
  have ND := Lib.hid hnd
  have NS := Lib.hid hns
  have NG := Lib.hid hng
  have b0 := below_alloc_ w (.cells (letO L (.slice Ae ne ce) (.slice Ad nd cd) (.slice As ns cs) (.slice Ag ng cg)) 44)
  have HW := Lib.hid (hw.below b0)
  have K := Lib.hid (Blk.new w 44 (letO L (.slice Ae ne ce) (.slice Ad nd cd) (.slice As ns cs) (.slice Ag ng cg)))
  have B0 := Lib.hid b0
  have OK := Lib.hid hw.ok
  have HD0 := Lib.hid hw.data
  clear hw b0 hne hnd hns hng
  have PL := Lib.hid (show putL L = ([4, L.src, L.dst] ++ nb L.term.toNat ++ [if L.yes then 1 else 0] ++ nb L.index.toNat, 0) from by
    rw [putL_of (ps := [.yes, .index]) (by rw [hk]; rfl) (by rw [hk]; omega) rfl, hk]
    simp [putPc])
  simp only [letO, hk] at K B0 HW ⊢
  go_enter Tryz.func9, Tryz.ntmps9
  go_upto_region 1 with fail
  obtain ⟨w0, hw0⟩ : ∃ w0, w0 = w.alloc (.cells #[.int .i64 4, .int .u8 L.src, .int .u8 L.dst, .int .u64 L.term, .int .u64 L.index, .int .u64 L.mark, .int .u64 L.commit, .bool L.yes, .slice Ae ne ce, .slice Ad nd cd, .int .u8 L.cl, .int .u64 L.num, .slice As ns cs, .int .i64 L.e, .int .i64 L.re, .int .i64 L.ra, .slice Ag ng cg] 44) := ⟨_, rfl⟩
  rw [← hw0] at K B0 HW ⊢
  have hsz : w.heap.size + 1 ≤ w0.heap.size := by rw [hw0]; simp
  clear hw0
  have c0 := K.out.cell 0
  have c1 := K.out.cell 1
  have c2 := K.out.cell 2
  simp only [List.getElem?_toArray, List.getElem?_cons_zero, List.getElem?_cons_succ] at c0 c1 c2
  have b1 := below_alloc_ w0 (.cells #[.int .u8 4, .int .u8 L.src, .int .u8 L.dst] 5)
  have hx := Bs.lits w0 [4, L.src, L.dst]
  have k1 := K.out.below b1 K.out.lt
  have d3 := k1.cell 3
  simp only [List.getElem?_toArray, List.getElem?_cons_zero, List.getElem?_cons_succ] at d3
  have Z1 := Lib.hid (show Bs (w0.alloc (.cells #[.int .u8 4, .int .u8 L.src, .int .u8 L.dst] 5)) (.slice (some ⟨w0.heap.size, 0, none⟩) 3 3) [4, L.src, L.dst] from hx)
  have K1 := Lib.hid k1
  have W1 := Lib.hid (HW.out.below b1)
  have B1 := Lib.hid (B0.out.trans (b1.mono B0.out.size))
  have SZ := Lib.hid (Nat.le_trans hsz b1.size)
  clear b1 hx k1 B0 HW K hsz
  go_wp2_with fail
  refine (rnumI_any _ [4, L.src, L.dst] L.term _ Z1.out OK.out.term (by simp)).mono ?_
  rintro e w2 ⟨v4, rfl, ho, hb⟩
  have B2 := Lib.hid (B1.out.trans (hb.mono B1.out.size))
  have W2 := Lib.hid (W1.out.below hb)
  have k2 := K1.out.below hb K1.out.lt
  have K2 := Lib.hid k2
  have O4 := Lib.hid (ho.le SZ.out)
  have SZ2 := Lib.hid (Nat.le_trans SZ.out hb.size)
  obtain ⟨xs, hxs⟩ : ∃ xs, xs = [4, L.src, L.dst] ++ nb L.term.toNat := ⟨_, rfl⟩
  rw [← hxs] at O4
  have XS := Lib.hid hxs
  have hxl : xs.length ≤ 20 := by rw [hxs]; have := nbI_len OK.out.term; simp; omega
  have e0 := k2.cell 0
  simp only [List.getElem?_toArray, List.getElem?_cons_zero] at e0
  obtain ⟨A4, m4, p4, rfl⟩ := O4.out.sl
  clear ho hb k2 hxs B1 W1 K1 Z1 c0 c1 c2 d3 SZ
  go_upto_region 22 with fail
  have k5 := K2.out.drew
  have s4 := k5.cell 4
  have s7 := k5.cell 7
  simp only [List.getElem?_toArray, List.getElem?_cons_zero, List.getElem?_cons_succ] at s4 s7
  have S0 := Lib.hid (And.intro s4 (s7))
  have SS := Lib.hid (show ∀ X, Below (w.heap.size + 1) w2.drew X → X.cell? ⟨w.heap.size, 4, none⟩ = some (.int .u64 L.index) ∧ X.cell? ⟨w.heap.size, 7, none⟩ = some (.bool L.yes) from fun X hb => ⟨(hb.cell (Nat.lt_succ_self w.heap.size)).trans s4, (hb.cell (Nat.lt_succ_self w.heap.size)).trans s7⟩)
  obtain ⟨f, hf⟩ : ∃ f : Int, f = if L.yes then 1 else 0 := ⟨_, rfl⟩
  rw [← hf] at PL
  have HF := Lib.hid hf
  clear hf
  have ba := below_alloc_ w2 (.cells #[.int .u8 f] 5)
  have bd : Below (w.heap.size + 1) w2.drew (w2.alloc (.cells #[.int .u8 f] 5)).drew := (below_alloc_ w2.drew (.cells #[.int .u8 f] 5)).mono SZ2.out
  have GA := Lib.hid (show Bf (w.heap.size + 1) w2.drew (w2.alloc (.cells #[.int .u8 f] 5)).drew _ xs from ⟨O4.out.below ba.drew, bd, Nat.le_trans SZ2.out ba.size⟩)
  have LA := Lib.hid (show Bs (w2.alloc (.cells #[.int .u8 f] 5)).drew _ [f] from Bs.lits w2 [f])
  have SA := Lib.hid (SS.out _ bd)
  clear ba bd
  clear k5 s4 s7 e0
  go_region_held3 (fun w' => w'.cell? ⟨w.heap.size, 4, none⟩ = some (.int .u64 L.index) ∧ w'.cell? ⟨w.heap.size, 7, none⟩ = some (.bool L.yes)) (first
    | (with_reducible exact S9.out)
    | (with_reducible exact S8.out)
    | (with_reducible exact S7.out)
    | (with_reducible exact S6.out)
    | (with_reducible exact S5.out)
    | (with_reducible exact SA.out)
    | (with_reducible exact S0.out)
    | fail)
    (first
    | (go_at_call 27; refine (rflag_any L.yes _).mono ?_; rw [← HF.out]; rintro e uf ⟨rfl, rfl⟩)
    | (refine step_bf_bytes rfl _ _ 25 rfl Tryz.underlying25 rfl GA.out LA.out rfl (by have := nbI_len OK.out.index; have := nbI_len OK.out.mark; have := nbI_len OK.out.commit; have := nbI_len OK.out.num; (try simp only [List.length_cons, List.length_nil]); omega) ?_; intro v6 u6 hB6 hg6; have Y6 := Lib.hid hB6.bel; have O6 := Lib.hid hB6.own; have Z6 := Lib.hid hB6.own.bs; have S6 := Lib.hid (SS.out _ Y6.out); obtain ⟨A6, m6, p6, rfl⟩ := hB6.own.sl; clear hB6 hg6)
    | (go_at_call 26; refine (rnumI_any _ (xs ++ [f]) L.index _ Z6.out OK.out.index (by have := nbI_len OK.out.index; have := nbI_len OK.out.mark; have := nbI_len OK.out.commit; have := nbI_len OK.out.num; (try simp only [List.length_append, List.length_cons, List.length_nil]); omega)).mono ?_; rintro e u7 ⟨x7, rfl, hw7, hb7⟩; have Y7 := Lib.hid (show Below (w.heap.size + 1) w2.drew u7 from Y6.out.trans (hb7.mono (Nat.le_trans SZ2.out Y6.out.size))); have Z7 := Lib.hid hw7.bs; have O7 := Lib.hid (hw7.le (show w.heap.size + 1 ≤ _ from Nat.le_trans SZ2.out Y6.out.size)); have S7 := Lib.hid (SS.out _ Y7.out); obtain ⟨A7, m7, p7, rfl⟩ := hw7.sl; clear hw7 hb7))
  all_goals
    have hbl := Lib.hid (B2.out.trans (show Below w.heap.size w2 u7 from (Below.refl w.heap.size w2).drew.trans (Y7.out.mono (Nat.le_succ _))))
    go_wp2
    refine bodyPost_ret (results_tmp2 rfl _ _ _) rfl ?_
    rw [PL.out, ← XS.out]
    exact ⟨_, rfl, O7.out.le (Nat.le_succ _), hbl.out⟩
set_option maxHeartbeats 1000000 in
set_option maxRecDepth 100000 in
theorem rput_5 {w : World} {L : Lt} {ve vd vs vg : Value} (hw : Lw w L ve vd vs vg) (hk : L.kind = 5) :
    Calls Tryz.prog 9 #[.agg (letO L ve vd vs vg)] w fun e w' => ∃ v', e = .returned (.tuple #[v', .int .i64 (putL L).2]) ∧ Bo w.heap.size w' v' (putL L).1 ∧ Below w.heap.size w w' := by
  obtain ⟨Ae, ce, Ad, cd, As, cs, Ag, cg, rfl, rfl, rfl, rfl⟩ := hw.sl
  obtain ⟨ne, hne⟩ : ∃ n, n = L.es.length := ⟨_, rfl⟩
  obtain ⟨nd, hnd⟩ : ∃ n, n = L.data.length := ⟨_, rfl⟩
  obtain ⟨ns, hns⟩ : ∃ n, n = L.steps.length := ⟨_, rfl⟩
  obtain ⟨ng, hng⟩ : ∃ n, n = L.gots.length := ⟨_, rfl⟩
  rw [← hne, ← hnd, ← hns, ← hng] at hw ⊢
  have NE := Lib.hid hne
  have ND := Lib.hid hnd
  have NS := Lib.hid hns
  have NG := Lib.hid hng
  have b0 := below_alloc_ w (.cells (letO L (.slice Ae ne ce) (.slice Ad nd cd) (.slice As ns cs) (.slice Ag ng cg)) 44)
  have HW := Lib.hid (hw.below b0)
  have K := Lib.hid (Blk.new w 44 (letO L (.slice Ae ne ce) (.slice Ad nd cd) (.slice As ns cs) (.slice Ag ng cg)))
  have B0 := Lib.hid b0
  have OK := Lib.hid hw.ok
  have HD0 := Lib.hid hw.data
  clear hw b0 hne hnd hns hng
  have PB := Lib.hid (show ¬ nd ≤ 65536 → putL L = ([], 1) from fun h => putL_bad (ps := [.index, .mark, .data]) (by rw [hk]; rfl) (.inr (by simp [putPc]; have := ND.out; omega)))
  have PG := Lib.hid (show nd ≤ 65536 → putL L = ([5, L.src, L.dst] ++ nb L.term.toNat ++ nb L.index.toNat ++ nb L.mark.toNat ++ nb nd ++ L.data, 0) from fun h => by
    rw [putL_of (ps := [.index, .mark, .data]) (by rw [hk]; rfl) (by rw [hk]; omega) (by simp [putPc]; have := ND.out; omega), hk, ND.out]
    simp [putPc, textB])
  simp only [letO, hk] at K B0 HW ⊢
  go_enter Tryz.func9, Tryz.ntmps9
  go_upto_region 1 with fail
  obtain ⟨w0, hw0⟩ : ∃ w0, w0 = w.alloc (.cells #[.int .i64 5, .int .u8 L.src, .int .u8 L.dst, .int .u64 L.term, .int .u64 L.index, .int .u64 L.mark, .int .u64 L.commit, .bool L.yes, .slice Ae ne ce, .slice Ad nd cd, .int .u8 L.cl, .int .u64 L.num, .slice As ns cs, .int .i64 L.e, .int .i64 L.re, .int .i64 L.ra, .slice Ag ng cg] 44) := ⟨_, rfl⟩
  rw [← hw0] at K B0 HW ⊢
  have hsz : w.heap.size + 1 ≤ w0.heap.size := by rw [hw0]; simp
  clear hw0
  have c0 := K.out.cell 0
  have c1 := K.out.cell 1
  have c2 := K.out.cell 2
  simp only [List.getElem?_toArray, List.getElem?_cons_zero, List.getElem?_cons_succ] at c0 c1 c2
  have b1 := below_alloc_ w0 (.cells #[.int .u8 5, .int .u8 L.src, .int .u8 L.dst] 5)
  have hx := Bs.lits w0 [5, L.src, L.dst]
  have k1 := K.out.below b1 K.out.lt
  have d3 := k1.cell 3
  simp only [List.getElem?_toArray, List.getElem?_cons_zero, List.getElem?_cons_succ] at d3
  have Z1 := Lib.hid (show Bs (w0.alloc (.cells #[.int .u8 5, .int .u8 L.src, .int .u8 L.dst] 5)) (.slice (some ⟨w0.heap.size, 0, none⟩) 3 3) [5, L.src, L.dst] from hx)
  have K1 := Lib.hid k1
  have W1 := Lib.hid (HW.out.below b1)
  have B1 := Lib.hid (B0.out.trans (b1.mono B0.out.size))
  have SZ := Lib.hid (Nat.le_trans hsz b1.size)
  clear b1 hx k1 B0 HW K hsz
  go_wp2_with fail
  refine (rnumI_any _ [5, L.src, L.dst] L.term _ Z1.out OK.out.term (by simp)).mono ?_
  rintro e w2 ⟨v4, rfl, ho, hb⟩
  have B2 := Lib.hid (B1.out.trans (hb.mono B1.out.size))
  have W2 := Lib.hid (W1.out.below hb)
  have k2 := K1.out.below hb K1.out.lt
  have K2 := Lib.hid k2
  have O4 := Lib.hid (ho.le SZ.out)
  have SZ2 := Lib.hid (Nat.le_trans SZ.out hb.size)
  obtain ⟨xs, hxs⟩ : ∃ xs, xs = [5, L.src, L.dst] ++ nb L.term.toNat := ⟨_, rfl⟩
  rw [← hxs] at O4
  have XS := Lib.hid hxs
  have hxl : xs.length ≤ 20 := by rw [hxs]; have := nbI_len OK.out.term; simp; omega
  have e0 := k2.cell 0
  simp only [List.getElem?_toArray, List.getElem?_cons_zero] at e0
  obtain ⟨A4, m4, p4, rfl⟩ := O4.out.sl
  clear ho hb k2 hxs B1 W1 K1 Z1 c0 c1 c2 d3 SZ
  have e9 := K2.out.cell 9
  simp only [List.getElem?_toArray, List.getElem?_cons_zero, List.getElem?_cons_succ] at e9
  by_cases h6 : 65536 < nd
  · have h6' : (65536 : Int) < nd := by omega
    have PL := Lib.hid (PB.out (by omega))
    go_wp2
    refine bodyPost_ret (results_tmp2 rfl _ _ _) rfl ?_
    rw [PL.out]
    exact ⟨_, rfl, Bo.nil_ _ _, B2.out⟩
  have h6' : ¬ (65536 : Int) < nd := by omega
  have PL := Lib.hid (PG.out (by omega))
  have hnd : (nd : Int) ≤ 65536 := by omega
  go_upto_region 26 with fail
  have k5 := K2.out.drew
  have s4 := k5.cell 4
  have s5 := k5.cell 5
  simp only [List.getElem?_toArray, List.getElem?_cons_zero, List.getElem?_cons_succ] at s4 s5
  have S0 := Lib.hid (And.intro s4 (s5))
  have SS := Lib.hid (show ∀ X, Below (w.heap.size + 1) w2.drew X → X.cell? ⟨w.heap.size, 4, none⟩ = some (.int .u64 L.index) ∧ X.cell? ⟨w.heap.size, 5, none⟩ = some (.int .u64 L.mark) from fun X hb => ⟨(hb.cell (Nat.lt_succ_self w.heap.size)).trans s4, (hb.cell (Nat.lt_succ_self w.heap.size)).trans s5⟩)
  have Z4 := Lib.hid (show Bs w2.drew _ xs from O4.out.bs)
  have SA := Lib.hid trivial
  clear e9
  clear k5 s4 s5 e0
  go_region_held3 (fun w' => w'.cell? ⟨w.heap.size, 4, none⟩ = some (.int .u64 L.index) ∧ w'.cell? ⟨w.heap.size, 5, none⟩ = some (.int .u64 L.mark)) (first
    | (with_reducible exact S9.out)
    | (with_reducible exact S8.out)
    | (with_reducible exact S7.out)
    | (with_reducible exact S6.out)
    | (with_reducible exact S5.out)
    | (with_reducible exact SA.out)
    | (with_reducible exact S0.out)
    | fail)
    (first
    | (go_at_call 26; refine (rnumI_any _ (xs ++ nb L.index.toNat) L.mark _ Z7.out OK.out.mark (by have := nbI_len OK.out.index; have := nbI_len OK.out.mark; have := nbI_len OK.out.commit; have := nbI_len OK.out.num; (try simp only [List.length_append]); omega)).mono ?_; rintro e u8 ⟨x8, rfl, hw8, hb8⟩; have Y8 := Lib.hid (show Below (w.heap.size + 1) w2.drew u8 from Y7.out.trans (hb8.mono (Nat.le_trans SZ2.out Y7.out.size))); have Z8 := Lib.hid hw8.bs; have O8 := Lib.hid (hw8.le (show w.heap.size + 1 ≤ _ from Nat.le_trans SZ2.out Y7.out.size)); have S8 := Lib.hid (SS.out _ Y8.out); obtain ⟨A8, m8, p8, rfl⟩ := hw8.sl; clear hw8 hb8)
    | (go_at_call 26; refine (rnumI_any _ (xs) L.index _ Z4.out OK.out.index (by have := nbI_len OK.out.index; have := nbI_len OK.out.mark; have := nbI_len OK.out.commit; have := nbI_len OK.out.num; (try simp only [List.length_append, List.length_cons, List.length_nil]); omega)).mono ?_; rintro e u7 ⟨x7, rfl, hw7, hb7⟩; have Y7 := Lib.hid (show Below (w.heap.size + 1) w2.drew u7 from hb7.mono SZ2.out); have Z7 := Lib.hid hw7.bs; have O7 := Lib.hid (hw7.le (show w.heap.size + 1 ≤ _ from SZ2.out)); have S7 := Lib.hid (SS.out _ Y7.out); obtain ⟨A7, m7, p7, rfl⟩ := hw7.sl; clear hw7 hb7))
  have B8 := Lib.hid (B2.out.trans (show Below w.heap.size w2 u8 from (Below.refl w.heap.size w2).drew.trans (Y8.out.mono (Nat.le_succ _))))
  have K8 := Lib.hid (K2.out.drew.below Y8.out (Nat.lt_succ_self _))
  have SZ8 := Lib.hid (Nat.le_trans SZ2.out Y8.out.size)
  have D8 := Lib.hid (HD0.out.below B8.out)
  clear S0 SS Y7 Z7 O7 S7 S8 SA
  have hwl : IntKind.u64.wrap (nd : Int) = nd := IntWalk.u64_in _ (by omega)
  go_upto_region 27 with fail
  have k5 := K8.out.drew
  have r9 := k5.cell 9
  simp only [List.getElem?_toArray, List.getElem?_cons_zero, List.getElem?_cons_succ] at r9
  have S0 := Lib.hid (r9)
  have SS := Lib.hid (show ∀ X, Below (w.heap.size + 1) u8.drew X → X.cell? ⟨w.heap.size, 9, none⟩ = some (.slice Ad nd cd) from fun X hb => (hb.cell (Nat.lt_succ_self w.heap.size)).trans r9)
  have ZZ := Lib.hid (show Bs u8.drew _ _ from Z8.out)
  have SA := Lib.hid trivial
  clear k5 r9
  go_region_held3 (fun w' => w'.cell? ⟨w.heap.size, 9, none⟩ = some (.slice Ad nd cd)) (first
    | (with_reducible exact S9.out)
    | (with_reducible exact S8.out)
    | (with_reducible exact S7.out)
    | (with_reducible exact S6.out)
    | (with_reducible exact S5.out)
    | (with_reducible exact SA.out)
    | (with_reducible exact S0.out)
    | fail)
    (first
    | (refine step_bf_bytes rfl _ _ 25 rfl Tryz.underlying25 rfl GA.out LA.out rfl (by have := ND.out; have := nb_ten (n := nd) (by omega); have := nbI_len OK.out.index; have := nbI_len OK.out.mark; simp only [List.length_append, Int.toNat_natCast]; omega) ?_; intro v6 u6 hB6 hg6; have Y6 := Lib.hid hB6.bel; have O6 := Lib.hid hB6.own; have S6 := Lib.hid (SS.out _ Y6.out); obtain ⟨A6, m6, p6, rfl⟩ := hB6.own.sl; clear hB6 hg6)
    | (go_at_call 26; refine (rnumI_any _ (xs ++ nb L.index.toNat ++ nb L.mark.toNat) (nd : Int) _ ZZ.out ⟨by omega, by omega⟩ (by have := nbI_len OK.out.index; have := nbI_len OK.out.mark; have := nbI_len OK.out.commit; have := nbI_len OK.out.num; (try simp only [List.length_append]); omega)).mono ?_; rintro e u5 ⟨x5, rfl, hw5, hb5⟩; have Y5 := Lib.hid (hb5.mono SZ8.out); have GA := Lib.hid (show Bf (w.heap.size + 1) u8.drew u5 x5 _ from ⟨hw5.le SZ8.out, Y5.out, Nat.le_trans SZ8.out Y5.out.size⟩); have LA := Lib.hid (show Bs u5 _ L.data from (show Bs u8.drew _ L.data from D8.out).below hb5); have S5 := Lib.hid (SS.out _ Y5.out); obtain ⟨A5, m5, p5, rfl⟩ := hw5.sl; clear hw5 hb5))
  all_goals
    have hbl := Lib.hid (B8.out.trans (show Below w.heap.size u8 u6 from (Below.refl w.heap.size u8).drew.trans (Y6.out.mono (Nat.le_succ _))))
    go_wp2
    refine bodyPost_ret (results_tmp2 rfl _ _ _) rfl ?_
    rw [PL.out, ← XS.out]
    exact ⟨_, rfl, by simpa using O6.out.le (Nat.le_succ _), hbl.out⟩
set_option maxHeartbeats 1000000 in
set_option maxRecDepth 100000 in
theorem rput_6 {w : World} {L : Lt} {ve vd vs vg : Value} (hw : Lw w L ve vd vs vg) (hk : L.kind = 6) :
    Calls Tryz.prog 9 #[.agg (letO L ve vd vs vg)] w fun e w' => ∃ v', e = .returned (.tuple #[v', .int .i64 (putL L).2]) ∧ Bo w.heap.size w' v' (putL L).1 ∧ Below w.heap.size w w' := by
  obtain ⟨Ae, ce, Ad, cd, As, cs, Ag, cg, rfl, rfl, rfl, rfl⟩ := hw.sl
  obtain ⟨ne, hne⟩ : ∃ n, n = L.es.length := ⟨_, rfl⟩
  obtain ⟨nd, hnd⟩ : ∃ n, n = L.data.length := ⟨_, rfl⟩
  obtain ⟨ns, hns⟩ : ∃ n, n = L.steps.length := ⟨_, rfl⟩
  obtain ⟨ng, hng⟩ : ∃ n, n = L.gots.length := ⟨_, rfl⟩
  rw [← hne, ← hnd, ← hns, ← hng] at hw ⊢
  have NE := Lib.hid hne
  have ND := Lib.hid hnd
  have NS := Lib.hid hns
  have NG := Lib.hid hng
  have b0 := below_alloc_ w (.cells (letO L (.slice Ae ne ce) (.slice Ad nd cd) (.slice As ns cs) (.slice Ag ng cg)) 44)
  have HW := Lib.hid (hw.below b0)
  have K := Lib.hid (Blk.new w 44 (letO L (.slice Ae ne ce) (.slice Ad nd cd) (.slice As ns cs) (.slice Ag ng cg)))
  have B0 := Lib.hid b0
  have OK := Lib.hid hw.ok
  have HD0 := Lib.hid hw.data
  clear hw b0 hne hnd hns hng
  have PB := Lib.hid (show ¬ L.steps.length ≤ 8 → putL L = ([], 1) from fun h => putL_bad (ps := [.client, .num, .command]) (by rw [hk]; rfl) (.inr (by simp [putPc, cmdR, h])))
  have PG := Lib.hid (show L.steps.length ≤ 8 → putL L = ([6, L.src, L.dst] ++ nb L.term.toNat ++ [L.cl] ++ nb L.num.toNat ++ (cmdR L.steps).1, 0) from fun h => by
    rw [putL_of (ps := [.client, .num, .command]) (by rw [hk]; rfl) (by rw [hk]; omega) (by simp [putPc, cmdR, h]), hk]
    simp [putPc])
  have UL := Lib.hid (show True from trivial)
  simp only [letO, hk] at K B0 HW ⊢
  go_enter Tryz.func9, Tryz.ntmps9
  go_upto_region 1 with fail
  obtain ⟨w0, hw0⟩ : ∃ w0, w0 = w.alloc (.cells #[.int .i64 6, .int .u8 L.src, .int .u8 L.dst, .int .u64 L.term, .int .u64 L.index, .int .u64 L.mark, .int .u64 L.commit, .bool L.yes, .slice Ae ne ce, .slice Ad nd cd, .int .u8 L.cl, .int .u64 L.num, .slice As ns cs, .int .i64 L.e, .int .i64 L.re, .int .i64 L.ra, .slice Ag ng cg] 44) := ⟨_, rfl⟩
  rw [← hw0] at K B0 HW ⊢
  have hsz : w.heap.size + 1 ≤ w0.heap.size := by rw [hw0]; simp
  clear hw0
  have c0 := K.out.cell 0
  have c1 := K.out.cell 1
  have c2 := K.out.cell 2
  simp only [List.getElem?_toArray, List.getElem?_cons_zero, List.getElem?_cons_succ] at c0 c1 c2
  have b1 := below_alloc_ w0 (.cells #[.int .u8 6, .int .u8 L.src, .int .u8 L.dst] 5)
  have hx := Bs.lits w0 [6, L.src, L.dst]
  have k1 := K.out.below b1 K.out.lt
  have d3 := k1.cell 3
  simp only [List.getElem?_toArray, List.getElem?_cons_zero, List.getElem?_cons_succ] at d3
  have Z1 := Lib.hid (show Bs (w0.alloc (.cells #[.int .u8 6, .int .u8 L.src, .int .u8 L.dst] 5)) (.slice (some ⟨w0.heap.size, 0, none⟩) 3 3) [6, L.src, L.dst] from hx)
  have K1 := Lib.hid k1
  have W1 := Lib.hid (HW.out.below b1)
  have B1 := Lib.hid (B0.out.trans (b1.mono B0.out.size))
  have SZ := Lib.hid (Nat.le_trans hsz b1.size)
  clear b1 hx k1 B0 HW K hsz
  go_wp2_with fail
  refine (rnumI_any _ [6, L.src, L.dst] L.term _ Z1.out OK.out.term (by simp)).mono ?_
  rintro e w2 ⟨v4, rfl, ho, hb⟩
  have B2 := Lib.hid (B1.out.trans (hb.mono B1.out.size))
  have W2 := Lib.hid (W1.out.below hb)
  have k2 := K1.out.below hb K1.out.lt
  have K2 := Lib.hid k2
  have O4 := Lib.hid (ho.le SZ.out)
  have SZ2 := Lib.hid (Nat.le_trans SZ.out hb.size)
  obtain ⟨xs, hxs⟩ : ∃ xs, xs = [6, L.src, L.dst] ++ nb L.term.toNat := ⟨_, rfl⟩
  rw [← hxs] at O4
  have XS := Lib.hid hxs
  have hxl : xs.length ≤ 20 := by rw [hxs]; have := nbI_len OK.out.term; simp; omega
  have e0 := k2.cell 0
  simp only [List.getElem?_toArray, List.getElem?_cons_zero] at e0
  obtain ⟨A4, m4, p4, rfl⟩ := O4.out.sl
  clear ho hb k2 hxs B1 W1 K1 Z1 c0 c1 c2 d3 SZ
  have e12 := K2.out.cell 12
  simp only [List.getElem?_toArray, List.getElem?_cons_zero, List.getElem?_cons_succ] at e12
  have T8 := Lib.hid (show LtOk L from OK.out)
  go_wp2_with fail
  refine (rputcmd_any _ L.steps OK.out.steps _ W2.out.steps W2.out.t6).mono ?_
  rintro e w3 ⟨vx, rfl, hx, hbx⟩
  have K3 := Lib.hid (K2.out.below hbx K2.out.lt)
  have B3 := Lib.hid (B2.out.trans (hbx.mono B2.out.size))
  have O43 := Lib.hid (O4.out.below hbx)
  have SZ3 := Lib.hid (Nat.le_trans SZ2.out hbx.size)
  have LT4 := Lib.hid (show ∀ k, (Value.slice A4 m4 p4).ownBlock = some k → k < w2.heap.size from O4.out.lt)
  by_cases h8 : ¬ L.steps.length ≤ 8
  · have hr : cmdR L.steps = ([], 3) := if_neg h8
    have PL := Lib.hid (PB.out h8)
    rw [hr]
    obtain ⟨Ax, mx, px, rfl⟩ := hx.sl
    clear hx hbx e12 h8 hr
    go_wp2
    refine bodyPost_ret (results_tmp2 rfl _ _ _) rfl ?_
    rw [PL.out]
    exact ⟨_, rfl, Bo.nil_ _ _, B3.out⟩
  replace h8 : L.steps.length ≤ 8 := by omega
  have hr : (cmdR L.steps).2 = 0 := by unfold cmdR; rw [if_pos h8]
  have PL0 := PG.out h8
  have CL0 : (cmdR L.steps).1.length ≤ 100000 := by unfold cmdR; rw [if_pos h8]; exact cmdLen h8 OK.out.steps
  rw [hr]
  obtain ⟨cb, hcb⟩ : ∃ cb, cb = (cmdR L.steps).1 := ⟨_, rfl⟩
  rw [← hcb] at hx PL0 CL0
  have PL := Lib.hid PL0
  have CL := Lib.hid CL0
  have HX := Lib.hid hx
  obtain ⟨Ax, mx, px, rfl⟩ := hx.sl
  clear hx hbx hcb hr PL0 CL0 e12 h8 e0
  go_upto_region 32 with fail
  have k5 := K3.out.drew
  have s10 := k5.cell 10
  have s11 := k5.cell 11
  simp only [List.getElem?_toArray, List.getElem?_cons_zero, List.getElem?_cons_succ] at s10 s11
  have S0 := Lib.hid (And.intro s10 (s11))
  have SS := Lib.hid (show ∀ X, Below (w.heap.size + 1) w3.drew X → X.cell? ⟨w.heap.size, 10, none⟩ = some (.int .u8 L.cl) ∧ X.cell? ⟨w.heap.size, 11, none⟩ = some (.int .u64 L.num) from fun X hb => ⟨(hb.cell (Nat.lt_succ_self w.heap.size)).trans s10, (hb.cell (Nat.lt_succ_self w.heap.size)).trans s11⟩)
  have ba := below_alloc_ w3 (.cells #[.int .u8 L.cl] 5)
  have bd : Below (w.heap.size + 1) w3.drew (w3.alloc (.cells #[.int .u8 L.cl] 5)).drew := (below_alloc_ w3.drew (.cells #[.int .u8 L.cl] 5)).mono SZ3.out
  have GA := Lib.hid (show Bf (w.heap.size + 1) w3.drew (w3.alloc (.cells #[.int .u8 L.cl] 5)).drew _ xs from ⟨O43.out.below ba.drew, bd, Nat.le_trans SZ3.out ba.size⟩)
  have LA := Lib.hid (show Bs (w3.alloc (.cells #[.int .u8 L.cl] 5)).drew _ [L.cl] from Bs.lits w3 [L.cl])
  have SA := Lib.hid (SS.out _ bd)
  have XA := Lib.hid (show Bo w2.heap.size (w3.alloc (.cells #[.int .u8 L.cl] 5)).drew (.slice Ax mx px) cb from HX.out.below ba.drew)
  clear ba bd
  clear k5 s10 s11
  go_region_held3 (fun w' => w'.cell? ⟨w.heap.size, 10, none⟩ = some (.int .u8 L.cl) ∧ w'.cell? ⟨w.heap.size, 11, none⟩ = some (.int .u64 L.num)) (first
    | (with_reducible exact S9.out)
    | (with_reducible exact S8.out)
    | (with_reducible exact S7.out)
    | (with_reducible exact S6.out)
    | (with_reducible exact S5.out)
    | (with_reducible exact SA.out)
    | (with_reducible exact S0.out)
    | fail)
    (first
    | (refine step_bf_bytes rfl _ _ 25 rfl Tryz.underlying25 rfl G8.out L8.out rfl (by have := CL.out; have := nbI_len OK.out.index; have := nbI_len OK.out.mark; have := nbI_len OK.out.num; have := UL.out; (try simp only [List.length_append, List.length_cons, List.length_nil]); omega) ?_; intro v8 u8 hB8 hg8; have Y8 := Lib.hid hB8.bel; have O8 := Lib.hid hB8.own; have Z8 := Lib.hid hB8.own.bs; have S8 := Lib.hid (SS.out _ Y8.out); skip; obtain ⟨A8, m8, p8, rfl⟩ := hB8.own.sl; clear hB8 hg8)
    | (go_at_call 26; refine (rnumI_any _ (xs ++ [L.cl]) L.num _ Z6.out OK.out.num (by have := CL.out; have := nbI_len OK.out.index; have := nbI_len OK.out.mark; have := nbI_len OK.out.num; have := UL.out; (try simp only [List.length_append, List.length_cons, List.length_nil]); omega)).mono ?_; rintro e u7 ⟨x7, rfl, hw7, hb7⟩; have Y7 := Lib.hid (show Below (w.heap.size + 1) w3.drew u7 from Y6.out.trans (hb7.mono (Nat.le_trans SZ3.out Y6.out.size))); have Z7 := Lib.hid hw7.bs; have O7 := Lib.hid (hw7.le (show w.heap.size + 1 ≤ _ from Nat.le_trans SZ3.out Y6.out.size)); have S7 := Lib.hid (SS.out _ Y7.out); have X7 := Lib.hid (Ow.below X6.out hb7); have G8 := Lib.hid (show Bf (w.heap.size + 1) w3.drew u7 x7 _ from ⟨O7.out, Y7.out, Nat.le_trans SZ3.out Y7.out.size⟩); have L8 := Lib.hid (Bo.bs X7.out); obtain ⟨A7, m7, p7, rfl⟩ := hw7.sl; clear hw7 hb7)
    | (refine step_bf_bytes rfl _ _ 25 rfl Tryz.underlying25 rfl GA.out LA.out rfl (by have := CL.out; have := nbI_len OK.out.index; have := nbI_len OK.out.mark; have := nbI_len OK.out.num; have := UL.out; (try simp only [List.length_cons, List.length_nil]); omega) ?_; intro v6 u6 hB6 hg6; have Y6 := Lib.hid hB6.bel; have O6 := Lib.hid hB6.own; have Z6 := Lib.hid hB6.own.bs; have S6 := Lib.hid (SS.out _ Y6.out); have X6 := Lib.hid (Ow.beside XA.out hg6.1 (fun k hk => LT4.out k hk)); obtain ⟨A6, m6, p6, rfl⟩ := hB6.own.sl; clear hB6 hg6))
  all_goals
    have hbl := Lib.hid (B3.out.trans (show Below w.heap.size w3 u8 from (Below.refl w.heap.size w3).drew.trans (Y8.out.mono (Nat.le_succ _))))
    go_wp2
    refine bodyPost_ret (results_tmp2 rfl _ _ _) rfl ?_
    rw [PL.out, ← XS.out]
    exact ⟨_, rfl, O8.out.le (Nat.le_succ _), hbl.out⟩
set_option maxHeartbeats 1000000 in
set_option maxRecDepth 100000 in
theorem rput_7 {w : World} {L : Lt} {ve vd vs vg : Value} (hw : Lw w L ve vd vs vg) (hk : L.kind = 7) :
    Calls Tryz.prog 9 #[.agg (letO L ve vd vs vg)] w fun e w' => ∃ v', e = .returned (.tuple #[v', .int .i64 (putL L).2]) ∧ Bo w.heap.size w' v' (putL L).1 ∧ Below w.heap.size w w' := by
  obtain ⟨Ae, ce, Ad, cd, As, cs, Ag, cg, rfl, rfl, rfl, rfl⟩ := hw.sl
  obtain ⟨ne, hne⟩ : ∃ n, n = L.es.length := ⟨_, rfl⟩
  obtain ⟨nd, hnd⟩ : ∃ n, n = L.data.length := ⟨_, rfl⟩
  obtain ⟨ns, hns⟩ : ∃ n, n = L.steps.length := ⟨_, rfl⟩
  obtain ⟨ng, hng⟩ : ∃ n, n = L.gots.length := ⟨_, rfl⟩
  rw [← hne, ← hnd, ← hns, ← hng] at hw ⊢
  have NE := Lib.hid hne
  have ND := Lib.hid hnd
  have NS := Lib.hid hns
  have NG := Lib.hid hng
  have b0 := below_alloc_ w (.cells (letO L (.slice Ae ne ce) (.slice Ad nd cd) (.slice As ns cs) (.slice Ag ng cg)) 44)
  have HW := Lib.hid (hw.below b0)
  have K := Lib.hid (Blk.new w 44 (letO L (.slice Ae ne ce) (.slice Ad nd cd) (.slice As ns cs) (.slice Ag ng cg)))
  have B0 := Lib.hid b0
  have OK := Lib.hid hw.ok
  have HD0 := Lib.hid hw.data
  clear hw b0 hne hnd hns hng
  have PB := Lib.hid (show (¬ L.gots.length ≤ 8 ∨ L.e < 0) → putL L = ([], 1) from fun h => putL_bad (ps := [.client, .num, .wrong, .index, .reply]) (by rw [hk]; rfl) (by
    rcases h with h | h
    · exact .inr (by simp [putPc, replyR, h])
    · exact .inl ⟨h, hk⟩))
  have PG := Lib.hid (show L.gots.length ≤ 8 → ¬ L.e < 0 → putL L = ([7, L.src, L.dst] ++ nb L.term.toNat ++ [L.cl] ++ nb L.num.toNat ++ nb (uns L.e) ++ nb L.index.toNat ++ (replyR ([L.re, L.ra], L.gots)).1, 0) from fun h h2 => by
    rw [putL_of (ps := [.client, .num, .wrong, .index, .reply]) (by rw [hk]; rfl) (fun h3 => h2 h3.1) (by simp [putPc, replyR, h]), hk]
    simp [putPc])
  have UL := Lib.hid (show True from trivial)
  simp only [letO, hk] at K B0 HW ⊢
  go_enter Tryz.func9, Tryz.ntmps9
  go_upto_region 1 with fail
  obtain ⟨w0, hw0⟩ : ∃ w0, w0 = w.alloc (.cells #[.int .i64 7, .int .u8 L.src, .int .u8 L.dst, .int .u64 L.term, .int .u64 L.index, .int .u64 L.mark, .int .u64 L.commit, .bool L.yes, .slice Ae ne ce, .slice Ad nd cd, .int .u8 L.cl, .int .u64 L.num, .slice As ns cs, .int .i64 L.e, .int .i64 L.re, .int .i64 L.ra, .slice Ag ng cg] 44) := ⟨_, rfl⟩
  rw [← hw0] at K B0 HW ⊢
  have hsz : w.heap.size + 1 ≤ w0.heap.size := by rw [hw0]; simp
  clear hw0
  have c0 := K.out.cell 0
  have c1 := K.out.cell 1
  have c2 := K.out.cell 2
  simp only [List.getElem?_toArray, List.getElem?_cons_zero, List.getElem?_cons_succ] at c0 c1 c2
  have b1 := below_alloc_ w0 (.cells #[.int .u8 7, .int .u8 L.src, .int .u8 L.dst] 5)
  have hx := Bs.lits w0 [7, L.src, L.dst]
  have k1 := K.out.below b1 K.out.lt
  have d3 := k1.cell 3
  simp only [List.getElem?_toArray, List.getElem?_cons_zero, List.getElem?_cons_succ] at d3
  have Z1 := Lib.hid (show Bs (w0.alloc (.cells #[.int .u8 7, .int .u8 L.src, .int .u8 L.dst] 5)) (.slice (some ⟨w0.heap.size, 0, none⟩) 3 3) [7, L.src, L.dst] from hx)
  have K1 := Lib.hid k1
  have W1 := Lib.hid (HW.out.below b1)
  have B1 := Lib.hid (B0.out.trans (b1.mono B0.out.size))
  have SZ := Lib.hid (Nat.le_trans hsz b1.size)
  clear b1 hx k1 B0 HW K hsz
  go_wp2_with fail
  refine (rnumI_any _ [7, L.src, L.dst] L.term _ Z1.out OK.out.term (by simp)).mono ?_
  rintro e w2 ⟨v4, rfl, ho, hb⟩
  have B2 := Lib.hid (B1.out.trans (hb.mono B1.out.size))
  have W2 := Lib.hid (W1.out.below hb)
  have k2 := K1.out.below hb K1.out.lt
  have K2 := Lib.hid k2
  have O4 := Lib.hid (ho.le SZ.out)
  have SZ2 := Lib.hid (Nat.le_trans SZ.out hb.size)
  obtain ⟨xs, hxs⟩ : ∃ xs, xs = [7, L.src, L.dst] ++ nb L.term.toNat := ⟨_, rfl⟩
  rw [← hxs] at O4
  have XS := Lib.hid hxs
  have hxl : xs.length ≤ 20 := by rw [hxs]; have := nbI_len OK.out.term; simp; omega
  have e0 := k2.cell 0
  simp only [List.getElem?_toArray, List.getElem?_cons_zero] at e0
  obtain ⟨A4, m4, p4, rfl⟩ := O4.out.sl
  clear ho hb k2 hxs B1 W1 K1 Z1 c0 c1 c2 d3 SZ
  have e13 := K2.out.cell 13
  have e14 := K2.out.cell 14
  have e15 := K2.out.cell 15
  have e16 := K2.out.cell 16
  simp only [List.getElem?_toArray, List.getElem?_cons_zero, List.getElem?_cons_succ] at e13 e14 e15 e16
  go_wp2_with fail
  refine (rputreply_any L.re L.ra _ L.gots OK.out.re OK.out.ra OK.out.gots _ W2.out.gots W2.out.g6).mono ?_
  rintro e w3 ⟨vx, rfl, hx, hbx⟩
  have K3 := Lib.hid (K2.out.below hbx K2.out.lt)
  have B3 := Lib.hid (B2.out.trans (hbx.mono B2.out.size))
  have O43 := Lib.hid (O4.out.below hbx)
  have SZ3 := Lib.hid (Nat.le_trans SZ2.out hbx.size)
  have LT4 := Lib.hid (show ∀ k, (Value.slice A4 m4 p4).ownBlock = some k → k < w2.heap.size from O4.out.lt)
  have j13 := K3.out.cell 13
  simp only [List.getElem?_toArray, List.getElem?_cons_zero, List.getElem?_cons_succ] at j13
  clear e13 e14 e15 e16
  by_cases h8 : ¬ L.gots.length ≤ 8
  · have hr : replyR ([L.re, L.ra], L.gots) = ([], 3) := if_neg h8
    have PL := Lib.hid (PB.out (.inl h8))
    rw [hr]
    obtain ⟨Ax, mx, px, rfl⟩ := hx.sl
    clear hx hbx h8 hr
    go_wp2
    refine bodyPost_ret (results_tmp2 rfl _ _ _) rfl ?_
    rw [PL.out]
    exact ⟨_, rfl, Bo.nil_ _ _, B3.out⟩
  replace h8 : L.gots.length ≤ 8 := by omega
  have hr : (replyR ([L.re, L.ra], L.gots)).2 = 0 := by unfold replyR; rw [if_pos h8]
  have CL0 : (replyR ([L.re, L.ra], L.gots)).1.length ≤ 100000 := by unfold replyR; rw [if_pos h8]; exact replyLen OK.out.re OK.out.ra h8 OK.out.gots
  rw [hr]
  by_cases hE : L.e < 0
  · have PL := Lib.hid (PB.out (.inr hE))
    obtain ⟨Ax, mx, px, rfl⟩ := hx.sl
    clear hx hbx h8 hr CL0
    go_wp2
    refine bodyPost_ret (results_tmp2 rfl _ _ _) rfl ?_
    rw [PL.out]
    exact ⟨_, rfl, Bo.nil_ _ _, B3.out⟩
  have PL0 := PG.out h8 (by omega)
  obtain ⟨cb, hcb⟩ : ∃ cb, cb = (replyR ([L.re, L.ra], L.gots)).1 := ⟨_, rfl⟩
  rw [← hcb] at hx PL0 CL0
  have PL := Lib.hid PL0
  have CL := Lib.hid CL0
  have HX := Lib.hid hx
  obtain ⟨Ax, mx, px, rfl⟩ := hx.sl
  clear hx hbx hcb hr PL0 CL0 h8 e0
  go_upto_region 37 with fail
  have k5 := K3.out.drew
  have s10 := k5.cell 10
  have s11 := k5.cell 11
  simp only [List.getElem?_toArray, List.getElem?_cons_zero, List.getElem?_cons_succ] at s10 s11
  have S0 := Lib.hid (And.intro s10 (s11))
  have SS := Lib.hid (show ∀ X, Below (w.heap.size + 1) w3.drew X → X.cell? ⟨w.heap.size, 10, none⟩ = some (.int .u8 L.cl) ∧ X.cell? ⟨w.heap.size, 11, none⟩ = some (.int .u64 L.num) from fun X hb => ⟨(hb.cell (Nat.lt_succ_self w.heap.size)).trans s10, (hb.cell (Nat.lt_succ_self w.heap.size)).trans s11⟩)
  clear j13
  have ba := below_alloc_ w3 (.cells #[.int .u8 L.cl] 5)
  have bd : Below (w.heap.size + 1) w3.drew (w3.alloc (.cells #[.int .u8 L.cl] 5)).drew := (below_alloc_ w3.drew (.cells #[.int .u8 L.cl] 5)).mono SZ3.out
  have GA := Lib.hid (show Bf (w.heap.size + 1) w3.drew (w3.alloc (.cells #[.int .u8 L.cl] 5)).drew _ xs from ⟨O43.out.below ba.drew, bd, Nat.le_trans SZ3.out ba.size⟩)
  have LA := Lib.hid (show Bs (w3.alloc (.cells #[.int .u8 L.cl] 5)).drew _ [L.cl] from Bs.lits w3 [L.cl])
  have SA := Lib.hid (SS.out _ bd)
  have XA := Lib.hid (show Bo w2.heap.size (w3.alloc (.cells #[.int .u8 L.cl] 5)).drew (.slice Ax mx px) cb from HX.out.below ba.drew)
  clear ba bd
  clear k5 s10 s11
  go_region_held3 (fun w' => w'.cell? ⟨w.heap.size, 10, none⟩ = some (.int .u8 L.cl) ∧ w'.cell? ⟨w.heap.size, 11, none⟩ = some (.int .u64 L.num)) (first
    | (with_reducible exact S9.out)
    | (with_reducible exact S8.out)
    | (with_reducible exact S7.out)
    | (with_reducible exact S6.out)
    | (with_reducible exact S5.out)
    | (with_reducible exact SA.out)
    | (with_reducible exact S0.out)
    | fail)
    (first
    | (go_at_call 26; refine (rnumI_any _ (xs ++ [L.cl]) L.num _ Z6.out OK.out.num (by have := CL.out; have := nbI_len OK.out.index; have := nbI_len OK.out.mark; have := nbI_len OK.out.num; have := UL.out; (try simp only [List.length_append, List.length_cons, List.length_nil]); omega)).mono ?_; rintro e u7 ⟨x7, rfl, hw7, hb7⟩; have Y7 := Lib.hid (show Below (w.heap.size + 1) w3.drew u7 from Y6.out.trans (hb7.mono (Nat.le_trans SZ3.out Y6.out.size))); have Z7 := Lib.hid hw7.bs; have O7 := Lib.hid (hw7.le (show w.heap.size + 1 ≤ _ from Nat.le_trans SZ3.out Y6.out.size)); have S7 := Lib.hid (SS.out _ Y7.out); have X7 := Lib.hid (Ow.below X6.out hb7); obtain ⟨A7, m7, p7, rfl⟩ := hw7.sl; clear hw7 hb7)
    | (refine step_bf_bytes rfl _ _ 25 rfl Tryz.underlying25 rfl GA.out LA.out rfl (by have := CL.out; have := nbI_len OK.out.index; have := nbI_len OK.out.mark; have := nbI_len OK.out.num; have := UL.out; (try simp only [List.length_cons, List.length_nil]); omega) ?_; intro v6 u6 hB6 hg6; have Y6 := Lib.hid hB6.bel; have O6 := Lib.hid hB6.own; have Z6 := Lib.hid hB6.own.bs; have S6 := Lib.hid (SS.out _ Y6.out); have X6 := Lib.hid (Ow.beside XA.out hg6.1 (fun k hk => LT4.out k hk)); obtain ⟨A6, m6, p6, rfl⟩ := hB6.own.sl; clear hB6 hg6))
  have B7 := Lib.hid (B3.out.trans (show Below w.heap.size w3 u7 from (Below.refl w.heap.size w3).drew.trans (Y7.out.mono (Nat.le_succ _))))
  have K7 := Lib.hid (K3.out.drew.below Y7.out (Nat.lt_succ_self _))
  have SZ7 := Lib.hid (Nat.le_trans SZ3.out Y7.out.size)
  have ZB := Lib.hid (show Bs u7.drew _ _ from Z7.out)
  have XB := Lib.hid (show Bo w2.heap.size u7.drew _ cb from X7.out)
  have hwu : IntKind.u64.wrap L.e = (uns L.e : Int) := by rw [IntKind.wrap_u64]; unfold uns; omega
  have j14 := K7.out.cell 13
  simp only [List.getElem?_toArray, List.getElem?_cons_zero, List.getElem?_cons_succ] at j14
  clear S0 SS Y6 Z6 O6 S6 S7 SA GA LA XA X6 Y7 Z7 X7 hE j14
  go_upto_region 38 with fail
  have k5 := K7.out.drew
  have r13 := k5.cell 13
  have r4 := k5.cell 4
  simp only [List.getElem?_toArray, List.getElem?_cons_zero, List.getElem?_cons_succ] at r13 r4
  have S0 := Lib.hid (And.intro r13 (r4))
  have SS := Lib.hid (show ∀ X, Below (w.heap.size + 1) u7.drew X → X.cell? ⟨w.heap.size, 13, none⟩ = some (.int .i64 L.e) ∧ X.cell? ⟨w.heap.size, 4, none⟩ = some (.int .u64 L.index) from fun X hb => ⟨(hb.cell (Nat.lt_succ_self w.heap.size)).trans r13, (hb.cell (Nat.lt_succ_self w.heap.size)).trans r4⟩)
  have SA := Lib.hid trivial
  clear k5 r13 r4
  go_region_held3 (fun w' => w'.cell? ⟨w.heap.size, 13, none⟩ = some (.int .i64 L.e) ∧ w'.cell? ⟨w.heap.size, 4, none⟩ = some (.int .u64 L.index)) (first
    | (with_reducible exact S9.out)
    | (with_reducible exact S8.out)
    | (with_reducible exact S7.out)
    | (with_reducible exact S6.out)
    | (with_reducible exact S5.out)
    | (with_reducible exact SA.out)
    | (with_reducible exact S0.out)
    | fail)
    (first
    | (refine step_bf_bytes rfl _ _ 25 rfl Tryz.underlying25 rfl G5.out L5.out rfl (by have := CL.out; have := nbI_len OK.out.index; have := nbI_len OK.out.num; have := nb_ten (uns_lt L.e); (try simp only [List.length_append, List.length_cons, List.length_nil, Int.toNat_natCast]); omega) ?_; intro v5 u5 hB5 hg5; have Y5 := Lib.hid hB5.bel; have O5 := Lib.hid hB5.own; have Z5 := Lib.hid hB5.own.bs; have S5 := Lib.hid (SS.out _ Y5.out); skip; obtain ⟨A5, m5, p5, rfl⟩ := hB5.own.sl; clear hB5 hg5)
    | (go_at_call 26; refine (rnumI_any _ (xs ++ [L.cl] ++ nb L.num.toNat ++ nb (uns L.e : Int).toNat) L.index _ Z8.out OK.out.index (by have := CL.out; have := nbI_len OK.out.index; have := nbI_len OK.out.num; have := nb_ten (uns_lt L.e); (try simp only [List.length_append, List.length_cons, List.length_nil, Int.toNat_natCast]); omega)).mono ?_; rintro e u9 ⟨x9, rfl, hw9, hb9⟩; have Y9 := Lib.hid (show Below (w.heap.size + 1) u7.drew u9 from Y8.out.trans (hb9.mono (Nat.le_trans SZ7.out Y8.out.size))); have Z9 := Lib.hid hw9.bs; have O9 := Lib.hid (hw9.le (show w.heap.size + 1 ≤ _ from Nat.le_trans SZ7.out Y8.out.size)); have S9 := Lib.hid (SS.out _ Y9.out); have G5 := Lib.hid (show Bf (w.heap.size + 1) u7.drew u9 x9 _ from ⟨O9.out, Y9.out, Nat.le_trans SZ7.out Y9.out.size⟩); have L5 := Lib.hid (Bo.bs (Ow.below X8.out hb9)); obtain ⟨A9, m9, p9, rfl⟩ := hw9.sl; clear hw9 hb9)
    | (go_at_call 26; refine (rnumI_any _ (xs ++ [L.cl] ++ nb L.num.toNat) (uns L.e : Int) _ ZB.out (show fok1 .u64 (uns L.e : Int) from nat_u64 (uns_lt _)) (by have := CL.out; have := nbI_len OK.out.index; have := nbI_len OK.out.num; have := nb_ten (uns_lt L.e); (try simp only [List.length_append, List.length_cons, List.length_nil]); omega)).mono ?_; rintro e u8 ⟨x8, rfl, hw8, hb8⟩; have Y8 := Lib.hid (show Below (w.heap.size + 1) u7.drew u8 from hb8.mono SZ7.out); have Z8 := Lib.hid hw8.bs; have O8 := Lib.hid (hw8.le (show w.heap.size + 1 ≤ _ from SZ7.out)); have S8 := Lib.hid (SS.out _ Y8.out); have X8 := Lib.hid (Ow.below XB.out hb8); obtain ⟨A8, m8, p8, rfl⟩ := hw8.sl; clear hw8 hb8))
  all_goals
    have hbl := Lib.hid (B7.out.trans (show Below w.heap.size u7 u5 from (Below.refl w.heap.size u7).drew.trans (Y5.out.mono (Nat.le_succ _))))
    go_wp2
    refine bodyPost_ret (results_tmp2 rfl _ _ _) rfl ?_
    rw [PL.out, ← XS.out]
    exact ⟨_, rfl, by simpa using O5.out.le (Nat.le_succ _), hbl.out⟩
/-- The document's bytes of a letter are the code's. -/
theorem rput_any {w : World} {L : Lt} {ve vd vs vg : Value} (hw : Lw w L ve vd vs vg) :
    Calls Tryz.prog 9 #[.agg (letO L ve vd vs vg)] w fun e w' => ∃ v', e = .returned (.tuple #[v', .int .i64 (putL L).2]) ∧ Bo w.heap.size w' v' (putL L).1 ∧ Below w.heap.size w w' := by
  by_cases h1 : L.kind = 1
  · exact rput_1 hw h1
  by_cases h2 : L.kind = 2
  · exact rput_2 hw h2
  by_cases h3 : L.kind = 3
  · exact rput_3 hw h3
  by_cases h4 : L.kind = 4
  · exact rput_4 hw h4
  by_cases h5 : L.kind = 5
  · exact rput_5 hw h5
  by_cases h6 : L.kind = 6
  · exact rput_6 hw h6
  by_cases h7 : L.kind = 7
  · exact rput_7 hw h7
  exact rput_0 hw (by unfold pcs; rw [if_neg h1, if_neg h2, if_neg h3, if_neg h4, if_neg h5, if_neg h6, if_neg h7])
end Go.Proofs.YthjdkjinkmdclaaGreat
