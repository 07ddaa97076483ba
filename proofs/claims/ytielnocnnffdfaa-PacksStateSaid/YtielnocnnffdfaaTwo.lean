/- law01: a twin of a list (countinghouse/api.Offer), and whether it was left as it was. -/
import Derived.Test.YtielnocnnffdfaaRow
import Derived.Test.YtielnocnnffdfaaSmo
import Derived.Laws.StructEq
namespace Go.Proofs.Ytielnocnnffdfaa
open Go.RowKit

theorem run_mark_offer (w : World) : (binOp .eql 155 (.agg #[.int .u64 0, .int .u8 0, .int .u8 0, .int .u8 0, .int .i64 (-77), .int .i64 0, .int .i64 0]) (.agg #[.int .u64 0, .int .u8 0, .int .u8 0, .int .u8 0, .int .i64 (-77), .int .i64 0, .int .i64 0])).run Try.prog w = .ok (.bool true) w := by
  have u0 := Try.underlying28
  have a0 := Try.isAgg28
  have s0 := Try.sizeOf28
  have u1 := Try.underlying146
  have a1 := Try.isAgg146
  have s1 := Try.sizeOf146
  have u2 := Try.underlying148
  have a2 := Try.isAgg148
  have s2 := Try.sizeOf148
  have u3 := Try.underlying2
  have a3 := Try.isAgg2
  have s3 := Try.sizeOf2
  have u4 := Try.underlying153
  have a4 := Try.isAgg153
  have s4 := Try.sizeOf153
  have hS : Try.prog.underlying 155 = some (.struct (Try.prog.fieldsOf 155)) := by kernel_rfl
  have hp : Try.prog.stoodInHeld 155 = false := by kernel_rfl
  have hS2 : Try.prog.underlying 153 = some (.struct (Try.prog.fieldsOf 153)) := by kernel_rfl
  have hp2 : Try.prog.stoodInHeld 153 = false := by kernel_rfl
  have hq := fun (w : World) (a b c d : Int) => run_equalIn_agg w 9998 153 (P := Try.prog) #[.int .i64 a, .int .i64 b] #[.int .i64 c, .int .i64 d] hS2 hp2
  rw [run_eql_struct, show (10000 : Nat) = 9999 + 1 from rfl, run_equalIn_agg w 9999 155 _ _ hS hp]
  simp only [Program.fieldsOf, Try.underlying155]
  go_simp
set_option maxHeartbeats 2000000 in
set_option maxRecDepth 100000 in
theorem twin_offer (v : Value) (r : List (List Int)) (w : World) (hv : Offers w v r) (hn : r.length ≤ 1000000) :
    Calls Try.prog 85 #[v, .agg #[.int .u64 0, .int .u8 0, .int .u8 0, .int .u8 0, .int .i64 (-77), .int .i64 0, .int .i64 0]] w fun e w' => ∃ A c, e = .returned (.slice A r.length c) ∧ Tw w.heap.size w' 155 7 (.slice A r.length c) r.length (r.flatMap (fc offerK)) [.int .u64 0, .int .u8 0, .int .u8 0, .int .u8 0, .int .i64 (-77), .int .i64 0, .int .i64 0, .int .u64 0, .int .u8 0, .int .u8 0, .int .u8 0, .int .i64 (-77), .int .i64 0, .int .i64 0] ∧ Below w.heap.size w w' := by
  obtain ⟨i0, hi, hz0, hz1, hz2⟩ := info_parts offer_info
  have hcl : (r.flatMap (fc offerK)).length = r.length * 7 := (flatMap_len _ _ fcoffer_len r)
  have H1 := Lib.hid (rows_one offerK r)
  have HL := Lib.hid hcl
  obtain ⟨A, c, rfl, -⟩ := id hv
  obtain ⟨cs, hcs⟩ : ∃ cs, cs = (r.flatMap (fc offerK)) := ⟨_, rfl⟩
  rw [← hcs] at HL H1 ⊢
  have hv' : Rd w 7 (.slice A r.length c) r.length cs := by rw [hcs]; exact hv
  clear hv hcl
  obtain ⟨n, hnn⟩ : ∃ n, n = r.length := ⟨_, rfl⟩
  rw [← hnn] at hv' hn HL ⊢
  have hn' : (n : Int) ≤ 1000000 := by omega
  have hk0 := Blk.new w 155 #[.int .u64 0, .int .u8 0, .int .u8 0, .int .u8 0, .int .i64 (-77), .int .i64 0, .int .i64 0]
  have K0 := Lib.hid hk0
  clear hk0
  have HV := Lib.hid (hv'.below (below_alloc_ w (.cells #[.int .u64 0, .int .u8 0, .int .u8 0, .int .u8 0, .int .i64 (-77), .int .i64 0, .int .i64 0] 155)))
  clear hv' hcs hnn
  go_enter Try.func85, Try.ntmps85
  go_upto_region 2 with (at_make; refine wpList_make_own _ rfl _ _ 91 rfl (w.heap.size + 1) 155 i0 (.agg #[.int .u64 0, .int .u8 0, .int .u8 0, .int .u8 0, .int .i64 0, .int .i64 0, .int .i64 0]) 7 Try.underlying91 hi hz0 hz1 .i64 .i64 _ (n + 2) rfl rfl (by simp) (by rw [hz2]; omega) (by unfold maxLen; omega) (by simp) ?_; intro w1 ho1 hg1)
  simp only [World.size_alloc] at ho1
  have OB := Lib.hid (Ow.of_own ho1)
  have O1 := Lib.hid ((Ow.of_own ho1).le (B' := w.heap.size) (by omega))
  have B1 := Lib.hid ((below_alloc_ w (.cells #[.int .u64 0, .int .u8 0, .int .u8 0, .int .u8 0, .int .i64 (-77), .int .i64 0, .int .i64 0] 155)).trans ((below_of_grown_ hg1).mono (by simp)))
  have HV1 := Lib.hid (HV.out.below (below_of_grown_ hg1))
  have K1 := Lib.hid (K0.out.grown hg1 (by simp))
  clear ho1 hg1
  go_upto_region 3 with (at_builtin; refine wpList_ow_rows (n := 0) (m := n) rfl _ _ 91 155 (.agg #[.int .u64 0, .int .u8 0, .int .u8 0, .int .u8 0, .int .i64 0, .int .i64 0, .int .i64 0]) 7 40 rfl Try.underlying91 offer_info rfl (by decide) rfl O1.out (by have := B1.out.size; omega) HV1.out H1.out rfl (by omega) (by unfold maxLen; omega) ?_; intro v2 w2 ho2 hg2)
  have B2 := Lib.hid (below_grown_own_ B1.out hg2.1 O1.out)
  have O2 := Lib.hid ho2
  have K2 := Lib.hid (K1.out.grown hg2.1 (fun e => by have := OB.out.blk_lt _ e.symm; omega))
  have k2 := K2.out
  have k2_0 := k2.cell 0
  have k2_1 := k2.cell 1
  have k2_2 := k2.cell 2
  have k2_3 := k2.cell 3
  have k2_4 := k2.cell 4
  have k2_5 := k2.cell 5
  have k2_6 := k2.cell 6
  simp at k2_0 k2_1 k2_2 k2_3 k2_4 k2_5 k2_6
  clear k2
  clear ho2 hg2 O1 B1 HV1
  rw [Nat.zero_add, List.nil_append] at O2
  go_wp2_with (at_builtin; refine wpList_ow_rows (n := n) (m := 2) rfl _ _ 91 155 (.agg #[.int .u64 0, .int .u8 0, .int .u8 0, .int .u8 0, .int .i64 0, .int .i64 0, .int .i64 0]) 7 40 rfl Try.underlying91 offer_info rfl (by decide) rfl (O2.out.below (below_alloc_ w2 (.cells #[.int .u64 0, .int .u8 0, .int .u8 0, .int .u8 0, .int .i64 (-77), .int .i64 0, .int .i64 0, .int .u64 0, .int .u8 0, .int .u8 0, .int .u8 0, .int .i64 (-77), .int .i64 0, .int .i64 0] 155))) (by have := B2.out.size; simp; omega) (Rd.lits w2 155 7 2 [.int .u64 0, .int .u8 0, .int .u8 0, .int .u8 0, .int .i64 (-77), .int .i64 0, .int .i64 0, .int .u64 0, .int .u8 0, .int .u8 0, .int .u8 0, .int .i64 (-77), .int .i64 0, .int .i64 0] rfl) (by decide) rfl (by omega) (by unfold maxLen; omega) ?_; intro v3 w3 ho3 hg3)
  have B3 := Lib.hid (below_grown_own_ (B2.out.trans ((below_alloc_ w2 (.cells #[.int .u64 0, .int .u8 0, .int .u8 0, .int .u8 0, .int .i64 (-77), .int .i64 0, .int .i64 0, .int .u64 0, .int .u8 0, .int .u8 0, .int .u8 0, .int .i64 (-77), .int .i64 0, .int .i64 0] 155)).mono B2.out.size)) hg3.1 (O2.out.below (below_alloc_ w2 (.cells #[.int .u64 0, .int .u8 0, .int .u8 0, .int .u8 0, .int .i64 (-77), .int .i64 0, .int .i64 0, .int .u64 0, .int .u8 0, .int .u8 0, .int .u8 0, .int .i64 (-77), .int .i64 0, .int .i64 0] 155))))
  obtain ⟨A3, c3, rfl⟩ := ho3.sl_
  obtain ⟨hc3, ht⟩ := Tw.mk_ ho3 HL.out
  obtain ⟨g3, c9, hv3, -⟩ := ht.room
  injection hv3 with hA3 _ hc9
  subst hA3
  subst hc9
  have T3 := Lib.hid ht
  clear ho3 hg3 ht O2 B2
  have hc3' : (n : Int) ≤ c3 := by omega
  go_wp2
  go_ret
  exact ⟨_, _, rfl, T3.out, B3.out⟩

set_option maxHeartbeats 2000000 in
set_option maxRecDepth 100000 in
theorem left_offer (B : Nat) (t v : Value) (r : List (List Int)) (hr : ∀ q ∈ r, q.length = 7) (w : World) (ht : Tw B w 155 7 t r.length (r.flatMap (fc offerK)) [.int .u64 0, .int .u8 0, .int .u8 0, .int .u8 0, .int .i64 (-77), .int .i64 0, .int .i64 0, .int .u64 0, .int .u8 0, .int .u8 0, .int .u8 0, .int .i64 (-77), .int .i64 0, .int .i64 0]) (hv : Offers w v r) (hn : r.length ≤ 1000000) :
    Calls Try.prog 91 #[t, v, .agg #[.int .u64 0, .int .u8 0, .int .u8 0, .int .u8 0, .int .i64 (-77), .int .i64 0, .int .i64 0]] w fun e w' => e = .returned (.bool true) ∧ Below w.heap.size w w' := by
  have HR := Lib.hid hr
  have SA := Lib.hid (same_offers r r HR.out HR.out _ _ (w.alloc (.cells #[.int .u64 0, .int .u8 0, .int .u8 0, .int .u8 0, .int .i64 (-77), .int .i64 0, .int .i64 0] 155)) (ht.rd.alloc _) (Rd.alloc hv _) (by omega))
  have D := Lib.hid (decide_eq_true (rfl : r = r))
  obtain ⟨g, c, rfl, hc, -, hg, -, hm⟩ := ht.room
  have r0 : w.cell? ⟨g, r.length * 7, none⟩ = some (.int .u64 0) := by have := hm 0 _ rfl; simpa using this
  have r1 : w.cell? ⟨g, r.length * 7 + 1, none⟩ = some (.int .u8 0) := by have := hm 1 _ rfl; simpa using this
  have r2 : w.cell? ⟨g, r.length * 7 + 2, none⟩ = some (.int .u8 0) := by have := hm 2 _ rfl; simpa using this
  have r3 : w.cell? ⟨g, r.length * 7 + 3, none⟩ = some (.int .u8 0) := by have := hm 3 _ rfl; simpa using this
  have r4 : w.cell? ⟨g, r.length * 7 + 4, none⟩ = some (.int .i64 (-77)) := by have := hm 4 _ rfl; simpa using this
  have r5 : w.cell? ⟨g, r.length * 7 + 5, none⟩ = some (.int .i64 0) := by have := hm 5 _ rfl; simpa using this
  have r6 : w.cell? ⟨g, r.length * 7 + 6, none⟩ = some (.int .i64 0) := by have := hm 6 _ rfl; simpa using this
  have r7 : w.cell? ⟨g, r.length * 7 + 7, none⟩ = some (.int .u64 0) := by have := hm 7 _ rfl; simpa using this
  have r8 : w.cell? ⟨g, r.length * 7 + 8, none⟩ = some (.int .u8 0) := by have := hm 8 _ rfl; simpa using this
  have r9 : w.cell? ⟨g, r.length * 7 + 9, none⟩ = some (.int .u8 0) := by have := hm 9 _ rfl; simpa using this
  have r10 : w.cell? ⟨g, r.length * 7 + 10, none⟩ = some (.int .u8 0) := by have := hm 10 _ rfl; simpa using this
  have r11 : w.cell? ⟨g, r.length * 7 + 11, none⟩ = some (.int .i64 (-77)) := by have := hm 11 _ rfl; simpa using this
  have r12 : w.cell? ⟨g, r.length * 7 + 12, none⟩ = some (.int .i64 0) := by have := hm 12 _ rfl; simpa using this
  have r13 : w.cell? ⟨g, r.length * 7 + 13, none⟩ = some (.int .i64 0) := by have := hm 13 _ rfl; simpa using this
  have K0 := Lib.hid (Blk.new w 155 #[.int .u64 0, .int .u8 0, .int .u8 0, .int .u8 0, .int .i64 (-77), .int .i64 0, .int .i64 0])
  have hme := run_mark_offer
  have k0 := K0.out
  have k0_0 := k0.cell 0
  have k0_1 := k0.cell 1
  have k0_2 := k0.cell 2
  have k0_3 := k0.cell 3
  have k0_4 := k0.cell 4
  have k0_5 := k0.cell 5
  have k0_6 := k0.cell 6
  simp only [List.getElem?_toArray, List.getElem?_cons_zero, List.getElem?_cons_succ] at k0_0 k0_1 k0_2 k0_3 k0_4 k0_5 k0_6
  replace r0 := cell_on (below_alloc_ w (.cells #[.int .u64 0, .int .u8 0, .int .u8 0, .int .u8 0, .int .i64 (-77), .int .i64 0, .int .i64 0] 155)) hg r0
  replace r1 := cell_on (below_alloc_ w (.cells #[.int .u64 0, .int .u8 0, .int .u8 0, .int .u8 0, .int .i64 (-77), .int .i64 0, .int .i64 0] 155)) hg r1
  replace r2 := cell_on (below_alloc_ w (.cells #[.int .u64 0, .int .u8 0, .int .u8 0, .int .u8 0, .int .i64 (-77), .int .i64 0, .int .i64 0] 155)) hg r2
  replace r3 := cell_on (below_alloc_ w (.cells #[.int .u64 0, .int .u8 0, .int .u8 0, .int .u8 0, .int .i64 (-77), .int .i64 0, .int .i64 0] 155)) hg r3
  replace r4 := cell_on (below_alloc_ w (.cells #[.int .u64 0, .int .u8 0, .int .u8 0, .int .u8 0, .int .i64 (-77), .int .i64 0, .int .i64 0] 155)) hg r4
  replace r5 := cell_on (below_alloc_ w (.cells #[.int .u64 0, .int .u8 0, .int .u8 0, .int .u8 0, .int .i64 (-77), .int .i64 0, .int .i64 0] 155)) hg r5
  replace r6 := cell_on (below_alloc_ w (.cells #[.int .u64 0, .int .u8 0, .int .u8 0, .int .u8 0, .int .i64 (-77), .int .i64 0, .int .i64 0] 155)) hg r6
  replace r7 := cell_on (below_alloc_ w (.cells #[.int .u64 0, .int .u8 0, .int .u8 0, .int .u8 0, .int .i64 (-77), .int .i64 0, .int .i64 0] 155)) hg r7
  replace r8 := cell_on (below_alloc_ w (.cells #[.int .u64 0, .int .u8 0, .int .u8 0, .int .u8 0, .int .i64 (-77), .int .i64 0, .int .i64 0] 155)) hg r8
  replace r9 := cell_on (below_alloc_ w (.cells #[.int .u64 0, .int .u8 0, .int .u8 0, .int .u8 0, .int .i64 (-77), .int .i64 0, .int .i64 0] 155)) hg r9
  replace r10 := cell_on (below_alloc_ w (.cells #[.int .u64 0, .int .u8 0, .int .u8 0, .int .u8 0, .int .i64 (-77), .int .i64 0, .int .i64 0] 155)) hg r10
  replace r11 := cell_on (below_alloc_ w (.cells #[.int .u64 0, .int .u8 0, .int .u8 0, .int .u8 0, .int .i64 (-77), .int .i64 0, .int .i64 0] 155)) hg r11
  replace r12 := cell_on (below_alloc_ w (.cells #[.int .u64 0, .int .u8 0, .int .u8 0, .int .u8 0, .int .i64 (-77), .int .i64 0, .int .i64 0] 155)) hg r12
  replace r13 := cell_on (below_alloc_ w (.cells #[.int .u64 0, .int .u8 0, .int .u8 0, .int .u8 0, .int .i64 (-77), .int .i64 0, .int .i64 0] 155)) hg r13
  clear hm ht k0
  obtain ⟨A1, c1, rfl, -⟩ := id hv
  obtain ⟨n, hnn⟩ : ∃ n, n = r.length := ⟨_, rfl⟩
  rw [← hnn] at hc SA r0 r1 r2 r3 r4 r5 r6 r7 r8 r9 r10 r11 r12 r13 ⊢
  have hc' : (n : Int) + 2 ≤ c := by omega
  have hn' : (n : Int) ≤ 1000000 := by omega
  have hlt : ¬ ((c - n : Nat) : Int) < 2 := by omega
  have hlt0 : (0 : Int) < ((c - n : Nat) : Int) := by omega
  have hlt1 : (1 : Int) < ((c - n : Nat) : Int) := by omega
  clear hv hnn
  go_enter Try.func91, Try.ntmps91
  go_wp2_with fail
  refine SA.out.mono ?_
  rintro e w1 ⟨rfl, m, rfl⟩
  rw [D.out]
  go_wp2_with fail
  clear hlt hlt0 hlt1
  generalize hdd : c - n = d
  have hlt : ¬ (d : Int) < 2 := by omega
  have hltb : decide ((d : Int) < 2) = false := decide_eq_false hlt
  have hlt0 : (0 : Int) < (d : Int) := by omega
  have hlt1 : (1 : Int) < (d : Int) := by omega
  clear hdd
  go_quiet (fail)
  go_wp2
  go_ret
  exact ⟨rfl, (below_alloc_ w (.cells #[.int .u64 0, .int .u8 0, .int .u8 0, .int .u8 0, .int .i64 (-77), .int .i64 0, .int .i64 0] 155)).trans ((below_drewN_ (w.alloc (.cells #[.int .u64 0, .int .u8 0, .int .u8 0, .int .u8 0, .int .i64 (-77), .int .i64 0, .int .i64 0] 155)).heap.size _ _).mono (by simp))⟩

theorem Twin_offer (v : Value) (r : List (List Int)) (w : World) (hv : Offers w v r) (hn : r.length ≤ 1000000) :
    Calls Try.prog 45 #[v] w fun e w' => ∃ A c, e = .returned (.slice A r.length c) ∧ Tw w.heap.size w' 155 7 (.slice A r.length c) r.length (r.flatMap (fc offerK)) [.int .u64 0, .int .u8 0, .int .u8 0, .int .u8 0, .int .i64 (-77), .int .i64 0, .int .i64 0, .int .u64 0, .int .u8 0, .int .u8 0, .int .u8 0, .int .i64 (-77), .int .i64 0, .int .i64 0] ∧ Below w.heap.size w w' := by
  have C := Lib.hid (twin_offer v r w hv hn)
  obtain ⟨A, c, rfl, -⟩ := id hv
  clear hv
  go_enter Try.func45, Try.ntmps45
  go_wp2_with fail
  refine C.out.mono ?_
  rintro e w1 ⟨A1, c1, rfl, hT, hB⟩
  have T1 := Lib.hid hT
  have B1 := Lib.hid hB
  clear hT hB
  go_wp2
  go_ret
  exact ⟨A1, c1, rfl, T1.out, B1.out⟩
theorem Left_offer (B : Nat) (t v : Value) (r : List (List Int)) (hr : ∀ q ∈ r, q.length = 7) (w : World) (ht : Tw B w 155 7 t r.length (r.flatMap (fc offerK)) [.int .u64 0, .int .u8 0, .int .u8 0, .int .u8 0, .int .i64 (-77), .int .i64 0, .int .i64 0, .int .u64 0, .int .u8 0, .int .u8 0, .int .u8 0, .int .i64 (-77), .int .i64 0, .int .i64 0]) (hv : Offers w v r) (hn : r.length ≤ 1000000) :
    Calls Try.prog 51 #[t, v] w fun e w' => e = .returned (.bool true) ∧ Below w.heap.size w w' := by
  have C := Lib.hid (left_offer B t v r hr w ht hv hn)
  obtain ⟨A, c, rfl, -⟩ := id hv
  obtain ⟨g, c1, rfl, -⟩ := ht.room
  clear hv ht
  go_enter Try.func51, Try.ntmps51
  go_wp2_with fail
  refine C.out.mono ?_
  rintro e w1 ⟨rfl, hB⟩
  have B1 := Lib.hid hB
  clear hB
  go_wp2
  go_ret
  exact ⟨rfl, B1.out⟩
theorem Same_offer (r s : List (List Int)) (hr : ∀ q ∈ r, q.length = 7) (hs : ∀ q ∈ s, q.length = 7) (v u : Value) (w : World) (hv : Offers w v r) (hu : Offers w u s) (hb : r.length ≤ 1000000) :
    Calls Try.prog 96 #[v, u] w fun e w' => e = .returned (.bool (decide (r = s))) ∧ ∃ m, w' = w.drewN m := by
  have C := Lib.hid (same_offers r s hr hs v u w hv hu (by omega))
  obtain ⟨t, ht⟩ : ∃ t, t = decide (r = s) := ⟨_, rfl⟩
  rw [← ht] at C ⊢
  have T := Lib.hid ht
  obtain ⟨A, c, rfl, -⟩ := id hv
  obtain ⟨B, d, rfl, -⟩ := id hu
  clear hv hu ht
  go_enter Try.func96, Try.ntmps96
  go_wp2_with fail
  refine C.out.mono ?_
  rintro e w1 ⟨rfl, m, rfl⟩
  go_wp2
  go_ret
  exact ⟨rfl, m, rfl⟩

end Go.Proofs.Ytielnocnnffdfaa
