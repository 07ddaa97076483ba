/- law01: a twin of a list (byte), and whether it was left as it was. -/
import Derived.Test.YtenobcfgapolhaaRow
import Derived.Test.YtenobcfgapolhaaSmz
namespace Go.Proofs.Ytenobcfgapolhaa
open Go.RowKit

set_option maxHeartbeats 2000000 in
set_option maxRecDepth 100000 in
theorem twin_byte (v : Value) (r : List Int) (w : World) (hv : Bs w v r) (hn : r.length ≤ 1000000) :
    Calls Try.prog 39 #[v, .int .u8 195] w fun e w' => ∃ A c, e = .returned (.slice A r.length c) ∧ Tw w.heap.size w' 5 1 (.slice A r.length c) r.length (bc r) [.int .u8 195, .int .u8 195] ∧ Below w.heap.size w w' := by
  obtain ⟨i0, hi, hz0, hz1, hz2⟩ := info_parts byt_info
  have hcl : (bc r).length = r.length * 1 := (by simp)
  have H1 := Lib.hid (bc_one r)
  have HL := Lib.hid hcl
  obtain ⟨A, c, rfl, -⟩ := id hv
  obtain ⟨cs, hcs⟩ : ∃ cs, cs = (bc r) := ⟨_, rfl⟩
  rw [← hcs] at HL H1 ⊢
  have hv' : Rd w 1 (.slice A r.length c) r.length cs := by rw [hcs]; exact hv
  clear hv hcl
  obtain ⟨n, hnn⟩ : ∃ n, n = r.length := ⟨_, rfl⟩
  rw [← hnn] at hv' hn HL ⊢
  have hn' : (n : Int) ≤ 1000000 := by omega
  have HV := Lib.hid hv'
  clear hv' hcs hnn
  go_enter Try.func39, Try.ntmps39
  go_upto_region 2 with (at_make; refine wpList_make_own _ rfl _ _ 32 rfl w.heap.size 5 i0 (.int .u8 0) 1 Try.underlying32 hi hz0 hz1 .i64 .i64 _ (n + 2) rfl rfl (by simp) (by rw [hz2]; omega) (by unfold maxLen; omega) (by simp) ?_; intro w1 ho1 hg1)
  have O1 := Lib.hid ((Ow.of_own ho1).le (B' := w.heap.size) (by omega))
  have B1 := Lib.hid (below_of_grown_ hg1)
  have HV1 := Lib.hid (HV.out.below (below_of_grown_ hg1))
  clear ho1 hg1
  go_upto_region 3 with (at_builtin; refine wpList_ow_rows (n := 0) (m := n) rfl _ _ 32 5 (.int .u8 0) 1 1 rfl Try.underlying32 byt_info rfl (by decide) rfl O1.out (by have := B1.out.size; omega) HV1.out H1.out rfl (by omega) (by unfold maxLen; omega) ?_; intro v2 w2 ho2 hg2)
  have B2 := Lib.hid (below_grown_own_ B1.out hg2.1 O1.out)
  have O2 := Lib.hid ho2
  clear ho2 hg2 O1 B1 HV1
  rw [Nat.zero_add, List.nil_append] at O2
  go_wp2_with (at_builtin; refine wpList_ow_rows (n := n) (m := 2) rfl _ _ 32 5 (.int .u8 0) 1 1 rfl Try.underlying32 byt_info rfl (by decide) rfl (O2.out.below (below_alloc_ w2 (.cells #[.int .u8 195, .int .u8 195] 5))) (by have := B2.out.size; simp; omega) (Rd.lits w2 5 1 2 [.int .u8 195, .int .u8 195] rfl) (by decide) rfl (by omega) (by unfold maxLen; omega) ?_; intro v3 w3 ho3 hg3)
  have B3 := Lib.hid (below_grown_own_ (B2.out.trans ((below_alloc_ w2 (.cells #[.int .u8 195, .int .u8 195] 5)).mono B2.out.size)) hg3.1 (O2.out.below (below_alloc_ w2 (.cells #[.int .u8 195, .int .u8 195] 5))))
  obtain ⟨A3, c3, rfl⟩ := ho3.sl_
  obtain ⟨hc3, ht⟩ := Tw.mk_ ho3 HL.out
  obtain ⟨g3, c9, hv3, -⟩ := ht.room
  injection hv3 with hA3 _ hc9
  subst hA3
  subst hc9
  have T3 := Lib.hid ht
  clear ho3 hg3 ht O2 B2
  have hc3' : (n : Int) ≤ c3 := by omega
  go_wp2
  go_ret
  exact ⟨_, _, rfl, T3.out, B3.out⟩

set_option maxHeartbeats 2000000 in
set_option maxRecDepth 100000 in
theorem left_byte (B : Nat) (t v : Value) (r : List Int) (w : World) (ht : Tw B w 5 1 t r.length (bc r) [.int .u8 195, .int .u8 195]) (hv : Bs w v r) (hn : r.length ≤ 1000000) :
    Calls Try.prog 47 #[t, v, .int .u8 195] w fun e w' => e = .returned (.bool true) ∧ Below w.heap.size w w' := by
  have SA := Lib.hid (same_bytes r r _ _ w ((show Bs w t r from ht.rd)) (hv) (by omega))
  have D := Lib.hid (decide_eq_true (rfl : r = r))
  obtain ⟨g, c, rfl, hc, -, hg, -, hm⟩ := ht.room
  have r0 : w.cell? ⟨g, r.length, none⟩ = some (.int .u8 195) := by have := hm 0 _ rfl; simpa using this
  have r1 : w.cell? ⟨g, r.length + 1, none⟩ = some (.int .u8 195) := by have := hm 1 _ rfl; simpa using this
  clear hm ht
  obtain ⟨A1, c1, rfl, -⟩ := id hv
  obtain ⟨n, hnn⟩ : ∃ n, n = r.length := ⟨_, rfl⟩
  rw [← hnn] at hc SA r0 r1 ⊢
  have hc' : (n : Int) + 2 ≤ c := by omega
  have hn' : (n : Int) ≤ 1000000 := by omega
  have hlt : ¬ ((c - n : Nat) : Int) < 2 := by omega
  have hlt0 : (0 : Int) < ((c - n : Nat) : Int) := by omega
  have hlt1 : (1 : Int) < ((c - n : Nat) : Int) := by omega
  clear hv hnn
  go_enter Try.func47, Try.ntmps47
  go_wp2_with fail
  refine SA.out.mono ?_
  rintro e w1 ⟨rfl, m, rfl⟩
  rw [D.out]
  go_wp2_with fail
  go_ret
  exact ⟨rfl, below_drewN_ _ _ _⟩

theorem Twin_byte (v : Value) (r : List Int) (w : World) (hv : Bs w v r) (hn : r.length ≤ 1000000) :
    Calls Try.prog 16 #[v] w fun e w' => ∃ A c, e = .returned (.slice A r.length c) ∧ Tw w.heap.size w' 5 1 (.slice A r.length c) r.length (bc r) [.int .u8 195, .int .u8 195] ∧ Below w.heap.size w w' := by
  have C := Lib.hid (twin_byte v r w hv hn)
  obtain ⟨A, c, rfl, -⟩ := id hv
  clear hv
  go_enter Try.func16, Try.ntmps16
  go_wp2_with fail
  refine C.out.mono ?_
  rintro e w1 ⟨A1, c1, rfl, hT, hB⟩
  have T1 := Lib.hid hT
  have B1 := Lib.hid hB
  clear hT hB
  go_wp2
  go_ret
  exact ⟨A1, c1, rfl, T1.out, B1.out⟩
theorem Left_byte (B : Nat) (t v : Value) (r : List Int) (w : World) (ht : Tw B w 5 1 t r.length (bc r) [.int .u8 195, .int .u8 195]) (hv : Bs w v r) (hn : r.length ≤ 1000000) :
    Calls Try.prog 28 #[t, v] w fun e w' => e = .returned (.bool true) ∧ Below w.heap.size w w' := by
  have C := Lib.hid (left_byte B t v r  w ht hv hn)
  obtain ⟨A, c, rfl, -⟩ := id hv
  obtain ⟨g, c1, rfl, -⟩ := ht.room
  clear hv ht
  go_enter Try.func28, Try.ntmps28
  go_wp2_with fail
  refine C.out.mono ?_
  rintro e w1 ⟨rfl, hB⟩
  have B1 := Lib.hid hB
  clear hB
  go_wp2
  go_ret
  exact ⟨rfl, B1.out⟩

end Go.Proofs.Ytenobcfgapolhaa
