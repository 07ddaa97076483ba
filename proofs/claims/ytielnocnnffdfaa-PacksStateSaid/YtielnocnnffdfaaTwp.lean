/- law01: a twin of a list (countinghouse/api.Party), and whether it was left as it was. -/
import Derived.Test.YtielnocnnffdfaaRow
import Derived.Test.YtielnocnnffdfaaSmp
namespace Go.Proofs.Ytielnocnnffdfaa
open Go.RowKit

set_option maxHeartbeats 2000000 in
set_option maxRecDepth 100000 in
theorem twin_party (v : Value) (r : List (List Int)) (w : World) (hv : Partys w v r) (hn : r.length ≤ 1000000) :
    Calls Try.prog 83 #[v, .int .u8 195] w fun e w' => ∃ A c, e = .returned (.slice A r.length c) ∧ Tw w.heap.size w' 146 1 (.slice A r.length c) r.length (r.flatMap (fc partyK)) [.int .u8 195, .int .u8 195] ∧ Below w.heap.size w w' := by
  obtain ⟨i0, hi, hz0, hz1, hz2⟩ := info_parts party_info
  have hcl : (r.flatMap (fc partyK)).length = r.length * 1 := (flatMap_len _ _ fcparty_len r)
  have H1 := Lib.hid (rows_one partyK r)
  have HL := Lib.hid hcl
  obtain ⟨A, c, rfl, -⟩ := id hv
  obtain ⟨cs, hcs⟩ : ∃ cs, cs = (r.flatMap (fc partyK)) := ⟨_, rfl⟩
  rw [← hcs] at HL H1 ⊢
  have hv' : Rd w 1 (.slice A r.length c) r.length cs := by rw [hcs]; exact hv
  clear hv hcl
  obtain ⟨n, hnn⟩ : ∃ n, n = r.length := ⟨_, rfl⟩
  rw [← hnn] at hv' hn HL ⊢
  have hn' : (n : Int) ≤ 1000000 := by omega
  have HV := Lib.hid hv'
  clear hv' hcs hnn
  go_enter Try.func83, Try.ntmps83
  go_upto_region 2 with (at_make; refine wpList_make_own _ rfl _ _ 89 rfl w.heap.size 146 i0 (.int .u8 0) 1 Try.underlying89 hi hz0 hz1 .i64 .i64 _ (n + 2) rfl rfl (by simp) (by rw [hz2]; omega) (by unfold maxLen; omega) (by simp) ?_; intro w1 ho1 hg1)
  have O1 := Lib.hid ((Ow.of_own ho1).le (B' := w.heap.size) (by omega))
  have B1 := Lib.hid (below_of_grown_ hg1)
  have HV1 := Lib.hid (HV.out.below (below_of_grown_ hg1))
  clear ho1 hg1
  go_upto_region 3 with (at_builtin; refine wpList_ow_rows (n := 0) (m := n) rfl _ _ 89 146 (.int .u8 0) 1 1 rfl Try.underlying89 party_info rfl (by decide) rfl O1.out (by have := B1.out.size; omega) HV1.out H1.out rfl (by omega) (by unfold maxLen; omega) ?_; intro v2 w2 ho2 hg2)
  have B2 := Lib.hid (below_grown_own_ B1.out hg2.1 O1.out)
  have O2 := Lib.hid ho2
  clear ho2 hg2 O1 B1 HV1
  rw [Nat.zero_add, List.nil_append] at O2
  go_wp2_with (at_builtin; refine wpList_ow_rows (n := n) (m := 2) rfl _ _ 89 146 (.int .u8 0) 1 1 rfl Try.underlying89 party_info rfl (by decide) rfl (O2.out.below (below_alloc_ w2 (.cells #[.int .u8 195, .int .u8 195] 146))) (by have := B2.out.size; simp; omega) (Rd.lits w2 146 1 2 [.int .u8 195, .int .u8 195] rfl) (by decide) rfl (by omega) (by unfold maxLen; omega) ?_; intro v3 w3 ho3 hg3)
  have B3 := Lib.hid (below_grown_own_ (B2.out.trans ((below_alloc_ w2 (.cells #[.int .u8 195, .int .u8 195] 146)).mono B2.out.size)) hg3.1 (O2.out.below (below_alloc_ w2 (.cells #[.int .u8 195, .int .u8 195] 146))))
  obtain ⟨A3, c3, rfl⟩ := ho3.sl_
  obtain ⟨hc3, ht⟩ := Tw.mk_ ho3 HL.out
  obtain ⟨g3, c9, hv3, -⟩ := ht.room
  injection hv3 with hA3 _ hc9
  subst hA3
  subst hc9
  have T3 := Lib.hid ht
  clear ho3 hg3 ht O2 B2
  have hc3' : (n : Int) ≤ c3 := by omega
  go_wp2
  go_ret
  exact ⟨_, _, rfl, T3.out, B3.out⟩

set_option maxHeartbeats 2000000 in
set_option maxRecDepth 100000 in
theorem left_party (B : Nat) (t v : Value) (r : List (List Int)) (hr : ∀ q ∈ r, q.length = 1) (w : World) (ht : Tw B w 146 1 t r.length (r.flatMap (fc partyK)) [.int .u8 195, .int .u8 195]) (hv : Partys w v r) (hn : r.length ≤ 1000000) :
    Calls Try.prog 89 #[t, v, .int .u8 195] w fun e w' => e = .returned (.bool true) ∧ Below w.heap.size w w' := by
  have HR := Lib.hid hr
  have SA := Lib.hid (same_partys r r HR.out HR.out _ _ w (ht.rd) (hv) (by omega))
  have D := Lib.hid (decide_eq_true (rfl : r = r))
  obtain ⟨g, c, rfl, hc, -, hg, -, hm⟩ := ht.room
  have r0 : w.cell? ⟨g, r.length, none⟩ = some (.int .u8 195) := by have := hm 0 _ rfl; simpa using this
  have r1 : w.cell? ⟨g, r.length + 1, none⟩ = some (.int .u8 195) := by have := hm 1 _ rfl; simpa using this
  clear hm ht
  obtain ⟨A1, c1, rfl, -⟩ := id hv
  obtain ⟨n, hnn⟩ : ∃ n, n = r.length := ⟨_, rfl⟩
  rw [← hnn] at hc SA r0 r1 ⊢
  have hc' : (n : Int) + 2 ≤ c := by omega
  have hn' : (n : Int) ≤ 1000000 := by omega
  have hlt : ¬ ((c - n : Nat) : Int) < 2 := by omega
  have hlt0 : (0 : Int) < ((c - n : Nat) : Int) := by omega
  have hlt1 : (1 : Int) < ((c - n : Nat) : Int) := by omega
  clear hv hnn
  go_enter Try.func89, Try.ntmps89
  go_wp2_with fail
  refine SA.out.mono ?_
  rintro e w1 ⟨rfl, m, rfl⟩
  rw [D.out]
  go_wp2_with fail
  go_ret
  exact ⟨rfl, below_drewN_ _ _ _⟩

theorem Twin_party (v : Value) (r : List (List Int)) (w : World) (hv : Partys w v r) (hn : r.length ≤ 1000000) :
    Calls Try.prog 43 #[v] w fun e w' => ∃ A c, e = .returned (.slice A r.length c) ∧ Tw w.heap.size w' 146 1 (.slice A r.length c) r.length (r.flatMap (fc partyK)) [.int .u8 195, .int .u8 195] ∧ Below w.heap.size w w' := by
  have C := Lib.hid (twin_party v r w hv hn)
  obtain ⟨A, c, rfl, -⟩ := id hv
  clear hv
  go_enter Try.func43, Try.ntmps43
  go_wp2_with fail
  refine C.out.mono ?_
  rintro e w1 ⟨A1, c1, rfl, hT, hB⟩
  have T1 := Lib.hid hT
  have B1 := Lib.hid hB
  clear hT hB
  go_wp2
  go_ret
  exact ⟨A1, c1, rfl, T1.out, B1.out⟩
theorem Left_party (B : Nat) (t v : Value) (r : List (List Int)) (hr : ∀ q ∈ r, q.length = 1) (w : World) (ht : Tw B w 146 1 t r.length (r.flatMap (fc partyK)) [.int .u8 195, .int .u8 195]) (hv : Partys w v r) (hn : r.length ≤ 1000000) :
    Calls Try.prog 49 #[t, v] w fun e w' => e = .returned (.bool true) ∧ Below w.heap.size w w' := by
  have C := Lib.hid (left_party B t v r hr w ht hv hn)
  obtain ⟨A, c, rfl, -⟩ := id hv
  obtain ⟨g, c1, rfl, -⟩ := ht.room
  clear hv ht
  go_enter Try.func49, Try.ntmps49
  go_wp2_with fail
  refine C.out.mono ?_
  rintro e w1 ⟨rfl, hB⟩
  have B1 := Lib.hid hB
  clear hB
  go_wp2
  go_ret
  exact ⟨rfl, B1.out⟩
theorem Same_party (r s : List (List Int)) (hr : ∀ q ∈ r, q.length = 1) (hs : ∀ q ∈ s, q.length = 1) (v u : Value) (w : World) (hv : Partys w v r) (hu : Partys w u s) (hb : r.length ≤ 1000000) :
    Calls Try.prog 94 #[v, u] w fun e w' => e = .returned (.bool (decide (r = s))) ∧ ∃ m, w' = w.drewN m := by
  have C := Lib.hid (same_partys r s hr hs v u w hv hu (by omega))
  obtain ⟨t, ht⟩ : ∃ t, t = decide (r = s) := ⟨_, rfl⟩
  rw [← ht] at C ⊢
  have T := Lib.hid ht
  obtain ⟨A, c, rfl, -⟩ := id hv
  obtain ⟨B, d, rfl, -⟩ := id hu
  clear hv hu ht
  go_enter Try.func94, Try.ntmps94
  go_wp2_with fail
  refine C.out.mono ?_
  rintro e w1 ⟨rfl, m, rfl⟩
  go_wp2
  go_ret
  exact ⟨rfl, m, rfl⟩

end Go.Proofs.Ytielnocnnffdfaa
