import Derived.Test.YtnegondlkfeleaaDoorMemB
import Derived.Test.YtnegondlkfeleaaDoorPks
import Derived.Laws.StructEq
/- Lists, one more of each. -/
namespace Go.Proofs.YtnegondlkfeleaaDoor
open Go.RowKit

theorem take_snoc_same {α : Type} (xs ys : List α) (k : Nat) (hx : k < xs.length) (hy : k < ys.length) (h : xs.take k = ys.take k) (he : xs[k] = ys[k]) : xs.take (k + 1) = ys.take (k + 1) := by
  rw [List.take_succ_eq_append_getElem hx, List.take_succ_eq_append_getElem hy, h, he]
end Go.Proofs.YtnegondlkfeleaaDoor

/- law01: whether two lists are the same (api.Step). -/
namespace Go.Proofs.YtnegondlkfeleaaDoor
open Go.RowKit

theorem run_neq_step (x0 x1 x2 x3 x4 x5 x6 x7 x8 x9 y0 y1 y2 y3 y4 y5 y6 y7 y8 y9 : Int) (w : World) : (binOp .neq 107 (.agg #[.int .u8 x0, .int .u8 x1, .int .u8 x2, .int .u8 x3, .int .u8 x4, .int .i64 x5, .int .i64 x6, .int .i64 x7, .int .i64 x8, .int .u64 x9]) (.agg #[.int .u8 y0, .int .u8 y1, .int .u8 y2, .int .u8 y3, .int .u8 y4, .int .i64 y5, .int .i64 y6, .int .i64 y7, .int .i64 y8, .int .u64 y9])).run Tryd.prog w = .ok (.bool (!decide ([x0, x1, x2, x3, x4, x5, x6, x7, x8, x9] = [y0, y1, y2, y3, y4, y5, y6, y7, y8, y9]))) w := by
  have u0 := Tryd.underlying101
  have a0 := Tryd.isAgg101
  have s0 := Tryd.sizeOf101
  have u1 := Tryd.underlying102
  have a1 := Tryd.isAgg102
  have s1 := Tryd.sizeOf102
  have u2 := Tryd.underlying103
  have a2 := Tryd.isAgg103
  have s2 := Tryd.sizeOf103
  have u3 := Tryd.underlying2
  have a3 := Tryd.isAgg2
  have s3 := Tryd.sizeOf2
  have u4 := Tryd.underlying105
  have a4 := Tryd.isAgg105
  have s4 := Tryd.sizeOf105
  have u5 := Tryd.underlying23
  have a5 := Tryd.isAgg23
  have s5 := Tryd.sizeOf23
  have hS : Tryd.prog.underlying 107 = some (.struct (Tryd.prog.fieldsOf 107)) := by kernel_rfl
  have hp : Tryd.prog.stoodInHeld 107 = false := by kernel_rfl
  have hS2 : Tryd.prog.underlying 105 = some (.struct (Tryd.prog.fieldsOf 105)) := by kernel_rfl
  have hp2 : Tryd.prog.stoodInHeld 105 = false := by kernel_rfl
  have hq := fun (w : World) (a b c d : Int) => run_equalIn_agg w 9998 105 (P := Tryd.prog) #[.int .i64 a, .int .i64 b] #[.int .i64 c, .int .i64 d] hS2 hp2
  rw [run_neq_struct, show (10000 : Nat) = 9999 + 1 from rfl, run_equalIn_agg w 9999 107 _ _ hS hp]
  simp only [Program.fieldsOf, Tryd.underlying107]
  go_simp
  by_cases h0 : x0 = y0
  rotate_left
  · simp [h0]
  subst h0
  by_cases h1 : x1 = y1
  rotate_left
  · simp [h1]
  subst h1
  by_cases h2 : x2 = y2
  rotate_left
  · simp [h2]
  subst h2
  by_cases h3 : x3 = y3
  rotate_left
  · simp [h3]
  subst h3
  by_cases h4 : x4 = y4
  rotate_left
  · simp [h4]
  subst h4
  by_cases h5 : x5 = y5
  rotate_left
  · simp [h5]
  subst h5
  by_cases h6 : x6 = y6
  rotate_left
  · simp [h6]
  subst h6
  by_cases h7 : x7 = y7
  rotate_left
  · simp [h7]
  subst h7
  by_cases h8 : x8 = y8
  rotate_left
  · simp [h8]
  subst h8
  by_cases h9 : x9 = y9 <;> simp [h9]

theorem same_steps (xs ys : List (List Int)) (hx0 : ∀ q ∈ xs, q.length = 10) (hy0 : ∀ q ∈ ys, q.length = 10) (v u : Value) (w : World) (hv : Steps w v xs) (hu : Steps w u ys) (hb : xs.length ≤ 4611686018427387904) :
    Calls Tryd.prog 80 #[v, u] w fun e w' => e = .returned (.bool (decide (xs = ys))) ∧ ∃ m, w' = w.drewN m := by
  by_cases hl : xs.length = ys.length
  · by_cases h0 : xs = []
    · subst h0
      have hy : ys = [] := List.eq_nil_of_length_eq_zero (by simpa using hl.symm)
      subst hy
      obtain ⟨A, c, rfl, -⟩ := hv
      obtain ⟨B, d, rfl, -⟩ := hu
      go_enter Tryd.func80, Tryd.ntmps80
      go_wp2
      refine wp_loop_rounds 1 ?_
      rw [rounds_succ]
      go_wp2
      go_ret
      exact ⟨by simp, 0, rfl⟩
    · have hpos : 0 < xs.length := List.length_pos_iff.2 h0
      obtain ⟨g, o, c, rfl, hc, hg, hcell⟩ := Rd.at_ fcstep_len hv hpos
      obtain ⟨g', o', d, rfl, hd, hg', hcell'⟩ := Rd.at_ fcstep_len hu (by omega)
      obtain ⟨n, hn⟩ : ∃ n, n = xs.length := ⟨_, rfl⟩
      have hn' : n = ys.length := hn.trans hl
      have HN := Lib.hid hn
      have HN' := Lib.hid hn'
      have hb' : (n : Int) ≤ 4611686018427387904 := by omega
      have HC := Lib.hid hcell
      have HC' := Lib.hid hcell'
      have HX := Lib.hid hx0
      have HY := Lib.hid hy0
      rw [← hn, ← hn']
      have hcn : n ≤ c := by omega
      have hdn : n ≤ d := by omega
      clear hcell hcell' hn hn' hl h0 hc hd hb hpos hv hu hx0 hy0
      go_enter Tryd.func80, Tryd.ntmps80
      go_wp2
      go_loopw [5] (fun i wr => ∃ k m : Nat, k ≤ n ∧ i = .int .i64 k ∧ wr = w.drewN m ∧ xs.take k = ys.take k) (fun i _ => n - (intOf i).toNat)
      case atStart => exact ⟨0, 0, Nat.zero_le _, rfl, rfl, rfl⟩
      case round =>
        obtain ⟨k, m, hk, rfl, rfl, ht⟩ := hrel
        have HT := Lib.hid ht
        clear ht
        by_cases hkn : k < n
        · have hx : k < xs.length := by have := HN.out; omega
          have hy : k < ys.length := by have := HN'.out; omega
          obtain ⟨x0, x1, x2, x3, x4, x5, x6, x7, x8, x9, hp⟩ := step_of (HX.out _ (List.getElem_mem hx))
          obtain ⟨y0, y1, y2, y3, y4, y5, y6, y7, y8, y9, hq⟩ := step_of (HY.out _ (List.getElem_mem hy))
          have cx0 : w.cell? ⟨g, o + k * 10, none⟩ = some (.int .u8 x0) := by have := HC.out k hx 0 (.int .u8 x0) (by omega) (by rw [hp]; rfl); simpa using this
          have cx1 : w.cell? ⟨g, o + k * 10 + 1, none⟩ = some (.int .u8 x1) := by have := HC.out k hx 1 (.int .u8 x1) (by omega) (by rw [hp]; rfl); simpa using this
          have cx2 : w.cell? ⟨g, o + k * 10 + 2, none⟩ = some (.int .u8 x2) := by have := HC.out k hx 2 (.int .u8 x2) (by omega) (by rw [hp]; rfl); simpa using this
          have cx3 : w.cell? ⟨g, o + k * 10 + 3, none⟩ = some (.int .u8 x3) := by have := HC.out k hx 3 (.int .u8 x3) (by omega) (by rw [hp]; rfl); simpa using this
          have cx4 : w.cell? ⟨g, o + k * 10 + 4, none⟩ = some (.int .u8 x4) := by have := HC.out k hx 4 (.int .u8 x4) (by omega) (by rw [hp]; rfl); simpa using this
          have cx5 : w.cell? ⟨g, o + k * 10 + 5, none⟩ = some (.int .i64 x5) := by have := HC.out k hx 5 (.int .i64 x5) (by omega) (by rw [hp]; rfl); simpa using this
          have cx6 : w.cell? ⟨g, o + k * 10 + 6, none⟩ = some (.int .i64 x6) := by have := HC.out k hx 6 (.int .i64 x6) (by omega) (by rw [hp]; rfl); simpa using this
          have cx7 : w.cell? ⟨g, o + k * 10 + 7, none⟩ = some (.int .i64 x7) := by have := HC.out k hx 7 (.int .i64 x7) (by omega) (by rw [hp]; rfl); simpa using this
          have cx8 : w.cell? ⟨g, o + k * 10 + 8, none⟩ = some (.int .i64 x8) := by have := HC.out k hx 8 (.int .i64 x8) (by omega) (by rw [hp]; rfl); simpa using this
          have cx9 : w.cell? ⟨g, o + k * 10 + 9, none⟩ = some (.int .u64 x9) := by have := HC.out k hx 9 (.int .u64 x9) (by omega) (by rw [hp]; rfl); simpa using this
          have cy0 : w.cell? ⟨g', o' + k * 10, none⟩ = some (.int .u8 y0) := by have := HC'.out k hy 0 (.int .u8 y0) (by omega) (by rw [hq]; rfl); simpa using this
          have cy1 : w.cell? ⟨g', o' + k * 10 + 1, none⟩ = some (.int .u8 y1) := by have := HC'.out k hy 1 (.int .u8 y1) (by omega) (by rw [hq]; rfl); simpa using this
          have cy2 : w.cell? ⟨g', o' + k * 10 + 2, none⟩ = some (.int .u8 y2) := by have := HC'.out k hy 2 (.int .u8 y2) (by omega) (by rw [hq]; rfl); simpa using this
          have cy3 : w.cell? ⟨g', o' + k * 10 + 3, none⟩ = some (.int .u8 y3) := by have := HC'.out k hy 3 (.int .u8 y3) (by omega) (by rw [hq]; rfl); simpa using this
          have cy4 : w.cell? ⟨g', o' + k * 10 + 4, none⟩ = some (.int .u8 y4) := by have := HC'.out k hy 4 (.int .u8 y4) (by omega) (by rw [hq]; rfl); simpa using this
          have cy5 : w.cell? ⟨g', o' + k * 10 + 5, none⟩ = some (.int .i64 y5) := by have := HC'.out k hy 5 (.int .i64 y5) (by omega) (by rw [hq]; rfl); simpa using this
          have cy6 : w.cell? ⟨g', o' + k * 10 + 6, none⟩ = some (.int .i64 y6) := by have := HC'.out k hy 6 (.int .i64 y6) (by omega) (by rw [hq]; rfl); simpa using this
          have cy7 : w.cell? ⟨g', o' + k * 10 + 7, none⟩ = some (.int .i64 y7) := by have := HC'.out k hy 7 (.int .i64 y7) (by omega) (by rw [hq]; rfl); simpa using this
          have cy8 : w.cell? ⟨g', o' + k * 10 + 8, none⟩ = some (.int .i64 y8) := by have := HC'.out k hy 8 (.int .i64 y8) (by omega) (by rw [hq]; rfl); simpa using this
          have cy9 : w.cell? ⟨g', o' + k * 10 + 9, none⟩ = some (.int .u64 y9) := by have := HC'.out k hy 9 (.int .u64 y9) (by omega) (by rw [hq]; rfl); simpa using this
          have HP := Lib.hid hp
          have HQ := Lib.hid hq
          clear hp hq
          obtain ⟨t, ht⟩ : ∃ t, (!decide ([x0, x1, x2, x3, x4, x5, x6, x7, x8, x9] = [y0, y1, y2, y3, y4, y5, y6, y7, y8, y9])) = t := ⟨_, rfl⟩
          have hneq : ∀ W, (binOp .neq 107 (.agg #[.int .u8 x0, .int .u8 x1, .int .u8 x2, .int .u8 x3, .int .u8 x4, .int .i64 x5, .int .i64 x6, .int .i64 x7, .int .i64 x8, .int .u64 x9]) (.agg #[.int .u8 y0, .int .u8 y1, .int .u8 y2, .int .u8 y3, .int .u8 y4, .int .i64 y5, .int .i64 y6, .int .i64 y7, .int .i64 y8, .int .u64 y9])).run Tryd.prog W = .ok (.bool t) W := fun W => by
            rw [← ht]; exact run_neq_step x0 x1 x2 x3 x4 x5 x6 x7 x8 x9 y0 y1 y2 y3 y4 y5 y6 y7 y8 y9 W
          have HTT := Lib.hid ht
          clear ht
          go_wp2_with fail
          go_quiet (fail)
          cases t
          · go_wp2
            have he : [x0, x1, x2, x3, x4, x5, x6, x7, x8, x9] = [y0, y1, y2, y3, y4, y5, y6, y7, y8, y9] := by
              have h1 := HTT.out
              simpa only [Bool.not_eq_false', decide_eq_true_eq] using h1
            exact ⟨⟨k + 1, _, by omega, by go_num, rfl, take_snoc_same xs ys k hx hy HT.out (by rw [HP.out, HQ.out, he])⟩, by simp [intOf]; omega⟩
          · go_wp2
            go_ret
            refine ⟨?_, _, World.drewN_drewN _ _ _⟩
            have : ¬ xs = ys := fun e => by
              have h1 : xs[k] = ys[k] := by subst e; rfl
              rw [HP.out, HQ.out] at h1
              have h2 := HTT.out
              rw [h1] at h2
              simp at h2
            rw [decide_eq_false this]; rfl
        · obtain rfl : k = n := by omega
          go_wp2
          go_ret
          refine ⟨?_, _, rfl⟩
          have : xs = ys := by
            have h1 := HT.out
            rw [List.take_of_length_le (by have := HN.out; omega), List.take_of_length_le (by have := HN'.out; omega)] at h1
            exact h1
          rw [decide_eq_true this]; rfl
  · have hl' : ¬ (xs.length : Int) = (ys.length : Int) := by omega
    have hne : ¬ xs = ys := fun e => hl (by rw [e])
    have D := Lib.hid (decide_eq_false hne)
    obtain ⟨A, c, rfl, -⟩ := hv
    obtain ⟨B, d, rfl, -⟩ := hu
    clear hne
    go_enter Tryd.func80, Tryd.ntmps80
    go_wp2
    go_ret
    exact ⟨by rw [D.out]; rfl, 0, rfl⟩
end Go.Proofs.YtnegondlkfeleaaDoor

/- law01: whether two calls are the same. -/
namespace Go.Proofs.YtnegondlkfeleaaDoor
open Go.RowKit

set_option maxHeartbeats 2000000 in
set_option maxRecDepth 100000 in
theorem samecall_any (c n d m : Int) (v u : Value) (xs ys : List (List Int)) (hx : ∀ q ∈ xs, q.length = 10) (hy : ∀ q ∈ ys, q.length = 10) (w : World) (hv : Steps w v xs) (hu : Steps w u ys) (hn : xs.length ≤ 1000000) :
    Calls Tryd.prog 47 #[.agg #[.int .u8 c, .int .u64 n, v], .agg #[.int .u8 d, .int .u64 m, u]] w fun e w' => e = .returned (.bool (decide (c = d ∧ n = m ∧ xs = ys))) ∧ Below w.heap.size w w' := by
  have HV := Lib.hid (Rd.alloc (Rd.alloc hv (.cells #[.int .u8 c, .int .u64 n, v] 57)) (.cells #[.int .u8 d, .int .u64 m, u] 57))
  have HU := Lib.hid (Rd.alloc (Rd.alloc hu (.cells #[.int .u8 c, .int .u64 n, v] 57)) (.cells #[.int .u8 d, .int .u64 m, u] 57))
  have HX := Lib.hid hx
  have HY := Lib.hid hy
  obtain ⟨A, e1, rfl, -⟩ := id hv
  obtain ⟨B, e2, rfl, -⟩ := id hu
  clear hv hu hx hy
  by_cases h1 : c = d
  · by_cases h2 : n = m
    · have HD := Lib.hid (show decide (xs = ys) = decide (c = d ∧ n = m ∧ xs = ys) by rw [decide_eq_decide]; simp [h1, h2])
      have e1 : (c == d) = true := by simpa using h1
      have e2 : (n == m) = true := by simpa using h2
      clear h1 h2
      go_enter Tryd.func47, Tryd.ntmps47
      go_wp2_with fail
      refine (same_steps xs ys HX.out HY.out _ _ _ HV.out HU.out (by omega)).mono ?_
      rintro e w' ⟨rfl, m, rfl⟩
      go_wp2
      go_ret
      exact ⟨by rw [← HD.out]; rfl, (below_alloc2_ _ _ _).trans (below_drewN_ _ _ _)⟩
    · have HD := Lib.hid (show decide (c = d ∧ n = m ∧ xs = ys) = false from decide_eq_false (fun h => h2 h.2.1))
      have e1 : (c == d) = true := by simpa using h1
      have e2 : (n == m) = false := by simpa using h2
      clear h1 h2
      go_enter Tryd.func47, Tryd.ntmps47
      go_wp2
      go_ret
      exact ⟨by rw [HD.out]; rfl, below_alloc2_ _ _ _⟩
  · have HD := Lib.hid (show decide (c = d ∧ n = m ∧ xs = ys) = false from decide_eq_false (fun h => h1 h.1))
    have e1 : (c == d) = false := by simpa using h1
    clear h1
    go_enter Tryd.func47, Tryd.ntmps47
    go_wp2
    go_ret
    exact ⟨by rw [HD.out]; rfl, below_alloc2_ _ _ _⟩
end Go.Proofs.YtnegondlkfeleaaDoor
