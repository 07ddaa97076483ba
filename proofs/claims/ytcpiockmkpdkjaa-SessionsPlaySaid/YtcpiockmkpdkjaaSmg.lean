/- law01: whether two lists are the same (api.Got). -/
import Derived.Test.YtcpiockmkpdkjaaPkg
import Derived.Test.YtcpiockmkpdkjaaSml
import Derived.Laws.StructEq
namespace Go.Proofs.Ytcpiockmkpdkjaa
open Go.RowKit

theorem run_neq_got (x0 x1 y0 y1 : Int) (w : World) : (binOp .neq 42 (.agg #[.int .i64 x0, .int .i64 x1]) (.agg #[.int .i64 y0, .int .i64 y1])).run Try.prog w = .ok (.bool (!decide ([x0, x1] = [y0, y1]))) w := by
  have u0 := Try.underlying2
  have a0 := Try.isAgg2
  have s0 := Try.sizeOf2
  have hS : Try.prog.underlying 42 = some (.struct (Try.prog.fieldsOf 42)) := by kernel_rfl
  have hp : Try.prog.stoodInHeld 42 = false := by kernel_rfl
  rw [run_neq_struct, show (10000 : Nat) = 9999 + 1 from rfl, run_equalIn_agg w 9999 42 _ _ hS hp]
  simp only [Program.fieldsOf, Try.underlying42]
  go_simp
  by_cases h0 : x0 = y0
  rotate_left
  · simp [h0]
  subst h0
  by_cases h1 : x1 = y1 <;> simp [h1]

theorem same_gots (xs ys : List (List Int)) (hx0 : ∀ q ∈ xs, q.length = 2) (hy0 : ∀ q ∈ ys, q.length = 2) (v u : Value) (w : World) (hv : Gots w v xs) (hu : Gots w u ys) (hb : xs.length ≤ 4611686018427387904) :
    Calls Try.prog 27 #[v, u] w fun e w' => e = .returned (.bool (decide (xs = ys))) ∧ ∃ m, w' = w.drewN m := by
  by_cases hl : xs.length = ys.length
  · by_cases h0 : xs = []
    · subst h0
      have hy : ys = [] := List.eq_nil_of_length_eq_zero (by simpa using hl.symm)
      subst hy
      obtain ⟨A, c, rfl, -⟩ := hv
      obtain ⟨B, d, rfl, -⟩ := hu
      go_enter Try.func27, Try.ntmps27
      go_wp2
      refine wp_loop_rounds 1 ?_
      rw [rounds_succ]
      go_wp2
      go_ret
      exact ⟨by simp, 0, rfl⟩
    · have hpos : 0 < xs.length := List.length_pos_iff.2 h0
      obtain ⟨g, o, c, rfl, hc, hg, hcell⟩ := Rd.at_ fcgot_len hv hpos
      obtain ⟨g', o', d, rfl, hd, hg', hcell'⟩ := Rd.at_ fcgot_len hu (by omega)
      obtain ⟨n, hn⟩ : ∃ n, n = xs.length := ⟨_, rfl⟩
      have hn' : n = ys.length := hn.trans hl
      have HN := Lib.hid hn
      have HN' := Lib.hid hn'
      have hb' : (n : Int) ≤ 4611686018427387904 := by omega
      have HC := Lib.hid hcell
      have HC' := Lib.hid hcell'
      have HX := Lib.hid hx0
      have HY := Lib.hid hy0
      rw [← hn, ← hn']
      have hcn : n ≤ c := by omega
      have hdn : n ≤ d := by omega
      clear hcell hcell' hn hn' hl h0 hc hd hb hpos hv hu hx0 hy0
      go_enter Try.func27, Try.ntmps27
      go_wp2
      go_loopw [5] (fun i wr => ∃ k m : Nat, k ≤ n ∧ i = .int .i64 k ∧ wr = w.drewN m ∧ xs.take k = ys.take k) (fun i _ => n - (intOf i).toNat)
      case atStart => exact ⟨0, 0, Nat.zero_le _, rfl, rfl, rfl⟩
      case round =>
        obtain ⟨k, m, hk, rfl, rfl, ht⟩ := hrel
        have HT := Lib.hid ht
        clear ht
        by_cases hkn : k < n
        · have hx : k < xs.length := by have := HN.out; omega
          have hy : k < ys.length := by have := HN'.out; omega
          obtain ⟨x0, x1, hp⟩ := got_of (HX.out _ (List.getElem_mem hx))
          obtain ⟨y0, y1, hq⟩ := got_of (HY.out _ (List.getElem_mem hy))
          have cx0 : w.cell? ⟨g, o + k * 2, none⟩ = some (.int .i64 x0) := by have := HC.out k hx 0 (.int .i64 x0) (by omega) (by rw [hp]; rfl); simpa using this
          have cx1 : w.cell? ⟨g, o + k * 2 + 1, none⟩ = some (.int .i64 x1) := by have := HC.out k hx 1 (.int .i64 x1) (by omega) (by rw [hp]; rfl); simpa using this
          have cy0 : w.cell? ⟨g', o' + k * 2, none⟩ = some (.int .i64 y0) := by have := HC'.out k hy 0 (.int .i64 y0) (by omega) (by rw [hq]; rfl); simpa using this
          have cy1 : w.cell? ⟨g', o' + k * 2 + 1, none⟩ = some (.int .i64 y1) := by have := HC'.out k hy 1 (.int .i64 y1) (by omega) (by rw [hq]; rfl); simpa using this
          have HP := Lib.hid hp
          have HQ := Lib.hid hq
          clear hp hq
          obtain ⟨t, ht⟩ : ∃ t, (!decide ([x0, x1] = [y0, y1])) = t := ⟨_, rfl⟩
          have hneq : ∀ W, (binOp .neq 42 (.agg #[.int .i64 x0, .int .i64 x1]) (.agg #[.int .i64 y0, .int .i64 y1])).run Try.prog W = .ok (.bool t) W := fun W => by
            rw [← ht]; exact run_neq_got x0 x1 y0 y1 W
          have HTT := Lib.hid ht
          clear ht
          go_wp2_with fail
          go_quiet (fail)
          cases t
          · go_wp2
            have he : [x0, x1] = [y0, y1] := by
              have h1 := HTT.out
              simpa only [Bool.not_eq_false', decide_eq_true_eq] using h1
            exact ⟨⟨k + 1, _, by omega, by go_num, rfl, take_snoc_same xs ys k hx hy HT.out (by rw [HP.out, HQ.out, he])⟩, by simp [intOf]; omega⟩
          · go_wp2
            go_ret
            refine ⟨?_, _, World.drewN_drewN _ _ _⟩
            have : ¬ xs = ys := fun e => by
              have h1 : xs[k] = ys[k] := by subst e; rfl
              rw [HP.out, HQ.out] at h1
              have h2 := HTT.out
              rw [h1] at h2
              simp at h2
            rw [decide_eq_false this]; rfl
        · obtain rfl : k = n := by omega
          go_wp2
          go_ret
          refine ⟨?_, _, rfl⟩
          have : xs = ys := by
            have h1 := HT.out
            rw [List.take_of_length_le (by have := HN.out; omega), List.take_of_length_le (by have := HN'.out; omega)] at h1
            exact h1
          rw [decide_eq_true this]; rfl
  · have hl' : ¬ (xs.length : Int) = (ys.length : Int) := by omega
    have hne : ¬ xs = ys := fun e => hl (by rw [e])
    have D := Lib.hid (decide_eq_false hne)
    obtain ⟨A, c, rfl, -⟩ := hv
    obtain ⟨B, d, rfl, -⟩ := hu
    clear hne
    go_enter Try.func27, Try.ntmps27
    go_wp2
    go_ret
    exact ⟨by rw [D.out]; rfl, 0, rfl⟩
end Go.Proofs.Ytcpiockmkpdkjaa
