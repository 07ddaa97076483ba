/- The library's sort at uint64: insertionSort. -/
import Derived.Test.YtnfabkbajhfnfaaQa
import Derived.Sort.LotA
import Derived.OrdersHeld
namespace Go.Proofs.Ytnfabkbajhfnfaa
open Go.RowKit

theorem insOuter_eq (a b i : Nat) (d : Array Int) : Go.Sort.insOuter Go.Sort.ltInt a b i d = if i < b then Go.Sort.insOuter Go.Sort.ltInt a b (i + 1) (Go.Sort.insInner Go.Sort.ltInt a i d) else d := by rw [Go.Sort.insOuter]
set_option maxHeartbeats 4000000 in
set_option maxRecDepth 100000 in
theorem ins_any {W w : World} {g a b c : Nat} {d : Array Int} {rest : List Value} (h : Sd W w g d rest) (hab : a ≤ b) (hb : b ≤ d.size) (hs : d.size ≤ 1000000) (hc : d.size ≤ c) :
    Calls Try.prog 24 #[.slice (some ⟨g, 0, none⟩) d.size c, .int .i64 a, .int .i64 b] w fun e w' => e = .returned (.tuple #[]) ∧ Sd W w' g (Go.Sort.insertionSort Go.Sort.ltInt d a b) rest := by
  have H := Lib.hid h
  obtain ⟨n, hn⟩ : ∃ n, n = d.size := ⟨_, rfl⟩
  have N := Lib.hid hn
  rw [← hn] at hb hs hc ⊢
  clear h hn
  go_enter Try.func24, Try.ntmps24
  go_wp2_with fail
  go_loopg [6, 7] (b - a) (fun q c6 c7 wr => ∃ (i : Nat) (dk : Array Int), a + 1 ≤ i ∧ q = b - (i - 1) ∧ i ≤ b + 1 ∧ c6 = .int .i64 i ∧ dk.size = n ∧ Sd W wr g dk rest ∧ Go.Sort.insOuter Go.Sort.ltInt a b i dk = Go.Sort.insertionSort Go.Sort.ltInt d a b)
  case atStart => exact ⟨a + 1, d, Nat.le_refl _, by omega, by omega, by go_num, N.out.symm, H.out, rfl⟩
  case round =>
    obtain ⟨i, dk, hi1, hq, hi2, rfl, hdk, hS, hE⟩ := hrel
    have Q := Lib.hid hq
    have DK := Lib.hid hdk
    have S := Lib.hid hS
    have E := Lib.hid hE
    clear hq hdk hS hE
    by_cases hib : i < b
    · have hib' : (i : Int) < b := by omega
      have hwi : IntKind.i64.wrap ((i : Int) + 1) = (i : Int) + 1 := IntWalk.i64_in _ (by omega)
      go_wp2_with fail
      go_loopg [7] i (fun q c7 wr => ∃ (j : Nat) (dj : Array Int), j ≤ i ∧ a ≤ j ∧ q = j ∧ c7 = .int .i64 j ∧ dj.size = n ∧ Sd W wr g dj rest ∧ Go.Sort.insInner Go.Sort.ltInt a j dj = Go.Sort.insInner Go.Sort.ltInt a i dk)
      case atStart => exact ⟨i, dk, Nat.le_refl _, by omega, rfl, rfl, DK.out, S.out, rfl⟩
      case round =>
        obtain ⟨j, dj, hj1, hj2, hq, rfl, hdj, hS, hE2⟩ := hrel
        have Q2 := Lib.hid hq
        have DJ := Lib.hid hdj
        have S2 := Lib.hid hS
        have E2 := Lib.hid hE2
        have hj0 : (0 : Int) ≤ j := by omega
        have hjn : (j : Int) < n := by omega
        clear hq hdj hS hE2
        by_cases haj : a < j
        · have haj' : (a : Int) < j := by omega
          obtain ⟨k, hk⟩ : ∃ k, j = k + 1 := ⟨j - 1, by omega⟩
          have hkj : (j : Int) - 1 = (k : Int) := by omega
          have hw1 : IntKind.i64.wrap (k : Int) = (k : Int) := IntWalk.i64_in _ (by omega)
          have hk0 : (0 : Int) ≤ k := by omega
          have hkn : (k : Int) < n := by omega
          have K := Lib.hid hk
          obtain ⟨x, hx⟩ : ∃ x, x = dj[j]! := ⟨_, rfl⟩
          obtain ⟨y, hy⟩ : ∃ y, y = dj[k]! := ⟨_, rfl⟩
          have HX := Lib.hid hx
          have HY := Lib.hid hy
          have c1 : wr.drew.cell? ⟨g, j, none⟩ = some (.int .u64 x) := by rw [hx]; exact S2.out.drew.cell j (by have := DJ.out; omega)
          have c0 : wr.drew.cell? ⟨g, k, none⟩ = some (.int .u64 y) := by rw [hy]; exact S2.out.drew.cell k (by have := DJ.out; omega)
          clear hk hx hy
          go_upto_region 4 with fail
          have S0 := Lib.hid (And.intro c1 c0)
          clear c1 c0
          go_region_held3 (fun w' => w'.cell? ⟨g, j, none⟩ = some (.int .u64 x) ∧ w'.cell? ⟨g, k, none⟩ = some (.int .u64 y)) (first
            | (with_reducible exact S0.out)
            | fail)
            (first
            | (go_at_call 30; refine (less_any x y _).mono ?_; rintro e u7 ⟨rfl, rfl⟩))
          by_cases hxy : x < y
          · have SD := Lib.hid S2.out.drew.drew
            have c1 : wr.cell? ⟨g, j, none⟩ = some (.int .u64 x) := S0.out.1
            have c0 : wr.cell? ⟨g, k, none⟩ = some (.int .u64 y) := S0.out.2
            have fl := S2.out.blk.free
            go_upto_region 6 with fail
            have SW := S2.out.swp j k (by have := DJ.out; omega) (by have := DJ.out; omega)
            rw [← HX.out, ← HY.out] at SW
            have SWH := Lib.hid SW
            have F := Lib.hid (show Go.Sort.insInner Go.Sort.ltInt a k (Go.Sort.swp dj j k) = Go.Sort.insInner Go.Sort.ltInt a i dk from by
              have h := E2.out
              have hc : (decide (k + 1 > a) && Go.Sort.ltInt dj[k + 1]! dj[k]!) = true := by
                rw [← K.out, ← HX.out, ← HY.out, Go.Sort.ltInt, decide_eq_true hxy, decide_eq_true (by omega)]; rfl
              rw [K.out, Go.Sort.insInner, if_pos hc, ← K.out] at h
              exact h)
            clear SW
            go_region
            go_wp2
            go_roundg k
            case measure => have := Q2.out; omega
            case rel =>
              refine ⟨k, Go.Sort.swp dj j k, by omega, by omega, rfl, by go_num, by rw [Go.Sort.swp_size]; exact DJ.out, ?_, F.out⟩
              exact SWH.out.drew.drew
          · have F := Lib.hid (show dj = Go.Sort.insInner Go.Sort.ltInt a i dk from by
              have := E2.out
              rw [K.out, Go.Sort.insInner, ← K.out, ← HX.out, ← HY.out, Go.Sort.ltInt, decide_eq_false hxy, Bool.and_false] at this
              exact this)
            go_wp2
            go_roundg (b - i)
            case measure => have := Q.out; omega
            case rel =>
              refine ⟨i + 1, dj, by omega, by omega, by omega, by go_num, DJ.out, S2.out.drew, ?_⟩
              have h := E.out
              rw [insOuter_eq, if_pos hib, ← F.out] at h
              exact h
        · have haj' : ¬ (a : Int) < j := by omega
          have F := Lib.hid (show dj = Go.Sort.insInner Go.Sort.ltInt a i dk from by
            have := E2.out
            cases j with
            | zero => exact this
            | succ k =>
              rw [Go.Sort.insInner, decide_eq_false (by omega), Bool.false_and] at this
              exact this)
          go_upto_region 4 with fail
          go_quiet (fail)
          go_wp2
          go_roundg (b - i)
          case measure => have := Q.out; omega
          case rel =>
            refine ⟨i + 1, dj, by omega, by omega, by omega, by go_num, DJ.out, S2.out.drewN _, ?_⟩
            have h := E.out
            rw [insOuter_eq, if_pos hib, ← F.out] at h
            exact h
    · obtain hib' : ¬ (i : Int) < b := by omega
      have F := Lib.hid (show dk = Go.Sort.insertionSort Go.Sort.ltInt d a b from by have := E.out; rw [insOuter_eq, if_neg hib] at this; exact this)
      go_wp2
      refine bodyPost_end (results_none rfl _ _ _) rfl ⟨rfl, ?_⟩
      rw [← F.out]
      exact S.out
end Go.Proofs.Ytnfabkbajhfnfaa
