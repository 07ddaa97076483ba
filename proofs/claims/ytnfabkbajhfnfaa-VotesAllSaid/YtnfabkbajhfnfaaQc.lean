/- The library's sort at uint64: reverseRange. -/
import Derived.Test.YtnfabkbajhfnfaaQa
import Derived.Sort.LotA
import Derived.OrdersHeld
namespace Go.Proofs.Ytnfabkbajhfnfaa
open Go.RowKit

set_option maxHeartbeats 4000000 in
set_option maxRecDepth 100000 in
theorem rev_any {W w : World} {g a b c : Nat} {d : Array Int} {rest : List Value} (h : Sd W w g d rest) (hab : a < b) (hb : b ≤ d.size) (hs : d.size ≤ 1000000) (hc : d.size ≤ c) :
    Calls Try.prog 28 #[.slice (some ⟨g, 0, none⟩) d.size c, .int .i64 a, .int .i64 b] w fun e w' => e = .returned (.tuple #[]) ∧ Sd W w' g (Go.Sort.reverseRange d a b) rest := by
  have H := Lib.hid h
  obtain ⟨n, hn⟩ : ∃ n, n = d.size := ⟨_, rfl⟩
  have N := Lib.hid hn
  rw [← hn] at hb hs hc ⊢
  have hb1 : (b : Int) - 1 = ((b - 1 : Nat) : Int) := by omega
  clear h hn
  go_enter Try.func28, Try.ntmps28
  go_wp2_with fail
  go_loopg [6, 7] (b - a) (fun q c6 c7 wr => ∃ (i j : Nat) (dk : Array Int), q = j + 1 - i ∧ j < b ∧ i ≤ j + 2 ∧ c6 = .int .i64 i ∧ c7 = .int .i64 j ∧ dk.size = n ∧ Sd W wr g dk rest ∧ Go.Sort.reverseLoop i j dk = Go.Sort.reverseRange d a b)
  case atStart => exact ⟨a, b - 1, d, by omega, by omega, by omega, rfl, by go_num, N.out.symm, H.out, rfl⟩
  case round =>
    obtain ⟨i, j, dk, hq, hj, hi, rfl, rfl, hdk, hS, hE⟩ := hrel
    have Q := Lib.hid hq
    have DK := Lib.hid hdk
    have S := Lib.hid hS
    have E := Lib.hid hE
    clear hq hdk hS hE
    by_cases hij : i < j
    · have hij' : (i : Int) < j := by omega
      have hi0 : (0 : Int) ≤ i := by omega
      have hj0 : (0 : Int) ≤ j := by omega
      have hin : (i : Int) < n := by omega
      have hjn : (j : Int) < n := by omega
      obtain ⟨x, hx⟩ : ∃ x, x = dk[i]! := ⟨_, rfl⟩
      obtain ⟨y, hy⟩ : ∃ y, y = dk[j]! := ⟨_, rfl⟩
      have c0 : wr.cell? ⟨g, i, none⟩ = some (.int .u64 x) := by rw [hx]; exact S.out.cell i (by have := DK.out; omega)
      have c1 : wr.cell? ⟨g, j, none⟩ = some (.int .u64 y) := by rw [hy]; exact S.out.cell j (by have := DK.out; omega)
      have fl := S.out.blk.free
      have SW := S.out.swp i j (by have := DK.out; omega) (by have := DK.out; omega)
      rw [← hx, ← hy] at SW
      have SWH := Lib.hid SW
      have hwi : IntKind.i64.wrap ((i : Int) + 1) = (i : Int) + 1 := IntWalk.i64_in _ (by omega)
      have hwj : IntKind.i64.wrap ((j : Int) - 1) = (j : Int) - 1 := IntWalk.i64_in _ (by omega)
      clear hx hy SW
      go_upto_region 3 with fail
      go_region
      go_wp2
      go_roundg (j - 1 + 1 - (i + 1))
      case measure => have := Q.out; omega
      case rel =>
        refine ⟨i + 1, j - 1, Go.Sort.swp dk i j, rfl, by omega, by omega, by go_num, by go_num, by rw [Go.Sort.swp_size]; exact DK.out, SWH.out.drew, ?_⟩
        have h := E.out
        rw [Go.Sort.reverseLoop, if_pos hij] at h
        exact h
    · have hij' : ¬ (i : Int) < j := by omega
      have F := Lib.hid (show dk = Go.Sort.reverseRange d a b from by have h := E.out; rw [Go.Sort.reverseLoop, if_neg hij] at h; exact h)
      go_wp2
      refine bodyPost_end (results_none rfl _ _ _) rfl ⟨rfl, ?_⟩
      rw [← F.out]
      exact S.out
end Go.Proofs.Ytnfabkbajhfnfaa
