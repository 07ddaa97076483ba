/- law01: a page (countinghouse/api.Got): written over, and behind; whether it stands. -/
import Derived.Test.YtcpiockmkpdkjaaBkz
import Derived.Test.YtcpiockmkpdkjaaSmg
namespace Go.Proofs.Ytcpiockmkpdkjaa
open Go.RowKit

abbrev row_got (A : Option Addr) (n c : Nat) (m0 m1 b0 b1 : Int) : Value := .agg #[.slice A n c, .int .i64 m0, .int .i64 m1, .int .i64 b0, .int .i64 b1]
set_option maxHeartbeats 2000000 in
theorem write_got_none (m0 m1 b0 b1 : Int) (w : World) : Calls Try.prog 83 #[row_got none 0 0 m0 m1 b0 b1] w fun e w' => e = .returned (.tuple #[]) ∧ Below w.heap.size w w' := by
  unfold row_got
  go_enter Try.func83, Try.ntmps83
  go_wp2
  refine wp_loop_rounds 1 ?_
  rw [rounds_succ]
  go_wp2
  exact bodyPost_end (results_none rfl _ _ _) rfl ⟨rfl, below_alloc_ _ _⟩
set_option maxHeartbeats 2000000 in
theorem behind_got_none (m0 m1 b0 b1 : Int) (w : World) : Calls Try.prog 84 #[row_got none 0 0 m0 m1 b0 b1] w fun e w' => e = .returned (.tuple #[]) ∧ Below w.heap.size w w' := by
  unfold row_got
  go_enter Try.func84, Try.ntmps84
  go_wp2
  refine wp_loop_rounds 1 ?_
  rw [rounds_succ]
  go_wp2
  exact bodyPost_end (results_none rfl _ _ _) rfl ⟨rfl, below_alloc_ _ _⟩
set_option maxHeartbeats 2000000 in
theorem stands_got_none (m0 m1 b0 b1 : Int) (w : World) : Calls Try.prog 82 #[row_got none 0 0 m0 m1 b0 b1] w fun e w' => e = .returned (.bool true) ∧ Below w.heap.size w w' := by
  unfold row_got
  go_enter Try.func82, Try.ntmps82
  go_wp2
  refine wp_loop_rounds 1 ?_
  rw [rounds_succ]
  go_wp2
  go_ret
  exact ⟨rfl, below_alloc_ _ _⟩
set_option maxHeartbeats 4000000 in
set_option maxRecDepth 100000 in
theorem write_got (g n c : Nat) (m0 m1 b0 b1 : Int) (cur : Array Value) (w : World) (hk : Blk w g 42 cur) (hn : n ≤ c) (hc : c * 2 ≤ cur.size) (hb : c ≤ 4611686018427387904) :
    Calls Try.prog 83 #[row_got (some ⟨g, 0, none⟩) n c m0 m1 b0 b1] w fun e w' => e = .returned (.tuple #[]) ∧ ∃ cur', Blk w' g 42 cur' ∧ cur'.size = cur.size ∧ (∀ i, 0 ≤ i → i < n → cur'[i * 2]? = some (.int .i64 m0) ∧ cur'[i * 2 + 1]? = some (.int .i64 m1)) ∧ (∀ p, p < 0 ∨ n * 2 ≤ p → cur'[p]? = cur[p]?) ∧ w.grownBy w' (some g) := by
  unfold row_got
  have K := Lib.hid (Blk.new w 73 #[.slice (some ⟨g, 0, none⟩) n c, .int .i64 m0, .int .i64 m1, .int .i64 b0, .int .i64 b1])
  have HK := Lib.hid (hk.alloc (.cells #[.slice (some ⟨g, 0, none⟩) n c, .int .i64 m0, .int .i64 m1, .int .i64 b0, .int .i64 b1] 73))
  have hgl := hk.lt
  have hn' : (n : Int) ≤ c := by omega
  have hb' : (c : Int) ≤ 4611686018427387904 := by omega
  have G0 := Lib.hid (show w.grownBy _ (some g) from grown_below_ (below_alloc_ w (.cells #[.slice (some ⟨g, 0, none⟩) n c, .int .i64 m0, .int .i64 m1, .int .i64 b0, .int .i64 b1] 73)) (some g))
  clear hk
  go_enter Try.func83, Try.ntmps83
  go_wp2_with fail
  go_loopg [2] (n - 0) (fun q x wr => ∃ (k : Nat) (cur' : Array Value), 0 ≤ k ∧ k ≤ n ∧ q = n - k ∧ x = .int .i64 k ∧ Blk wr g 42 cur' ∧ cur'.size = cur.size ∧ (∀ i, 0 ≤ i → i < k → cur'[i * 2]? = some (.int .i64 m0) ∧ cur'[i * 2 + 1]? = some (.int .i64 m1)) ∧ (∀ p, p < 0 ∨ k * 2 ≤ p → cur'[p]? = cur[p]?) ∧ w.grownBy wr (some g) ∧ Blk wr w.heap.size 73 #[.slice (some ⟨g, 0, none⟩) n c, .int .i64 m0, .int .i64 m1, .int .i64 b0, .int .i64 b1])
  case atStart => exact ⟨0, cur, Nat.le_refl _, by omega, rfl, rfl, HK.out, rfl, fun i _ _ => by omega, fun _ _ => rfl, G0.out, K.out⟩
  case round =>
    obtain ⟨k, cur', hlk, hk, rfl, rfl, hB, hsz, hin, hot, hg, hbx⟩ := hrel
    have HB := Lib.hid hB
    have HI := Lib.hid hin
    have HO := Lib.hid hot
    have HG := Lib.hid hg
    have HX := Lib.hid hbx
    have HS := Lib.hid hsz
    have f := hB.free
    have x0 := hbx.cell 0
    have x1 := hbx.cell 1
    have x2 := hbx.cell 2
    have x3 := hbx.cell 3
    have x4 := hbx.cell 4
    simp only [List.getElem?_toArray, List.getElem?_cons_zero, List.getElem?_cons_succ] at x0 x1 x2 x3 x4
    clear hin hot hg hbx
    by_cases hkn : k < n
    · have hkn' : (k : Int) < n := by omega
      have hk0 : (0 : Int) ≤ k := by omega
      have hz0 : k * 2 < cur'.size := by omega
      have y0 : wr.cell? ⟨g, k * 2, none⟩ = some (cur'[k * 2]'hz0) := by rw [hB.cell]; simp [hz0]
      have hz1 : k * 2 + 1 < cur'.size := by omega
      have y1 : wr.cell? ⟨g, k * 2 + 1, none⟩ = some (cur'[k * 2 + 1]'hz1) := by rw [hB.cell]; simp [hz1]
      clear hB
      go_wp2
      go_roundg (n - (k + 1))
      case measure => omega
      case rel =>
        refine ⟨k + 1, ((cur'.setIfInBounds (k * 2) (.int .i64 m0)).setIfInBounds (k * 2 + 1) (.int .i64 m1)), by omega, by omega, rfl, by go_num, ((HB.out.set_ (k * 2) (.int .i64 m0)).set_ (k * 2 + 1) (.int .i64 m1)), by simp [HS.out], ?_, ?_, (grown_trans_ (grown_trans_ HG.out (grown_set_ wr g (k * 2) (.int .i64 m0))) (grown_set_ (wr.setCell ⟨g, k * 2, none⟩ (.int .i64 m0)) g (k * 2 + 1) (.int .i64 m1))), ((HX.out.far (p := ⟨g, k * 2, none⟩) (by simp; omega) _).far (p := ⟨g, k * 2 + 1, none⟩) (by simp; omega) _)⟩
        · intro i h1 h2
          by_cases hik : i = k
          · subst hik
            exact ⟨(by rw [set_ne_ (by omega), set_eq_ (by (try simp); omega)]), (by rw [set_eq_ (by (try simp); omega)])⟩
          · obtain ⟨h_0, h_1⟩ := HI.out i h1 (by omega)
            exact ⟨(by rw [set_ne_ (by omega), set_ne_ (by omega)]; exact h_0), (by rw [set_ne_ (by omega), set_ne_ (by omega)]; exact h_1)⟩
        · intro p hp
          rw [set_ne_ (by omega), set_ne_ (by omega)]
          exact HO.out p (by omega)
    · obtain rfl : k = n := by omega
      clear hB
      go_wp2
      exact bodyPost_end (results_none rfl _ _ _) rfl ⟨rfl, cur', HB.out, HS.out, HI.out, HO.out, HG.out⟩
set_option maxHeartbeats 4000000 in
set_option maxRecDepth 100000 in
theorem behind_got (g n c : Nat) (m0 m1 b0 b1 : Int) (cur : Array Value) (w : World) (hk : Blk w g 42 cur) (hn : n ≤ c) (hc : c * 2 ≤ cur.size) (hb : c ≤ 4611686018427387904) :
    Calls Try.prog 84 #[row_got (some ⟨g, 0, none⟩) n c m0 m1 b0 b1] w fun e w' => e = .returned (.tuple #[]) ∧ ∃ cur', Blk w' g 42 cur' ∧ cur'.size = cur.size ∧ (∀ i, n ≤ i → i < c → cur'[i * 2]? = some (.int .i64 b0) ∧ cur'[i * 2 + 1]? = some (.int .i64 b1)) ∧ (∀ p, p < n * 2 ∨ c * 2 ≤ p → cur'[p]? = cur[p]?) ∧ w.grownBy w' (some g) := by
  unfold row_got
  have K := Lib.hid (Blk.new w 73 #[.slice (some ⟨g, 0, none⟩) n c, .int .i64 m0, .int .i64 m1, .int .i64 b0, .int .i64 b1])
  have HK := Lib.hid (hk.alloc (.cells #[.slice (some ⟨g, 0, none⟩) n c, .int .i64 m0, .int .i64 m1, .int .i64 b0, .int .i64 b1] 73))
  have hgl := hk.lt
  have hn' : (n : Int) ≤ c := by omega
  have hb' : (c : Int) ≤ 4611686018427387904 := by omega
  have G0 := Lib.hid (show w.grownBy _ (some g) from grown_below_ (below_alloc_ w (.cells #[.slice (some ⟨g, 0, none⟩) n c, .int .i64 m0, .int .i64 m1, .int .i64 b0, .int .i64 b1] 73)) (some g))
  clear hk
  go_enter Try.func84, Try.ntmps84
  go_wp2_with fail
  go_loopg [3] (c - n) (fun q x wr => ∃ (k : Nat) (cur' : Array Value), n ≤ k ∧ k ≤ c ∧ q = c - k ∧ x = .int .i64 k ∧ Blk wr g 42 cur' ∧ cur'.size = cur.size ∧ (∀ i, n ≤ i → i < k → cur'[i * 2]? = some (.int .i64 b0) ∧ cur'[i * 2 + 1]? = some (.int .i64 b1)) ∧ (∀ p, p < n * 2 ∨ k * 2 ≤ p → cur'[p]? = cur[p]?) ∧ w.grownBy wr (some g) ∧ Blk wr w.heap.size 73 #[.slice (some ⟨g, 0, none⟩) n c, .int .i64 m0, .int .i64 m1, .int .i64 b0, .int .i64 b1])
  case atStart => exact ⟨n, cur, Nat.le_refl _, by omega, rfl, rfl, HK.out, rfl, fun i _ _ => by omega, fun _ _ => rfl, G0.out, K.out⟩
  case round =>
    obtain ⟨k, cur', hlk, hk, rfl, rfl, hB, hsz, hin, hot, hg, hbx⟩ := hrel
    have HB := Lib.hid hB
    have HI := Lib.hid hin
    have HO := Lib.hid hot
    have HG := Lib.hid hg
    have HX := Lib.hid hbx
    have HS := Lib.hid hsz
    have f := hB.free
    have x0 := hbx.cell 0
    have x1 := hbx.cell 1
    have x2 := hbx.cell 2
    have x3 := hbx.cell 3
    have x4 := hbx.cell 4
    simp only [List.getElem?_toArray, List.getElem?_cons_zero, List.getElem?_cons_succ] at x0 x1 x2 x3 x4
    clear hin hot hg hbx
    by_cases hkn : k < c
    · have hkn' : (k : Int) < c := by omega
      have hk0 : (0 : Int) ≤ k := by omega
      have hz0 : k * 2 < cur'.size := by omega
      have y0 : wr.cell? ⟨g, k * 2, none⟩ = some (cur'[k * 2]'hz0) := by rw [hB.cell]; simp [hz0]
      have hz1 : k * 2 + 1 < cur'.size := by omega
      have y1 : wr.cell? ⟨g, k * 2 + 1, none⟩ = some (cur'[k * 2 + 1]'hz1) := by rw [hB.cell]; simp [hz1]
      clear hB
      go_wp2
      go_roundg (c - (k + 1))
      case measure => omega
      case rel =>
        refine ⟨k + 1, ((cur'.setIfInBounds (k * 2) (.int .i64 b0)).setIfInBounds (k * 2 + 1) (.int .i64 b1)), by omega, by omega, rfl, by go_num, ((HB.out.set_ (k * 2) (.int .i64 b0)).set_ (k * 2 + 1) (.int .i64 b1)), by simp [HS.out], ?_, ?_, (grown_trans_ (grown_trans_ HG.out (grown_set_ wr g (k * 2) (.int .i64 b0))) (grown_set_ (wr.setCell ⟨g, k * 2, none⟩ (.int .i64 b0)) g (k * 2 + 1) (.int .i64 b1))), ((HX.out.far (p := ⟨g, k * 2, none⟩) (by simp; omega) _).far (p := ⟨g, k * 2 + 1, none⟩) (by simp; omega) _)⟩
        · intro i h1 h2
          by_cases hik : i = k
          · subst hik
            exact ⟨(by rw [set_ne_ (by omega), set_eq_ (by (try simp); omega)]), (by rw [set_eq_ (by (try simp); omega)])⟩
          · obtain ⟨h_0, h_1⟩ := HI.out i h1 (by omega)
            exact ⟨(by rw [set_ne_ (by omega), set_ne_ (by omega)]; exact h_0), (by rw [set_ne_ (by omega), set_ne_ (by omega)]; exact h_1)⟩
        · intro p hp
          rw [set_ne_ (by omega), set_ne_ (by omega)]
          exact HO.out p (by omega)
    · obtain rfl : k = c := by omega
      clear hB
      go_wp2
      exact bodyPost_end (results_none rfl _ _ _) rfl ⟨rfl, cur', HB.out, HS.out, HI.out, HO.out, HG.out⟩
set_option maxHeartbeats 4000000 in
set_option maxRecDepth 100000 in
theorem stands_got (g n c : Nat) (m0 m1 b0 b1 : Int) (cur : Array Value) (w : World) (hk : Blk w g 42 cur) (hn : n ≤ c) (_hc : c * 2 ≤ cur.size) (hb : c ≤ 4611686018427387904)
    (h1 : ∀ i, 0 ≤ i → i < n → cur[i * 2]? = some (.int .i64 m0) ∧ cur[i * 2 + 1]? = some (.int .i64 m1)) (h2 : ∀ i, n ≤ i → i < c → cur[i * 2]? = some (.int .i64 b0) ∧ cur[i * 2 + 1]? = some (.int .i64 b1)) :
    Calls Try.prog 82 #[row_got (some ⟨g, 0, none⟩) n c m0 m1 b0 b1] w fun e w' => e = .returned (.bool true) ∧ Below w.heap.size w w' := by
  unfold row_got
  have K := Lib.hid (Blk.new w 73 #[.slice (some ⟨g, 0, none⟩) n c, .int .i64 m0, .int .i64 m1, .int .i64 b0, .int .i64 b1])
  have HK := Lib.hid (hk.alloc (.cells #[.slice (some ⟨g, 0, none⟩) n c, .int .i64 m0, .int .i64 m1, .int .i64 b0, .int .i64 b1] 73))
  have H1 := Lib.hid h1
  have H2 := Lib.hid h2
  have hn' : (n : Int) ≤ c := by omega
  have hb' : (c : Int) ≤ 4611686018427387904 := by omega
  have kx := K.out
  have x0 := kx.cell 0
  have x1 := kx.cell 1
  have x2 := kx.cell 2
  have x3 := kx.cell 3
  have x4 := kx.cell 4
  simp only [List.getElem?_toArray, List.getElem?_cons_zero, List.getElem?_cons_succ] at x0 x1 x2 x3 x4
  clear hk h1 h2 kx
  have hnm : ∀ W, (binOp .neq 42 (.agg #[.int .i64 m0, .int .i64 m1]) (.agg #[.int .i64 m0, .int .i64 m1])).run Try.prog W = .ok (.bool false) W := fun W => by rw [run_neq_got m0 m1 m0 m1 W]; simp
  have hnb : ∀ W, (binOp .neq 42 (.agg #[.int .i64 b0, .int .i64 b1]) (.agg #[.int .i64 b0, .int .i64 b1])).run Try.prog W = .ok (.bool false) W := fun W => by rw [run_neq_got b0 b1 b0 b1 W]; simp
  go_enter Try.func82, Try.ntmps82
  go_wp2_with fail
  go_loopg [4] c (fun q x wr => ∃ k m : Nat, k ≤ c ∧ q = c - k ∧ x = .int .i64 k ∧ wr = (w.alloc (.cells #[.slice (some ⟨g, 0, none⟩) n c, .int .i64 m0, .int .i64 m1, .int .i64 b0, .int .i64 b1] 73)).drewN m)
  case atStart => exact ⟨0, 0, Nat.zero_le _, rfl, rfl, rfl⟩
  case round =>
    obtain ⟨k, m, hk, rfl, rfl, rfl⟩ := hrel
    by_cases hkc : k < c
    · have hkc' : (k : Int) < c := by omega
      have hk0 : (0 : Int) ≤ k := by omega
      by_cases hkn : k < n
      · have hkn' : (k : Int) < n := by omega
        have hkn2 : ¬ (n : Int) ≤ k := by omega
        have hd1 : decide ((k : Int) < n) = true := decide_eq_true hkn'
        have hd2 : decide ((n : Int) ≤ k) = false := decide_eq_false hkn2
        have hd3 : decide (n ≤ k) = false := decide_eq_false (by omega)
        have hd4 : ¬ n ≤ k := by omega
        obtain ⟨h_0, h_1⟩ := H1.out k (Nat.zero_le _) hkn
        have y0 : (w.alloc (.cells #[.slice (some ⟨g, 0, none⟩) n c, .int .i64 m0, .int .i64 m1, .int .i64 b0, .int .i64 b1] 73)).cell? ⟨g, k * 2, none⟩ = some (.int .i64 m0) := by rw [HK.out.cell]; exact h_0
        have y1 : (w.alloc (.cells #[.slice (some ⟨g, 0, none⟩) n c, .int .i64 m0, .int .i64 m1, .int .i64 b0, .int .i64 b1] 73)).cell? ⟨g, k * 2 + 1, none⟩ = some (.int .i64 m1) := by rw [HK.out.cell]; exact h_1
        clear h_0 h_1
        go_wp2_with fail
        go_quiet (fail)
        go_wp2
        go_roundg (c - (k + 1))
        case measure => omega
        case rel => exact ⟨k + 1, _, by omega, rfl, by go_num, rfl⟩
      · have hkn' : ¬ (k : Int) < n := by omega
        have hkn2 : (n : Int) ≤ k := by omega
        have hd1 : decide ((k : Int) < n) = false := decide_eq_false hkn'
        have hd2 : decide ((n : Int) ≤ k) = true := decide_eq_true hkn2
        have hd3 : decide (n ≤ k) = true := decide_eq_true (by omega)
        have hd4 : n ≤ k := by omega
        obtain ⟨h_0, h_1⟩ := H2.out k (by omega) hkc
        have y0 : (w.alloc (.cells #[.slice (some ⟨g, 0, none⟩) n c, .int .i64 m0, .int .i64 m1, .int .i64 b0, .int .i64 b1] 73)).cell? ⟨g, k * 2, none⟩ = some (.int .i64 b0) := by rw [HK.out.cell]; exact h_0
        have y1 : (w.alloc (.cells #[.slice (some ⟨g, 0, none⟩) n c, .int .i64 m0, .int .i64 m1, .int .i64 b0, .int .i64 b1] 73)).cell? ⟨g, k * 2 + 1, none⟩ = some (.int .i64 b1) := by rw [HK.out.cell]; exact h_1
        clear h_0 h_1
        go_wp2_with fail
        go_quiet (fail)
        go_wp2
        go_roundg (c - (k + 1))
        case measure => omega
        case rel => exact ⟨k + 1, _, by omega, rfl, by go_num, rfl⟩
    · obtain rfl : c = k := by omega
      go_wp2
      go_ret
      exact ⟨rfl, (below_alloc_ w (.cells #[.slice (some ⟨g, 0, none⟩) n c, .int .i64 m0, .int .i64 m1, .int .i64 b0, .int .i64 b1] 73)).trans ((below_drewN_ (w.alloc (.cells #[.slice (some ⟨g, 0, none⟩) n c, .int .i64 m0, .int .i64 m1, .int .i64 b0, .int .i64 b1] 73)).heap.size _ _).mono (by simp))⟩
end Go.Proofs.Ytcpiockmkpdkjaa
