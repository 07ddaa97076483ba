import Derived.Test.YtielnocnnffdfaaGreatMem
import Derived.Test.YtielnocnnffdfaaGreatMemB
import Derived.Test.YtielnocnnffdfaaGreatSms
import Derived.Test.YtielnocnnffdfaaGreatSmg
import Derived.Test.YtielnocnnffdfaaGreatJpk
import Derived.Test.YtielnocnnffdfaaGreatSmn
import Derived.Test.YtielnocnnffdfaaGreatSmo
/- Small facts on arrays' cells. -/
namespace Go.Proofs.YtielnocnnffdfaaGreat
open Go.RowKit

theorem set_ne_ {cur : Array Value} {a i : Nat} {u : Value} (h : a ≠ i) : (cur.setIfInBounds a u)[i]? = cur[i]? := Array.getElem?_setIfInBounds_ne h
theorem set_eq_ {cur : Array Value} {a : Nat} {u : Value} (h : a < cur.size) : (cur.setIfInBounds a u)[a]? = some u := by
  rw [Array.getElem?_setIfInBounds]; simp [h]
theorem one_of {α : Type} : ∀ {l : List α}, l.length = 1 → ∃ a, l = [a]
  | [a], _ => ⟨a, rfl⟩
end Go.Proofs.YtielnocnnffdfaaGreat

/- law01: a page (byte): written over, and behind; whether it stands. -/
namespace Go.Proofs.YtielnocnnffdfaaGreat
open Go.RowKit

abbrev row_byte (A : Option Addr) (n c : Nat) (m0 b0 : Int) : Value := .agg #[.slice A n c, .int .u8 m0, .int .u8 b0]
set_option maxHeartbeats 2000000 in
theorem write_byte_none (m0 b0 : Int) (w : World) : Calls Tryz.prog 111 #[row_byte none 0 0 m0 b0] w fun e w' => e = .returned (.tuple #[]) ∧ Below w.heap.size w w' := by
  unfold row_byte
  go_enter Tryz.func111, Tryz.ntmps111
  go_wp2
  refine wp_loop_rounds 1 ?_
  rw [rounds_succ]
  go_wp2
  exact bodyPost_end (results_none rfl _ _ _) rfl ⟨rfl, below_alloc_ _ _⟩
set_option maxHeartbeats 2000000 in
theorem behind_byte_none (m0 b0 : Int) (w : World) : Calls Tryz.prog 112 #[row_byte none 0 0 m0 b0] w fun e w' => e = .returned (.tuple #[]) ∧ Below w.heap.size w w' := by
  unfold row_byte
  go_enter Tryz.func112, Tryz.ntmps112
  go_wp2
  refine wp_loop_rounds 1 ?_
  rw [rounds_succ]
  go_wp2
  exact bodyPost_end (results_none rfl _ _ _) rfl ⟨rfl, below_alloc_ _ _⟩
set_option maxHeartbeats 2000000 in
theorem stands_byte_none (m0 b0 : Int) (w : World) : Calls Tryz.prog 110 #[row_byte none 0 0 m0 b0] w fun e w' => e = .returned (.bool true) ∧ Below w.heap.size w w' := by
  unfold row_byte
  go_enter Tryz.func110, Tryz.ntmps110
  go_wp2
  refine wp_loop_rounds 1 ?_
  rw [rounds_succ]
  go_wp2
  go_ret
  exact ⟨rfl, below_alloc_ _ _⟩
set_option maxHeartbeats 4000000 in
set_option maxRecDepth 100000 in
theorem write_byte (g n c : Nat) (m0 b0 : Int) (cur : Array Value) (w : World) (hk : Blk w g 5 cur) (hn : n ≤ c) (hc : c * 1 ≤ cur.size) (hb : c ≤ 4611686018427387904) :
    Calls Tryz.prog 111 #[row_byte (some ⟨g, 0, none⟩) n c m0 b0] w fun e w' => e = .returned (.tuple #[]) ∧ ∃ cur', Blk w' g 5 cur' ∧ cur'.size = cur.size ∧ (∀ i, 0 ≤ i → i < n → cur'[i]? = some (.int .u8 m0)) ∧ (∀ p, p < 0 ∨ n ≤ p → cur'[p]? = cur[p]?) ∧ w.grownBy w' (some g) := by
  unfold row_byte
  have K := Lib.hid (Blk.new w 112 #[.slice (some ⟨g, 0, none⟩) n c, .int .u8 m0, .int .u8 b0])
  have HK := Lib.hid (hk.alloc (.cells #[.slice (some ⟨g, 0, none⟩) n c, .int .u8 m0, .int .u8 b0] 112))
  have hgl := hk.lt
  have hn' : (n : Int) ≤ c := by omega
  have hb' : (c : Int) ≤ 4611686018427387904 := by omega
  have G0 := Lib.hid (show w.grownBy _ (some g) from grown_below_ (below_alloc_ w (.cells #[.slice (some ⟨g, 0, none⟩) n c, .int .u8 m0, .int .u8 b0] 112)) (some g))
  clear hk
  go_enter Tryz.func111, Tryz.ntmps111
  go_wp2_with fail
  go_loopg [2] (n - 0) (fun q x wr => ∃ (k : Nat) (cur' : Array Value), 0 ≤ k ∧ k ≤ n ∧ q = n - k ∧ x = .int .i64 k ∧ Blk wr g 5 cur' ∧ cur'.size = cur.size ∧ (∀ i, 0 ≤ i → i < k → cur'[i]? = some (.int .u8 m0)) ∧ (∀ p, p < 0 ∨ k ≤ p → cur'[p]? = cur[p]?) ∧ w.grownBy wr (some g) ∧ Blk wr w.heap.size 112 #[.slice (some ⟨g, 0, none⟩) n c, .int .u8 m0, .int .u8 b0])
  case atStart => exact ⟨0, cur, Nat.le_refl _, by omega, rfl, rfl, HK.out, rfl, fun i _ _ => by omega, fun _ _ => rfl, G0.out, K.out⟩
  case round =>
    obtain ⟨k, cur', hlk, hk, rfl, rfl, hB, hsz, hin, hot, hg, hbx⟩ := hrel
    have HB := Lib.hid hB
    have HI := Lib.hid hin
    have HO := Lib.hid hot
    have HG := Lib.hid hg
    have HX := Lib.hid hbx
    have HS := Lib.hid hsz
    have f := hB.free
    have x0 := hbx.cell 0
    have x1 := hbx.cell 1
    have x2 := hbx.cell 2
    simp only [List.getElem?_toArray, List.getElem?_cons_zero, List.getElem?_cons_succ] at x0 x1 x2
    clear hin hot hg hbx
    by_cases hkn : k < n
    · have hkn' : (k : Int) < n := by omega
      have hk0 : (0 : Int) ≤ k := by omega
      have hz0 : k < cur'.size := by omega
      have y0 : wr.cell? ⟨g, k, none⟩ = some (cur'[k]'hz0) := by rw [hB.cell]; simp [hz0]
      clear hB
      go_wp2
      go_roundg (n - (k + 1))
      case measure => omega
      case rel =>
        refine ⟨k + 1, (cur'.setIfInBounds (k) (.int .u8 m0)), by omega, by omega, rfl, by go_num, (HB.out.set_ (k) (.int .u8 m0)), by simp [HS.out], ?_, ?_, (grown_trans_ HG.out (grown_set_ wr g (k) (.int .u8 m0))), (HX.out.far (p := ⟨g, k, none⟩) (by simp; omega) _)⟩
        · intro i h1 h2
          by_cases hik : i = k
          · subst hik
            exact (by rw [set_eq_ (by (try simp); omega)])
          · have h_0 := HI.out i h1 (by omega)
            exact (by rw [set_ne_ (by omega)]; exact h_0)
        · intro p hp
          rw [set_ne_ (by omega)]
          exact HO.out p (by omega)
    · obtain rfl : k = n := by omega
      clear hB
      go_wp2
      exact bodyPost_end (results_none rfl _ _ _) rfl ⟨rfl, cur', HB.out, HS.out, HI.out, HO.out, HG.out⟩
set_option maxHeartbeats 4000000 in
set_option maxRecDepth 100000 in
theorem behind_byte (g n c : Nat) (m0 b0 : Int) (cur : Array Value) (w : World) (hk : Blk w g 5 cur) (hn : n ≤ c) (hc : c * 1 ≤ cur.size) (hb : c ≤ 4611686018427387904) :
    Calls Tryz.prog 112 #[row_byte (some ⟨g, 0, none⟩) n c m0 b0] w fun e w' => e = .returned (.tuple #[]) ∧ ∃ cur', Blk w' g 5 cur' ∧ cur'.size = cur.size ∧ (∀ i, n ≤ i → i < c → cur'[i]? = some (.int .u8 b0)) ∧ (∀ p, p < n ∨ c ≤ p → cur'[p]? = cur[p]?) ∧ w.grownBy w' (some g) := by
  unfold row_byte
  have K := Lib.hid (Blk.new w 112 #[.slice (some ⟨g, 0, none⟩) n c, .int .u8 m0, .int .u8 b0])
  have HK := Lib.hid (hk.alloc (.cells #[.slice (some ⟨g, 0, none⟩) n c, .int .u8 m0, .int .u8 b0] 112))
  have hgl := hk.lt
  have hn' : (n : Int) ≤ c := by omega
  have hb' : (c : Int) ≤ 4611686018427387904 := by omega
  have G0 := Lib.hid (show w.grownBy _ (some g) from grown_below_ (below_alloc_ w (.cells #[.slice (some ⟨g, 0, none⟩) n c, .int .u8 m0, .int .u8 b0] 112)) (some g))
  clear hk
  go_enter Tryz.func112, Tryz.ntmps112
  go_wp2_with fail
  go_loopg [3] (c - n) (fun q x wr => ∃ (k : Nat) (cur' : Array Value), n ≤ k ∧ k ≤ c ∧ q = c - k ∧ x = .int .i64 k ∧ Blk wr g 5 cur' ∧ cur'.size = cur.size ∧ (∀ i, n ≤ i → i < k → cur'[i]? = some (.int .u8 b0)) ∧ (∀ p, p < n ∨ k ≤ p → cur'[p]? = cur[p]?) ∧ w.grownBy wr (some g) ∧ Blk wr w.heap.size 112 #[.slice (some ⟨g, 0, none⟩) n c, .int .u8 m0, .int .u8 b0])
  case atStart => exact ⟨n, cur, Nat.le_refl _, by omega, rfl, rfl, HK.out, rfl, fun i _ _ => by omega, fun _ _ => rfl, G0.out, K.out⟩
  case round =>
    obtain ⟨k, cur', hlk, hk, rfl, rfl, hB, hsz, hin, hot, hg, hbx⟩ := hrel
    have HB := Lib.hid hB
    have HI := Lib.hid hin
    have HO := Lib.hid hot
    have HG := Lib.hid hg
    have HX := Lib.hid hbx
    have HS := Lib.hid hsz
    have f := hB.free
    have x0 := hbx.cell 0
    have x1 := hbx.cell 1
    have x2 := hbx.cell 2
    simp only [List.getElem?_toArray, List.getElem?_cons_zero, List.getElem?_cons_succ] at x0 x1 x2
    clear hin hot hg hbx
    by_cases hkn : k < c
    · have hkn' : (k : Int) < c := by omega
      have hk0 : (0 : Int) ≤ k := by omega
      have hz0 : k < cur'.size := by omega
      have y0 : wr.cell? ⟨g, k, none⟩ = some (cur'[k]'hz0) := by rw [hB.cell]; simp [hz0]
      clear hB
      go_wp2
      go_roundg (c - (k + 1))
      case measure => omega
      case rel =>
        refine ⟨k + 1, (cur'.setIfInBounds (k) (.int .u8 b0)), by omega, by omega, rfl, by go_num, (HB.out.set_ (k) (.int .u8 b0)), by simp [HS.out], ?_, ?_, (grown_trans_ HG.out (grown_set_ wr g (k) (.int .u8 b0))), (HX.out.far (p := ⟨g, k, none⟩) (by simp; omega) _)⟩
        · intro i h1 h2
          by_cases hik : i = k
          · subst hik
            exact (by rw [set_eq_ (by (try simp); omega)])
          · have h_0 := HI.out i h1 (by omega)
            exact (by rw [set_ne_ (by omega)]; exact h_0)
        · intro p hp
          rw [set_ne_ (by omega)]
          exact HO.out p (by omega)
    · obtain rfl : k = c := by omega
      clear hB
      go_wp2
      exact bodyPost_end (results_none rfl _ _ _) rfl ⟨rfl, cur', HB.out, HS.out, HI.out, HO.out, HG.out⟩
set_option maxHeartbeats 4000000 in
set_option maxRecDepth 100000 in
theorem stands_byte (g n c : Nat) (m0 b0 : Int) (cur : Array Value) (w : World) (hk : Blk w g 5 cur) (hn : n ≤ c) (hc : c * 1 ≤ cur.size) (hb : c ≤ 4611686018427387904)
    (h1 : ∀ i, 0 ≤ i → i < n → cur[i]? = some (.int .u8 m0)) (h2 : ∀ i, n ≤ i → i < c → cur[i]? = some (.int .u8 b0)) :
    Calls Tryz.prog 110 #[row_byte (some ⟨g, 0, none⟩) n c m0 b0] w fun e w' => e = .returned (.bool true) ∧ Below w.heap.size w w' := by
  unfold row_byte
  have K := Lib.hid (Blk.new w 112 #[.slice (some ⟨g, 0, none⟩) n c, .int .u8 m0, .int .u8 b0])
  have HK := Lib.hid (hk.alloc (.cells #[.slice (some ⟨g, 0, none⟩) n c, .int .u8 m0, .int .u8 b0] 112))
  have H1 := Lib.hid h1
  have H2 := Lib.hid h2
  have hn' : (n : Int) ≤ c := by omega
  have hb' : (c : Int) ≤ 4611686018427387904 := by omega
  have kx := K.out
  have x0 := kx.cell 0
  have x1 := kx.cell 1
  have x2 := kx.cell 2
  simp only [List.getElem?_toArray, List.getElem?_cons_zero, List.getElem?_cons_succ] at x0 x1 x2
  clear hk h1 h2 kx
  have hnm : (m0 != m0) = false := by simp
  have hnb : (b0 != b0) = false := by simp
  go_enter Tryz.func110, Tryz.ntmps110
  go_wp2_with fail
  go_loopg [4] c (fun q x wr => ∃ k m : Nat, k ≤ c ∧ q = c - k ∧ x = .int .i64 k ∧ wr = (w.alloc (.cells #[.slice (some ⟨g, 0, none⟩) n c, .int .u8 m0, .int .u8 b0] 112)).drewN m)
  case atStart => exact ⟨0, 0, Nat.zero_le _, rfl, rfl, rfl⟩
  case round =>
    obtain ⟨k, m, hk, rfl, rfl, rfl⟩ := hrel
    by_cases hkc : k < c
    · have hkc' : (k : Int) < c := by omega
      have hk0 : (0 : Int) ≤ k := by omega
      by_cases hkn : k < n
      · have hkn' : (k : Int) < n := by omega
        have hkn2 : ¬ (n : Int) ≤ k := by omega
        have hd1 : decide ((k : Int) < n) = true := decide_eq_true hkn'
        have hd2 : decide ((n : Int) ≤ k) = false := decide_eq_false hkn2
        have hd3 : decide (n ≤ k) = false := decide_eq_false (by omega)
        have hd4 : ¬ n ≤ k := by omega
        have h_0 := H1.out k (Nat.zero_le _) hkn
        have y0 : (w.alloc (.cells #[.slice (some ⟨g, 0, none⟩) n c, .int .u8 m0, .int .u8 b0] 112)).cell? ⟨g, k, none⟩ = some (.int .u8 m0) := by rw [HK.out.cell]; exact h_0
        clear h_0
        go_wp2_with fail
        go_quiet (fail)
        go_wp2
        go_roundg (c - (k + 1))
        case measure => omega
        case rel => exact ⟨k + 1, _, by omega, rfl, by go_num, rfl⟩
      · have hkn' : ¬ (k : Int) < n := by omega
        have hkn2 : (n : Int) ≤ k := by omega
        have hd1 : decide ((k : Int) < n) = false := decide_eq_false hkn'
        have hd2 : decide ((n : Int) ≤ k) = true := decide_eq_true hkn2
        have hd3 : decide (n ≤ k) = true := decide_eq_true (by omega)
        have hd4 : n ≤ k := by omega
        have h_0 := H2.out k (by omega) hkc
        have y0 : (w.alloc (.cells #[.slice (some ⟨g, 0, none⟩) n c, .int .u8 m0, .int .u8 b0] 112)).cell? ⟨g, k, none⟩ = some (.int .u8 b0) := by rw [HK.out.cell]; exact h_0
        clear h_0
        go_wp2_with fail
        go_quiet (fail)
        go_wp2
        go_roundg (c - (k + 1))
        case measure => omega
        case rel => exact ⟨k + 1, _, by omega, rfl, by go_num, rfl⟩
    · obtain rfl : c = k := by omega
      go_wp2
      go_ret
      exact ⟨rfl, (below_alloc_ w (.cells #[.slice (some ⟨g, 0, none⟩) n c, .int .u8 m0, .int .u8 b0] 112)).trans ((below_drewN_ (w.alloc (.cells #[.slice (some ⟨g, 0, none⟩) n c, .int .u8 m0, .int .u8 b0] 112)).heap.size _ _).mono (by simp))⟩
end Go.Proofs.YtielnocnnffdfaaGreat

/- law01: a page (countinghouse/api.Step): written over, and behind; whether it stands. -/
namespace Go.Proofs.YtielnocnnffdfaaGreat
open Go.RowKit

abbrev row_step (A : Option Addr) (n c : Nat) (m0 m1 m2 m3 m4 m5 m6 m7 m8 m9 b0 b1 b2 b3 b4 b5 b6 b7 b8 b9 : Int) : Value := .agg #[.slice A n c, .int .u8 m0, .int .u8 m1, .int .u8 m2, .int .u8 m3, .int .u8 m4, .int .i64 m5, .int .i64 m6, .int .i64 m7, .int .i64 m8, .int .u64 m9, .int .u8 b0, .int .u8 b1, .int .u8 b2, .int .u8 b3, .int .u8 b4, .int .i64 b5, .int .i64 b6, .int .i64 b7, .int .i64 b8, .int .u64 b9]
set_option maxHeartbeats 2000000 in
theorem write_step_none (m0 m1 m2 m3 m4 m5 m6 m7 m8 m9 b0 b1 b2 b3 b4 b5 b6 b7 b8 b9 : Int) (w : World) : Calls Tryz.prog 114 #[row_step none 0 0 m0 m1 m2 m3 m4 m5 m6 m7 m8 m9 b0 b1 b2 b3 b4 b5 b6 b7 b8 b9] w fun e w' => e = .returned (.tuple #[]) ∧ Below w.heap.size w w' := by
  unfold row_step
  go_enter Tryz.func114, Tryz.ntmps114
  go_wp2
  refine wp_loop_rounds 1 ?_
  rw [rounds_succ]
  go_wp2
  exact bodyPost_end (results_none rfl _ _ _) rfl ⟨rfl, below_alloc_ _ _⟩
set_option maxHeartbeats 2000000 in
theorem behind_step_none (m0 m1 m2 m3 m4 m5 m6 m7 m8 m9 b0 b1 b2 b3 b4 b5 b6 b7 b8 b9 : Int) (w : World) : Calls Tryz.prog 115 #[row_step none 0 0 m0 m1 m2 m3 m4 m5 m6 m7 m8 m9 b0 b1 b2 b3 b4 b5 b6 b7 b8 b9] w fun e w' => e = .returned (.tuple #[]) ∧ Below w.heap.size w w' := by
  unfold row_step
  go_enter Tryz.func115, Tryz.ntmps115
  go_wp2
  refine wp_loop_rounds 1 ?_
  rw [rounds_succ]
  go_wp2
  exact bodyPost_end (results_none rfl _ _ _) rfl ⟨rfl, below_alloc_ _ _⟩
set_option maxHeartbeats 2000000 in
theorem stands_step_none (m0 m1 m2 m3 m4 m5 m6 m7 m8 m9 b0 b1 b2 b3 b4 b5 b6 b7 b8 b9 : Int) (w : World) : Calls Tryz.prog 113 #[row_step none 0 0 m0 m1 m2 m3 m4 m5 m6 m7 m8 m9 b0 b1 b2 b3 b4 b5 b6 b7 b8 b9] w fun e w' => e = .returned (.bool true) ∧ Below w.heap.size w w' := by
  unfold row_step
  go_enter Tryz.func113, Tryz.ntmps113
  go_wp2
  refine wp_loop_rounds 1 ?_
  rw [rounds_succ]
  go_wp2
  go_ret
  exact ⟨rfl, below_alloc_ _ _⟩
set_option maxHeartbeats 4000000 in
set_option maxRecDepth 100000 in
theorem write_step (g n c : Nat) (m0 m1 m2 m3 m4 m5 m6 m7 m8 m9 b0 b1 b2 b3 b4 b5 b6 b7 b8 b9 : Int) (cur : Array Value) (w : World) (hk : Blk w g 91 cur) (hn : n ≤ c) (hc : c * 10 ≤ cur.size) (hb : c ≤ 4611686018427387904) :
    Calls Tryz.prog 114 #[row_step (some ⟨g, 0, none⟩) n c m0 m1 m2 m3 m4 m5 m6 m7 m8 m9 b0 b1 b2 b3 b4 b5 b6 b7 b8 b9] w fun e w' => e = .returned (.tuple #[]) ∧ ∃ cur', Blk w' g 91 cur' ∧ cur'.size = cur.size ∧ (∀ i, 0 ≤ i → i < n → cur'[i * 10]? = some (.int .u8 m0) ∧ cur'[i * 10 + 1]? = some (.int .u8 m1) ∧ cur'[i * 10 + 2]? = some (.int .u8 m2) ∧ cur'[i * 10 + 3]? = some (.int .u8 m3) ∧ cur'[i * 10 + 4]? = some (.int .u8 m4) ∧ cur'[i * 10 + 5]? = some (.int .i64 m5) ∧ cur'[i * 10 + 6]? = some (.int .i64 m6) ∧ cur'[i * 10 + 7]? = some (.int .i64 m7) ∧ cur'[i * 10 + 8]? = some (.int .i64 m8) ∧ cur'[i * 10 + 9]? = some (.int .u64 m9)) ∧ (∀ p, p < 0 ∨ n * 10 ≤ p → cur'[p]? = cur[p]?) ∧ w.grownBy w' (some g) := by
  unfold row_step
  have K := Lib.hid (Blk.new w 114 #[.slice (some ⟨g, 0, none⟩) n c, .int .u8 m0, .int .u8 m1, .int .u8 m2, .int .u8 m3, .int .u8 m4, .int .i64 m5, .int .i64 m6, .int .i64 m7, .int .i64 m8, .int .u64 m9, .int .u8 b0, .int .u8 b1, .int .u8 b2, .int .u8 b3, .int .u8 b4, .int .i64 b5, .int .i64 b6, .int .i64 b7, .int .i64 b8, .int .u64 b9])
  have HK := Lib.hid (hk.alloc (.cells #[.slice (some ⟨g, 0, none⟩) n c, .int .u8 m0, .int .u8 m1, .int .u8 m2, .int .u8 m3, .int .u8 m4, .int .i64 m5, .int .i64 m6, .int .i64 m7, .int .i64 m8, .int .u64 m9, .int .u8 b0, .int .u8 b1, .int .u8 b2, .int .u8 b3, .int .u8 b4, .int .i64 b5, .int .i64 b6, .int .i64 b7, .int .i64 b8, .int .u64 b9] 114))
  have hgl := hk.lt
  have hn' : (n : Int) ≤ c := by omega
  have hb' : (c : Int) ≤ 4611686018427387904 := by omega
  have G0 := Lib.hid (show w.grownBy _ (some g) from grown_below_ (below_alloc_ w (.cells #[.slice (some ⟨g, 0, none⟩) n c, .int .u8 m0, .int .u8 m1, .int .u8 m2, .int .u8 m3, .int .u8 m4, .int .i64 m5, .int .i64 m6, .int .i64 m7, .int .i64 m8, .int .u64 m9, .int .u8 b0, .int .u8 b1, .int .u8 b2, .int .u8 b3, .int .u8 b4, .int .i64 b5, .int .i64 b6, .int .i64 b7, .int .i64 b8, .int .u64 b9] 114)) (some g))
  clear hk
  go_enter Tryz.func114, Tryz.ntmps114
  go_wp2_with fail
  go_loopg [2] (n - 0) (fun q x wr => ∃ (k : Nat) (cur' : Array Value), 0 ≤ k ∧ k ≤ n ∧ q = n - k ∧ x = .int .i64 k ∧ Blk wr g 91 cur' ∧ cur'.size = cur.size ∧ (∀ i, 0 ≤ i → i < k → cur'[i * 10]? = some (.int .u8 m0) ∧ cur'[i * 10 + 1]? = some (.int .u8 m1) ∧ cur'[i * 10 + 2]? = some (.int .u8 m2) ∧ cur'[i * 10 + 3]? = some (.int .u8 m3) ∧ cur'[i * 10 + 4]? = some (.int .u8 m4) ∧ cur'[i * 10 + 5]? = some (.int .i64 m5) ∧ cur'[i * 10 + 6]? = some (.int .i64 m6) ∧ cur'[i * 10 + 7]? = some (.int .i64 m7) ∧ cur'[i * 10 + 8]? = some (.int .i64 m8) ∧ cur'[i * 10 + 9]? = some (.int .u64 m9)) ∧ (∀ p, p < 0 ∨ k * 10 ≤ p → cur'[p]? = cur[p]?) ∧ w.grownBy wr (some g) ∧ Blk wr w.heap.size 114 #[.slice (some ⟨g, 0, none⟩) n c, .int .u8 m0, .int .u8 m1, .int .u8 m2, .int .u8 m3, .int .u8 m4, .int .i64 m5, .int .i64 m6, .int .i64 m7, .int .i64 m8, .int .u64 m9, .int .u8 b0, .int .u8 b1, .int .u8 b2, .int .u8 b3, .int .u8 b4, .int .i64 b5, .int .i64 b6, .int .i64 b7, .int .i64 b8, .int .u64 b9])
  case atStart => exact ⟨0, cur, Nat.le_refl _, by omega, rfl, rfl, HK.out, rfl, fun i _ _ => by omega, fun _ _ => rfl, G0.out, K.out⟩
  case round =>
    obtain ⟨k, cur', hlk, hk, rfl, rfl, hB, hsz, hin, hot, hg, hbx⟩ := hrel
    have HB := Lib.hid hB
    have HI := Lib.hid hin
    have HO := Lib.hid hot
    have HG := Lib.hid hg
    have HX := Lib.hid hbx
    have HS := Lib.hid hsz
    have f := hB.free
    have x0 := hbx.cell 0
    have x1 := hbx.cell 1
    have x2 := hbx.cell 2
    have x3 := hbx.cell 3
    have x4 := hbx.cell 4
    have x5 := hbx.cell 5
    have x6 := hbx.cell 6
    have x7 := hbx.cell 7
    have x8 := hbx.cell 8
    have x9 := hbx.cell 9
    have x10 := hbx.cell 10
    have x11 := hbx.cell 11
    have x12 := hbx.cell 12
    have x13 := hbx.cell 13
    have x14 := hbx.cell 14
    have x15 := hbx.cell 15
    have x16 := hbx.cell 16
    have x17 := hbx.cell 17
    have x18 := hbx.cell 18
    have x19 := hbx.cell 19
    have x20 := hbx.cell 20
    simp only [List.getElem?_toArray, List.getElem?_cons_zero, List.getElem?_cons_succ] at x0 x1 x2 x3 x4 x5 x6 x7 x8 x9 x10 x11 x12 x13 x14 x15 x16 x17 x18 x19 x20
    clear hin hot hg hbx
    by_cases hkn : k < n
    · have hkn' : (k : Int) < n := by omega
      have hk0 : (0 : Int) ≤ k := by omega
      have hz0 : k * 10 < cur'.size := by omega
      have y0 : wr.cell? ⟨g, k * 10, none⟩ = some (cur'[k * 10]'hz0) := by rw [hB.cell]; simp [hz0]
      have hz1 : k * 10 + 1 < cur'.size := by omega
      have y1 : wr.cell? ⟨g, k * 10 + 1, none⟩ = some (cur'[k * 10 + 1]'hz1) := by rw [hB.cell]; simp [hz1]
      have hz2 : k * 10 + 2 < cur'.size := by omega
      have y2 : wr.cell? ⟨g, k * 10 + 2, none⟩ = some (cur'[k * 10 + 2]'hz2) := by rw [hB.cell]; simp [hz2]
      have hz3 : k * 10 + 3 < cur'.size := by omega
      have y3 : wr.cell? ⟨g, k * 10 + 3, none⟩ = some (cur'[k * 10 + 3]'hz3) := by rw [hB.cell]; simp [hz3]
      have hz4 : k * 10 + 4 < cur'.size := by omega
      have y4 : wr.cell? ⟨g, k * 10 + 4, none⟩ = some (cur'[k * 10 + 4]'hz4) := by rw [hB.cell]; simp [hz4]
      have hz5 : k * 10 + 5 < cur'.size := by omega
      have y5 : wr.cell? ⟨g, k * 10 + 5, none⟩ = some (cur'[k * 10 + 5]'hz5) := by rw [hB.cell]; simp [hz5]
      have hz6 : k * 10 + 6 < cur'.size := by omega
      have y6 : wr.cell? ⟨g, k * 10 + 6, none⟩ = some (cur'[k * 10 + 6]'hz6) := by rw [hB.cell]; simp [hz6]
      have hz7 : k * 10 + 7 < cur'.size := by omega
      have y7 : wr.cell? ⟨g, k * 10 + 7, none⟩ = some (cur'[k * 10 + 7]'hz7) := by rw [hB.cell]; simp [hz7]
      have hz8 : k * 10 + 8 < cur'.size := by omega
      have y8 : wr.cell? ⟨g, k * 10 + 8, none⟩ = some (cur'[k * 10 + 8]'hz8) := by rw [hB.cell]; simp [hz8]
      have hz9 : k * 10 + 9 < cur'.size := by omega
      have y9 : wr.cell? ⟨g, k * 10 + 9, none⟩ = some (cur'[k * 10 + 9]'hz9) := by rw [hB.cell]; simp [hz9]
      clear hB
      go_wp2
      go_roundg (n - (k + 1))
      case measure => omega
      case rel =>
        refine ⟨k + 1, ((((((((((cur'.setIfInBounds (k * 10) (.int .u8 m0)).setIfInBounds (k * 10 + 1) (.int .u8 m1)).setIfInBounds (k * 10 + 2) (.int .u8 m2)).setIfInBounds (k * 10 + 3) (.int .u8 m3)).setIfInBounds (k * 10 + 4) (.int .u8 m4)).setIfInBounds (k * 10 + 5) (.int .i64 m5)).setIfInBounds (k * 10 + 6) (.int .i64 m6)).setIfInBounds (k * 10 + 7) (.int .i64 m7)).setIfInBounds (k * 10 + 8) (.int .i64 m8)).setIfInBounds (k * 10 + 9) (.int .u64 m9)), by omega, by omega, rfl, by go_num, ((((((((((HB.out.set_ (k * 10) (.int .u8 m0)).set_ (k * 10 + 1) (.int .u8 m1)).set_ (k * 10 + 2) (.int .u8 m2)).set_ (k * 10 + 3) (.int .u8 m3)).set_ (k * 10 + 4) (.int .u8 m4)).set_ (k * 10 + 5) (.int .i64 m5)).set_ (k * 10 + 6) (.int .i64 m6)).set_ (k * 10 + 7) (.int .i64 m7)).set_ (k * 10 + 8) (.int .i64 m8)).set_ (k * 10 + 9) (.int .u64 m9)), by simp [HS.out], ?_, ?_, (grown_trans_ (grown_trans_ (grown_trans_ (grown_trans_ (grown_trans_ (grown_trans_ (grown_trans_ (grown_trans_ (grown_trans_ (grown_trans_ HG.out (grown_set_ wr g (k * 10) (.int .u8 m0))) (grown_set_ (wr.setCell ⟨g, k * 10, none⟩ (.int .u8 m0)) g (k * 10 + 1) (.int .u8 m1))) (grown_set_ ((wr.setCell ⟨g, k * 10, none⟩ (.int .u8 m0)).setCell ⟨g, k * 10 + 1, none⟩ (.int .u8 m1)) g (k * 10 + 2) (.int .u8 m2))) (grown_set_ (((wr.setCell ⟨g, k * 10, none⟩ (.int .u8 m0)).setCell ⟨g, k * 10 + 1, none⟩ (.int .u8 m1)).setCell ⟨g, k * 10 + 2, none⟩ (.int .u8 m2)) g (k * 10 + 3) (.int .u8 m3))) (grown_set_ ((((wr.setCell ⟨g, k * 10, none⟩ (.int .u8 m0)).setCell ⟨g, k * 10 + 1, none⟩ (.int .u8 m1)).setCell ⟨g, k * 10 + 2, none⟩ (.int .u8 m2)).setCell ⟨g, k * 10 + 3, none⟩ (.int .u8 m3)) g (k * 10 + 4) (.int .u8 m4))) (grown_set_ (((((wr.setCell ⟨g, k * 10, none⟩ (.int .u8 m0)).setCell ⟨g, k * 10 + 1, none⟩ (.int .u8 m1)).setCell ⟨g, k * 10 + 2, none⟩ (.int .u8 m2)).setCell ⟨g, k * 10 + 3, none⟩ (.int .u8 m3)).setCell ⟨g, k * 10 + 4, none⟩ (.int .u8 m4)) g (k * 10 + 5) (.int .i64 m5))) (grown_set_ ((((((wr.setCell ⟨g, k * 10, none⟩ (.int .u8 m0)).setCell ⟨g, k * 10 + 1, none⟩ (.int .u8 m1)).setCell ⟨g, k * 10 + 2, none⟩ (.int .u8 m2)).setCell ⟨g, k * 10 + 3, none⟩ (.int .u8 m3)).setCell ⟨g, k * 10 + 4, none⟩ (.int .u8 m4)).setCell ⟨g, k * 10 + 5, none⟩ (.int .i64 m5)) g (k * 10 + 6) (.int .i64 m6))) (grown_set_ (((((((wr.setCell ⟨g, k * 10, none⟩ (.int .u8 m0)).setCell ⟨g, k * 10 + 1, none⟩ (.int .u8 m1)).setCell ⟨g, k * 10 + 2, none⟩ (.int .u8 m2)).setCell ⟨g, k * 10 + 3, none⟩ (.int .u8 m3)).setCell ⟨g, k * 10 + 4, none⟩ (.int .u8 m4)).setCell ⟨g, k * 10 + 5, none⟩ (.int .i64 m5)).setCell ⟨g, k * 10 + 6, none⟩ (.int .i64 m6)) g (k * 10 + 7) (.int .i64 m7))) (grown_set_ ((((((((wr.setCell ⟨g, k * 10, none⟩ (.int .u8 m0)).setCell ⟨g, k * 10 + 1, none⟩ (.int .u8 m1)).setCell ⟨g, k * 10 + 2, none⟩ (.int .u8 m2)).setCell ⟨g, k * 10 + 3, none⟩ (.int .u8 m3)).setCell ⟨g, k * 10 + 4, none⟩ (.int .u8 m4)).setCell ⟨g, k * 10 + 5, none⟩ (.int .i64 m5)).setCell ⟨g, k * 10 + 6, none⟩ (.int .i64 m6)).setCell ⟨g, k * 10 + 7, none⟩ (.int .i64 m7)) g (k * 10 + 8) (.int .i64 m8))) (grown_set_ (((((((((wr.setCell ⟨g, k * 10, none⟩ (.int .u8 m0)).setCell ⟨g, k * 10 + 1, none⟩ (.int .u8 m1)).setCell ⟨g, k * 10 + 2, none⟩ (.int .u8 m2)).setCell ⟨g, k * 10 + 3, none⟩ (.int .u8 m3)).setCell ⟨g, k * 10 + 4, none⟩ (.int .u8 m4)).setCell ⟨g, k * 10 + 5, none⟩ (.int .i64 m5)).setCell ⟨g, k * 10 + 6, none⟩ (.int .i64 m6)).setCell ⟨g, k * 10 + 7, none⟩ (.int .i64 m7)).setCell ⟨g, k * 10 + 8, none⟩ (.int .i64 m8)) g (k * 10 + 9) (.int .u64 m9))), ((((((((((HX.out.far (p := ⟨g, k * 10, none⟩) (by simp; omega) _).far (p := ⟨g, k * 10 + 1, none⟩) (by simp; omega) _).far (p := ⟨g, k * 10 + 2, none⟩) (by simp; omega) _).far (p := ⟨g, k * 10 + 3, none⟩) (by simp; omega) _).far (p := ⟨g, k * 10 + 4, none⟩) (by simp; omega) _).far (p := ⟨g, k * 10 + 5, none⟩) (by simp; omega) _).far (p := ⟨g, k * 10 + 6, none⟩) (by simp; omega) _).far (p := ⟨g, k * 10 + 7, none⟩) (by simp; omega) _).far (p := ⟨g, k * 10 + 8, none⟩) (by simp; omega) _).far (p := ⟨g, k * 10 + 9, none⟩) (by simp; omega) _)⟩
        · intro i h1 h2
          by_cases hik : i = k
          · subst hik
            exact ⟨(by rw [set_ne_ (by omega), set_ne_ (by omega), set_ne_ (by omega), set_ne_ (by omega), set_ne_ (by omega), set_ne_ (by omega), set_ne_ (by omega), set_ne_ (by omega), set_ne_ (by omega), set_eq_ (by (try simp); omega)]), (by rw [set_ne_ (by omega), set_ne_ (by omega), set_ne_ (by omega), set_ne_ (by omega), set_ne_ (by omega), set_ne_ (by omega), set_ne_ (by omega), set_ne_ (by omega), set_eq_ (by (try simp); omega)]), (by rw [set_ne_ (by omega), set_ne_ (by omega), set_ne_ (by omega), set_ne_ (by omega), set_ne_ (by omega), set_ne_ (by omega), set_ne_ (by omega), set_eq_ (by (try simp); omega)]), (by rw [set_ne_ (by omega), set_ne_ (by omega), set_ne_ (by omega), set_ne_ (by omega), set_ne_ (by omega), set_ne_ (by omega), set_eq_ (by (try simp); omega)]), (by rw [set_ne_ (by omega), set_ne_ (by omega), set_ne_ (by omega), set_ne_ (by omega), set_ne_ (by omega), set_eq_ (by (try simp); omega)]), (by rw [set_ne_ (by omega), set_ne_ (by omega), set_ne_ (by omega), set_ne_ (by omega), set_eq_ (by (try simp); omega)]), (by rw [set_ne_ (by omega), set_ne_ (by omega), set_ne_ (by omega), set_eq_ (by (try simp); omega)]), (by rw [set_ne_ (by omega), set_ne_ (by omega), set_eq_ (by (try simp); omega)]), (by rw [set_ne_ (by omega), set_eq_ (by (try simp); omega)]), (by rw [set_eq_ (by (try simp); omega)])⟩
          · obtain ⟨h_0, h_1, h_2, h_3, h_4, h_5, h_6, h_7, h_8, h_9⟩ := HI.out i h1 (by omega)
            exact ⟨(by rw [set_ne_ (by omega), set_ne_ (by omega), set_ne_ (by omega), set_ne_ (by omega), set_ne_ (by omega), set_ne_ (by omega), set_ne_ (by omega), set_ne_ (by omega), set_ne_ (by omega), set_ne_ (by omega)]; exact h_0), (by rw [set_ne_ (by omega), set_ne_ (by omega), set_ne_ (by omega), set_ne_ (by omega), set_ne_ (by omega), set_ne_ (by omega), set_ne_ (by omega), set_ne_ (by omega), set_ne_ (by omega), set_ne_ (by omega)]; exact h_1), (by rw [set_ne_ (by omega), set_ne_ (by omega), set_ne_ (by omega), set_ne_ (by omega), set_ne_ (by omega), set_ne_ (by omega), set_ne_ (by omega), set_ne_ (by omega), set_ne_ (by omega), set_ne_ (by omega)]; exact h_2), (by rw [set_ne_ (by omega), set_ne_ (by omega), set_ne_ (by omega), set_ne_ (by omega), set_ne_ (by omega), set_ne_ (by omega), set_ne_ (by omega), set_ne_ (by omega), set_ne_ (by omega), set_ne_ (by omega)]; exact h_3), (by rw [set_ne_ (by omega), set_ne_ (by omega), set_ne_ (by omega), set_ne_ (by omega), set_ne_ (by omega), set_ne_ (by omega), set_ne_ (by omega), set_ne_ (by omega), set_ne_ (by omega), set_ne_ (by omega)]; exact h_4), (by rw [set_ne_ (by omega), set_ne_ (by omega), set_ne_ (by omega), set_ne_ (by omega), set_ne_ (by omega), set_ne_ (by omega), set_ne_ (by omega), set_ne_ (by omega), set_ne_ (by omega), set_ne_ (by omega)]; exact h_5), (by rw [set_ne_ (by omega), set_ne_ (by omega), set_ne_ (by omega), set_ne_ (by omega), set_ne_ (by omega), set_ne_ (by omega), set_ne_ (by omega), set_ne_ (by omega), set_ne_ (by omega), set_ne_ (by omega)]; exact h_6), (by rw [set_ne_ (by omega), set_ne_ (by omega), set_ne_ (by omega), set_ne_ (by omega), set_ne_ (by omega), set_ne_ (by omega), set_ne_ (by omega), set_ne_ (by omega), set_ne_ (by omega), set_ne_ (by omega)]; exact h_7), (by rw [set_ne_ (by omega), set_ne_ (by omega), set_ne_ (by omega), set_ne_ (by omega), set_ne_ (by omega), set_ne_ (by omega), set_ne_ (by omega), set_ne_ (by omega), set_ne_ (by omega), set_ne_ (by omega)]; exact h_8), (by rw [set_ne_ (by omega), set_ne_ (by omega), set_ne_ (by omega), set_ne_ (by omega), set_ne_ (by omega), set_ne_ (by omega), set_ne_ (by omega), set_ne_ (by omega), set_ne_ (by omega), set_ne_ (by omega)]; exact h_9)⟩
        · intro p hp
          rw [set_ne_ (by omega), set_ne_ (by omega), set_ne_ (by omega), set_ne_ (by omega), set_ne_ (by omega), set_ne_ (by omega), set_ne_ (by omega), set_ne_ (by omega), set_ne_ (by omega), set_ne_ (by omega)]
          exact HO.out p (by omega)
    · obtain rfl : k = n := by omega
      clear hB
      go_wp2
      exact bodyPost_end (results_none rfl _ _ _) rfl ⟨rfl, cur', HB.out, HS.out, HI.out, HO.out, HG.out⟩
set_option maxHeartbeats 4000000 in
set_option maxRecDepth 100000 in
theorem behind_step (g n c : Nat) (m0 m1 m2 m3 m4 m5 m6 m7 m8 m9 b0 b1 b2 b3 b4 b5 b6 b7 b8 b9 : Int) (cur : Array Value) (w : World) (hk : Blk w g 91 cur) (hn : n ≤ c) (hc : c * 10 ≤ cur.size) (hb : c ≤ 4611686018427387904) :
    Calls Tryz.prog 115 #[row_step (some ⟨g, 0, none⟩) n c m0 m1 m2 m3 m4 m5 m6 m7 m8 m9 b0 b1 b2 b3 b4 b5 b6 b7 b8 b9] w fun e w' => e = .returned (.tuple #[]) ∧ ∃ cur', Blk w' g 91 cur' ∧ cur'.size = cur.size ∧ (∀ i, n ≤ i → i < c → cur'[i * 10]? = some (.int .u8 b0) ∧ cur'[i * 10 + 1]? = some (.int .u8 b1) ∧ cur'[i * 10 + 2]? = some (.int .u8 b2) ∧ cur'[i * 10 + 3]? = some (.int .u8 b3) ∧ cur'[i * 10 + 4]? = some (.int .u8 b4) ∧ cur'[i * 10 + 5]? = some (.int .i64 b5) ∧ cur'[i * 10 + 6]? = some (.int .i64 b6) ∧ cur'[i * 10 + 7]? = some (.int .i64 b7) ∧ cur'[i * 10 + 8]? = some (.int .i64 b8) ∧ cur'[i * 10 + 9]? = some (.int .u64 b9)) ∧ (∀ p, p < n * 10 ∨ c * 10 ≤ p → cur'[p]? = cur[p]?) ∧ w.grownBy w' (some g) := by
  unfold row_step
  have K := Lib.hid (Blk.new w 114 #[.slice (some ⟨g, 0, none⟩) n c, .int .u8 m0, .int .u8 m1, .int .u8 m2, .int .u8 m3, .int .u8 m4, .int .i64 m5, .int .i64 m6, .int .i64 m7, .int .i64 m8, .int .u64 m9, .int .u8 b0, .int .u8 b1, .int .u8 b2, .int .u8 b3, .int .u8 b4, .int .i64 b5, .int .i64 b6, .int .i64 b7, .int .i64 b8, .int .u64 b9])
  have HK := Lib.hid (hk.alloc (.cells #[.slice (some ⟨g, 0, none⟩) n c, .int .u8 m0, .int .u8 m1, .int .u8 m2, .int .u8 m3, .int .u8 m4, .int .i64 m5, .int .i64 m6, .int .i64 m7, .int .i64 m8, .int .u64 m9, .int .u8 b0, .int .u8 b1, .int .u8 b2, .int .u8 b3, .int .u8 b4, .int .i64 b5, .int .i64 b6, .int .i64 b7, .int .i64 b8, .int .u64 b9] 114))
  have hgl := hk.lt
  have hn' : (n : Int) ≤ c := by omega
  have hb' : (c : Int) ≤ 4611686018427387904 := by omega
  have G0 := Lib.hid (show w.grownBy _ (some g) from grown_below_ (below_alloc_ w (.cells #[.slice (some ⟨g, 0, none⟩) n c, .int .u8 m0, .int .u8 m1, .int .u8 m2, .int .u8 m3, .int .u8 m4, .int .i64 m5, .int .i64 m6, .int .i64 m7, .int .i64 m8, .int .u64 m9, .int .u8 b0, .int .u8 b1, .int .u8 b2, .int .u8 b3, .int .u8 b4, .int .i64 b5, .int .i64 b6, .int .i64 b7, .int .i64 b8, .int .u64 b9] 114)) (some g))
  clear hk
  go_enter Tryz.func115, Tryz.ntmps115
  go_wp2_with fail
  go_loopg [3] (c - n) (fun q x wr => ∃ (k : Nat) (cur' : Array Value), n ≤ k ∧ k ≤ c ∧ q = c - k ∧ x = .int .i64 k ∧ Blk wr g 91 cur' ∧ cur'.size = cur.size ∧ (∀ i, n ≤ i → i < k → cur'[i * 10]? = some (.int .u8 b0) ∧ cur'[i * 10 + 1]? = some (.int .u8 b1) ∧ cur'[i * 10 + 2]? = some (.int .u8 b2) ∧ cur'[i * 10 + 3]? = some (.int .u8 b3) ∧ cur'[i * 10 + 4]? = some (.int .u8 b4) ∧ cur'[i * 10 + 5]? = some (.int .i64 b5) ∧ cur'[i * 10 + 6]? = some (.int .i64 b6) ∧ cur'[i * 10 + 7]? = some (.int .i64 b7) ∧ cur'[i * 10 + 8]? = some (.int .i64 b8) ∧ cur'[i * 10 + 9]? = some (.int .u64 b9)) ∧ (∀ p, p < n * 10 ∨ k * 10 ≤ p → cur'[p]? = cur[p]?) ∧ w.grownBy wr (some g) ∧ Blk wr w.heap.size 114 #[.slice (some ⟨g, 0, none⟩) n c, .int .u8 m0, .int .u8 m1, .int .u8 m2, .int .u8 m3, .int .u8 m4, .int .i64 m5, .int .i64 m6, .int .i64 m7, .int .i64 m8, .int .u64 m9, .int .u8 b0, .int .u8 b1, .int .u8 b2, .int .u8 b3, .int .u8 b4, .int .i64 b5, .int .i64 b6, .int .i64 b7, .int .i64 b8, .int .u64 b9])
  case atStart => exact ⟨n, cur, Nat.le_refl _, by omega, rfl, rfl, HK.out, rfl, fun i _ _ => by omega, fun _ _ => rfl, G0.out, K.out⟩
  case round =>
    obtain ⟨k, cur', hlk, hk, rfl, rfl, hB, hsz, hin, hot, hg, hbx⟩ := hrel
    have HB := Lib.hid hB
    have HI := Lib.hid hin
    have HO := Lib.hid hot
    have HG := Lib.hid hg
    have HX := Lib.hid hbx
    have HS := Lib.hid hsz
    have f := hB.free
    have x0 := hbx.cell 0
    have x1 := hbx.cell 1
    have x2 := hbx.cell 2
    have x3 := hbx.cell 3
    have x4 := hbx.cell 4
    have x5 := hbx.cell 5
    have x6 := hbx.cell 6
    have x7 := hbx.cell 7
    have x8 := hbx.cell 8
    have x9 := hbx.cell 9
    have x10 := hbx.cell 10
    have x11 := hbx.cell 11
    have x12 := hbx.cell 12
    have x13 := hbx.cell 13
    have x14 := hbx.cell 14
    have x15 := hbx.cell 15
    have x16 := hbx.cell 16
    have x17 := hbx.cell 17
    have x18 := hbx.cell 18
    have x19 := hbx.cell 19
    have x20 := hbx.cell 20
    simp only [List.getElem?_toArray, List.getElem?_cons_zero, List.getElem?_cons_succ] at x0 x1 x2 x3 x4 x5 x6 x7 x8 x9 x10 x11 x12 x13 x14 x15 x16 x17 x18 x19 x20
    clear hin hot hg hbx
    by_cases hkn : k < c
    · have hkn' : (k : Int) < c := by omega
      have hk0 : (0 : Int) ≤ k := by omega
      have hz0 : k * 10 < cur'.size := by omega
      have y0 : wr.cell? ⟨g, k * 10, none⟩ = some (cur'[k * 10]'hz0) := by rw [hB.cell]; simp [hz0]
      have hz1 : k * 10 + 1 < cur'.size := by omega
      have y1 : wr.cell? ⟨g, k * 10 + 1, none⟩ = some (cur'[k * 10 + 1]'hz1) := by rw [hB.cell]; simp [hz1]
      have hz2 : k * 10 + 2 < cur'.size := by omega
      have y2 : wr.cell? ⟨g, k * 10 + 2, none⟩ = some (cur'[k * 10 + 2]'hz2) := by rw [hB.cell]; simp [hz2]
      have hz3 : k * 10 + 3 < cur'.size := by omega
      have y3 : wr.cell? ⟨g, k * 10 + 3, none⟩ = some (cur'[k * 10 + 3]'hz3) := by rw [hB.cell]; simp [hz3]
      have hz4 : k * 10 + 4 < cur'.size := by omega
      have y4 : wr.cell? ⟨g, k * 10 + 4, none⟩ = some (cur'[k * 10 + 4]'hz4) := by rw [hB.cell]; simp [hz4]
      have hz5 : k * 10 + 5 < cur'.size := by omega
      have y5 : wr.cell? ⟨g, k * 10 + 5, none⟩ = some (cur'[k * 10 + 5]'hz5) := by rw [hB.cell]; simp [hz5]
      have hz6 : k * 10 + 6 < cur'.size := by omega
      have y6 : wr.cell? ⟨g, k * 10 + 6, none⟩ = some (cur'[k * 10 + 6]'hz6) := by rw [hB.cell]; simp [hz6]
      have hz7 : k * 10 + 7 < cur'.size := by omega
      have y7 : wr.cell? ⟨g, k * 10 + 7, none⟩ = some (cur'[k * 10 + 7]'hz7) := by rw [hB.cell]; simp [hz7]
      have hz8 : k * 10 + 8 < cur'.size := by omega
      have y8 : wr.cell? ⟨g, k * 10 + 8, none⟩ = some (cur'[k * 10 + 8]'hz8) := by rw [hB.cell]; simp [hz8]
      have hz9 : k * 10 + 9 < cur'.size := by omega
      have y9 : wr.cell? ⟨g, k * 10 + 9, none⟩ = some (cur'[k * 10 + 9]'hz9) := by rw [hB.cell]; simp [hz9]
      clear hB
      go_wp2
      go_roundg (c - (k + 1))
      case measure => omega
      case rel =>
        refine ⟨k + 1, ((((((((((cur'.setIfInBounds (k * 10) (.int .u8 b0)).setIfInBounds (k * 10 + 1) (.int .u8 b1)).setIfInBounds (k * 10 + 2) (.int .u8 b2)).setIfInBounds (k * 10 + 3) (.int .u8 b3)).setIfInBounds (k * 10 + 4) (.int .u8 b4)).setIfInBounds (k * 10 + 5) (.int .i64 b5)).setIfInBounds (k * 10 + 6) (.int .i64 b6)).setIfInBounds (k * 10 + 7) (.int .i64 b7)).setIfInBounds (k * 10 + 8) (.int .i64 b8)).setIfInBounds (k * 10 + 9) (.int .u64 b9)), by omega, by omega, rfl, by go_num, ((((((((((HB.out.set_ (k * 10) (.int .u8 b0)).set_ (k * 10 + 1) (.int .u8 b1)).set_ (k * 10 + 2) (.int .u8 b2)).set_ (k * 10 + 3) (.int .u8 b3)).set_ (k * 10 + 4) (.int .u8 b4)).set_ (k * 10 + 5) (.int .i64 b5)).set_ (k * 10 + 6) (.int .i64 b6)).set_ (k * 10 + 7) (.int .i64 b7)).set_ (k * 10 + 8) (.int .i64 b8)).set_ (k * 10 + 9) (.int .u64 b9)), by simp [HS.out], ?_, ?_, (grown_trans_ (grown_trans_ (grown_trans_ (grown_trans_ (grown_trans_ (grown_trans_ (grown_trans_ (grown_trans_ (grown_trans_ (grown_trans_ HG.out (grown_set_ wr g (k * 10) (.int .u8 b0))) (grown_set_ (wr.setCell ⟨g, k * 10, none⟩ (.int .u8 b0)) g (k * 10 + 1) (.int .u8 b1))) (grown_set_ ((wr.setCell ⟨g, k * 10, none⟩ (.int .u8 b0)).setCell ⟨g, k * 10 + 1, none⟩ (.int .u8 b1)) g (k * 10 + 2) (.int .u8 b2))) (grown_set_ (((wr.setCell ⟨g, k * 10, none⟩ (.int .u8 b0)).setCell ⟨g, k * 10 + 1, none⟩ (.int .u8 b1)).setCell ⟨g, k * 10 + 2, none⟩ (.int .u8 b2)) g (k * 10 + 3) (.int .u8 b3))) (grown_set_ ((((wr.setCell ⟨g, k * 10, none⟩ (.int .u8 b0)).setCell ⟨g, k * 10 + 1, none⟩ (.int .u8 b1)).setCell ⟨g, k * 10 + 2, none⟩ (.int .u8 b2)).setCell ⟨g, k * 10 + 3, none⟩ (.int .u8 b3)) g (k * 10 + 4) (.int .u8 b4))) (grown_set_ (((((wr.setCell ⟨g, k * 10, none⟩ (.int .u8 b0)).setCell ⟨g, k * 10 + 1, none⟩ (.int .u8 b1)).setCell ⟨g, k * 10 + 2, none⟩ (.int .u8 b2)).setCell ⟨g, k * 10 + 3, none⟩ (.int .u8 b3)).setCell ⟨g, k * 10 + 4, none⟩ (.int .u8 b4)) g (k * 10 + 5) (.int .i64 b5))) (grown_set_ ((((((wr.setCell ⟨g, k * 10, none⟩ (.int .u8 b0)).setCell ⟨g, k * 10 + 1, none⟩ (.int .u8 b1)).setCell ⟨g, k * 10 + 2, none⟩ (.int .u8 b2)).setCell ⟨g, k * 10 + 3, none⟩ (.int .u8 b3)).setCell ⟨g, k * 10 + 4, none⟩ (.int .u8 b4)).setCell ⟨g, k * 10 + 5, none⟩ (.int .i64 b5)) g (k * 10 + 6) (.int .i64 b6))) (grown_set_ (((((((wr.setCell ⟨g, k * 10, none⟩ (.int .u8 b0)).setCell ⟨g, k * 10 + 1, none⟩ (.int .u8 b1)).setCell ⟨g, k * 10 + 2, none⟩ (.int .u8 b2)).setCell ⟨g, k * 10 + 3, none⟩ (.int .u8 b3)).setCell ⟨g, k * 10 + 4, none⟩ (.int .u8 b4)).setCell ⟨g, k * 10 + 5, none⟩ (.int .i64 b5)).setCell ⟨g, k * 10 + 6, none⟩ (.int .i64 b6)) g (k * 10 + 7) (.int .i64 b7))) (grown_set_ ((((((((wr.setCell ⟨g, k * 10, none⟩ (.int .u8 b0)).setCell ⟨g, k * 10 + 1, none⟩ (.int .u8 b1)).setCell ⟨g, k * 10 + 2, none⟩ (.int .u8 b2)).setCell ⟨g, k * 10 + 3, none⟩ (.int .u8 b3)).setCell ⟨g, k * 10 + 4, none⟩ (.int .u8 b4)).setCell ⟨g, k * 10 + 5, none⟩ (.int .i64 b5)).setCell ⟨g, k * 10 + 6, none⟩ (.int .i64 b6)).setCell ⟨g, k * 10 + 7, none⟩ (.int .i64 b7)) g (k * 10 + 8) (.int .i64 b8))) (grown_set_ (((((((((wr.setCell ⟨g, k * 10, none⟩ (.int .u8 b0)).setCell ⟨g, k * 10 + 1, none⟩ (.int .u8 b1)).setCell ⟨g, k * 10 + 2, none⟩ (.int .u8 b2)).setCell ⟨g, k * 10 + 3, none⟩ (.int .u8 b3)).setCell ⟨g, k * 10 + 4, none⟩ (.int .u8 b4)).setCell ⟨g, k * 10 + 5, none⟩ (.int .i64 b5)).setCell ⟨g, k * 10 + 6, none⟩ (.int .i64 b6)).setCell ⟨g, k * 10 + 7, none⟩ (.int .i64 b7)).setCell ⟨g, k * 10 + 8, none⟩ (.int .i64 b8)) g (k * 10 + 9) (.int .u64 b9))), ((((((((((HX.out.far (p := ⟨g, k * 10, none⟩) (by simp; omega) _).far (p := ⟨g, k * 10 + 1, none⟩) (by simp; omega) _).far (p := ⟨g, k * 10 + 2, none⟩) (by simp; omega) _).far (p := ⟨g, k * 10 + 3, none⟩) (by simp; omega) _).far (p := ⟨g, k * 10 + 4, none⟩) (by simp; omega) _).far (p := ⟨g, k * 10 + 5, none⟩) (by simp; omega) _).far (p := ⟨g, k * 10 + 6, none⟩) (by simp; omega) _).far (p := ⟨g, k * 10 + 7, none⟩) (by simp; omega) _).far (p := ⟨g, k * 10 + 8, none⟩) (by simp; omega) _).far (p := ⟨g, k * 10 + 9, none⟩) (by simp; omega) _)⟩
        · intro i h1 h2
          by_cases hik : i = k
          · subst hik
            exact ⟨(by rw [set_ne_ (by omega), set_ne_ (by omega), set_ne_ (by omega), set_ne_ (by omega), set_ne_ (by omega), set_ne_ (by omega), set_ne_ (by omega), set_ne_ (by omega), set_ne_ (by omega), set_eq_ (by (try simp); omega)]), (by rw [set_ne_ (by omega), set_ne_ (by omega), set_ne_ (by omega), set_ne_ (by omega), set_ne_ (by omega), set_ne_ (by omega), set_ne_ (by omega), set_ne_ (by omega), set_eq_ (by (try simp); omega)]), (by rw [set_ne_ (by omega), set_ne_ (by omega), set_ne_ (by omega), set_ne_ (by omega), set_ne_ (by omega), set_ne_ (by omega), set_ne_ (by omega), set_eq_ (by (try simp); omega)]), (by rw [set_ne_ (by omega), set_ne_ (by omega), set_ne_ (by omega), set_ne_ (by omega), set_ne_ (by omega), set_ne_ (by omega), set_eq_ (by (try simp); omega)]), (by rw [set_ne_ (by omega), set_ne_ (by omega), set_ne_ (by omega), set_ne_ (by omega), set_ne_ (by omega), set_eq_ (by (try simp); omega)]), (by rw [set_ne_ (by omega), set_ne_ (by omega), set_ne_ (by omega), set_ne_ (by omega), set_eq_ (by (try simp); omega)]), (by rw [set_ne_ (by omega), set_ne_ (by omega), set_ne_ (by omega), set_eq_ (by (try simp); omega)]), (by rw [set_ne_ (by omega), set_ne_ (by omega), set_eq_ (by (try simp); omega)]), (by rw [set_ne_ (by omega), set_eq_ (by (try simp); omega)]), (by rw [set_eq_ (by (try simp); omega)])⟩
          · obtain ⟨h_0, h_1, h_2, h_3, h_4, h_5, h_6, h_7, h_8, h_9⟩ := HI.out i h1 (by omega)
            exact ⟨(by rw [set_ne_ (by omega), set_ne_ (by omega), set_ne_ (by omega), set_ne_ (by omega), set_ne_ (by omega), set_ne_ (by omega), set_ne_ (by omega), set_ne_ (by omega), set_ne_ (by omega), set_ne_ (by omega)]; exact h_0), (by rw [set_ne_ (by omega), set_ne_ (by omega), set_ne_ (by omega), set_ne_ (by omega), set_ne_ (by omega), set_ne_ (by omega), set_ne_ (by omega), set_ne_ (by omega), set_ne_ (by omega), set_ne_ (by omega)]; exact h_1), (by rw [set_ne_ (by omega), set_ne_ (by omega), set_ne_ (by omega), set_ne_ (by omega), set_ne_ (by omega), set_ne_ (by omega), set_ne_ (by omega), set_ne_ (by omega), set_ne_ (by omega), set_ne_ (by omega)]; exact h_2), (by rw [set_ne_ (by omega), set_ne_ (by omega), set_ne_ (by omega), set_ne_ (by omega), set_ne_ (by omega), set_ne_ (by omega), set_ne_ (by omega), set_ne_ (by omega), set_ne_ (by omega), set_ne_ (by omega)]; exact h_3), (by rw [set_ne_ (by omega), set_ne_ (by omega), set_ne_ (by omega), set_ne_ (by omega), set_ne_ (by omega), set_ne_ (by omega), set_ne_ (by omega), set_ne_ (by omega), set_ne_ (by omega), set_ne_ (by omega)]; exact h_4), (by rw [set_ne_ (by omega), set_ne_ (by omega), set_ne_ (by omega), set_ne_ (by omega), set_ne_ (by omega), set_ne_ (by omega), set_ne_ (by omega), set_ne_ (by omega), set_ne_ (by omega), set_ne_ (by omega)]; exact h_5), (by rw [set_ne_ (by omega), set_ne_ (by omega), set_ne_ (by omega), set_ne_ (by omega), set_ne_ (by omega), set_ne_ (by omega), set_ne_ (by omega), set_ne_ (by omega), set_ne_ (by omega), set_ne_ (by omega)]; exact h_6), (by rw [set_ne_ (by omega), set_ne_ (by omega), set_ne_ (by omega), set_ne_ (by omega), set_ne_ (by omega), set_ne_ (by omega), set_ne_ (by omega), set_ne_ (by omega), set_ne_ (by omega), set_ne_ (by omega)]; exact h_7), (by rw [set_ne_ (by omega), set_ne_ (by omega), set_ne_ (by omega), set_ne_ (by omega), set_ne_ (by omega), set_ne_ (by omega), set_ne_ (by omega), set_ne_ (by omega), set_ne_ (by omega), set_ne_ (by omega)]; exact h_8), (by rw [set_ne_ (by omega), set_ne_ (by omega), set_ne_ (by omega), set_ne_ (by omega), set_ne_ (by omega), set_ne_ (by omega), set_ne_ (by omega), set_ne_ (by omega), set_ne_ (by omega), set_ne_ (by omega)]; exact h_9)⟩
        · intro p hp
          rw [set_ne_ (by omega), set_ne_ (by omega), set_ne_ (by omega), set_ne_ (by omega), set_ne_ (by omega), set_ne_ (by omega), set_ne_ (by omega), set_ne_ (by omega), set_ne_ (by omega), set_ne_ (by omega)]
          exact HO.out p (by omega)
    · obtain rfl : k = c := by omega
      clear hB
      go_wp2
      exact bodyPost_end (results_none rfl _ _ _) rfl ⟨rfl, cur', HB.out, HS.out, HI.out, HO.out, HG.out⟩
set_option maxHeartbeats 4000000 in
set_option maxRecDepth 100000 in
theorem stands_step (g n c : Nat) (m0 m1 m2 m3 m4 m5 m6 m7 m8 m9 b0 b1 b2 b3 b4 b5 b6 b7 b8 b9 : Int) (cur : Array Value) (w : World) (hk : Blk w g 91 cur) (hn : n ≤ c) (hc : c * 10 ≤ cur.size) (hb : c ≤ 4611686018427387904)
    (h1 : ∀ i, 0 ≤ i → i < n → cur[i * 10]? = some (.int .u8 m0) ∧ cur[i * 10 + 1]? = some (.int .u8 m1) ∧ cur[i * 10 + 2]? = some (.int .u8 m2) ∧ cur[i * 10 + 3]? = some (.int .u8 m3) ∧ cur[i * 10 + 4]? = some (.int .u8 m4) ∧ cur[i * 10 + 5]? = some (.int .i64 m5) ∧ cur[i * 10 + 6]? = some (.int .i64 m6) ∧ cur[i * 10 + 7]? = some (.int .i64 m7) ∧ cur[i * 10 + 8]? = some (.int .i64 m8) ∧ cur[i * 10 + 9]? = some (.int .u64 m9)) (h2 : ∀ i, n ≤ i → i < c → cur[i * 10]? = some (.int .u8 b0) ∧ cur[i * 10 + 1]? = some (.int .u8 b1) ∧ cur[i * 10 + 2]? = some (.int .u8 b2) ∧ cur[i * 10 + 3]? = some (.int .u8 b3) ∧ cur[i * 10 + 4]? = some (.int .u8 b4) ∧ cur[i * 10 + 5]? = some (.int .i64 b5) ∧ cur[i * 10 + 6]? = some (.int .i64 b6) ∧ cur[i * 10 + 7]? = some (.int .i64 b7) ∧ cur[i * 10 + 8]? = some (.int .i64 b8) ∧ cur[i * 10 + 9]? = some (.int .u64 b9)) :
    Calls Tryz.prog 113 #[row_step (some ⟨g, 0, none⟩) n c m0 m1 m2 m3 m4 m5 m6 m7 m8 m9 b0 b1 b2 b3 b4 b5 b6 b7 b8 b9] w fun e w' => e = .returned (.bool true) ∧ Below w.heap.size w w' := by
  unfold row_step
  have K := Lib.hid (Blk.new w 114 #[.slice (some ⟨g, 0, none⟩) n c, .int .u8 m0, .int .u8 m1, .int .u8 m2, .int .u8 m3, .int .u8 m4, .int .i64 m5, .int .i64 m6, .int .i64 m7, .int .i64 m8, .int .u64 m9, .int .u8 b0, .int .u8 b1, .int .u8 b2, .int .u8 b3, .int .u8 b4, .int .i64 b5, .int .i64 b6, .int .i64 b7, .int .i64 b8, .int .u64 b9])
  have HK := Lib.hid (hk.alloc (.cells #[.slice (some ⟨g, 0, none⟩) n c, .int .u8 m0, .int .u8 m1, .int .u8 m2, .int .u8 m3, .int .u8 m4, .int .i64 m5, .int .i64 m6, .int .i64 m7, .int .i64 m8, .int .u64 m9, .int .u8 b0, .int .u8 b1, .int .u8 b2, .int .u8 b3, .int .u8 b4, .int .i64 b5, .int .i64 b6, .int .i64 b7, .int .i64 b8, .int .u64 b9] 114))
  have H1 := Lib.hid h1
  have H2 := Lib.hid h2
  have hn' : (n : Int) ≤ c := by omega
  have hb' : (c : Int) ≤ 4611686018427387904 := by omega
  have kx := K.out
  have x0 := kx.cell 0
  have x1 := kx.cell 1
  have x2 := kx.cell 2
  have x3 := kx.cell 3
  have x4 := kx.cell 4
  have x5 := kx.cell 5
  have x6 := kx.cell 6
  have x7 := kx.cell 7
  have x8 := kx.cell 8
  have x9 := kx.cell 9
  have x10 := kx.cell 10
  have x11 := kx.cell 11
  have x12 := kx.cell 12
  have x13 := kx.cell 13
  have x14 := kx.cell 14
  have x15 := kx.cell 15
  have x16 := kx.cell 16
  have x17 := kx.cell 17
  have x18 := kx.cell 18
  have x19 := kx.cell 19
  have x20 := kx.cell 20
  simp only [List.getElem?_toArray, List.getElem?_cons_zero, List.getElem?_cons_succ] at x0 x1 x2 x3 x4 x5 x6 x7 x8 x9 x10 x11 x12 x13 x14 x15 x16 x17 x18 x19 x20
  clear hk h1 h2 kx
  have hnm : ∀ W, (binOp .neq 91 (.agg #[.int .u8 m0, .int .u8 m1, .int .u8 m2, .int .u8 m3, .int .u8 m4, .int .i64 m5, .int .i64 m6, .int .i64 m7, .int .i64 m8, .int .u64 m9]) (.agg #[.int .u8 m0, .int .u8 m1, .int .u8 m2, .int .u8 m3, .int .u8 m4, .int .i64 m5, .int .i64 m6, .int .i64 m7, .int .i64 m8, .int .u64 m9])).run Tryz.prog W = .ok (.bool false) W := fun W => by rw [run_neq_step m0 m1 m2 m3 m4 m5 m6 m7 m8 m9 m0 m1 m2 m3 m4 m5 m6 m7 m8 m9 W]; simp
  have hnb : ∀ W, (binOp .neq 91 (.agg #[.int .u8 b0, .int .u8 b1, .int .u8 b2, .int .u8 b3, .int .u8 b4, .int .i64 b5, .int .i64 b6, .int .i64 b7, .int .i64 b8, .int .u64 b9]) (.agg #[.int .u8 b0, .int .u8 b1, .int .u8 b2, .int .u8 b3, .int .u8 b4, .int .i64 b5, .int .i64 b6, .int .i64 b7, .int .i64 b8, .int .u64 b9])).run Tryz.prog W = .ok (.bool false) W := fun W => by rw [run_neq_step b0 b1 b2 b3 b4 b5 b6 b7 b8 b9 b0 b1 b2 b3 b4 b5 b6 b7 b8 b9 W]; simp
  go_enter Tryz.func113, Tryz.ntmps113
  go_wp2_with fail
  go_loopg [4] c (fun q x wr => ∃ k m : Nat, k ≤ c ∧ q = c - k ∧ x = .int .i64 k ∧ wr = (w.alloc (.cells #[.slice (some ⟨g, 0, none⟩) n c, .int .u8 m0, .int .u8 m1, .int .u8 m2, .int .u8 m3, .int .u8 m4, .int .i64 m5, .int .i64 m6, .int .i64 m7, .int .i64 m8, .int .u64 m9, .int .u8 b0, .int .u8 b1, .int .u8 b2, .int .u8 b3, .int .u8 b4, .int .i64 b5, .int .i64 b6, .int .i64 b7, .int .i64 b8, .int .u64 b9] 114)).drewN m)
  case atStart => exact ⟨0, 0, Nat.zero_le _, rfl, rfl, rfl⟩
  case round =>
    obtain ⟨k, m, hk, rfl, rfl, rfl⟩ := hrel
    by_cases hkc : k < c
    · have hkc' : (k : Int) < c := by omega
      have hk0 : (0 : Int) ≤ k := by omega
      by_cases hkn : k < n
      · have hkn' : (k : Int) < n := by omega
        have hkn2 : ¬ (n : Int) ≤ k := by omega
        have hd1 : decide ((k : Int) < n) = true := decide_eq_true hkn'
        have hd2 : decide ((n : Int) ≤ k) = false := decide_eq_false hkn2
        have hd3 : decide (n ≤ k) = false := decide_eq_false (by omega)
        have hd4 : ¬ n ≤ k := by omega
        obtain ⟨h_0, h_1, h_2, h_3, h_4, h_5, h_6, h_7, h_8, h_9⟩ := H1.out k (Nat.zero_le _) hkn
        have y0 : (w.alloc (.cells #[.slice (some ⟨g, 0, none⟩) n c, .int .u8 m0, .int .u8 m1, .int .u8 m2, .int .u8 m3, .int .u8 m4, .int .i64 m5, .int .i64 m6, .int .i64 m7, .int .i64 m8, .int .u64 m9, .int .u8 b0, .int .u8 b1, .int .u8 b2, .int .u8 b3, .int .u8 b4, .int .i64 b5, .int .i64 b6, .int .i64 b7, .int .i64 b8, .int .u64 b9] 114)).cell? ⟨g, k * 10, none⟩ = some (.int .u8 m0) := by rw [HK.out.cell]; exact h_0
        have y1 : (w.alloc (.cells #[.slice (some ⟨g, 0, none⟩) n c, .int .u8 m0, .int .u8 m1, .int .u8 m2, .int .u8 m3, .int .u8 m4, .int .i64 m5, .int .i64 m6, .int .i64 m7, .int .i64 m8, .int .u64 m9, .int .u8 b0, .int .u8 b1, .int .u8 b2, .int .u8 b3, .int .u8 b4, .int .i64 b5, .int .i64 b6, .int .i64 b7, .int .i64 b8, .int .u64 b9] 114)).cell? ⟨g, k * 10 + 1, none⟩ = some (.int .u8 m1) := by rw [HK.out.cell]; exact h_1
        have y2 : (w.alloc (.cells #[.slice (some ⟨g, 0, none⟩) n c, .int .u8 m0, .int .u8 m1, .int .u8 m2, .int .u8 m3, .int .u8 m4, .int .i64 m5, .int .i64 m6, .int .i64 m7, .int .i64 m8, .int .u64 m9, .int .u8 b0, .int .u8 b1, .int .u8 b2, .int .u8 b3, .int .u8 b4, .int .i64 b5, .int .i64 b6, .int .i64 b7, .int .i64 b8, .int .u64 b9] 114)).cell? ⟨g, k * 10 + 2, none⟩ = some (.int .u8 m2) := by rw [HK.out.cell]; exact h_2
        have y3 : (w.alloc (.cells #[.slice (some ⟨g, 0, none⟩) n c, .int .u8 m0, .int .u8 m1, .int .u8 m2, .int .u8 m3, .int .u8 m4, .int .i64 m5, .int .i64 m6, .int .i64 m7, .int .i64 m8, .int .u64 m9, .int .u8 b0, .int .u8 b1, .int .u8 b2, .int .u8 b3, .int .u8 b4, .int .i64 b5, .int .i64 b6, .int .i64 b7, .int .i64 b8, .int .u64 b9] 114)).cell? ⟨g, k * 10 + 3, none⟩ = some (.int .u8 m3) := by rw [HK.out.cell]; exact h_3
        have y4 : (w.alloc (.cells #[.slice (some ⟨g, 0, none⟩) n c, .int .u8 m0, .int .u8 m1, .int .u8 m2, .int .u8 m3, .int .u8 m4, .int .i64 m5, .int .i64 m6, .int .i64 m7, .int .i64 m8, .int .u64 m9, .int .u8 b0, .int .u8 b1, .int .u8 b2, .int .u8 b3, .int .u8 b4, .int .i64 b5, .int .i64 b6, .int .i64 b7, .int .i64 b8, .int .u64 b9] 114)).cell? ⟨g, k * 10 + 4, none⟩ = some (.int .u8 m4) := by rw [HK.out.cell]; exact h_4
        have y5 : (w.alloc (.cells #[.slice (some ⟨g, 0, none⟩) n c, .int .u8 m0, .int .u8 m1, .int .u8 m2, .int .u8 m3, .int .u8 m4, .int .i64 m5, .int .i64 m6, .int .i64 m7, .int .i64 m8, .int .u64 m9, .int .u8 b0, .int .u8 b1, .int .u8 b2, .int .u8 b3, .int .u8 b4, .int .i64 b5, .int .i64 b6, .int .i64 b7, .int .i64 b8, .int .u64 b9] 114)).cell? ⟨g, k * 10 + 5, none⟩ = some (.int .i64 m5) := by rw [HK.out.cell]; exact h_5
        have y6 : (w.alloc (.cells #[.slice (some ⟨g, 0, none⟩) n c, .int .u8 m0, .int .u8 m1, .int .u8 m2, .int .u8 m3, .int .u8 m4, .int .i64 m5, .int .i64 m6, .int .i64 m7, .int .i64 m8, .int .u64 m9, .int .u8 b0, .int .u8 b1, .int .u8 b2, .int .u8 b3, .int .u8 b4, .int .i64 b5, .int .i64 b6, .int .i64 b7, .int .i64 b8, .int .u64 b9] 114)).cell? ⟨g, k * 10 + 6, none⟩ = some (.int .i64 m6) := by rw [HK.out.cell]; exact h_6
        have y7 : (w.alloc (.cells #[.slice (some ⟨g, 0, none⟩) n c, .int .u8 m0, .int .u8 m1, .int .u8 m2, .int .u8 m3, .int .u8 m4, .int .i64 m5, .int .i64 m6, .int .i64 m7, .int .i64 m8, .int .u64 m9, .int .u8 b0, .int .u8 b1, .int .u8 b2, .int .u8 b3, .int .u8 b4, .int .i64 b5, .int .i64 b6, .int .i64 b7, .int .i64 b8, .int .u64 b9] 114)).cell? ⟨g, k * 10 + 7, none⟩ = some (.int .i64 m7) := by rw [HK.out.cell]; exact h_7
        have y8 : (w.alloc (.cells #[.slice (some ⟨g, 0, none⟩) n c, .int .u8 m0, .int .u8 m1, .int .u8 m2, .int .u8 m3, .int .u8 m4, .int .i64 m5, .int .i64 m6, .int .i64 m7, .int .i64 m8, .int .u64 m9, .int .u8 b0, .int .u8 b1, .int .u8 b2, .int .u8 b3, .int .u8 b4, .int .i64 b5, .int .i64 b6, .int .i64 b7, .int .i64 b8, .int .u64 b9] 114)).cell? ⟨g, k * 10 + 8, none⟩ = some (.int .i64 m8) := by rw [HK.out.cell]; exact h_8
        have y9 : (w.alloc (.cells #[.slice (some ⟨g, 0, none⟩) n c, .int .u8 m0, .int .u8 m1, .int .u8 m2, .int .u8 m3, .int .u8 m4, .int .i64 m5, .int .i64 m6, .int .i64 m7, .int .i64 m8, .int .u64 m9, .int .u8 b0, .int .u8 b1, .int .u8 b2, .int .u8 b3, .int .u8 b4, .int .i64 b5, .int .i64 b6, .int .i64 b7, .int .i64 b8, .int .u64 b9] 114)).cell? ⟨g, k * 10 + 9, none⟩ = some (.int .u64 m9) := by rw [HK.out.cell]; exact h_9
        clear h_0 h_1 h_2 h_3 h_4 h_5 h_6 h_7 h_8 h_9
        go_wp2_with fail
        go_quiet (fail)
        go_wp2
        go_roundg (c - (k + 1))
        case measure => omega
        case rel => exact ⟨k + 1, _, by omega, rfl, by go_num, rfl⟩
      · have hkn' : ¬ (k : Int) < n := by omega
        have hkn2 : (n : Int) ≤ k := by omega
        have hd1 : decide ((k : Int) < n) = false := decide_eq_false hkn'
        have hd2 : decide ((n : Int) ≤ k) = true := decide_eq_true hkn2
        have hd3 : decide (n ≤ k) = true := decide_eq_true (by omega)
        have hd4 : n ≤ k := by omega
        obtain ⟨h_0, h_1, h_2, h_3, h_4, h_5, h_6, h_7, h_8, h_9⟩ := H2.out k (by omega) hkc
        have y0 : (w.alloc (.cells #[.slice (some ⟨g, 0, none⟩) n c, .int .u8 m0, .int .u8 m1, .int .u8 m2, .int .u8 m3, .int .u8 m4, .int .i64 m5, .int .i64 m6, .int .i64 m7, .int .i64 m8, .int .u64 m9, .int .u8 b0, .int .u8 b1, .int .u8 b2, .int .u8 b3, .int .u8 b4, .int .i64 b5, .int .i64 b6, .int .i64 b7, .int .i64 b8, .int .u64 b9] 114)).cell? ⟨g, k * 10, none⟩ = some (.int .u8 b0) := by rw [HK.out.cell]; exact h_0
        have y1 : (w.alloc (.cells #[.slice (some ⟨g, 0, none⟩) n c, .int .u8 m0, .int .u8 m1, .int .u8 m2, .int .u8 m3, .int .u8 m4, .int .i64 m5, .int .i64 m6, .int .i64 m7, .int .i64 m8, .int .u64 m9, .int .u8 b0, .int .u8 b1, .int .u8 b2, .int .u8 b3, .int .u8 b4, .int .i64 b5, .int .i64 b6, .int .i64 b7, .int .i64 b8, .int .u64 b9] 114)).cell? ⟨g, k * 10 + 1, none⟩ = some (.int .u8 b1) := by rw [HK.out.cell]; exact h_1
        have y2 : (w.alloc (.cells #[.slice (some ⟨g, 0, none⟩) n c, .int .u8 m0, .int .u8 m1, .int .u8 m2, .int .u8 m3, .int .u8 m4, .int .i64 m5, .int .i64 m6, .int .i64 m7, .int .i64 m8, .int .u64 m9, .int .u8 b0, .int .u8 b1, .int .u8 b2, .int .u8 b3, .int .u8 b4, .int .i64 b5, .int .i64 b6, .int .i64 b7, .int .i64 b8, .int .u64 b9] 114)).cell? ⟨g, k * 10 + 2, none⟩ = some (.int .u8 b2) := by rw [HK.out.cell]; exact h_2
        have y3 : (w.alloc (.cells #[.slice (some ⟨g, 0, none⟩) n c, .int .u8 m0, .int .u8 m1, .int .u8 m2, .int .u8 m3, .int .u8 m4, .int .i64 m5, .int .i64 m6, .int .i64 m7, .int .i64 m8, .int .u64 m9, .int .u8 b0, .int .u8 b1, .int .u8 b2, .int .u8 b3, .int .u8 b4, .int .i64 b5, .int .i64 b6, .int .i64 b7, .int .i64 b8, .int .u64 b9] 114)).cell? ⟨g, k * 10 + 3, none⟩ = some (.int .u8 b3) := by rw [HK.out.cell]; exact h_3
        have y4 : (w.alloc (.cells #[.slice (some ⟨g, 0, none⟩) n c, .int .u8 m0, .int .u8 m1, .int .u8 m2, .int .u8 m3, .int .u8 m4, .int .i64 m5, .int .i64 m6, .int .i64 m7, .int .i64 m8, .int .u64 m9, .int .u8 b0, .int .u8 b1, .int .u8 b2, .int .u8 b3, .int .u8 b4, .int .i64 b5, .int .i64 b6, .int .i64 b7, .int .i64 b8, .int .u64 b9] 114)).cell? ⟨g, k * 10 + 4, none⟩ = some (.int .u8 b4) := by rw [HK.out.cell]; exact h_4
        have y5 : (w.alloc (.cells #[.slice (some ⟨g, 0, none⟩) n c, .int .u8 m0, .int .u8 m1, .int .u8 m2, .int .u8 m3, .int .u8 m4, .int .i64 m5, .int .i64 m6, .int .i64 m7, .int .i64 m8, .int .u64 m9, .int .u8 b0, .int .u8 b1, .int .u8 b2, .int .u8 b3, .int .u8 b4, .int .i64 b5, .int .i64 b6, .int .i64 b7, .int .i64 b8, .int .u64 b9] 114)).cell? ⟨g, k * 10 + 5, none⟩ = some (.int .i64 b5) := by rw [HK.out.cell]; exact h_5
        have y6 : (w.alloc (.cells #[.slice (some ⟨g, 0, none⟩) n c, .int .u8 m0, .int .u8 m1, .int .u8 m2, .int .u8 m3, .int .u8 m4, .int .i64 m5, .int .i64 m6, .int .i64 m7, .int .i64 m8, .int .u64 m9, .int .u8 b0, .int .u8 b1, .int .u8 b2, .int .u8 b3, .int .u8 b4, .int .i64 b5, .int .i64 b6, .int .i64 b7, .int .i64 b8, .int .u64 b9] 114)).cell? ⟨g, k * 10 + 6, none⟩ = some (.int .i64 b6) := by rw [HK.out.cell]; exact h_6
        have y7 : (w.alloc (.cells #[.slice (some ⟨g, 0, none⟩) n c, .int .u8 m0, .int .u8 m1, .int .u8 m2, .int .u8 m3, .int .u8 m4, .int .i64 m5, .int .i64 m6, .int .i64 m7, .int .i64 m8, .int .u64 m9, .int .u8 b0, .int .u8 b1, .int .u8 b2, .int .u8 b3, .int .u8 b4, .int .i64 b5, .int .i64 b6, .int .i64 b7, .int .i64 b8, .int .u64 b9] 114)).cell? ⟨g, k * 10 + 7, none⟩ = some (.int .i64 b7) := by rw [HK.out.cell]; exact h_7
        have y8 : (w.alloc (.cells #[.slice (some ⟨g, 0, none⟩) n c, .int .u8 m0, .int .u8 m1, .int .u8 m2, .int .u8 m3, .int .u8 m4, .int .i64 m5, .int .i64 m6, .int .i64 m7, .int .i64 m8, .int .u64 m9, .int .u8 b0, .int .u8 b1, .int .u8 b2, .int .u8 b3, .int .u8 b4, .int .i64 b5, .int .i64 b6, .int .i64 b7, .int .i64 b8, .int .u64 b9] 114)).cell? ⟨g, k * 10 + 8, none⟩ = some (.int .i64 b8) := by rw [HK.out.cell]; exact h_8
        have y9 : (w.alloc (.cells #[.slice (some ⟨g, 0, none⟩) n c, .int .u8 m0, .int .u8 m1, .int .u8 m2, .int .u8 m3, .int .u8 m4, .int .i64 m5, .int .i64 m6, .int .i64 m7, .int .i64 m8, .int .u64 m9, .int .u8 b0, .int .u8 b1, .int .u8 b2, .int .u8 b3, .int .u8 b4, .int .i64 b5, .int .i64 b6, .int .i64 b7, .int .i64 b8, .int .u64 b9] 114)).cell? ⟨g, k * 10 + 9, none⟩ = some (.int .u64 b9) := by rw [HK.out.cell]; exact h_9
        clear h_0 h_1 h_2 h_3 h_4 h_5 h_6 h_7 h_8 h_9
        go_wp2_with fail
        go_quiet (fail)
        go_wp2
        go_roundg (c - (k + 1))
        case measure => omega
        case rel => exact ⟨k + 1, _, by omega, rfl, by go_num, rfl⟩
    · obtain rfl : c = k := by omega
      go_wp2
      go_ret
      exact ⟨rfl, (below_alloc_ w (.cells #[.slice (some ⟨g, 0, none⟩) n c, .int .u8 m0, .int .u8 m1, .int .u8 m2, .int .u8 m3, .int .u8 m4, .int .i64 m5, .int .i64 m6, .int .i64 m7, .int .i64 m8, .int .u64 m9, .int .u8 b0, .int .u8 b1, .int .u8 b2, .int .u8 b3, .int .u8 b4, .int .i64 b5, .int .i64 b6, .int .i64 b7, .int .i64 b8, .int .u64 b9] 114)).trans ((below_drewN_ (w.alloc (.cells #[.slice (some ⟨g, 0, none⟩) n c, .int .u8 m0, .int .u8 m1, .int .u8 m2, .int .u8 m3, .int .u8 m4, .int .i64 m5, .int .i64 m6, .int .i64 m7, .int .i64 m8, .int .u64 m9, .int .u8 b0, .int .u8 b1, .int .u8 b2, .int .u8 b3, .int .u8 b4, .int .i64 b5, .int .i64 b6, .int .i64 b7, .int .i64 b8, .int .u64 b9] 114)).heap.size _ _).mono (by simp))⟩
end Go.Proofs.YtielnocnnffdfaaGreat

/- law01: a page (countinghouse/api.Got): written over, and behind; whether it stands. -/
namespace Go.Proofs.YtielnocnnffdfaaGreat
open Go.RowKit

abbrev row_got (A : Option Addr) (n c : Nat) (m0 m1 b0 b1 : Int) : Value := .agg #[.slice A n c, .int .i64 m0, .int .i64 m1, .int .i64 b0, .int .i64 b1]
set_option maxHeartbeats 2000000 in
theorem write_got_none (m0 m1 b0 b1 : Int) (w : World) : Calls Tryz.prog 117 #[row_got none 0 0 m0 m1 b0 b1] w fun e w' => e = .returned (.tuple #[]) ∧ Below w.heap.size w w' := by
  unfold row_got
  go_enter Tryz.func117, Tryz.ntmps117
  go_wp2
  refine wp_loop_rounds 1 ?_
  rw [rounds_succ]
  go_wp2
  exact bodyPost_end (results_none rfl _ _ _) rfl ⟨rfl, below_alloc_ _ _⟩
set_option maxHeartbeats 2000000 in
theorem behind_got_none (m0 m1 b0 b1 : Int) (w : World) : Calls Tryz.prog 118 #[row_got none 0 0 m0 m1 b0 b1] w fun e w' => e = .returned (.tuple #[]) ∧ Below w.heap.size w w' := by
  unfold row_got
  go_enter Tryz.func118, Tryz.ntmps118
  go_wp2
  refine wp_loop_rounds 1 ?_
  rw [rounds_succ]
  go_wp2
  exact bodyPost_end (results_none rfl _ _ _) rfl ⟨rfl, below_alloc_ _ _⟩
set_option maxHeartbeats 2000000 in
theorem stands_got_none (m0 m1 b0 b1 : Int) (w : World) : Calls Tryz.prog 116 #[row_got none 0 0 m0 m1 b0 b1] w fun e w' => e = .returned (.bool true) ∧ Below w.heap.size w w' := by
  unfold row_got
  go_enter Tryz.func116, Tryz.ntmps116
  go_wp2
  refine wp_loop_rounds 1 ?_
  rw [rounds_succ]
  go_wp2
  go_ret
  exact ⟨rfl, below_alloc_ _ _⟩
set_option maxHeartbeats 4000000 in
set_option maxRecDepth 100000 in
theorem write_got (g n c : Nat) (m0 m1 b0 b1 : Int) (cur : Array Value) (w : World) (hk : Blk w g 103 cur) (hn : n ≤ c) (hc : c * 2 ≤ cur.size) (hb : c ≤ 4611686018427387904) :
    Calls Tryz.prog 117 #[row_got (some ⟨g, 0, none⟩) n c m0 m1 b0 b1] w fun e w' => e = .returned (.tuple #[]) ∧ ∃ cur', Blk w' g 103 cur' ∧ cur'.size = cur.size ∧ (∀ i, 0 ≤ i → i < n → cur'[i * 2]? = some (.int .i64 m0) ∧ cur'[i * 2 + 1]? = some (.int .i64 m1)) ∧ (∀ p, p < 0 ∨ n * 2 ≤ p → cur'[p]? = cur[p]?) ∧ w.grownBy w' (some g) := by
  unfold row_got
  have K := Lib.hid (Blk.new w 116 #[.slice (some ⟨g, 0, none⟩) n c, .int .i64 m0, .int .i64 m1, .int .i64 b0, .int .i64 b1])
  have HK := Lib.hid (hk.alloc (.cells #[.slice (some ⟨g, 0, none⟩) n c, .int .i64 m0, .int .i64 m1, .int .i64 b0, .int .i64 b1] 116))
  have hgl := hk.lt
  have hn' : (n : Int) ≤ c := by omega
  have hb' : (c : Int) ≤ 4611686018427387904 := by omega
  have G0 := Lib.hid (show w.grownBy _ (some g) from grown_below_ (below_alloc_ w (.cells #[.slice (some ⟨g, 0, none⟩) n c, .int .i64 m0, .int .i64 m1, .int .i64 b0, .int .i64 b1] 116)) (some g))
  clear hk
  go_enter Tryz.func117, Tryz.ntmps117
  go_wp2_with fail
  go_loopg [2] (n - 0) (fun q x wr => ∃ (k : Nat) (cur' : Array Value), 0 ≤ k ∧ k ≤ n ∧ q = n - k ∧ x = .int .i64 k ∧ Blk wr g 103 cur' ∧ cur'.size = cur.size ∧ (∀ i, 0 ≤ i → i < k → cur'[i * 2]? = some (.int .i64 m0) ∧ cur'[i * 2 + 1]? = some (.int .i64 m1)) ∧ (∀ p, p < 0 ∨ k * 2 ≤ p → cur'[p]? = cur[p]?) ∧ w.grownBy wr (some g) ∧ Blk wr w.heap.size 116 #[.slice (some ⟨g, 0, none⟩) n c, .int .i64 m0, .int .i64 m1, .int .i64 b0, .int .i64 b1])
  case atStart => exact ⟨0, cur, Nat.le_refl _, by omega, rfl, rfl, HK.out, rfl, fun i _ _ => by omega, fun _ _ => rfl, G0.out, K.out⟩
  case round =>
    obtain ⟨k, cur', hlk, hk, rfl, rfl, hB, hsz, hin, hot, hg, hbx⟩ := hrel
    have HB := Lib.hid hB
    have HI := Lib.hid hin
    have HO := Lib.hid hot
    have HG := Lib.hid hg
    have HX := Lib.hid hbx
    have HS := Lib.hid hsz
    have f := hB.free
    have x0 := hbx.cell 0
    have x1 := hbx.cell 1
    have x2 := hbx.cell 2
    have x3 := hbx.cell 3
    have x4 := hbx.cell 4
    simp only [List.getElem?_toArray, List.getElem?_cons_zero, List.getElem?_cons_succ] at x0 x1 x2 x3 x4
    clear hin hot hg hbx
    by_cases hkn : k < n
    · have hkn' : (k : Int) < n := by omega
      have hk0 : (0 : Int) ≤ k := by omega
      have hz0 : k * 2 < cur'.size := by omega
      have y0 : wr.cell? ⟨g, k * 2, none⟩ = some (cur'[k * 2]'hz0) := by rw [hB.cell]; simp [hz0]
      have hz1 : k * 2 + 1 < cur'.size := by omega
      have y1 : wr.cell? ⟨g, k * 2 + 1, none⟩ = some (cur'[k * 2 + 1]'hz1) := by rw [hB.cell]; simp [hz1]
      clear hB
      go_wp2
      go_roundg (n - (k + 1))
      case measure => omega
      case rel =>
        refine ⟨k + 1, ((cur'.setIfInBounds (k * 2) (.int .i64 m0)).setIfInBounds (k * 2 + 1) (.int .i64 m1)), by omega, by omega, rfl, by go_num, ((HB.out.set_ (k * 2) (.int .i64 m0)).set_ (k * 2 + 1) (.int .i64 m1)), by simp [HS.out], ?_, ?_, (grown_trans_ (grown_trans_ HG.out (grown_set_ wr g (k * 2) (.int .i64 m0))) (grown_set_ (wr.setCell ⟨g, k * 2, none⟩ (.int .i64 m0)) g (k * 2 + 1) (.int .i64 m1))), ((HX.out.far (p := ⟨g, k * 2, none⟩) (by simp; omega) _).far (p := ⟨g, k * 2 + 1, none⟩) (by simp; omega) _)⟩
        · intro i h1 h2
          by_cases hik : i = k
          · subst hik
            exact ⟨(by rw [set_ne_ (by omega), set_eq_ (by (try simp); omega)]), (by rw [set_eq_ (by (try simp); omega)])⟩
          · obtain ⟨h_0, h_1⟩ := HI.out i h1 (by omega)
            exact ⟨(by rw [set_ne_ (by omega), set_ne_ (by omega)]; exact h_0), (by rw [set_ne_ (by omega), set_ne_ (by omega)]; exact h_1)⟩
        · intro p hp
          rw [set_ne_ (by omega), set_ne_ (by omega)]
          exact HO.out p (by omega)
    · obtain rfl : k = n := by omega
      clear hB
      go_wp2
      exact bodyPost_end (results_none rfl _ _ _) rfl ⟨rfl, cur', HB.out, HS.out, HI.out, HO.out, HG.out⟩
set_option maxHeartbeats 4000000 in
set_option maxRecDepth 100000 in
theorem behind_got (g n c : Nat) (m0 m1 b0 b1 : Int) (cur : Array Value) (w : World) (hk : Blk w g 103 cur) (hn : n ≤ c) (hc : c * 2 ≤ cur.size) (hb : c ≤ 4611686018427387904) :
    Calls Tryz.prog 118 #[row_got (some ⟨g, 0, none⟩) n c m0 m1 b0 b1] w fun e w' => e = .returned (.tuple #[]) ∧ ∃ cur', Blk w' g 103 cur' ∧ cur'.size = cur.size ∧ (∀ i, n ≤ i → i < c → cur'[i * 2]? = some (.int .i64 b0) ∧ cur'[i * 2 + 1]? = some (.int .i64 b1)) ∧ (∀ p, p < n * 2 ∨ c * 2 ≤ p → cur'[p]? = cur[p]?) ∧ w.grownBy w' (some g) := by
  unfold row_got
  have K := Lib.hid (Blk.new w 116 #[.slice (some ⟨g, 0, none⟩) n c, .int .i64 m0, .int .i64 m1, .int .i64 b0, .int .i64 b1])
  have HK := Lib.hid (hk.alloc (.cells #[.slice (some ⟨g, 0, none⟩) n c, .int .i64 m0, .int .i64 m1, .int .i64 b0, .int .i64 b1] 116))
  have hgl := hk.lt
  have hn' : (n : Int) ≤ c := by omega
  have hb' : (c : Int) ≤ 4611686018427387904 := by omega
  have G0 := Lib.hid (show w.grownBy _ (some g) from grown_below_ (below_alloc_ w (.cells #[.slice (some ⟨g, 0, none⟩) n c, .int .i64 m0, .int .i64 m1, .int .i64 b0, .int .i64 b1] 116)) (some g))
  clear hk
  go_enter Tryz.func118, Tryz.ntmps118
  go_wp2_with fail
  go_loopg [3] (c - n) (fun q x wr => ∃ (k : Nat) (cur' : Array Value), n ≤ k ∧ k ≤ c ∧ q = c - k ∧ x = .int .i64 k ∧ Blk wr g 103 cur' ∧ cur'.size = cur.size ∧ (∀ i, n ≤ i → i < k → cur'[i * 2]? = some (.int .i64 b0) ∧ cur'[i * 2 + 1]? = some (.int .i64 b1)) ∧ (∀ p, p < n * 2 ∨ k * 2 ≤ p → cur'[p]? = cur[p]?) ∧ w.grownBy wr (some g) ∧ Blk wr w.heap.size 116 #[.slice (some ⟨g, 0, none⟩) n c, .int .i64 m0, .int .i64 m1, .int .i64 b0, .int .i64 b1])
  case atStart => exact ⟨n, cur, Nat.le_refl _, by omega, rfl, rfl, HK.out, rfl, fun i _ _ => by omega, fun _ _ => rfl, G0.out, K.out⟩
  case round =>
    obtain ⟨k, cur', hlk, hk, rfl, rfl, hB, hsz, hin, hot, hg, hbx⟩ := hrel
    have HB := Lib.hid hB
    have HI := Lib.hid hin
    have HO := Lib.hid hot
    have HG := Lib.hid hg
    have HX := Lib.hid hbx
    have HS := Lib.hid hsz
    have f := hB.free
    have x0 := hbx.cell 0
    have x1 := hbx.cell 1
    have x2 := hbx.cell 2
    have x3 := hbx.cell 3
    have x4 := hbx.cell 4
    simp only [List.getElem?_toArray, List.getElem?_cons_zero, List.getElem?_cons_succ] at x0 x1 x2 x3 x4
    clear hin hot hg hbx
    by_cases hkn : k < c
    · have hkn' : (k : Int) < c := by omega
      have hk0 : (0 : Int) ≤ k := by omega
      have hz0 : k * 2 < cur'.size := by omega
      have y0 : wr.cell? ⟨g, k * 2, none⟩ = some (cur'[k * 2]'hz0) := by rw [hB.cell]; simp [hz0]
      have hz1 : k * 2 + 1 < cur'.size := by omega
      have y1 : wr.cell? ⟨g, k * 2 + 1, none⟩ = some (cur'[k * 2 + 1]'hz1) := by rw [hB.cell]; simp [hz1]
      clear hB
      go_wp2
      go_roundg (c - (k + 1))
      case measure => omega
      case rel =>
        refine ⟨k + 1, ((cur'.setIfInBounds (k * 2) (.int .i64 b0)).setIfInBounds (k * 2 + 1) (.int .i64 b1)), by omega, by omega, rfl, by go_num, ((HB.out.set_ (k * 2) (.int .i64 b0)).set_ (k * 2 + 1) (.int .i64 b1)), by simp [HS.out], ?_, ?_, (grown_trans_ (grown_trans_ HG.out (grown_set_ wr g (k * 2) (.int .i64 b0))) (grown_set_ (wr.setCell ⟨g, k * 2, none⟩ (.int .i64 b0)) g (k * 2 + 1) (.int .i64 b1))), ((HX.out.far (p := ⟨g, k * 2, none⟩) (by simp; omega) _).far (p := ⟨g, k * 2 + 1, none⟩) (by simp; omega) _)⟩
        · intro i h1 h2
          by_cases hik : i = k
          · subst hik
            exact ⟨(by rw [set_ne_ (by omega), set_eq_ (by (try simp); omega)]), (by rw [set_eq_ (by (try simp); omega)])⟩
          · obtain ⟨h_0, h_1⟩ := HI.out i h1 (by omega)
            exact ⟨(by rw [set_ne_ (by omega), set_ne_ (by omega)]; exact h_0), (by rw [set_ne_ (by omega), set_ne_ (by omega)]; exact h_1)⟩
        · intro p hp
          rw [set_ne_ (by omega), set_ne_ (by omega)]
          exact HO.out p (by omega)
    · obtain rfl : k = c := by omega
      clear hB
      go_wp2
      exact bodyPost_end (results_none rfl _ _ _) rfl ⟨rfl, cur', HB.out, HS.out, HI.out, HO.out, HG.out⟩
set_option maxHeartbeats 4000000 in
set_option maxRecDepth 100000 in
theorem stands_got (g n c : Nat) (m0 m1 b0 b1 : Int) (cur : Array Value) (w : World) (hk : Blk w g 103 cur) (hn : n ≤ c) (hc : c * 2 ≤ cur.size) (hb : c ≤ 4611686018427387904)
    (h1 : ∀ i, 0 ≤ i → i < n → cur[i * 2]? = some (.int .i64 m0) ∧ cur[i * 2 + 1]? = some (.int .i64 m1)) (h2 : ∀ i, n ≤ i → i < c → cur[i * 2]? = some (.int .i64 b0) ∧ cur[i * 2 + 1]? = some (.int .i64 b1)) :
    Calls Tryz.prog 116 #[row_got (some ⟨g, 0, none⟩) n c m0 m1 b0 b1] w fun e w' => e = .returned (.bool true) ∧ Below w.heap.size w w' := by
  unfold row_got
  have K := Lib.hid (Blk.new w 116 #[.slice (some ⟨g, 0, none⟩) n c, .int .i64 m0, .int .i64 m1, .int .i64 b0, .int .i64 b1])
  have HK := Lib.hid (hk.alloc (.cells #[.slice (some ⟨g, 0, none⟩) n c, .int .i64 m0, .int .i64 m1, .int .i64 b0, .int .i64 b1] 116))
  have H1 := Lib.hid h1
  have H2 := Lib.hid h2
  have hn' : (n : Int) ≤ c := by omega
  have hb' : (c : Int) ≤ 4611686018427387904 := by omega
  have kx := K.out
  have x0 := kx.cell 0
  have x1 := kx.cell 1
  have x2 := kx.cell 2
  have x3 := kx.cell 3
  have x4 := kx.cell 4
  simp only [List.getElem?_toArray, List.getElem?_cons_zero, List.getElem?_cons_succ] at x0 x1 x2 x3 x4
  clear hk h1 h2 kx
  have hnm : ∀ W, (binOp .neq 103 (.agg #[.int .i64 m0, .int .i64 m1]) (.agg #[.int .i64 m0, .int .i64 m1])).run Tryz.prog W = .ok (.bool false) W := fun W => by rw [run_neq_got m0 m1 m0 m1 W]; simp
  have hnb : ∀ W, (binOp .neq 103 (.agg #[.int .i64 b0, .int .i64 b1]) (.agg #[.int .i64 b0, .int .i64 b1])).run Tryz.prog W = .ok (.bool false) W := fun W => by rw [run_neq_got b0 b1 b0 b1 W]; simp
  go_enter Tryz.func116, Tryz.ntmps116
  go_wp2_with fail
  go_loopg [4] c (fun q x wr => ∃ k m : Nat, k ≤ c ∧ q = c - k ∧ x = .int .i64 k ∧ wr = (w.alloc (.cells #[.slice (some ⟨g, 0, none⟩) n c, .int .i64 m0, .int .i64 m1, .int .i64 b0, .int .i64 b1] 116)).drewN m)
  case atStart => exact ⟨0, 0, Nat.zero_le _, rfl, rfl, rfl⟩
  case round =>
    obtain ⟨k, m, hk, rfl, rfl, rfl⟩ := hrel
    by_cases hkc : k < c
    · have hkc' : (k : Int) < c := by omega
      have hk0 : (0 : Int) ≤ k := by omega
      by_cases hkn : k < n
      · have hkn' : (k : Int) < n := by omega
        have hkn2 : ¬ (n : Int) ≤ k := by omega
        have hd1 : decide ((k : Int) < n) = true := decide_eq_true hkn'
        have hd2 : decide ((n : Int) ≤ k) = false := decide_eq_false hkn2
        have hd3 : decide (n ≤ k) = false := decide_eq_false (by omega)
        have hd4 : ¬ n ≤ k := by omega
        obtain ⟨h_0, h_1⟩ := H1.out k (Nat.zero_le _) hkn
        have y0 : (w.alloc (.cells #[.slice (some ⟨g, 0, none⟩) n c, .int .i64 m0, .int .i64 m1, .int .i64 b0, .int .i64 b1] 116)).cell? ⟨g, k * 2, none⟩ = some (.int .i64 m0) := by rw [HK.out.cell]; exact h_0
        have y1 : (w.alloc (.cells #[.slice (some ⟨g, 0, none⟩) n c, .int .i64 m0, .int .i64 m1, .int .i64 b0, .int .i64 b1] 116)).cell? ⟨g, k * 2 + 1, none⟩ = some (.int .i64 m1) := by rw [HK.out.cell]; exact h_1
        clear h_0 h_1
        go_wp2_with fail
        go_quiet (fail)
        go_wp2
        go_roundg (c - (k + 1))
        case measure => omega
        case rel => exact ⟨k + 1, _, by omega, rfl, by go_num, rfl⟩
      · have hkn' : ¬ (k : Int) < n := by omega
        have hkn2 : (n : Int) ≤ k := by omega
        have hd1 : decide ((k : Int) < n) = false := decide_eq_false hkn'
        have hd2 : decide ((n : Int) ≤ k) = true := decide_eq_true hkn2
        have hd3 : decide (n ≤ k) = true := decide_eq_true (by omega)
        have hd4 : n ≤ k := by omega
        obtain ⟨h_0, h_1⟩ := H2.out k (by omega) hkc
        have y0 : (w.alloc (.cells #[.slice (some ⟨g, 0, none⟩) n c, .int .i64 m0, .int .i64 m1, .int .i64 b0, .int .i64 b1] 116)).cell? ⟨g, k * 2, none⟩ = some (.int .i64 b0) := by rw [HK.out.cell]; exact h_0
        have y1 : (w.alloc (.cells #[.slice (some ⟨g, 0, none⟩) n c, .int .i64 m0, .int .i64 m1, .int .i64 b0, .int .i64 b1] 116)).cell? ⟨g, k * 2 + 1, none⟩ = some (.int .i64 b1) := by rw [HK.out.cell]; exact h_1
        clear h_0 h_1
        go_wp2_with fail
        go_quiet (fail)
        go_wp2
        go_roundg (c - (k + 1))
        case measure => omega
        case rel => exact ⟨k + 1, _, by omega, rfl, by go_num, rfl⟩
    · obtain rfl : c = k := by omega
      go_wp2
      go_ret
      exact ⟨rfl, (below_alloc_ w (.cells #[.slice (some ⟨g, 0, none⟩) n c, .int .i64 m0, .int .i64 m1, .int .i64 b0, .int .i64 b1] 116)).trans ((below_drewN_ (w.alloc (.cells #[.slice (some ⟨g, 0, none⟩) n c, .int .i64 m0, .int .i64 m1, .int .i64 b0, .int .i64 b1] 116)).heap.size _ _).mono (by simp))⟩
end Go.Proofs.YtielnocnnffdfaaGreat

/- law01: a page (countinghouse/api.Party): written over, and behind; whether it stands. -/
namespace Go.Proofs.YtielnocnnffdfaaGreat
open Go.RowKit

abbrev row_party (A : Option Addr) (n c : Nat) (m0 b0 : Int) : Value := .agg #[.slice A n c, .int .u8 m0, .int .u8 b0]
set_option maxHeartbeats 2000000 in
theorem write_party_none (m0 b0 : Int) (w : World) : Calls Tryz.prog 120 #[row_party none 0 0 m0 b0] w fun e w' => e = .returned (.tuple #[]) ∧ Below w.heap.size w w' := by
  unfold row_party
  go_enter Tryz.func120, Tryz.ntmps120
  go_wp2
  refine wp_loop_rounds 1 ?_
  rw [rounds_succ]
  go_wp2
  exact bodyPost_end (results_none rfl _ _ _) rfl ⟨rfl, below_alloc_ _ _⟩
set_option maxHeartbeats 2000000 in
theorem behind_party_none (m0 b0 : Int) (w : World) : Calls Tryz.prog 121 #[row_party none 0 0 m0 b0] w fun e w' => e = .returned (.tuple #[]) ∧ Below w.heap.size w w' := by
  unfold row_party
  go_enter Tryz.func121, Tryz.ntmps121
  go_wp2
  refine wp_loop_rounds 1 ?_
  rw [rounds_succ]
  go_wp2
  exact bodyPost_end (results_none rfl _ _ _) rfl ⟨rfl, below_alloc_ _ _⟩
set_option maxHeartbeats 2000000 in
theorem stands_party_none (m0 b0 : Int) (w : World) : Calls Tryz.prog 119 #[row_party none 0 0 m0 b0] w fun e w' => e = .returned (.bool true) ∧ Below w.heap.size w w' := by
  unfold row_party
  go_enter Tryz.func119, Tryz.ntmps119
  go_wp2
  refine wp_loop_rounds 1 ?_
  rw [rounds_succ]
  go_wp2
  go_ret
  exact ⟨rfl, below_alloc_ _ _⟩
set_option maxHeartbeats 4000000 in
set_option maxRecDepth 100000 in
theorem write_party (g n c : Nat) (m0 b0 : Int) (cur : Array Value) (w : World) (hk : Blk w g 86 cur) (hn : n ≤ c) (hc : c * 1 ≤ cur.size) (hb : c ≤ 4611686018427387904) :
    Calls Tryz.prog 120 #[row_party (some ⟨g, 0, none⟩) n c m0 b0] w fun e w' => e = .returned (.tuple #[]) ∧ ∃ cur', Blk w' g 86 cur' ∧ cur'.size = cur.size ∧ (∀ i, 0 ≤ i → i < n → cur'[i]? = some (.int .u8 m0)) ∧ (∀ p, p < 0 ∨ n ≤ p → cur'[p]? = cur[p]?) ∧ w.grownBy w' (some g) := by
  unfold row_party
  have K := Lib.hid (Blk.new w 118 #[.slice (some ⟨g, 0, none⟩) n c, .int .u8 m0, .int .u8 b0])
  have HK := Lib.hid (hk.alloc (.cells #[.slice (some ⟨g, 0, none⟩) n c, .int .u8 m0, .int .u8 b0] 118))
  have hgl := hk.lt
  have hn' : (n : Int) ≤ c := by omega
  have hb' : (c : Int) ≤ 4611686018427387904 := by omega
  have G0 := Lib.hid (show w.grownBy _ (some g) from grown_below_ (below_alloc_ w (.cells #[.slice (some ⟨g, 0, none⟩) n c, .int .u8 m0, .int .u8 b0] 118)) (some g))
  clear hk
  go_enter Tryz.func120, Tryz.ntmps120
  go_wp2_with fail
  go_loopg [2] (n - 0) (fun q x wr => ∃ (k : Nat) (cur' : Array Value), 0 ≤ k ∧ k ≤ n ∧ q = n - k ∧ x = .int .i64 k ∧ Blk wr g 86 cur' ∧ cur'.size = cur.size ∧ (∀ i, 0 ≤ i → i < k → cur'[i]? = some (.int .u8 m0)) ∧ (∀ p, p < 0 ∨ k ≤ p → cur'[p]? = cur[p]?) ∧ w.grownBy wr (some g) ∧ Blk wr w.heap.size 118 #[.slice (some ⟨g, 0, none⟩) n c, .int .u8 m0, .int .u8 b0])
  case atStart => exact ⟨0, cur, Nat.le_refl _, by omega, rfl, rfl, HK.out, rfl, fun i _ _ => by omega, fun _ _ => rfl, G0.out, K.out⟩
  case round =>
    obtain ⟨k, cur', hlk, hk, rfl, rfl, hB, hsz, hin, hot, hg, hbx⟩ := hrel
    have HB := Lib.hid hB
    have HI := Lib.hid hin
    have HO := Lib.hid hot
    have HG := Lib.hid hg
    have HX := Lib.hid hbx
    have HS := Lib.hid hsz
    have f := hB.free
    have x0 := hbx.cell 0
    have x1 := hbx.cell 1
    have x2 := hbx.cell 2
    simp only [List.getElem?_toArray, List.getElem?_cons_zero, List.getElem?_cons_succ] at x0 x1 x2
    clear hin hot hg hbx
    by_cases hkn : k < n
    · have hkn' : (k : Int) < n := by omega
      have hk0 : (0 : Int) ≤ k := by omega
      have hz0 : k < cur'.size := by omega
      have y0 : wr.cell? ⟨g, k, none⟩ = some (cur'[k]'hz0) := by rw [hB.cell]; simp [hz0]
      clear hB
      go_wp2
      go_roundg (n - (k + 1))
      case measure => omega
      case rel =>
        refine ⟨k + 1, (cur'.setIfInBounds (k) (.int .u8 m0)), by omega, by omega, rfl, by go_num, (HB.out.set_ (k) (.int .u8 m0)), by simp [HS.out], ?_, ?_, (grown_trans_ HG.out (grown_set_ wr g (k) (.int .u8 m0))), (HX.out.far (p := ⟨g, k, none⟩) (by simp; omega) _)⟩
        · intro i h1 h2
          by_cases hik : i = k
          · subst hik
            exact (by rw [set_eq_ (by (try simp); omega)])
          · have h_0 := HI.out i h1 (by omega)
            exact (by rw [set_ne_ (by omega)]; exact h_0)
        · intro p hp
          rw [set_ne_ (by omega)]
          exact HO.out p (by omega)
    · obtain rfl : k = n := by omega
      clear hB
      go_wp2
      exact bodyPost_end (results_none rfl _ _ _) rfl ⟨rfl, cur', HB.out, HS.out, HI.out, HO.out, HG.out⟩
set_option maxHeartbeats 4000000 in
set_option maxRecDepth 100000 in
theorem behind_party (g n c : Nat) (m0 b0 : Int) (cur : Array Value) (w : World) (hk : Blk w g 86 cur) (hn : n ≤ c) (hc : c * 1 ≤ cur.size) (hb : c ≤ 4611686018427387904) :
    Calls Tryz.prog 121 #[row_party (some ⟨g, 0, none⟩) n c m0 b0] w fun e w' => e = .returned (.tuple #[]) ∧ ∃ cur', Blk w' g 86 cur' ∧ cur'.size = cur.size ∧ (∀ i, n ≤ i → i < c → cur'[i]? = some (.int .u8 b0)) ∧ (∀ p, p < n ∨ c ≤ p → cur'[p]? = cur[p]?) ∧ w.grownBy w' (some g) := by
  unfold row_party
  have K := Lib.hid (Blk.new w 118 #[.slice (some ⟨g, 0, none⟩) n c, .int .u8 m0, .int .u8 b0])
  have HK := Lib.hid (hk.alloc (.cells #[.slice (some ⟨g, 0, none⟩) n c, .int .u8 m0, .int .u8 b0] 118))
  have hgl := hk.lt
  have hn' : (n : Int) ≤ c := by omega
  have hb' : (c : Int) ≤ 4611686018427387904 := by omega
  have G0 := Lib.hid (show w.grownBy _ (some g) from grown_below_ (below_alloc_ w (.cells #[.slice (some ⟨g, 0, none⟩) n c, .int .u8 m0, .int .u8 b0] 118)) (some g))
  clear hk
  go_enter Tryz.func121, Tryz.ntmps121
  go_wp2_with fail
  go_loopg [3] (c - n) (fun q x wr => ∃ (k : Nat) (cur' : Array Value), n ≤ k ∧ k ≤ c ∧ q = c - k ∧ x = .int .i64 k ∧ Blk wr g 86 cur' ∧ cur'.size = cur.size ∧ (∀ i, n ≤ i → i < k → cur'[i]? = some (.int .u8 b0)) ∧ (∀ p, p < n ∨ k ≤ p → cur'[p]? = cur[p]?) ∧ w.grownBy wr (some g) ∧ Blk wr w.heap.size 118 #[.slice (some ⟨g, 0, none⟩) n c, .int .u8 m0, .int .u8 b0])
  case atStart => exact ⟨n, cur, Nat.le_refl _, by omega, rfl, rfl, HK.out, rfl, fun i _ _ => by omega, fun _ _ => rfl, G0.out, K.out⟩
  case round =>
    obtain ⟨k, cur', hlk, hk, rfl, rfl, hB, hsz, hin, hot, hg, hbx⟩ := hrel
    have HB := Lib.hid hB
    have HI := Lib.hid hin
    have HO := Lib.hid hot
    have HG := Lib.hid hg
    have HX := Lib.hid hbx
    have HS := Lib.hid hsz
    have f := hB.free
    have x0 := hbx.cell 0
    have x1 := hbx.cell 1
    have x2 := hbx.cell 2
    simp only [List.getElem?_toArray, List.getElem?_cons_zero, List.getElem?_cons_succ] at x0 x1 x2
    clear hin hot hg hbx
    by_cases hkn : k < c
    · have hkn' : (k : Int) < c := by omega
      have hk0 : (0 : Int) ≤ k := by omega
      have hz0 : k < cur'.size := by omega
      have y0 : wr.cell? ⟨g, k, none⟩ = some (cur'[k]'hz0) := by rw [hB.cell]; simp [hz0]
      clear hB
      go_wp2
      go_roundg (c - (k + 1))
      case measure => omega
      case rel =>
        refine ⟨k + 1, (cur'.setIfInBounds (k) (.int .u8 b0)), by omega, by omega, rfl, by go_num, (HB.out.set_ (k) (.int .u8 b0)), by simp [HS.out], ?_, ?_, (grown_trans_ HG.out (grown_set_ wr g (k) (.int .u8 b0))), (HX.out.far (p := ⟨g, k, none⟩) (by simp; omega) _)⟩
        · intro i h1 h2
          by_cases hik : i = k
          · subst hik
            exact (by rw [set_eq_ (by (try simp); omega)])
          · have h_0 := HI.out i h1 (by omega)
            exact (by rw [set_ne_ (by omega)]; exact h_0)
        · intro p hp
          rw [set_ne_ (by omega)]
          exact HO.out p (by omega)
    · obtain rfl : k = c := by omega
      clear hB
      go_wp2
      exact bodyPost_end (results_none rfl _ _ _) rfl ⟨rfl, cur', HB.out, HS.out, HI.out, HO.out, HG.out⟩
set_option maxHeartbeats 4000000 in
set_option maxRecDepth 100000 in
theorem stands_party (g n c : Nat) (m0 b0 : Int) (cur : Array Value) (w : World) (hk : Blk w g 86 cur) (hn : n ≤ c) (hc : c * 1 ≤ cur.size) (hb : c ≤ 4611686018427387904)
    (h1 : ∀ i, 0 ≤ i → i < n → cur[i]? = some (.int .u8 m0)) (h2 : ∀ i, n ≤ i → i < c → cur[i]? = some (.int .u8 b0)) :
    Calls Tryz.prog 119 #[row_party (some ⟨g, 0, none⟩) n c m0 b0] w fun e w' => e = .returned (.bool true) ∧ Below w.heap.size w w' := by
  unfold row_party
  have K := Lib.hid (Blk.new w 118 #[.slice (some ⟨g, 0, none⟩) n c, .int .u8 m0, .int .u8 b0])
  have HK := Lib.hid (hk.alloc (.cells #[.slice (some ⟨g, 0, none⟩) n c, .int .u8 m0, .int .u8 b0] 118))
  have H1 := Lib.hid h1
  have H2 := Lib.hid h2
  have hn' : (n : Int) ≤ c := by omega
  have hb' : (c : Int) ≤ 4611686018427387904 := by omega
  have kx := K.out
  have x0 := kx.cell 0
  have x1 := kx.cell 1
  have x2 := kx.cell 2
  simp only [List.getElem?_toArray, List.getElem?_cons_zero, List.getElem?_cons_succ] at x0 x1 x2
  clear hk h1 h2 kx
  have hnm : (m0 != m0) = false := by simp
  have hnb : (b0 != b0) = false := by simp
  go_enter Tryz.func119, Tryz.ntmps119
  go_wp2_with fail
  go_loopg [4] c (fun q x wr => ∃ k m : Nat, k ≤ c ∧ q = c - k ∧ x = .int .i64 k ∧ wr = (w.alloc (.cells #[.slice (some ⟨g, 0, none⟩) n c, .int .u8 m0, .int .u8 b0] 118)).drewN m)
  case atStart => exact ⟨0, 0, Nat.zero_le _, rfl, rfl, rfl⟩
  case round =>
    obtain ⟨k, m, hk, rfl, rfl, rfl⟩ := hrel
    by_cases hkc : k < c
    · have hkc' : (k : Int) < c := by omega
      have hk0 : (0 : Int) ≤ k := by omega
      by_cases hkn : k < n
      · have hkn' : (k : Int) < n := by omega
        have hkn2 : ¬ (n : Int) ≤ k := by omega
        have hd1 : decide ((k : Int) < n) = true := decide_eq_true hkn'
        have hd2 : decide ((n : Int) ≤ k) = false := decide_eq_false hkn2
        have hd3 : decide (n ≤ k) = false := decide_eq_false (by omega)
        have hd4 : ¬ n ≤ k := by omega
        have h_0 := H1.out k (Nat.zero_le _) hkn
        have y0 : (w.alloc (.cells #[.slice (some ⟨g, 0, none⟩) n c, .int .u8 m0, .int .u8 b0] 118)).cell? ⟨g, k, none⟩ = some (.int .u8 m0) := by rw [HK.out.cell]; exact h_0
        clear h_0
        go_wp2_with fail
        go_quiet (fail)
        go_wp2
        go_roundg (c - (k + 1))
        case measure => omega
        case rel => exact ⟨k + 1, _, by omega, rfl, by go_num, rfl⟩
      · have hkn' : ¬ (k : Int) < n := by omega
        have hkn2 : (n : Int) ≤ k := by omega
        have hd1 : decide ((k : Int) < n) = false := decide_eq_false hkn'
        have hd2 : decide ((n : Int) ≤ k) = true := decide_eq_true hkn2
        have hd3 : decide (n ≤ k) = true := decide_eq_true (by omega)
        have hd4 : n ≤ k := by omega
        have h_0 := H2.out k (by omega) hkc
        have y0 : (w.alloc (.cells #[.slice (some ⟨g, 0, none⟩) n c, .int .u8 m0, .int .u8 b0] 118)).cell? ⟨g, k, none⟩ = some (.int .u8 b0) := by rw [HK.out.cell]; exact h_0
        clear h_0
        go_wp2_with fail
        go_quiet (fail)
        go_wp2
        go_roundg (c - (k + 1))
        case measure => omega
        case rel => exact ⟨k + 1, _, by omega, rfl, by go_num, rfl⟩
    · obtain rfl : c = k := by omega
      go_wp2
      go_ret
      exact ⟨rfl, (below_alloc_ w (.cells #[.slice (some ⟨g, 0, none⟩) n c, .int .u8 m0, .int .u8 b0] 118)).trans ((below_drewN_ (w.alloc (.cells #[.slice (some ⟨g, 0, none⟩) n c, .int .u8 m0, .int .u8 b0] 118)).heap.size _ _).mono (by simp))⟩
end Go.Proofs.YtielnocnnffdfaaGreat

/- law01: a page (countinghouse/api.Line): written over, and behind; whether it stands. -/
namespace Go.Proofs.YtielnocnnffdfaaGreat
open Go.RowKit

abbrev row_line (A : Option Addr) (n c : Nat) (m0 m1 m2 m3 m4 b0 b1 b2 b3 b4 : Int) : Value := .agg #[.slice A n c, .int .u8 m0, .int .u8 m1, .int .u8 m2, .int .i64 m3, .int .i64 m4, .int .u8 b0, .int .u8 b1, .int .u8 b2, .int .i64 b3, .int .i64 b4]
set_option maxHeartbeats 2000000 in
theorem write_line_none (m0 m1 m2 m3 m4 b0 b1 b2 b3 b4 : Int) (w : World) : Calls Tryz.prog 123 #[row_line none 0 0 m0 m1 m2 m3 m4 b0 b1 b2 b3 b4] w fun e w' => e = .returned (.tuple #[]) ∧ Below w.heap.size w w' := by
  unfold row_line
  go_enter Tryz.func123, Tryz.ntmps123
  go_wp2
  refine wp_loop_rounds 1 ?_
  rw [rounds_succ]
  go_wp2
  exact bodyPost_end (results_none rfl _ _ _) rfl ⟨rfl, below_alloc_ _ _⟩
set_option maxHeartbeats 2000000 in
theorem behind_line_none (m0 m1 m2 m3 m4 b0 b1 b2 b3 b4 : Int) (w : World) : Calls Tryz.prog 124 #[row_line none 0 0 m0 m1 m2 m3 m4 b0 b1 b2 b3 b4] w fun e w' => e = .returned (.tuple #[]) ∧ Below w.heap.size w w' := by
  unfold row_line
  go_enter Tryz.func124, Tryz.ntmps124
  go_wp2
  refine wp_loop_rounds 1 ?_
  rw [rounds_succ]
  go_wp2
  exact bodyPost_end (results_none rfl _ _ _) rfl ⟨rfl, below_alloc_ _ _⟩
set_option maxHeartbeats 2000000 in
theorem stands_line_none (m0 m1 m2 m3 m4 b0 b1 b2 b3 b4 : Int) (w : World) : Calls Tryz.prog 122 #[row_line none 0 0 m0 m1 m2 m3 m4 b0 b1 b2 b3 b4] w fun e w' => e = .returned (.bool true) ∧ Below w.heap.size w w' := by
  unfold row_line
  go_enter Tryz.func122, Tryz.ntmps122
  go_wp2
  refine wp_loop_rounds 1 ?_
  rw [rounds_succ]
  go_wp2
  go_ret
  exact ⟨rfl, below_alloc_ _ _⟩
set_option maxHeartbeats 4000000 in
set_option maxRecDepth 100000 in
theorem write_line (g n c : Nat) (m0 m1 m2 m3 m4 b0 b1 b2 b3 b4 : Int) (cur : Array Value) (w : World) (hk : Blk w g 120 cur) (hn : n ≤ c) (hc : c * 5 ≤ cur.size) (hb : c ≤ 4611686018427387904) :
    Calls Tryz.prog 123 #[row_line (some ⟨g, 0, none⟩) n c m0 m1 m2 m3 m4 b0 b1 b2 b3 b4] w fun e w' => e = .returned (.tuple #[]) ∧ ∃ cur', Blk w' g 120 cur' ∧ cur'.size = cur.size ∧ (∀ i, 0 ≤ i → i < n → cur'[i * 5]? = some (.int .u8 m0) ∧ cur'[i * 5 + 1]? = some (.int .u8 m1) ∧ cur'[i * 5 + 2]? = some (.int .u8 m2) ∧ cur'[i * 5 + 3]? = some (.int .i64 m3) ∧ cur'[i * 5 + 4]? = some (.int .i64 m4)) ∧ (∀ p, p < 0 ∨ n * 5 ≤ p → cur'[p]? = cur[p]?) ∧ w.grownBy w' (some g) := by
  unfold row_line
  have K := Lib.hid (Blk.new w 122 #[.slice (some ⟨g, 0, none⟩) n c, .int .u8 m0, .int .u8 m1, .int .u8 m2, .int .i64 m3, .int .i64 m4, .int .u8 b0, .int .u8 b1, .int .u8 b2, .int .i64 b3, .int .i64 b4])
  have HK := Lib.hid (hk.alloc (.cells #[.slice (some ⟨g, 0, none⟩) n c, .int .u8 m0, .int .u8 m1, .int .u8 m2, .int .i64 m3, .int .i64 m4, .int .u8 b0, .int .u8 b1, .int .u8 b2, .int .i64 b3, .int .i64 b4] 122))
  have hgl := hk.lt
  have hn' : (n : Int) ≤ c := by omega
  have hb' : (c : Int) ≤ 4611686018427387904 := by omega
  have G0 := Lib.hid (show w.grownBy _ (some g) from grown_below_ (below_alloc_ w (.cells #[.slice (some ⟨g, 0, none⟩) n c, .int .u8 m0, .int .u8 m1, .int .u8 m2, .int .i64 m3, .int .i64 m4, .int .u8 b0, .int .u8 b1, .int .u8 b2, .int .i64 b3, .int .i64 b4] 122)) (some g))
  clear hk
  go_enter Tryz.func123, Tryz.ntmps123
  go_wp2_with fail
  go_loopg [2] (n - 0) (fun q x wr => ∃ (k : Nat) (cur' : Array Value), 0 ≤ k ∧ k ≤ n ∧ q = n - k ∧ x = .int .i64 k ∧ Blk wr g 120 cur' ∧ cur'.size = cur.size ∧ (∀ i, 0 ≤ i → i < k → cur'[i * 5]? = some (.int .u8 m0) ∧ cur'[i * 5 + 1]? = some (.int .u8 m1) ∧ cur'[i * 5 + 2]? = some (.int .u8 m2) ∧ cur'[i * 5 + 3]? = some (.int .i64 m3) ∧ cur'[i * 5 + 4]? = some (.int .i64 m4)) ∧ (∀ p, p < 0 ∨ k * 5 ≤ p → cur'[p]? = cur[p]?) ∧ w.grownBy wr (some g) ∧ Blk wr w.heap.size 122 #[.slice (some ⟨g, 0, none⟩) n c, .int .u8 m0, .int .u8 m1, .int .u8 m2, .int .i64 m3, .int .i64 m4, .int .u8 b0, .int .u8 b1, .int .u8 b2, .int .i64 b3, .int .i64 b4])
  case atStart => exact ⟨0, cur, Nat.le_refl _, by omega, rfl, rfl, HK.out, rfl, fun i _ _ => by omega, fun _ _ => rfl, G0.out, K.out⟩
  case round =>
    obtain ⟨k, cur', hlk, hk, rfl, rfl, hB, hsz, hin, hot, hg, hbx⟩ := hrel
    have HB := Lib.hid hB
    have HI := Lib.hid hin
    have HO := Lib.hid hot
    have HG := Lib.hid hg
    have HX := Lib.hid hbx
    have HS := Lib.hid hsz
    have f := hB.free
    have x0 := hbx.cell 0
    have x1 := hbx.cell 1
    have x2 := hbx.cell 2
    have x3 := hbx.cell 3
    have x4 := hbx.cell 4
    have x5 := hbx.cell 5
    have x6 := hbx.cell 6
    have x7 := hbx.cell 7
    have x8 := hbx.cell 8
    have x9 := hbx.cell 9
    have x10 := hbx.cell 10
    simp only [List.getElem?_toArray, List.getElem?_cons_zero, List.getElem?_cons_succ] at x0 x1 x2 x3 x4 x5 x6 x7 x8 x9 x10
    clear hin hot hg hbx
    by_cases hkn : k < n
    · have hkn' : (k : Int) < n := by omega
      have hk0 : (0 : Int) ≤ k := by omega
      have hz0 : k * 5 < cur'.size := by omega
      have y0 : wr.cell? ⟨g, k * 5, none⟩ = some (cur'[k * 5]'hz0) := by rw [hB.cell]; simp [hz0]
      have hz1 : k * 5 + 1 < cur'.size := by omega
      have y1 : wr.cell? ⟨g, k * 5 + 1, none⟩ = some (cur'[k * 5 + 1]'hz1) := by rw [hB.cell]; simp [hz1]
      have hz2 : k * 5 + 2 < cur'.size := by omega
      have y2 : wr.cell? ⟨g, k * 5 + 2, none⟩ = some (cur'[k * 5 + 2]'hz2) := by rw [hB.cell]; simp [hz2]
      have hz3 : k * 5 + 3 < cur'.size := by omega
      have y3 : wr.cell? ⟨g, k * 5 + 3, none⟩ = some (cur'[k * 5 + 3]'hz3) := by rw [hB.cell]; simp [hz3]
      have hz4 : k * 5 + 4 < cur'.size := by omega
      have y4 : wr.cell? ⟨g, k * 5 + 4, none⟩ = some (cur'[k * 5 + 4]'hz4) := by rw [hB.cell]; simp [hz4]
      clear hB
      go_wp2
      go_roundg (n - (k + 1))
      case measure => omega
      case rel =>
        refine ⟨k + 1, (((((cur'.setIfInBounds (k * 5) (.int .u8 m0)).setIfInBounds (k * 5 + 1) (.int .u8 m1)).setIfInBounds (k * 5 + 2) (.int .u8 m2)).setIfInBounds (k * 5 + 3) (.int .i64 m3)).setIfInBounds (k * 5 + 4) (.int .i64 m4)), by omega, by omega, rfl, by go_num, (((((HB.out.set_ (k * 5) (.int .u8 m0)).set_ (k * 5 + 1) (.int .u8 m1)).set_ (k * 5 + 2) (.int .u8 m2)).set_ (k * 5 + 3) (.int .i64 m3)).set_ (k * 5 + 4) (.int .i64 m4)), by simp [HS.out], ?_, ?_, (grown_trans_ (grown_trans_ (grown_trans_ (grown_trans_ (grown_trans_ HG.out (grown_set_ wr g (k * 5) (.int .u8 m0))) (grown_set_ (wr.setCell ⟨g, k * 5, none⟩ (.int .u8 m0)) g (k * 5 + 1) (.int .u8 m1))) (grown_set_ ((wr.setCell ⟨g, k * 5, none⟩ (.int .u8 m0)).setCell ⟨g, k * 5 + 1, none⟩ (.int .u8 m1)) g (k * 5 + 2) (.int .u8 m2))) (grown_set_ (((wr.setCell ⟨g, k * 5, none⟩ (.int .u8 m0)).setCell ⟨g, k * 5 + 1, none⟩ (.int .u8 m1)).setCell ⟨g, k * 5 + 2, none⟩ (.int .u8 m2)) g (k * 5 + 3) (.int .i64 m3))) (grown_set_ ((((wr.setCell ⟨g, k * 5, none⟩ (.int .u8 m0)).setCell ⟨g, k * 5 + 1, none⟩ (.int .u8 m1)).setCell ⟨g, k * 5 + 2, none⟩ (.int .u8 m2)).setCell ⟨g, k * 5 + 3, none⟩ (.int .i64 m3)) g (k * 5 + 4) (.int .i64 m4))), (((((HX.out.far (p := ⟨g, k * 5, none⟩) (by simp; omega) _).far (p := ⟨g, k * 5 + 1, none⟩) (by simp; omega) _).far (p := ⟨g, k * 5 + 2, none⟩) (by simp; omega) _).far (p := ⟨g, k * 5 + 3, none⟩) (by simp; omega) _).far (p := ⟨g, k * 5 + 4, none⟩) (by simp; omega) _)⟩
        · intro i h1 h2
          by_cases hik : i = k
          · subst hik
            exact ⟨(by rw [set_ne_ (by omega), set_ne_ (by omega), set_ne_ (by omega), set_ne_ (by omega), set_eq_ (by (try simp); omega)]), (by rw [set_ne_ (by omega), set_ne_ (by omega), set_ne_ (by omega), set_eq_ (by (try simp); omega)]), (by rw [set_ne_ (by omega), set_ne_ (by omega), set_eq_ (by (try simp); omega)]), (by rw [set_ne_ (by omega), set_eq_ (by (try simp); omega)]), (by rw [set_eq_ (by (try simp); omega)])⟩
          · obtain ⟨h_0, h_1, h_2, h_3, h_4⟩ := HI.out i h1 (by omega)
            exact ⟨(by rw [set_ne_ (by omega), set_ne_ (by omega), set_ne_ (by omega), set_ne_ (by omega), set_ne_ (by omega)]; exact h_0), (by rw [set_ne_ (by omega), set_ne_ (by omega), set_ne_ (by omega), set_ne_ (by omega), set_ne_ (by omega)]; exact h_1), (by rw [set_ne_ (by omega), set_ne_ (by omega), set_ne_ (by omega), set_ne_ (by omega), set_ne_ (by omega)]; exact h_2), (by rw [set_ne_ (by omega), set_ne_ (by omega), set_ne_ (by omega), set_ne_ (by omega), set_ne_ (by omega)]; exact h_3), (by rw [set_ne_ (by omega), set_ne_ (by omega), set_ne_ (by omega), set_ne_ (by omega), set_ne_ (by omega)]; exact h_4)⟩
        · intro p hp
          rw [set_ne_ (by omega), set_ne_ (by omega), set_ne_ (by omega), set_ne_ (by omega), set_ne_ (by omega)]
          exact HO.out p (by omega)
    · obtain rfl : k = n := by omega
      clear hB
      go_wp2
      exact bodyPost_end (results_none rfl _ _ _) rfl ⟨rfl, cur', HB.out, HS.out, HI.out, HO.out, HG.out⟩
set_option maxHeartbeats 4000000 in
set_option maxRecDepth 100000 in
theorem behind_line (g n c : Nat) (m0 m1 m2 m3 m4 b0 b1 b2 b3 b4 : Int) (cur : Array Value) (w : World) (hk : Blk w g 120 cur) (hn : n ≤ c) (hc : c * 5 ≤ cur.size) (hb : c ≤ 4611686018427387904) :
    Calls Tryz.prog 124 #[row_line (some ⟨g, 0, none⟩) n c m0 m1 m2 m3 m4 b0 b1 b2 b3 b4] w fun e w' => e = .returned (.tuple #[]) ∧ ∃ cur', Blk w' g 120 cur' ∧ cur'.size = cur.size ∧ (∀ i, n ≤ i → i < c → cur'[i * 5]? = some (.int .u8 b0) ∧ cur'[i * 5 + 1]? = some (.int .u8 b1) ∧ cur'[i * 5 + 2]? = some (.int .u8 b2) ∧ cur'[i * 5 + 3]? = some (.int .i64 b3) ∧ cur'[i * 5 + 4]? = some (.int .i64 b4)) ∧ (∀ p, p < n * 5 ∨ c * 5 ≤ p → cur'[p]? = cur[p]?) ∧ w.grownBy w' (some g) := by
  unfold row_line
  have K := Lib.hid (Blk.new w 122 #[.slice (some ⟨g, 0, none⟩) n c, .int .u8 m0, .int .u8 m1, .int .u8 m2, .int .i64 m3, .int .i64 m4, .int .u8 b0, .int .u8 b1, .int .u8 b2, .int .i64 b3, .int .i64 b4])
  have HK := Lib.hid (hk.alloc (.cells #[.slice (some ⟨g, 0, none⟩) n c, .int .u8 m0, .int .u8 m1, .int .u8 m2, .int .i64 m3, .int .i64 m4, .int .u8 b0, .int .u8 b1, .int .u8 b2, .int .i64 b3, .int .i64 b4] 122))
  have hgl := hk.lt
  have hn' : (n : Int) ≤ c := by omega
  have hb' : (c : Int) ≤ 4611686018427387904 := by omega
  have G0 := Lib.hid (show w.grownBy _ (some g) from grown_below_ (below_alloc_ w (.cells #[.slice (some ⟨g, 0, none⟩) n c, .int .u8 m0, .int .u8 m1, .int .u8 m2, .int .i64 m3, .int .i64 m4, .int .u8 b0, .int .u8 b1, .int .u8 b2, .int .i64 b3, .int .i64 b4] 122)) (some g))
  clear hk
  go_enter Tryz.func124, Tryz.ntmps124
  go_wp2_with fail
  go_loopg [3] (c - n) (fun q x wr => ∃ (k : Nat) (cur' : Array Value), n ≤ k ∧ k ≤ c ∧ q = c - k ∧ x = .int .i64 k ∧ Blk wr g 120 cur' ∧ cur'.size = cur.size ∧ (∀ i, n ≤ i → i < k → cur'[i * 5]? = some (.int .u8 b0) ∧ cur'[i * 5 + 1]? = some (.int .u8 b1) ∧ cur'[i * 5 + 2]? = some (.int .u8 b2) ∧ cur'[i * 5 + 3]? = some (.int .i64 b3) ∧ cur'[i * 5 + 4]? = some (.int .i64 b4)) ∧ (∀ p, p < n * 5 ∨ k * 5 ≤ p → cur'[p]? = cur[p]?) ∧ w.grownBy wr (some g) ∧ Blk wr w.heap.size 122 #[.slice (some ⟨g, 0, none⟩) n c, .int .u8 m0, .int .u8 m1, .int .u8 m2, .int .i64 m3, .int .i64 m4, .int .u8 b0, .int .u8 b1, .int .u8 b2, .int .i64 b3, .int .i64 b4])
  case atStart => exact ⟨n, cur, Nat.le_refl _, by omega, rfl, rfl, HK.out, rfl, fun i _ _ => by omega, fun _ _ => rfl, G0.out, K.out⟩
  case round =>
    obtain ⟨k, cur', hlk, hk, rfl, rfl, hB, hsz, hin, hot, hg, hbx⟩ := hrel
    have HB := Lib.hid hB
    have HI := Lib.hid hin
    have HO := Lib.hid hot
    have HG := Lib.hid hg
    have HX := Lib.hid hbx
    have HS := Lib.hid hsz
    have f := hB.free
    have x0 := hbx.cell 0
    have x1 := hbx.cell 1
    have x2 := hbx.cell 2
    have x3 := hbx.cell 3
    have x4 := hbx.cell 4
    have x5 := hbx.cell 5
    have x6 := hbx.cell 6
    have x7 := hbx.cell 7
    have x8 := hbx.cell 8
    have x9 := hbx.cell 9
    have x10 := hbx.cell 10
    simp only [List.getElem?_toArray, List.getElem?_cons_zero, List.getElem?_cons_succ] at x0 x1 x2 x3 x4 x5 x6 x7 x8 x9 x10
    clear hin hot hg hbx
    by_cases hkn : k < c
    · have hkn' : (k : Int) < c := by omega
      have hk0 : (0 : Int) ≤ k := by omega
      have hz0 : k * 5 < cur'.size := by omega
      have y0 : wr.cell? ⟨g, k * 5, none⟩ = some (cur'[k * 5]'hz0) := by rw [hB.cell]; simp [hz0]
      have hz1 : k * 5 + 1 < cur'.size := by omega
      have y1 : wr.cell? ⟨g, k * 5 + 1, none⟩ = some (cur'[k * 5 + 1]'hz1) := by rw [hB.cell]; simp [hz1]
      have hz2 : k * 5 + 2 < cur'.size := by omega
      have y2 : wr.cell? ⟨g, k * 5 + 2, none⟩ = some (cur'[k * 5 + 2]'hz2) := by rw [hB.cell]; simp [hz2]
      have hz3 : k * 5 + 3 < cur'.size := by omega
      have y3 : wr.cell? ⟨g, k * 5 + 3, none⟩ = some (cur'[k * 5 + 3]'hz3) := by rw [hB.cell]; simp [hz3]
      have hz4 : k * 5 + 4 < cur'.size := by omega
      have y4 : wr.cell? ⟨g, k * 5 + 4, none⟩ = some (cur'[k * 5 + 4]'hz4) := by rw [hB.cell]; simp [hz4]
      clear hB
      go_wp2
      go_roundg (c - (k + 1))
      case measure => omega
      case rel =>
        refine ⟨k + 1, (((((cur'.setIfInBounds (k * 5) (.int .u8 b0)).setIfInBounds (k * 5 + 1) (.int .u8 b1)).setIfInBounds (k * 5 + 2) (.int .u8 b2)).setIfInBounds (k * 5 + 3) (.int .i64 b3)).setIfInBounds (k * 5 + 4) (.int .i64 b4)), by omega, by omega, rfl, by go_num, (((((HB.out.set_ (k * 5) (.int .u8 b0)).set_ (k * 5 + 1) (.int .u8 b1)).set_ (k * 5 + 2) (.int .u8 b2)).set_ (k * 5 + 3) (.int .i64 b3)).set_ (k * 5 + 4) (.int .i64 b4)), by simp [HS.out], ?_, ?_, (grown_trans_ (grown_trans_ (grown_trans_ (grown_trans_ (grown_trans_ HG.out (grown_set_ wr g (k * 5) (.int .u8 b0))) (grown_set_ (wr.setCell ⟨g, k * 5, none⟩ (.int .u8 b0)) g (k * 5 + 1) (.int .u8 b1))) (grown_set_ ((wr.setCell ⟨g, k * 5, none⟩ (.int .u8 b0)).setCell ⟨g, k * 5 + 1, none⟩ (.int .u8 b1)) g (k * 5 + 2) (.int .u8 b2))) (grown_set_ (((wr.setCell ⟨g, k * 5, none⟩ (.int .u8 b0)).setCell ⟨g, k * 5 + 1, none⟩ (.int .u8 b1)).setCell ⟨g, k * 5 + 2, none⟩ (.int .u8 b2)) g (k * 5 + 3) (.int .i64 b3))) (grown_set_ ((((wr.setCell ⟨g, k * 5, none⟩ (.int .u8 b0)).setCell ⟨g, k * 5 + 1, none⟩ (.int .u8 b1)).setCell ⟨g, k * 5 + 2, none⟩ (.int .u8 b2)).setCell ⟨g, k * 5 + 3, none⟩ (.int .i64 b3)) g (k * 5 + 4) (.int .i64 b4))), (((((HX.out.far (p := ⟨g, k * 5, none⟩) (by simp; omega) _).far (p := ⟨g, k * 5 + 1, none⟩) (by simp; omega) _).far (p := ⟨g, k * 5 + 2, none⟩) (by simp; omega) _).far (p := ⟨g, k * 5 + 3, none⟩) (by simp; omega) _).far (p := ⟨g, k * 5 + 4, none⟩) (by simp; omega) _)⟩
        · intro i h1 h2
          by_cases hik : i = k
          · subst hik
            exact ⟨(by rw [set_ne_ (by omega), set_ne_ (by omega), set_ne_ (by omega), set_ne_ (by omega), set_eq_ (by (try simp); omega)]), (by rw [set_ne_ (by omega), set_ne_ (by omega), set_ne_ (by omega), set_eq_ (by (try simp); omega)]), (by rw [set_ne_ (by omega), set_ne_ (by omega), set_eq_ (by (try simp); omega)]), (by rw [set_ne_ (by omega), set_eq_ (by (try simp); omega)]), (by rw [set_eq_ (by (try simp); omega)])⟩
          · obtain ⟨h_0, h_1, h_2, h_3, h_4⟩ := HI.out i h1 (by omega)
            exact ⟨(by rw [set_ne_ (by omega), set_ne_ (by omega), set_ne_ (by omega), set_ne_ (by omega), set_ne_ (by omega)]; exact h_0), (by rw [set_ne_ (by omega), set_ne_ (by omega), set_ne_ (by omega), set_ne_ (by omega), set_ne_ (by omega)]; exact h_1), (by rw [set_ne_ (by omega), set_ne_ (by omega), set_ne_ (by omega), set_ne_ (by omega), set_ne_ (by omega)]; exact h_2), (by rw [set_ne_ (by omega), set_ne_ (by omega), set_ne_ (by omega), set_ne_ (by omega), set_ne_ (by omega)]; exact h_3), (by rw [set_ne_ (by omega), set_ne_ (by omega), set_ne_ (by omega), set_ne_ (by omega), set_ne_ (by omega)]; exact h_4)⟩
        · intro p hp
          rw [set_ne_ (by omega), set_ne_ (by omega), set_ne_ (by omega), set_ne_ (by omega), set_ne_ (by omega)]
          exact HO.out p (by omega)
    · obtain rfl : k = c := by omega
      clear hB
      go_wp2
      exact bodyPost_end (results_none rfl _ _ _) rfl ⟨rfl, cur', HB.out, HS.out, HI.out, HO.out, HG.out⟩
set_option maxHeartbeats 4000000 in
set_option maxRecDepth 100000 in
theorem stands_line (g n c : Nat) (m0 m1 m2 m3 m4 b0 b1 b2 b3 b4 : Int) (cur : Array Value) (w : World) (hk : Blk w g 120 cur) (hn : n ≤ c) (hc : c * 5 ≤ cur.size) (hb : c ≤ 4611686018427387904)
    (h1 : ∀ i, 0 ≤ i → i < n → cur[i * 5]? = some (.int .u8 m0) ∧ cur[i * 5 + 1]? = some (.int .u8 m1) ∧ cur[i * 5 + 2]? = some (.int .u8 m2) ∧ cur[i * 5 + 3]? = some (.int .i64 m3) ∧ cur[i * 5 + 4]? = some (.int .i64 m4)) (h2 : ∀ i, n ≤ i → i < c → cur[i * 5]? = some (.int .u8 b0) ∧ cur[i * 5 + 1]? = some (.int .u8 b1) ∧ cur[i * 5 + 2]? = some (.int .u8 b2) ∧ cur[i * 5 + 3]? = some (.int .i64 b3) ∧ cur[i * 5 + 4]? = some (.int .i64 b4)) :
    Calls Tryz.prog 122 #[row_line (some ⟨g, 0, none⟩) n c m0 m1 m2 m3 m4 b0 b1 b2 b3 b4] w fun e w' => e = .returned (.bool true) ∧ Below w.heap.size w w' := by
  unfold row_line
  have K := Lib.hid (Blk.new w 122 #[.slice (some ⟨g, 0, none⟩) n c, .int .u8 m0, .int .u8 m1, .int .u8 m2, .int .i64 m3, .int .i64 m4, .int .u8 b0, .int .u8 b1, .int .u8 b2, .int .i64 b3, .int .i64 b4])
  have HK := Lib.hid (hk.alloc (.cells #[.slice (some ⟨g, 0, none⟩) n c, .int .u8 m0, .int .u8 m1, .int .u8 m2, .int .i64 m3, .int .i64 m4, .int .u8 b0, .int .u8 b1, .int .u8 b2, .int .i64 b3, .int .i64 b4] 122))
  have H1 := Lib.hid h1
  have H2 := Lib.hid h2
  have hn' : (n : Int) ≤ c := by omega
  have hb' : (c : Int) ≤ 4611686018427387904 := by omega
  have kx := K.out
  have x0 := kx.cell 0
  have x1 := kx.cell 1
  have x2 := kx.cell 2
  have x3 := kx.cell 3
  have x4 := kx.cell 4
  have x5 := kx.cell 5
  have x6 := kx.cell 6
  have x7 := kx.cell 7
  have x8 := kx.cell 8
  have x9 := kx.cell 9
  have x10 := kx.cell 10
  simp only [List.getElem?_toArray, List.getElem?_cons_zero, List.getElem?_cons_succ] at x0 x1 x2 x3 x4 x5 x6 x7 x8 x9 x10
  clear hk h1 h2 kx
  have hnm : ∀ W, (binOp .neq 120 (.agg #[.int .u8 m0, .int .u8 m1, .int .u8 m2, .int .i64 m3, .int .i64 m4]) (.agg #[.int .u8 m0, .int .u8 m1, .int .u8 m2, .int .i64 m3, .int .i64 m4])).run Tryz.prog W = .ok (.bool false) W := fun W => by rw [run_neq_line m0 m1 m2 m3 m4 m0 m1 m2 m3 m4 W]; simp
  have hnb : ∀ W, (binOp .neq 120 (.agg #[.int .u8 b0, .int .u8 b1, .int .u8 b2, .int .i64 b3, .int .i64 b4]) (.agg #[.int .u8 b0, .int .u8 b1, .int .u8 b2, .int .i64 b3, .int .i64 b4])).run Tryz.prog W = .ok (.bool false) W := fun W => by rw [run_neq_line b0 b1 b2 b3 b4 b0 b1 b2 b3 b4 W]; simp
  go_enter Tryz.func122, Tryz.ntmps122
  go_wp2_with fail
  go_loopg [4] c (fun q x wr => ∃ k m : Nat, k ≤ c ∧ q = c - k ∧ x = .int .i64 k ∧ wr = (w.alloc (.cells #[.slice (some ⟨g, 0, none⟩) n c, .int .u8 m0, .int .u8 m1, .int .u8 m2, .int .i64 m3, .int .i64 m4, .int .u8 b0, .int .u8 b1, .int .u8 b2, .int .i64 b3, .int .i64 b4] 122)).drewN m)
  case atStart => exact ⟨0, 0, Nat.zero_le _, rfl, rfl, rfl⟩
  case round =>
    obtain ⟨k, m, hk, rfl, rfl, rfl⟩ := hrel
    by_cases hkc : k < c
    · have hkc' : (k : Int) < c := by omega
      have hk0 : (0 : Int) ≤ k := by omega
      by_cases hkn : k < n
      · have hkn' : (k : Int) < n := by omega
        have hkn2 : ¬ (n : Int) ≤ k := by omega
        have hd1 : decide ((k : Int) < n) = true := decide_eq_true hkn'
        have hd2 : decide ((n : Int) ≤ k) = false := decide_eq_false hkn2
        have hd3 : decide (n ≤ k) = false := decide_eq_false (by omega)
        have hd4 : ¬ n ≤ k := by omega
        obtain ⟨h_0, h_1, h_2, h_3, h_4⟩ := H1.out k (Nat.zero_le _) hkn
        have y0 : (w.alloc (.cells #[.slice (some ⟨g, 0, none⟩) n c, .int .u8 m0, .int .u8 m1, .int .u8 m2, .int .i64 m3, .int .i64 m4, .int .u8 b0, .int .u8 b1, .int .u8 b2, .int .i64 b3, .int .i64 b4] 122)).cell? ⟨g, k * 5, none⟩ = some (.int .u8 m0) := by rw [HK.out.cell]; exact h_0
        have y1 : (w.alloc (.cells #[.slice (some ⟨g, 0, none⟩) n c, .int .u8 m0, .int .u8 m1, .int .u8 m2, .int .i64 m3, .int .i64 m4, .int .u8 b0, .int .u8 b1, .int .u8 b2, .int .i64 b3, .int .i64 b4] 122)).cell? ⟨g, k * 5 + 1, none⟩ = some (.int .u8 m1) := by rw [HK.out.cell]; exact h_1
        have y2 : (w.alloc (.cells #[.slice (some ⟨g, 0, none⟩) n c, .int .u8 m0, .int .u8 m1, .int .u8 m2, .int .i64 m3, .int .i64 m4, .int .u8 b0, .int .u8 b1, .int .u8 b2, .int .i64 b3, .int .i64 b4] 122)).cell? ⟨g, k * 5 + 2, none⟩ = some (.int .u8 m2) := by rw [HK.out.cell]; exact h_2
        have y3 : (w.alloc (.cells #[.slice (some ⟨g, 0, none⟩) n c, .int .u8 m0, .int .u8 m1, .int .u8 m2, .int .i64 m3, .int .i64 m4, .int .u8 b0, .int .u8 b1, .int .u8 b2, .int .i64 b3, .int .i64 b4] 122)).cell? ⟨g, k * 5 + 3, none⟩ = some (.int .i64 m3) := by rw [HK.out.cell]; exact h_3
        have y4 : (w.alloc (.cells #[.slice (some ⟨g, 0, none⟩) n c, .int .u8 m0, .int .u8 m1, .int .u8 m2, .int .i64 m3, .int .i64 m4, .int .u8 b0, .int .u8 b1, .int .u8 b2, .int .i64 b3, .int .i64 b4] 122)).cell? ⟨g, k * 5 + 4, none⟩ = some (.int .i64 m4) := by rw [HK.out.cell]; exact h_4
        clear h_0 h_1 h_2 h_3 h_4
        go_wp2_with fail
        go_quiet (fail)
        go_wp2
        go_roundg (c - (k + 1))
        case measure => omega
        case rel => exact ⟨k + 1, _, by omega, rfl, by go_num, rfl⟩
      · have hkn' : ¬ (k : Int) < n := by omega
        have hkn2 : (n : Int) ≤ k := by omega
        have hd1 : decide ((k : Int) < n) = false := decide_eq_false hkn'
        have hd2 : decide ((n : Int) ≤ k) = true := decide_eq_true hkn2
        have hd3 : decide (n ≤ k) = true := decide_eq_true (by omega)
        have hd4 : n ≤ k := by omega
        obtain ⟨h_0, h_1, h_2, h_3, h_4⟩ := H2.out k (by omega) hkc
        have y0 : (w.alloc (.cells #[.slice (some ⟨g, 0, none⟩) n c, .int .u8 m0, .int .u8 m1, .int .u8 m2, .int .i64 m3, .int .i64 m4, .int .u8 b0, .int .u8 b1, .int .u8 b2, .int .i64 b3, .int .i64 b4] 122)).cell? ⟨g, k * 5, none⟩ = some (.int .u8 b0) := by rw [HK.out.cell]; exact h_0
        have y1 : (w.alloc (.cells #[.slice (some ⟨g, 0, none⟩) n c, .int .u8 m0, .int .u8 m1, .int .u8 m2, .int .i64 m3, .int .i64 m4, .int .u8 b0, .int .u8 b1, .int .u8 b2, .int .i64 b3, .int .i64 b4] 122)).cell? ⟨g, k * 5 + 1, none⟩ = some (.int .u8 b1) := by rw [HK.out.cell]; exact h_1
        have y2 : (w.alloc (.cells #[.slice (some ⟨g, 0, none⟩) n c, .int .u8 m0, .int .u8 m1, .int .u8 m2, .int .i64 m3, .int .i64 m4, .int .u8 b0, .int .u8 b1, .int .u8 b2, .int .i64 b3, .int .i64 b4] 122)).cell? ⟨g, k * 5 + 2, none⟩ = some (.int .u8 b2) := by rw [HK.out.cell]; exact h_2
        have y3 : (w.alloc (.cells #[.slice (some ⟨g, 0, none⟩) n c, .int .u8 m0, .int .u8 m1, .int .u8 m2, .int .i64 m3, .int .i64 m4, .int .u8 b0, .int .u8 b1, .int .u8 b2, .int .i64 b3, .int .i64 b4] 122)).cell? ⟨g, k * 5 + 3, none⟩ = some (.int .i64 b3) := by rw [HK.out.cell]; exact h_3
        have y4 : (w.alloc (.cells #[.slice (some ⟨g, 0, none⟩) n c, .int .u8 m0, .int .u8 m1, .int .u8 m2, .int .i64 m3, .int .i64 m4, .int .u8 b0, .int .u8 b1, .int .u8 b2, .int .i64 b3, .int .i64 b4] 122)).cell? ⟨g, k * 5 + 4, none⟩ = some (.int .i64 b4) := by rw [HK.out.cell]; exact h_4
        clear h_0 h_1 h_2 h_3 h_4
        go_wp2_with fail
        go_quiet (fail)
        go_wp2
        go_roundg (c - (k + 1))
        case measure => omega
        case rel => exact ⟨k + 1, _, by omega, rfl, by go_num, rfl⟩
    · obtain rfl : c = k := by omega
      go_wp2
      go_ret
      exact ⟨rfl, (below_alloc_ w (.cells #[.slice (some ⟨g, 0, none⟩) n c, .int .u8 m0, .int .u8 m1, .int .u8 m2, .int .i64 m3, .int .i64 m4, .int .u8 b0, .int .u8 b1, .int .u8 b2, .int .i64 b3, .int .i64 b4] 122)).trans ((below_drewN_ (w.alloc (.cells #[.slice (some ⟨g, 0, none⟩) n c, .int .u8 m0, .int .u8 m1, .int .u8 m2, .int .i64 m3, .int .i64 m4, .int .u8 b0, .int .u8 b1, .int .u8 b2, .int .i64 b3, .int .i64 b4] 122)).heap.size _ _).mono (by simp))⟩
end Go.Proofs.YtielnocnnffdfaaGreat

/- law01: a page (countinghouse/api.Offer): written over, and behind; whether it stands. -/
namespace Go.Proofs.YtielnocnnffdfaaGreat
open Go.RowKit

abbrev row_offer (A : Option Addr) (n c : Nat) (m0 m1 m2 m3 m4 m5 m6 b0 b1 b2 b3 b4 b5 b6 : Int) : Value := .agg #[.slice A n c, .int .u64 m0, .int .u8 m1, .int .u8 m2, .int .u8 m3, .int .i64 m4, .int .i64 m5, .int .i64 m6, .int .u64 b0, .int .u8 b1, .int .u8 b2, .int .u8 b3, .int .i64 b4, .int .i64 b5, .int .i64 b6]
set_option maxHeartbeats 2000000 in
theorem write_offer_none (m0 m1 m2 m3 m4 m5 m6 b0 b1 b2 b3 b4 b5 b6 : Int) (w : World) : Calls Tryz.prog 126 #[row_offer none 0 0 m0 m1 m2 m3 m4 m5 m6 b0 b1 b2 b3 b4 b5 b6] w fun e w' => e = .returned (.tuple #[]) ∧ Below w.heap.size w w' := by
  unfold row_offer
  go_enter Tryz.func126, Tryz.ntmps126
  go_wp2
  refine wp_loop_rounds 1 ?_
  rw [rounds_succ]
  go_wp2
  exact bodyPost_end (results_none rfl _ _ _) rfl ⟨rfl, below_alloc_ _ _⟩
set_option maxHeartbeats 2000000 in
theorem behind_offer_none (m0 m1 m2 m3 m4 m5 m6 b0 b1 b2 b3 b4 b5 b6 : Int) (w : World) : Calls Tryz.prog 127 #[row_offer none 0 0 m0 m1 m2 m3 m4 m5 m6 b0 b1 b2 b3 b4 b5 b6] w fun e w' => e = .returned (.tuple #[]) ∧ Below w.heap.size w w' := by
  unfold row_offer
  go_enter Tryz.func127, Tryz.ntmps127
  go_wp2
  refine wp_loop_rounds 1 ?_
  rw [rounds_succ]
  go_wp2
  exact bodyPost_end (results_none rfl _ _ _) rfl ⟨rfl, below_alloc_ _ _⟩
set_option maxHeartbeats 2000000 in
theorem stands_offer_none (m0 m1 m2 m3 m4 m5 m6 b0 b1 b2 b3 b4 b5 b6 : Int) (w : World) : Calls Tryz.prog 125 #[row_offer none 0 0 m0 m1 m2 m3 m4 m5 m6 b0 b1 b2 b3 b4 b5 b6] w fun e w' => e = .returned (.bool true) ∧ Below w.heap.size w w' := by
  unfold row_offer
  go_enter Tryz.func125, Tryz.ntmps125
  go_wp2
  refine wp_loop_rounds 1 ?_
  rw [rounds_succ]
  go_wp2
  go_ret
  exact ⟨rfl, below_alloc_ _ _⟩
set_option maxHeartbeats 4000000 in
set_option maxRecDepth 100000 in
theorem write_offer (g n c : Nat) (m0 m1 m2 m3 m4 m5 m6 b0 b1 b2 b3 b4 b5 b6 : Int) (cur : Array Value) (w : World) (hk : Blk w g 124 cur) (hn : n ≤ c) (hc : c * 7 ≤ cur.size) (hb : c ≤ 4611686018427387904) :
    Calls Tryz.prog 126 #[row_offer (some ⟨g, 0, none⟩) n c m0 m1 m2 m3 m4 m5 m6 b0 b1 b2 b3 b4 b5 b6] w fun e w' => e = .returned (.tuple #[]) ∧ ∃ cur', Blk w' g 124 cur' ∧ cur'.size = cur.size ∧ (∀ i, 0 ≤ i → i < n → cur'[i * 7]? = some (.int .u64 m0) ∧ cur'[i * 7 + 1]? = some (.int .u8 m1) ∧ cur'[i * 7 + 2]? = some (.int .u8 m2) ∧ cur'[i * 7 + 3]? = some (.int .u8 m3) ∧ cur'[i * 7 + 4]? = some (.int .i64 m4) ∧ cur'[i * 7 + 5]? = some (.int .i64 m5) ∧ cur'[i * 7 + 6]? = some (.int .i64 m6)) ∧ (∀ p, p < 0 ∨ n * 7 ≤ p → cur'[p]? = cur[p]?) ∧ w.grownBy w' (some g) := by
  unfold row_offer
  have K := Lib.hid (Blk.new w 126 #[.slice (some ⟨g, 0, none⟩) n c, .int .u64 m0, .int .u8 m1, .int .u8 m2, .int .u8 m3, .int .i64 m4, .int .i64 m5, .int .i64 m6, .int .u64 b0, .int .u8 b1, .int .u8 b2, .int .u8 b3, .int .i64 b4, .int .i64 b5, .int .i64 b6])
  have HK := Lib.hid (hk.alloc (.cells #[.slice (some ⟨g, 0, none⟩) n c, .int .u64 m0, .int .u8 m1, .int .u8 m2, .int .u8 m3, .int .i64 m4, .int .i64 m5, .int .i64 m6, .int .u64 b0, .int .u8 b1, .int .u8 b2, .int .u8 b3, .int .i64 b4, .int .i64 b5, .int .i64 b6] 126))
  have hgl := hk.lt
  have hn' : (n : Int) ≤ c := by omega
  have hb' : (c : Int) ≤ 4611686018427387904 := by omega
  have G0 := Lib.hid (show w.grownBy _ (some g) from grown_below_ (below_alloc_ w (.cells #[.slice (some ⟨g, 0, none⟩) n c, .int .u64 m0, .int .u8 m1, .int .u8 m2, .int .u8 m3, .int .i64 m4, .int .i64 m5, .int .i64 m6, .int .u64 b0, .int .u8 b1, .int .u8 b2, .int .u8 b3, .int .i64 b4, .int .i64 b5, .int .i64 b6] 126)) (some g))
  clear hk
  go_enter Tryz.func126, Tryz.ntmps126
  go_wp2_with fail
  go_loopg [2] (n - 0) (fun q x wr => ∃ (k : Nat) (cur' : Array Value), 0 ≤ k ∧ k ≤ n ∧ q = n - k ∧ x = .int .i64 k ∧ Blk wr g 124 cur' ∧ cur'.size = cur.size ∧ (∀ i, 0 ≤ i → i < k → cur'[i * 7]? = some (.int .u64 m0) ∧ cur'[i * 7 + 1]? = some (.int .u8 m1) ∧ cur'[i * 7 + 2]? = some (.int .u8 m2) ∧ cur'[i * 7 + 3]? = some (.int .u8 m3) ∧ cur'[i * 7 + 4]? = some (.int .i64 m4) ∧ cur'[i * 7 + 5]? = some (.int .i64 m5) ∧ cur'[i * 7 + 6]? = some (.int .i64 m6)) ∧ (∀ p, p < 0 ∨ k * 7 ≤ p → cur'[p]? = cur[p]?) ∧ w.grownBy wr (some g) ∧ Blk wr w.heap.size 126 #[.slice (some ⟨g, 0, none⟩) n c, .int .u64 m0, .int .u8 m1, .int .u8 m2, .int .u8 m3, .int .i64 m4, .int .i64 m5, .int .i64 m6, .int .u64 b0, .int .u8 b1, .int .u8 b2, .int .u8 b3, .int .i64 b4, .int .i64 b5, .int .i64 b6])
  case atStart => exact ⟨0, cur, Nat.le_refl _, by omega, rfl, rfl, HK.out, rfl, fun i _ _ => by omega, fun _ _ => rfl, G0.out, K.out⟩
  case round =>
    obtain ⟨k, cur', hlk, hk, rfl, rfl, hB, hsz, hin, hot, hg, hbx⟩ := hrel
    have HB := Lib.hid hB
    have HI := Lib.hid hin
    have HO := Lib.hid hot
    have HG := Lib.hid hg
    have HX := Lib.hid hbx
    have HS := Lib.hid hsz
    have f := hB.free
    have x0 := hbx.cell 0
    have x1 := hbx.cell 1
    have x2 := hbx.cell 2
    have x3 := hbx.cell 3
    have x4 := hbx.cell 4
    have x5 := hbx.cell 5
    have x6 := hbx.cell 6
    have x7 := hbx.cell 7
    have x8 := hbx.cell 8
    have x9 := hbx.cell 9
    have x10 := hbx.cell 10
    have x11 := hbx.cell 11
    have x12 := hbx.cell 12
    have x13 := hbx.cell 13
    have x14 := hbx.cell 14
    simp only [List.getElem?_toArray, List.getElem?_cons_zero, List.getElem?_cons_succ] at x0 x1 x2 x3 x4 x5 x6 x7 x8 x9 x10 x11 x12 x13 x14
    clear hin hot hg hbx
    by_cases hkn : k < n
    · have hkn' : (k : Int) < n := by omega
      have hk0 : (0 : Int) ≤ k := by omega
      have hz0 : k * 7 < cur'.size := by omega
      have y0 : wr.cell? ⟨g, k * 7, none⟩ = some (cur'[k * 7]'hz0) := by rw [hB.cell]; simp [hz0]
      have hz1 : k * 7 + 1 < cur'.size := by omega
      have y1 : wr.cell? ⟨g, k * 7 + 1, none⟩ = some (cur'[k * 7 + 1]'hz1) := by rw [hB.cell]; simp [hz1]
      have hz2 : k * 7 + 2 < cur'.size := by omega
      have y2 : wr.cell? ⟨g, k * 7 + 2, none⟩ = some (cur'[k * 7 + 2]'hz2) := by rw [hB.cell]; simp [hz2]
      have hz3 : k * 7 + 3 < cur'.size := by omega
      have y3 : wr.cell? ⟨g, k * 7 + 3, none⟩ = some (cur'[k * 7 + 3]'hz3) := by rw [hB.cell]; simp [hz3]
      have hz4 : k * 7 + 4 < cur'.size := by omega
      have y4 : wr.cell? ⟨g, k * 7 + 4, none⟩ = some (cur'[k * 7 + 4]'hz4) := by rw [hB.cell]; simp [hz4]
      have hz5 : k * 7 + 5 < cur'.size := by omega
      have y5 : wr.cell? ⟨g, k * 7 + 5, none⟩ = some (cur'[k * 7 + 5]'hz5) := by rw [hB.cell]; simp [hz5]
      have hz6 : k * 7 + 6 < cur'.size := by omega
      have y6 : wr.cell? ⟨g, k * 7 + 6, none⟩ = some (cur'[k * 7 + 6]'hz6) := by rw [hB.cell]; simp [hz6]
      clear hB
      go_wp2
      go_roundg (n - (k + 1))
      case measure => omega
      case rel =>
        refine ⟨k + 1, (((((((cur'.setIfInBounds (k * 7) (.int .u64 m0)).setIfInBounds (k * 7 + 1) (.int .u8 m1)).setIfInBounds (k * 7 + 2) (.int .u8 m2)).setIfInBounds (k * 7 + 3) (.int .u8 m3)).setIfInBounds (k * 7 + 4) (.int .i64 m4)).setIfInBounds (k * 7 + 5) (.int .i64 m5)).setIfInBounds (k * 7 + 6) (.int .i64 m6)), by omega, by omega, rfl, by go_num, (((((((HB.out.set_ (k * 7) (.int .u64 m0)).set_ (k * 7 + 1) (.int .u8 m1)).set_ (k * 7 + 2) (.int .u8 m2)).set_ (k * 7 + 3) (.int .u8 m3)).set_ (k * 7 + 4) (.int .i64 m4)).set_ (k * 7 + 5) (.int .i64 m5)).set_ (k * 7 + 6) (.int .i64 m6)), by simp [HS.out], ?_, ?_, (grown_trans_ (grown_trans_ (grown_trans_ (grown_trans_ (grown_trans_ (grown_trans_ (grown_trans_ HG.out (grown_set_ wr g (k * 7) (.int .u64 m0))) (grown_set_ (wr.setCell ⟨g, k * 7, none⟩ (.int .u64 m0)) g (k * 7 + 1) (.int .u8 m1))) (grown_set_ ((wr.setCell ⟨g, k * 7, none⟩ (.int .u64 m0)).setCell ⟨g, k * 7 + 1, none⟩ (.int .u8 m1)) g (k * 7 + 2) (.int .u8 m2))) (grown_set_ (((wr.setCell ⟨g, k * 7, none⟩ (.int .u64 m0)).setCell ⟨g, k * 7 + 1, none⟩ (.int .u8 m1)).setCell ⟨g, k * 7 + 2, none⟩ (.int .u8 m2)) g (k * 7 + 3) (.int .u8 m3))) (grown_set_ ((((wr.setCell ⟨g, k * 7, none⟩ (.int .u64 m0)).setCell ⟨g, k * 7 + 1, none⟩ (.int .u8 m1)).setCell ⟨g, k * 7 + 2, none⟩ (.int .u8 m2)).setCell ⟨g, k * 7 + 3, none⟩ (.int .u8 m3)) g (k * 7 + 4) (.int .i64 m4))) (grown_set_ (((((wr.setCell ⟨g, k * 7, none⟩ (.int .u64 m0)).setCell ⟨g, k * 7 + 1, none⟩ (.int .u8 m1)).setCell ⟨g, k * 7 + 2, none⟩ (.int .u8 m2)).setCell ⟨g, k * 7 + 3, none⟩ (.int .u8 m3)).setCell ⟨g, k * 7 + 4, none⟩ (.int .i64 m4)) g (k * 7 + 5) (.int .i64 m5))) (grown_set_ ((((((wr.setCell ⟨g, k * 7, none⟩ (.int .u64 m0)).setCell ⟨g, k * 7 + 1, none⟩ (.int .u8 m1)).setCell ⟨g, k * 7 + 2, none⟩ (.int .u8 m2)).setCell ⟨g, k * 7 + 3, none⟩ (.int .u8 m3)).setCell ⟨g, k * 7 + 4, none⟩ (.int .i64 m4)).setCell ⟨g, k * 7 + 5, none⟩ (.int .i64 m5)) g (k * 7 + 6) (.int .i64 m6))), (((((((HX.out.far (p := ⟨g, k * 7, none⟩) (by simp; omega) _).far (p := ⟨g, k * 7 + 1, none⟩) (by simp; omega) _).far (p := ⟨g, k * 7 + 2, none⟩) (by simp; omega) _).far (p := ⟨g, k * 7 + 3, none⟩) (by simp; omega) _).far (p := ⟨g, k * 7 + 4, none⟩) (by simp; omega) _).far (p := ⟨g, k * 7 + 5, none⟩) (by simp; omega) _).far (p := ⟨g, k * 7 + 6, none⟩) (by simp; omega) _)⟩
        · intro i h1 h2
          by_cases hik : i = k
          · subst hik
            exact ⟨(by rw [set_ne_ (by omega), set_ne_ (by omega), set_ne_ (by omega), set_ne_ (by omega), set_ne_ (by omega), set_ne_ (by omega), set_eq_ (by (try simp); omega)]), (by rw [set_ne_ (by omega), set_ne_ (by omega), set_ne_ (by omega), set_ne_ (by omega), set_ne_ (by omega), set_eq_ (by (try simp); omega)]), (by rw [set_ne_ (by omega), set_ne_ (by omega), set_ne_ (by omega), set_ne_ (by omega), set_eq_ (by (try simp); omega)]), (by rw [set_ne_ (by omega), set_ne_ (by omega), set_ne_ (by omega), set_eq_ (by (try simp); omega)]), (by rw [set_ne_ (by omega), set_ne_ (by omega), set_eq_ (by (try simp); omega)]), (by rw [set_ne_ (by omega), set_eq_ (by (try simp); omega)]), (by rw [set_eq_ (by (try simp); omega)])⟩
          · obtain ⟨h_0, h_1, h_2, h_3, h_4, h_5, h_6⟩ := HI.out i h1 (by omega)
            exact ⟨(by rw [set_ne_ (by omega), set_ne_ (by omega), set_ne_ (by omega), set_ne_ (by omega), set_ne_ (by omega), set_ne_ (by omega), set_ne_ (by omega)]; exact h_0), (by rw [set_ne_ (by omega), set_ne_ (by omega), set_ne_ (by omega), set_ne_ (by omega), set_ne_ (by omega), set_ne_ (by omega), set_ne_ (by omega)]; exact h_1), (by rw [set_ne_ (by omega), set_ne_ (by omega), set_ne_ (by omega), set_ne_ (by omega), set_ne_ (by omega), set_ne_ (by omega), set_ne_ (by omega)]; exact h_2), (by rw [set_ne_ (by omega), set_ne_ (by omega), set_ne_ (by omega), set_ne_ (by omega), set_ne_ (by omega), set_ne_ (by omega), set_ne_ (by omega)]; exact h_3), (by rw [set_ne_ (by omega), set_ne_ (by omega), set_ne_ (by omega), set_ne_ (by omega), set_ne_ (by omega), set_ne_ (by omega), set_ne_ (by omega)]; exact h_4), (by rw [set_ne_ (by omega), set_ne_ (by omega), set_ne_ (by omega), set_ne_ (by omega), set_ne_ (by omega), set_ne_ (by omega), set_ne_ (by omega)]; exact h_5), (by rw [set_ne_ (by omega), set_ne_ (by omega), set_ne_ (by omega), set_ne_ (by omega), set_ne_ (by omega), set_ne_ (by omega), set_ne_ (by omega)]; exact h_6)⟩
        · intro p hp
          rw [set_ne_ (by omega), set_ne_ (by omega), set_ne_ (by omega), set_ne_ (by omega), set_ne_ (by omega), set_ne_ (by omega), set_ne_ (by omega)]
          exact HO.out p (by omega)
    · obtain rfl : k = n := by omega
      clear hB
      go_wp2
      exact bodyPost_end (results_none rfl _ _ _) rfl ⟨rfl, cur', HB.out, HS.out, HI.out, HO.out, HG.out⟩
set_option maxHeartbeats 4000000 in
set_option maxRecDepth 100000 in
theorem behind_offer (g n c : Nat) (m0 m1 m2 m3 m4 m5 m6 b0 b1 b2 b3 b4 b5 b6 : Int) (cur : Array Value) (w : World) (hk : Blk w g 124 cur) (hn : n ≤ c) (hc : c * 7 ≤ cur.size) (hb : c ≤ 4611686018427387904) :
    Calls Tryz.prog 127 #[row_offer (some ⟨g, 0, none⟩) n c m0 m1 m2 m3 m4 m5 m6 b0 b1 b2 b3 b4 b5 b6] w fun e w' => e = .returned (.tuple #[]) ∧ ∃ cur', Blk w' g 124 cur' ∧ cur'.size = cur.size ∧ (∀ i, n ≤ i → i < c → cur'[i * 7]? = some (.int .u64 b0) ∧ cur'[i * 7 + 1]? = some (.int .u8 b1) ∧ cur'[i * 7 + 2]? = some (.int .u8 b2) ∧ cur'[i * 7 + 3]? = some (.int .u8 b3) ∧ cur'[i * 7 + 4]? = some (.int .i64 b4) ∧ cur'[i * 7 + 5]? = some (.int .i64 b5) ∧ cur'[i * 7 + 6]? = some (.int .i64 b6)) ∧ (∀ p, p < n * 7 ∨ c * 7 ≤ p → cur'[p]? = cur[p]?) ∧ w.grownBy w' (some g) := by
  unfold row_offer
  have K := Lib.hid (Blk.new w 126 #[.slice (some ⟨g, 0, none⟩) n c, .int .u64 m0, .int .u8 m1, .int .u8 m2, .int .u8 m3, .int .i64 m4, .int .i64 m5, .int .i64 m6, .int .u64 b0, .int .u8 b1, .int .u8 b2, .int .u8 b3, .int .i64 b4, .int .i64 b5, .int .i64 b6])
  have HK := Lib.hid (hk.alloc (.cells #[.slice (some ⟨g, 0, none⟩) n c, .int .u64 m0, .int .u8 m1, .int .u8 m2, .int .u8 m3, .int .i64 m4, .int .i64 m5, .int .i64 m6, .int .u64 b0, .int .u8 b1, .int .u8 b2, .int .u8 b3, .int .i64 b4, .int .i64 b5, .int .i64 b6] 126))
  have hgl := hk.lt
  have hn' : (n : Int) ≤ c := by omega
  have hb' : (c : Int) ≤ 4611686018427387904 := by omega
  have G0 := Lib.hid (show w.grownBy _ (some g) from grown_below_ (below_alloc_ w (.cells #[.slice (some ⟨g, 0, none⟩) n c, .int .u64 m0, .int .u8 m1, .int .u8 m2, .int .u8 m3, .int .i64 m4, .int .i64 m5, .int .i64 m6, .int .u64 b0, .int .u8 b1, .int .u8 b2, .int .u8 b3, .int .i64 b4, .int .i64 b5, .int .i64 b6] 126)) (some g))
  clear hk
  go_enter Tryz.func127, Tryz.ntmps127
  go_wp2_with fail
  go_loopg [3] (c - n) (fun q x wr => ∃ (k : Nat) (cur' : Array Value), n ≤ k ∧ k ≤ c ∧ q = c - k ∧ x = .int .i64 k ∧ Blk wr g 124 cur' ∧ cur'.size = cur.size ∧ (∀ i, n ≤ i → i < k → cur'[i * 7]? = some (.int .u64 b0) ∧ cur'[i * 7 + 1]? = some (.int .u8 b1) ∧ cur'[i * 7 + 2]? = some (.int .u8 b2) ∧ cur'[i * 7 + 3]? = some (.int .u8 b3) ∧ cur'[i * 7 + 4]? = some (.int .i64 b4) ∧ cur'[i * 7 + 5]? = some (.int .i64 b5) ∧ cur'[i * 7 + 6]? = some (.int .i64 b6)) ∧ (∀ p, p < n * 7 ∨ k * 7 ≤ p → cur'[p]? = cur[p]?) ∧ w.grownBy wr (some g) ∧ Blk wr w.heap.size 126 #[.slice (some ⟨g, 0, none⟩) n c, .int .u64 m0, .int .u8 m1, .int .u8 m2, .int .u8 m3, .int .i64 m4, .int .i64 m5, .int .i64 m6, .int .u64 b0, .int .u8 b1, .int .u8 b2, .int .u8 b3, .int .i64 b4, .int .i64 b5, .int .i64 b6])
  case atStart => exact ⟨n, cur, Nat.le_refl _, by omega, rfl, rfl, HK.out, rfl, fun i _ _ => by omega, fun _ _ => rfl, G0.out, K.out⟩
  case round =>
    obtain ⟨k, cur', hlk, hk, rfl, rfl, hB, hsz, hin, hot, hg, hbx⟩ := hrel
    have HB := Lib.hid hB
    have HI := Lib.hid hin
    have HO := Lib.hid hot
    have HG := Lib.hid hg
    have HX := Lib.hid hbx
    have HS := Lib.hid hsz
    have f := hB.free
    have x0 := hbx.cell 0
    have x1 := hbx.cell 1
    have x2 := hbx.cell 2
    have x3 := hbx.cell 3
    have x4 := hbx.cell 4
    have x5 := hbx.cell 5
    have x6 := hbx.cell 6
    have x7 := hbx.cell 7
    have x8 := hbx.cell 8
    have x9 := hbx.cell 9
    have x10 := hbx.cell 10
    have x11 := hbx.cell 11
    have x12 := hbx.cell 12
    have x13 := hbx.cell 13
    have x14 := hbx.cell 14
    simp only [List.getElem?_toArray, List.getElem?_cons_zero, List.getElem?_cons_succ] at x0 x1 x2 x3 x4 x5 x6 x7 x8 x9 x10 x11 x12 x13 x14
    clear hin hot hg hbx
    by_cases hkn : k < c
    · have hkn' : (k : Int) < c := by omega
      have hk0 : (0 : Int) ≤ k := by omega
      have hz0 : k * 7 < cur'.size := by omega
      have y0 : wr.cell? ⟨g, k * 7, none⟩ = some (cur'[k * 7]'hz0) := by rw [hB.cell]; simp [hz0]
      have hz1 : k * 7 + 1 < cur'.size := by omega
      have y1 : wr.cell? ⟨g, k * 7 + 1, none⟩ = some (cur'[k * 7 + 1]'hz1) := by rw [hB.cell]; simp [hz1]
      have hz2 : k * 7 + 2 < cur'.size := by omega
      have y2 : wr.cell? ⟨g, k * 7 + 2, none⟩ = some (cur'[k * 7 + 2]'hz2) := by rw [hB.cell]; simp [hz2]
      have hz3 : k * 7 + 3 < cur'.size := by omega
      have y3 : wr.cell? ⟨g, k * 7 + 3, none⟩ = some (cur'[k * 7 + 3]'hz3) := by rw [hB.cell]; simp [hz3]
      have hz4 : k * 7 + 4 < cur'.size := by omega
      have y4 : wr.cell? ⟨g, k * 7 + 4, none⟩ = some (cur'[k * 7 + 4]'hz4) := by rw [hB.cell]; simp [hz4]
      have hz5 : k * 7 + 5 < cur'.size := by omega
      have y5 : wr.cell? ⟨g, k * 7 + 5, none⟩ = some (cur'[k * 7 + 5]'hz5) := by rw [hB.cell]; simp [hz5]
      have hz6 : k * 7 + 6 < cur'.size := by omega
      have y6 : wr.cell? ⟨g, k * 7 + 6, none⟩ = some (cur'[k * 7 + 6]'hz6) := by rw [hB.cell]; simp [hz6]
      clear hB
      go_wp2
      go_roundg (c - (k + 1))
      case measure => omega
      case rel =>
        refine ⟨k + 1, (((((((cur'.setIfInBounds (k * 7) (.int .u64 b0)).setIfInBounds (k * 7 + 1) (.int .u8 b1)).setIfInBounds (k * 7 + 2) (.int .u8 b2)).setIfInBounds (k * 7 + 3) (.int .u8 b3)).setIfInBounds (k * 7 + 4) (.int .i64 b4)).setIfInBounds (k * 7 + 5) (.int .i64 b5)).setIfInBounds (k * 7 + 6) (.int .i64 b6)), by omega, by omega, rfl, by go_num, (((((((HB.out.set_ (k * 7) (.int .u64 b0)).set_ (k * 7 + 1) (.int .u8 b1)).set_ (k * 7 + 2) (.int .u8 b2)).set_ (k * 7 + 3) (.int .u8 b3)).set_ (k * 7 + 4) (.int .i64 b4)).set_ (k * 7 + 5) (.int .i64 b5)).set_ (k * 7 + 6) (.int .i64 b6)), by simp [HS.out], ?_, ?_, (grown_trans_ (grown_trans_ (grown_trans_ (grown_trans_ (grown_trans_ (grown_trans_ (grown_trans_ HG.out (grown_set_ wr g (k * 7) (.int .u64 b0))) (grown_set_ (wr.setCell ⟨g, k * 7, none⟩ (.int .u64 b0)) g (k * 7 + 1) (.int .u8 b1))) (grown_set_ ((wr.setCell ⟨g, k * 7, none⟩ (.int .u64 b0)).setCell ⟨g, k * 7 + 1, none⟩ (.int .u8 b1)) g (k * 7 + 2) (.int .u8 b2))) (grown_set_ (((wr.setCell ⟨g, k * 7, none⟩ (.int .u64 b0)).setCell ⟨g, k * 7 + 1, none⟩ (.int .u8 b1)).setCell ⟨g, k * 7 + 2, none⟩ (.int .u8 b2)) g (k * 7 + 3) (.int .u8 b3))) (grown_set_ ((((wr.setCell ⟨g, k * 7, none⟩ (.int .u64 b0)).setCell ⟨g, k * 7 + 1, none⟩ (.int .u8 b1)).setCell ⟨g, k * 7 + 2, none⟩ (.int .u8 b2)).setCell ⟨g, k * 7 + 3, none⟩ (.int .u8 b3)) g (k * 7 + 4) (.int .i64 b4))) (grown_set_ (((((wr.setCell ⟨g, k * 7, none⟩ (.int .u64 b0)).setCell ⟨g, k * 7 + 1, none⟩ (.int .u8 b1)).setCell ⟨g, k * 7 + 2, none⟩ (.int .u8 b2)).setCell ⟨g, k * 7 + 3, none⟩ (.int .u8 b3)).setCell ⟨g, k * 7 + 4, none⟩ (.int .i64 b4)) g (k * 7 + 5) (.int .i64 b5))) (grown_set_ ((((((wr.setCell ⟨g, k * 7, none⟩ (.int .u64 b0)).setCell ⟨g, k * 7 + 1, none⟩ (.int .u8 b1)).setCell ⟨g, k * 7 + 2, none⟩ (.int .u8 b2)).setCell ⟨g, k * 7 + 3, none⟩ (.int .u8 b3)).setCell ⟨g, k * 7 + 4, none⟩ (.int .i64 b4)).setCell ⟨g, k * 7 + 5, none⟩ (.int .i64 b5)) g (k * 7 + 6) (.int .i64 b6))), (((((((HX.out.far (p := ⟨g, k * 7, none⟩) (by simp; omega) _).far (p := ⟨g, k * 7 + 1, none⟩) (by simp; omega) _).far (p := ⟨g, k * 7 + 2, none⟩) (by simp; omega) _).far (p := ⟨g, k * 7 + 3, none⟩) (by simp; omega) _).far (p := ⟨g, k * 7 + 4, none⟩) (by simp; omega) _).far (p := ⟨g, k * 7 + 5, none⟩) (by simp; omega) _).far (p := ⟨g, k * 7 + 6, none⟩) (by simp; omega) _)⟩
        · intro i h1 h2
          by_cases hik : i = k
          · subst hik
            exact ⟨(by rw [set_ne_ (by omega), set_ne_ (by omega), set_ne_ (by omega), set_ne_ (by omega), set_ne_ (by omega), set_ne_ (by omega), set_eq_ (by (try simp); omega)]), (by rw [set_ne_ (by omega), set_ne_ (by omega), set_ne_ (by omega), set_ne_ (by omega), set_ne_ (by omega), set_eq_ (by (try simp); omega)]), (by rw [set_ne_ (by omega), set_ne_ (by omega), set_ne_ (by omega), set_ne_ (by omega), set_eq_ (by (try simp); omega)]), (by rw [set_ne_ (by omega), set_ne_ (by omega), set_ne_ (by omega), set_eq_ (by (try simp); omega)]), (by rw [set_ne_ (by omega), set_ne_ (by omega), set_eq_ (by (try simp); omega)]), (by rw [set_ne_ (by omega), set_eq_ (by (try simp); omega)]), (by rw [set_eq_ (by (try simp); omega)])⟩
          · obtain ⟨h_0, h_1, h_2, h_3, h_4, h_5, h_6⟩ := HI.out i h1 (by omega)
            exact ⟨(by rw [set_ne_ (by omega), set_ne_ (by omega), set_ne_ (by omega), set_ne_ (by omega), set_ne_ (by omega), set_ne_ (by omega), set_ne_ (by omega)]; exact h_0), (by rw [set_ne_ (by omega), set_ne_ (by omega), set_ne_ (by omega), set_ne_ (by omega), set_ne_ (by omega), set_ne_ (by omega), set_ne_ (by omega)]; exact h_1), (by rw [set_ne_ (by omega), set_ne_ (by omega), set_ne_ (by omega), set_ne_ (by omega), set_ne_ (by omega), set_ne_ (by omega), set_ne_ (by omega)]; exact h_2), (by rw [set_ne_ (by omega), set_ne_ (by omega), set_ne_ (by omega), set_ne_ (by omega), set_ne_ (by omega), set_ne_ (by omega), set_ne_ (by omega)]; exact h_3), (by rw [set_ne_ (by omega), set_ne_ (by omega), set_ne_ (by omega), set_ne_ (by omega), set_ne_ (by omega), set_ne_ (by omega), set_ne_ (by omega)]; exact h_4), (by rw [set_ne_ (by omega), set_ne_ (by omega), set_ne_ (by omega), set_ne_ (by omega), set_ne_ (by omega), set_ne_ (by omega), set_ne_ (by omega)]; exact h_5), (by rw [set_ne_ (by omega), set_ne_ (by omega), set_ne_ (by omega), set_ne_ (by omega), set_ne_ (by omega), set_ne_ (by omega), set_ne_ (by omega)]; exact h_6)⟩
        · intro p hp
          rw [set_ne_ (by omega), set_ne_ (by omega), set_ne_ (by omega), set_ne_ (by omega), set_ne_ (by omega), set_ne_ (by omega), set_ne_ (by omega)]
          exact HO.out p (by omega)
    · obtain rfl : k = c := by omega
      clear hB
      go_wp2
      exact bodyPost_end (results_none rfl _ _ _) rfl ⟨rfl, cur', HB.out, HS.out, HI.out, HO.out, HG.out⟩
set_option maxHeartbeats 4000000 in
set_option maxRecDepth 100000 in
theorem stands_offer (g n c : Nat) (m0 m1 m2 m3 m4 m5 m6 b0 b1 b2 b3 b4 b5 b6 : Int) (cur : Array Value) (w : World) (hk : Blk w g 124 cur) (hn : n ≤ c) (hc : c * 7 ≤ cur.size) (hb : c ≤ 4611686018427387904)
    (h1 : ∀ i, 0 ≤ i → i < n → cur[i * 7]? = some (.int .u64 m0) ∧ cur[i * 7 + 1]? = some (.int .u8 m1) ∧ cur[i * 7 + 2]? = some (.int .u8 m2) ∧ cur[i * 7 + 3]? = some (.int .u8 m3) ∧ cur[i * 7 + 4]? = some (.int .i64 m4) ∧ cur[i * 7 + 5]? = some (.int .i64 m5) ∧ cur[i * 7 + 6]? = some (.int .i64 m6)) (h2 : ∀ i, n ≤ i → i < c → cur[i * 7]? = some (.int .u64 b0) ∧ cur[i * 7 + 1]? = some (.int .u8 b1) ∧ cur[i * 7 + 2]? = some (.int .u8 b2) ∧ cur[i * 7 + 3]? = some (.int .u8 b3) ∧ cur[i * 7 + 4]? = some (.int .i64 b4) ∧ cur[i * 7 + 5]? = some (.int .i64 b5) ∧ cur[i * 7 + 6]? = some (.int .i64 b6)) :
    Calls Tryz.prog 125 #[row_offer (some ⟨g, 0, none⟩) n c m0 m1 m2 m3 m4 m5 m6 b0 b1 b2 b3 b4 b5 b6] w fun e w' => e = .returned (.bool true) ∧ Below w.heap.size w w' := by
  unfold row_offer
  have K := Lib.hid (Blk.new w 126 #[.slice (some ⟨g, 0, none⟩) n c, .int .u64 m0, .int .u8 m1, .int .u8 m2, .int .u8 m3, .int .i64 m4, .int .i64 m5, .int .i64 m6, .int .u64 b0, .int .u8 b1, .int .u8 b2, .int .u8 b3, .int .i64 b4, .int .i64 b5, .int .i64 b6])
  have HK := Lib.hid (hk.alloc (.cells #[.slice (some ⟨g, 0, none⟩) n c, .int .u64 m0, .int .u8 m1, .int .u8 m2, .int .u8 m3, .int .i64 m4, .int .i64 m5, .int .i64 m6, .int .u64 b0, .int .u8 b1, .int .u8 b2, .int .u8 b3, .int .i64 b4, .int .i64 b5, .int .i64 b6] 126))
  have H1 := Lib.hid h1
  have H2 := Lib.hid h2
  have hn' : (n : Int) ≤ c := by omega
  have hb' : (c : Int) ≤ 4611686018427387904 := by omega
  have kx := K.out
  have x0 := kx.cell 0
  have x1 := kx.cell 1
  have x2 := kx.cell 2
  have x3 := kx.cell 3
  have x4 := kx.cell 4
  have x5 := kx.cell 5
  have x6 := kx.cell 6
  have x7 := kx.cell 7
  have x8 := kx.cell 8
  have x9 := kx.cell 9
  have x10 := kx.cell 10
  have x11 := kx.cell 11
  have x12 := kx.cell 12
  have x13 := kx.cell 13
  have x14 := kx.cell 14
  simp only [List.getElem?_toArray, List.getElem?_cons_zero, List.getElem?_cons_succ] at x0 x1 x2 x3 x4 x5 x6 x7 x8 x9 x10 x11 x12 x13 x14
  clear hk h1 h2 kx
  have hnm : ∀ W, (binOp .neq 124 (.agg #[.int .u64 m0, .int .u8 m1, .int .u8 m2, .int .u8 m3, .int .i64 m4, .int .i64 m5, .int .i64 m6]) (.agg #[.int .u64 m0, .int .u8 m1, .int .u8 m2, .int .u8 m3, .int .i64 m4, .int .i64 m5, .int .i64 m6])).run Tryz.prog W = .ok (.bool false) W := fun W => by rw [run_neq_offer m0 m1 m2 m3 m4 m5 m6 m0 m1 m2 m3 m4 m5 m6 W]; simp
  have hnb : ∀ W, (binOp .neq 124 (.agg #[.int .u64 b0, .int .u8 b1, .int .u8 b2, .int .u8 b3, .int .i64 b4, .int .i64 b5, .int .i64 b6]) (.agg #[.int .u64 b0, .int .u8 b1, .int .u8 b2, .int .u8 b3, .int .i64 b4, .int .i64 b5, .int .i64 b6])).run Tryz.prog W = .ok (.bool false) W := fun W => by rw [run_neq_offer b0 b1 b2 b3 b4 b5 b6 b0 b1 b2 b3 b4 b5 b6 W]; simp
  go_enter Tryz.func125, Tryz.ntmps125
  go_wp2_with fail
  go_loopg [4] c (fun q x wr => ∃ k m : Nat, k ≤ c ∧ q = c - k ∧ x = .int .i64 k ∧ wr = (w.alloc (.cells #[.slice (some ⟨g, 0, none⟩) n c, .int .u64 m0, .int .u8 m1, .int .u8 m2, .int .u8 m3, .int .i64 m4, .int .i64 m5, .int .i64 m6, .int .u64 b0, .int .u8 b1, .int .u8 b2, .int .u8 b3, .int .i64 b4, .int .i64 b5, .int .i64 b6] 126)).drewN m)
  case atStart => exact ⟨0, 0, Nat.zero_le _, rfl, rfl, rfl⟩
  case round =>
    obtain ⟨k, m, hk, rfl, rfl, rfl⟩ := hrel
    by_cases hkc : k < c
    · have hkc' : (k : Int) < c := by omega
      have hk0 : (0 : Int) ≤ k := by omega
      by_cases hkn : k < n
      · have hkn' : (k : Int) < n := by omega
        have hkn2 : ¬ (n : Int) ≤ k := by omega
        have hd1 : decide ((k : Int) < n) = true := decide_eq_true hkn'
        have hd2 : decide ((n : Int) ≤ k) = false := decide_eq_false hkn2
        have hd3 : decide (n ≤ k) = false := decide_eq_false (by omega)
        have hd4 : ¬ n ≤ k := by omega
        obtain ⟨h_0, h_1, h_2, h_3, h_4, h_5, h_6⟩ := H1.out k (Nat.zero_le _) hkn
        have y0 : (w.alloc (.cells #[.slice (some ⟨g, 0, none⟩) n c, .int .u64 m0, .int .u8 m1, .int .u8 m2, .int .u8 m3, .int .i64 m4, .int .i64 m5, .int .i64 m6, .int .u64 b0, .int .u8 b1, .int .u8 b2, .int .u8 b3, .int .i64 b4, .int .i64 b5, .int .i64 b6] 126)).cell? ⟨g, k * 7, none⟩ = some (.int .u64 m0) := by rw [HK.out.cell]; exact h_0
        have y1 : (w.alloc (.cells #[.slice (some ⟨g, 0, none⟩) n c, .int .u64 m0, .int .u8 m1, .int .u8 m2, .int .u8 m3, .int .i64 m4, .int .i64 m5, .int .i64 m6, .int .u64 b0, .int .u8 b1, .int .u8 b2, .int .u8 b3, .int .i64 b4, .int .i64 b5, .int .i64 b6] 126)).cell? ⟨g, k * 7 + 1, none⟩ = some (.int .u8 m1) := by rw [HK.out.cell]; exact h_1
        have y2 : (w.alloc (.cells #[.slice (some ⟨g, 0, none⟩) n c, .int .u64 m0, .int .u8 m1, .int .u8 m2, .int .u8 m3, .int .i64 m4, .int .i64 m5, .int .i64 m6, .int .u64 b0, .int .u8 b1, .int .u8 b2, .int .u8 b3, .int .i64 b4, .int .i64 b5, .int .i64 b6] 126)).cell? ⟨g, k * 7 + 2, none⟩ = some (.int .u8 m2) := by rw [HK.out.cell]; exact h_2
        have y3 : (w.alloc (.cells #[.slice (some ⟨g, 0, none⟩) n c, .int .u64 m0, .int .u8 m1, .int .u8 m2, .int .u8 m3, .int .i64 m4, .int .i64 m5, .int .i64 m6, .int .u64 b0, .int .u8 b1, .int .u8 b2, .int .u8 b3, .int .i64 b4, .int .i64 b5, .int .i64 b6] 126)).cell? ⟨g, k * 7 + 3, none⟩ = some (.int .u8 m3) := by rw [HK.out.cell]; exact h_3
        have y4 : (w.alloc (.cells #[.slice (some ⟨g, 0, none⟩) n c, .int .u64 m0, .int .u8 m1, .int .u8 m2, .int .u8 m3, .int .i64 m4, .int .i64 m5, .int .i64 m6, .int .u64 b0, .int .u8 b1, .int .u8 b2, .int .u8 b3, .int .i64 b4, .int .i64 b5, .int .i64 b6] 126)).cell? ⟨g, k * 7 + 4, none⟩ = some (.int .i64 m4) := by rw [HK.out.cell]; exact h_4
        have y5 : (w.alloc (.cells #[.slice (some ⟨g, 0, none⟩) n c, .int .u64 m0, .int .u8 m1, .int .u8 m2, .int .u8 m3, .int .i64 m4, .int .i64 m5, .int .i64 m6, .int .u64 b0, .int .u8 b1, .int .u8 b2, .int .u8 b3, .int .i64 b4, .int .i64 b5, .int .i64 b6] 126)).cell? ⟨g, k * 7 + 5, none⟩ = some (.int .i64 m5) := by rw [HK.out.cell]; exact h_5
        have y6 : (w.alloc (.cells #[.slice (some ⟨g, 0, none⟩) n c, .int .u64 m0, .int .u8 m1, .int .u8 m2, .int .u8 m3, .int .i64 m4, .int .i64 m5, .int .i64 m6, .int .u64 b0, .int .u8 b1, .int .u8 b2, .int .u8 b3, .int .i64 b4, .int .i64 b5, .int .i64 b6] 126)).cell? ⟨g, k * 7 + 6, none⟩ = some (.int .i64 m6) := by rw [HK.out.cell]; exact h_6
        clear h_0 h_1 h_2 h_3 h_4 h_5 h_6
        go_wp2_with fail
        go_quiet (fail)
        go_wp2
        go_roundg (c - (k + 1))
        case measure => omega
        case rel => exact ⟨k + 1, _, by omega, rfl, by go_num, rfl⟩
      · have hkn' : ¬ (k : Int) < n := by omega
        have hkn2 : (n : Int) ≤ k := by omega
        have hd1 : decide ((k : Int) < n) = false := decide_eq_false hkn'
        have hd2 : decide ((n : Int) ≤ k) = true := decide_eq_true hkn2
        have hd3 : decide (n ≤ k) = true := decide_eq_true (by omega)
        have hd4 : n ≤ k := by omega
        obtain ⟨h_0, h_1, h_2, h_3, h_4, h_5, h_6⟩ := H2.out k (by omega) hkc
        have y0 : (w.alloc (.cells #[.slice (some ⟨g, 0, none⟩) n c, .int .u64 m0, .int .u8 m1, .int .u8 m2, .int .u8 m3, .int .i64 m4, .int .i64 m5, .int .i64 m6, .int .u64 b0, .int .u8 b1, .int .u8 b2, .int .u8 b3, .int .i64 b4, .int .i64 b5, .int .i64 b6] 126)).cell? ⟨g, k * 7, none⟩ = some (.int .u64 b0) := by rw [HK.out.cell]; exact h_0
        have y1 : (w.alloc (.cells #[.slice (some ⟨g, 0, none⟩) n c, .int .u64 m0, .int .u8 m1, .int .u8 m2, .int .u8 m3, .int .i64 m4, .int .i64 m5, .int .i64 m6, .int .u64 b0, .int .u8 b1, .int .u8 b2, .int .u8 b3, .int .i64 b4, .int .i64 b5, .int .i64 b6] 126)).cell? ⟨g, k * 7 + 1, none⟩ = some (.int .u8 b1) := by rw [HK.out.cell]; exact h_1
        have y2 : (w.alloc (.cells #[.slice (some ⟨g, 0, none⟩) n c, .int .u64 m0, .int .u8 m1, .int .u8 m2, .int .u8 m3, .int .i64 m4, .int .i64 m5, .int .i64 m6, .int .u64 b0, .int .u8 b1, .int .u8 b2, .int .u8 b3, .int .i64 b4, .int .i64 b5, .int .i64 b6] 126)).cell? ⟨g, k * 7 + 2, none⟩ = some (.int .u8 b2) := by rw [HK.out.cell]; exact h_2
        have y3 : (w.alloc (.cells #[.slice (some ⟨g, 0, none⟩) n c, .int .u64 m0, .int .u8 m1, .int .u8 m2, .int .u8 m3, .int .i64 m4, .int .i64 m5, .int .i64 m6, .int .u64 b0, .int .u8 b1, .int .u8 b2, .int .u8 b3, .int .i64 b4, .int .i64 b5, .int .i64 b6] 126)).cell? ⟨g, k * 7 + 3, none⟩ = some (.int .u8 b3) := by rw [HK.out.cell]; exact h_3
        have y4 : (w.alloc (.cells #[.slice (some ⟨g, 0, none⟩) n c, .int .u64 m0, .int .u8 m1, .int .u8 m2, .int .u8 m3, .int .i64 m4, .int .i64 m5, .int .i64 m6, .int .u64 b0, .int .u8 b1, .int .u8 b2, .int .u8 b3, .int .i64 b4, .int .i64 b5, .int .i64 b6] 126)).cell? ⟨g, k * 7 + 4, none⟩ = some (.int .i64 b4) := by rw [HK.out.cell]; exact h_4
        have y5 : (w.alloc (.cells #[.slice (some ⟨g, 0, none⟩) n c, .int .u64 m0, .int .u8 m1, .int .u8 m2, .int .u8 m3, .int .i64 m4, .int .i64 m5, .int .i64 m6, .int .u64 b0, .int .u8 b1, .int .u8 b2, .int .u8 b3, .int .i64 b4, .int .i64 b5, .int .i64 b6] 126)).cell? ⟨g, k * 7 + 5, none⟩ = some (.int .i64 b5) := by rw [HK.out.cell]; exact h_5
        have y6 : (w.alloc (.cells #[.slice (some ⟨g, 0, none⟩) n c, .int .u64 m0, .int .u8 m1, .int .u8 m2, .int .u8 m3, .int .i64 m4, .int .i64 m5, .int .i64 m6, .int .u64 b0, .int .u8 b1, .int .u8 b2, .int .u8 b3, .int .i64 b4, .int .i64 b5, .int .i64 b6] 126)).cell? ⟨g, k * 7 + 6, none⟩ = some (.int .i64 b6) := by rw [HK.out.cell]; exact h_6
        clear h_0 h_1 h_2 h_3 h_4 h_5 h_6
        go_wp2_with fail
        go_quiet (fail)
        go_wp2
        go_roundg (c - (k + 1))
        case measure => omega
        case rel => exact ⟨k + 1, _, by omega, rfl, by go_num, rfl⟩
    · obtain rfl : c = k := by omega
      go_wp2
      go_ret
      exact ⟨rfl, (below_alloc_ w (.cells #[.slice (some ⟨g, 0, none⟩) n c, .int .u64 m0, .int .u8 m1, .int .u8 m2, .int .u8 m3, .int .i64 m4, .int .i64 m5, .int .i64 m6, .int .u64 b0, .int .u8 b1, .int .u8 b2, .int .u8 b3, .int .i64 b4, .int .i64 b5, .int .i64 b6] 126)).trans ((below_drewN_ (w.alloc (.cells #[.slice (some ⟨g, 0, none⟩) n c, .int .u64 m0, .int .u8 m1, .int .u8 m2, .int .u8 m3, .int .i64 m4, .int .i64 m5, .int .i64 m6, .int .u64 b0, .int .u8 b1, .int .u8 b2, .int .u8 b3, .int .i64 b4, .int .i64 b5, .int .i64 b6] 126)).heap.size _ _).mono (by simp))⟩
end Go.Proofs.YtielnocnnffdfaaGreat
