import Derived.Test.YtenobcfgapolhaaMem
import Derived.Test.YtenobcfgapolhaaMemB
/- Small facts on arrays' cells. -/
namespace Go.Proofs.Ytenobcfgapolhaa
open Go.RowKit

theorem set_ne_ {cur : Array Value} {a i : Nat} {u : Value} (h : a ≠ i) : (cur.setIfInBounds a u)[i]? = cur[i]? := Array.getElem?_setIfInBounds_ne h
theorem set_eq_ {cur : Array Value} {a : Nat} {u : Value} (h : a < cur.size) : (cur.setIfInBounds a u)[a]? = some u := by
  rw [Array.getElem?_setIfInBounds]; simp [h]
theorem one_of {α : Type} : ∀ {l : List α}, l.length = 1 → ∃ a, l = [a]
  | [a], _ => ⟨a, rfl⟩
end Go.Proofs.Ytenobcfgapolhaa

/- law01: a page (byte): written over, and behind; whether it stands. -/
namespace Go.Proofs.Ytenobcfgapolhaa
open Go.RowKit

abbrev row_byte (A : Option Addr) (n c : Nat) (m0 b0 : Int) : Value := .agg #[.slice A n c, .int .u8 m0, .int .u8 b0]
set_option maxHeartbeats 2000000 in
theorem write_byte_none (m0 b0 : Int) (w : World) : Calls Try.prog 88 #[row_byte none 0 0 m0 b0] w fun e w' => e = .returned (.tuple #[]) ∧ Below w.heap.size w w' := by
  unfold row_byte
  go_enter Try.func88, Try.ntmps88
  go_wp2
  refine wp_loop_rounds 1 ?_
  rw [rounds_succ]
  go_wp2
  exact bodyPost_end (results_none rfl _ _ _) rfl ⟨rfl, below_alloc_ _ _⟩
set_option maxHeartbeats 2000000 in
theorem behind_byte_none (m0 b0 : Int) (w : World) : Calls Try.prog 89 #[row_byte none 0 0 m0 b0] w fun e w' => e = .returned (.tuple #[]) ∧ Below w.heap.size w w' := by
  unfold row_byte
  go_enter Try.func89, Try.ntmps89
  go_wp2
  refine wp_loop_rounds 1 ?_
  rw [rounds_succ]
  go_wp2
  exact bodyPost_end (results_none rfl _ _ _) rfl ⟨rfl, below_alloc_ _ _⟩
set_option maxHeartbeats 2000000 in
theorem stands_byte_none (m0 b0 : Int) (w : World) : Calls Try.prog 87 #[row_byte none 0 0 m0 b0] w fun e w' => e = .returned (.bool true) ∧ Below w.heap.size w w' := by
  unfold row_byte
  go_enter Try.func87, Try.ntmps87
  go_wp2
  refine wp_loop_rounds 1 ?_
  rw [rounds_succ]
  go_wp2
  go_ret
  exact ⟨rfl, below_alloc_ _ _⟩
set_option maxHeartbeats 4000000 in
set_option maxRecDepth 100000 in
theorem write_byte (g n c : Nat) (m0 b0 : Int) (cur : Array Value) (w : World) (hk : Blk w g 5 cur) (hn : n ≤ c) (hc : c * 1 ≤ cur.size) (hb : c ≤ 4611686018427387904) :
    Calls Try.prog 88 #[row_byte (some ⟨g, 0, none⟩) n c m0 b0] w fun e w' => e = .returned (.tuple #[]) ∧ ∃ cur', Blk w' g 5 cur' ∧ cur'.size = cur.size ∧ (∀ i, 0 ≤ i → i < n → cur'[i]? = some (.int .u8 m0)) ∧ (∀ p, p < 0 ∨ n ≤ p → cur'[p]? = cur[p]?) ∧ w.grownBy w' (some g) := by
  unfold row_byte
  have K := Lib.hid (Blk.new w 70 #[.slice (some ⟨g, 0, none⟩) n c, .int .u8 m0, .int .u8 b0])
  have HK := Lib.hid (hk.alloc (.cells #[.slice (some ⟨g, 0, none⟩) n c, .int .u8 m0, .int .u8 b0] 70))
  have hgl := hk.lt
  have hn' : (n : Int) ≤ c := by omega
  have hb' : (c : Int) ≤ 4611686018427387904 := by omega
  have G0 := Lib.hid (show w.grownBy _ (some g) from grown_below_ (below_alloc_ w (.cells #[.slice (some ⟨g, 0, none⟩) n c, .int .u8 m0, .int .u8 b0] 70)) (some g))
  clear hk
  go_enter Try.func88, Try.ntmps88
  go_wp2_with fail
  go_loopg [2] (n - 0) (fun q x wr => ∃ (k : Nat) (cur' : Array Value), 0 ≤ k ∧ k ≤ n ∧ q = n - k ∧ x = .int .i64 k ∧ Blk wr g 5 cur' ∧ cur'.size = cur.size ∧ (∀ i, 0 ≤ i → i < k → cur'[i]? = some (.int .u8 m0)) ∧ (∀ p, p < 0 ∨ k ≤ p → cur'[p]? = cur[p]?) ∧ w.grownBy wr (some g) ∧ Blk wr w.heap.size 70 #[.slice (some ⟨g, 0, none⟩) n c, .int .u8 m0, .int .u8 b0])
  case atStart => exact ⟨0, cur, Nat.le_refl _, by omega, rfl, rfl, HK.out, rfl, fun i _ _ => by omega, fun _ _ => rfl, G0.out, K.out⟩
  case round =>
    obtain ⟨k, cur', hlk, hk, rfl, rfl, hB, hsz, hin, hot, hg, hbx⟩ := hrel
    have HB := Lib.hid hB
    have HI := Lib.hid hin
    have HO := Lib.hid hot
    have HG := Lib.hid hg
    have HX := Lib.hid hbx
    have HS := Lib.hid hsz
    have f := hB.free
    have x0 := hbx.cell 0
    have x1 := hbx.cell 1
    have x2 := hbx.cell 2
    simp only [List.getElem?_toArray, List.getElem?_cons_zero, List.getElem?_cons_succ] at x0 x1 x2
    clear hin hot hg hbx
    by_cases hkn : k < n
    · have hkn' : (k : Int) < n := by omega
      have hk0 : (0 : Int) ≤ k := by omega
      have hz0 : k < cur'.size := by omega
      have y0 : wr.cell? ⟨g, k, none⟩ = some (cur'[k]'hz0) := by rw [hB.cell]; simp [hz0]
      clear hB
      go_wp2
      go_roundg (n - (k + 1))
      case measure => omega
      case rel =>
        refine ⟨k + 1, (cur'.setIfInBounds (k) (.int .u8 m0)), by omega, by omega, rfl, by go_num, (HB.out.set_ (k) (.int .u8 m0)), by simp [HS.out], ?_, ?_, (grown_trans_ HG.out (grown_set_ wr g (k) (.int .u8 m0))), (HX.out.far (p := ⟨g, k, none⟩) (by simp; omega) _)⟩
        · intro i h1 h2
          by_cases hik : i = k
          · subst hik
            exact (by rw [set_eq_ (by (try simp); omega)])
          · have h_0 := HI.out i h1 (by omega)
            exact (by rw [set_ne_ (by omega)]; exact h_0)
        · intro p hp
          rw [set_ne_ (by omega)]
          exact HO.out p (by omega)
    · obtain rfl : k = n := by omega
      clear hB
      go_wp2
      exact bodyPost_end (results_none rfl _ _ _) rfl ⟨rfl, cur', HB.out, HS.out, HI.out, HO.out, HG.out⟩
set_option maxHeartbeats 4000000 in
set_option maxRecDepth 100000 in
theorem behind_byte (g n c : Nat) (m0 b0 : Int) (cur : Array Value) (w : World) (hk : Blk w g 5 cur) (hn : n ≤ c) (hc : c * 1 ≤ cur.size) (hb : c ≤ 4611686018427387904) :
    Calls Try.prog 89 #[row_byte (some ⟨g, 0, none⟩) n c m0 b0] w fun e w' => e = .returned (.tuple #[]) ∧ ∃ cur', Blk w' g 5 cur' ∧ cur'.size = cur.size ∧ (∀ i, n ≤ i → i < c → cur'[i]? = some (.int .u8 b0)) ∧ (∀ p, p < n ∨ c ≤ p → cur'[p]? = cur[p]?) ∧ w.grownBy w' (some g) := by
  unfold row_byte
  have K := Lib.hid (Blk.new w 70 #[.slice (some ⟨g, 0, none⟩) n c, .int .u8 m0, .int .u8 b0])
  have HK := Lib.hid (hk.alloc (.cells #[.slice (some ⟨g, 0, none⟩) n c, .int .u8 m0, .int .u8 b0] 70))
  have hgl := hk.lt
  have hn' : (n : Int) ≤ c := by omega
  have hb' : (c : Int) ≤ 4611686018427387904 := by omega
  have G0 := Lib.hid (show w.grownBy _ (some g) from grown_below_ (below_alloc_ w (.cells #[.slice (some ⟨g, 0, none⟩) n c, .int .u8 m0, .int .u8 b0] 70)) (some g))
  clear hk
  go_enter Try.func89, Try.ntmps89
  go_wp2_with fail
  go_loopg [3] (c - n) (fun q x wr => ∃ (k : Nat) (cur' : Array Value), n ≤ k ∧ k ≤ c ∧ q = c - k ∧ x = .int .i64 k ∧ Blk wr g 5 cur' ∧ cur'.size = cur.size ∧ (∀ i, n ≤ i → i < k → cur'[i]? = some (.int .u8 b0)) ∧ (∀ p, p < n ∨ k ≤ p → cur'[p]? = cur[p]?) ∧ w.grownBy wr (some g) ∧ Blk wr w.heap.size 70 #[.slice (some ⟨g, 0, none⟩) n c, .int .u8 m0, .int .u8 b0])
  case atStart => exact ⟨n, cur, Nat.le_refl _, by omega, rfl, rfl, HK.out, rfl, fun i _ _ => by omega, fun _ _ => rfl, G0.out, K.out⟩
  case round =>
    obtain ⟨k, cur', hlk, hk, rfl, rfl, hB, hsz, hin, hot, hg, hbx⟩ := hrel
    have HB := Lib.hid hB
    have HI := Lib.hid hin
    have HO := Lib.hid hot
    have HG := Lib.hid hg
    have HX := Lib.hid hbx
    have HS := Lib.hid hsz
    have f := hB.free
    have x0 := hbx.cell 0
    have x1 := hbx.cell 1
    have x2 := hbx.cell 2
    simp only [List.getElem?_toArray, List.getElem?_cons_zero, List.getElem?_cons_succ] at x0 x1 x2
    clear hin hot hg hbx
    by_cases hkn : k < c
    · have hkn' : (k : Int) < c := by omega
      have hk0 : (0 : Int) ≤ k := by omega
      have hz0 : k < cur'.size := by omega
      have y0 : wr.cell? ⟨g, k, none⟩ = some (cur'[k]'hz0) := by rw [hB.cell]; simp [hz0]
      clear hB
      go_wp2
      go_roundg (c - (k + 1))
      case measure => omega
      case rel =>
        refine ⟨k + 1, (cur'.setIfInBounds (k) (.int .u8 b0)), by omega, by omega, rfl, by go_num, (HB.out.set_ (k) (.int .u8 b0)), by simp [HS.out], ?_, ?_, (grown_trans_ HG.out (grown_set_ wr g (k) (.int .u8 b0))), (HX.out.far (p := ⟨g, k, none⟩) (by simp; omega) _)⟩
        · intro i h1 h2
          by_cases hik : i = k
          · subst hik
            exact (by rw [set_eq_ (by (try simp); omega)])
          · have h_0 := HI.out i h1 (by omega)
            exact (by rw [set_ne_ (by omega)]; exact h_0)
        · intro p hp
          rw [set_ne_ (by omega)]
          exact HO.out p (by omega)
    · obtain rfl : k = c := by omega
      clear hB
      go_wp2
      exact bodyPost_end (results_none rfl _ _ _) rfl ⟨rfl, cur', HB.out, HS.out, HI.out, HO.out, HG.out⟩
set_option maxHeartbeats 4000000 in
set_option maxRecDepth 100000 in
theorem stands_byte (g n c : Nat) (m0 b0 : Int) (cur : Array Value) (w : World) (hk : Blk w g 5 cur) (hn : n ≤ c) (_hc : c * 1 ≤ cur.size) (hb : c ≤ 4611686018427387904)
    (h1 : ∀ i, 0 ≤ i → i < n → cur[i]? = some (.int .u8 m0)) (h2 : ∀ i, n ≤ i → i < c → cur[i]? = some (.int .u8 b0)) :
    Calls Try.prog 87 #[row_byte (some ⟨g, 0, none⟩) n c m0 b0] w fun e w' => e = .returned (.bool true) ∧ Below w.heap.size w w' := by
  unfold row_byte
  have K := Lib.hid (Blk.new w 70 #[.slice (some ⟨g, 0, none⟩) n c, .int .u8 m0, .int .u8 b0])
  have HK := Lib.hid (hk.alloc (.cells #[.slice (some ⟨g, 0, none⟩) n c, .int .u8 m0, .int .u8 b0] 70))
  have H1 := Lib.hid h1
  have H2 := Lib.hid h2
  have hn' : (n : Int) ≤ c := by omega
  have hb' : (c : Int) ≤ 4611686018427387904 := by omega
  have kx := K.out
  have x0 := kx.cell 0
  have x1 := kx.cell 1
  have x2 := kx.cell 2
  simp only [List.getElem?_toArray, List.getElem?_cons_zero, List.getElem?_cons_succ] at x0 x1 x2
  clear hk h1 h2 kx
  have hnm : (m0 != m0) = false := by simp
  have hnb : (b0 != b0) = false := by simp
  go_enter Try.func87, Try.ntmps87
  go_wp2_with fail
  go_loopg [4] c (fun q x wr => ∃ k m : Nat, k ≤ c ∧ q = c - k ∧ x = .int .i64 k ∧ wr = (w.alloc (.cells #[.slice (some ⟨g, 0, none⟩) n c, .int .u8 m0, .int .u8 b0] 70)).drewN m)
  case atStart => exact ⟨0, 0, Nat.zero_le _, rfl, rfl, rfl⟩
  case round =>
    obtain ⟨k, m, hk, rfl, rfl, rfl⟩ := hrel
    by_cases hkc : k < c
    · have hkc' : (k : Int) < c := by omega
      have hk0 : (0 : Int) ≤ k := by omega
      by_cases hkn : k < n
      · have hkn' : (k : Int) < n := by omega
        have hkn2 : ¬ (n : Int) ≤ k := by omega
        have hd1 : decide ((k : Int) < n) = true := decide_eq_true hkn'
        have hd2 : decide ((n : Int) ≤ k) = false := decide_eq_false hkn2
        have hd3 : decide (n ≤ k) = false := decide_eq_false (by omega)
        have hd4 : ¬ n ≤ k := by omega
        have h_0 := H1.out k (Nat.zero_le _) hkn
        have y0 : (w.alloc (.cells #[.slice (some ⟨g, 0, none⟩) n c, .int .u8 m0, .int .u8 b0] 70)).cell? ⟨g, k, none⟩ = some (.int .u8 m0) := by rw [HK.out.cell]; exact h_0
        clear h_0
        go_wp2_with fail
        go_quiet (fail)
        go_wp2
        go_roundg (c - (k + 1))
        case measure => omega
        case rel => exact ⟨k + 1, _, by omega, rfl, by go_num, rfl⟩
      · have hkn' : ¬ (k : Int) < n := by omega
        have hkn2 : (n : Int) ≤ k := by omega
        have hd1 : decide ((k : Int) < n) = false := decide_eq_false hkn'
        have hd2 : decide ((n : Int) ≤ k) = true := decide_eq_true hkn2
        have hd3 : decide (n ≤ k) = true := decide_eq_true (by omega)
        have hd4 : n ≤ k := by omega
        have h_0 := H2.out k (by omega) hkc
        have y0 : (w.alloc (.cells #[.slice (some ⟨g, 0, none⟩) n c, .int .u8 m0, .int .u8 b0] 70)).cell? ⟨g, k, none⟩ = some (.int .u8 b0) := by rw [HK.out.cell]; exact h_0
        clear h_0
        go_wp2_with fail
        go_quiet (fail)
        go_wp2
        go_roundg (c - (k + 1))
        case measure => omega
        case rel => exact ⟨k + 1, _, by omega, rfl, by go_num, rfl⟩
    · obtain rfl : c = k := by omega
      go_wp2
      go_ret
      exact ⟨rfl, (below_alloc_ w (.cells #[.slice (some ⟨g, 0, none⟩) n c, .int .u8 m0, .int .u8 b0] 70)).trans ((below_drewN_ (w.alloc (.cells #[.slice (some ⟨g, 0, none⟩) n c, .int .u8 m0, .int .u8 b0] 70)).heap.size _ _).mono (by simp))⟩
end Go.Proofs.Ytenobcfgapolhaa
