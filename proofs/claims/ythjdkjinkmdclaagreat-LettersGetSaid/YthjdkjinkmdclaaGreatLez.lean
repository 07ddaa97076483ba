import Derived.Test.YthjdkjinkmdclaaGreatPkg
import Derived.Test.YthjdkjinkmdclaaGreatSml
import Derived.Laws.StructEq
import Derived.Test.YthjdkjinkmdclaaGreatMem
import Derived.Test.YthjdkjinkmdclaaGreatMemB
import Derived.Test.YthjdkjinkmdclaaGreatSms
import Derived.Test.YthjdkjinkmdclaaGreatRow
import Derived.Test.YthjdkjinkmdclaaGreatAll
import Derived.Test.YthjdkjinkmdclaaGreatLge
import Derived.Test.YthjdkjinkmdclaaGreatPcr
import Derived.Test.YthjdkjinkmdclaaGreatLhz
import Derived.Test.YthjdkjinkmdclaaGreatSmc
import Derived.Test.YthjdkjinkmdclaaGreatLbz
import Derived.Test.YthjdkjinkmdclaaGreatLfz
import Derived.Test.YthjdkjinkmdclaaGreatLiz
import Derived.Test.YthjdkjinkmdclaaGreatLr6
import Derived.Test.YthjdkjinkmdclaaGreatLr7
import Derived.Test.YthjdkjinkmdclaaGreatLr5a
import Derived.Test.YthjdkjinkmdclaaGreatLr5b
import Derived.Test.YthjdkjinkmdclaaGreatLr3a
import Derived.Test.YthjdkjinkmdclaaGreatLr3b
import Derived.Test.YthjdkjinkmdclaaGreatLr3d
import Derived.Test.YthjdkjinkmdclaaGreatLcz
import Derived.ProofKit
import Derived.OpenShut
import Derived.Deep.Slices
import Derived.ChangeSlices
/- law01: whether two lists are the same (api.Got). -/
namespace Go.Proofs.YthjdkjinkmdclaaGreat
open Go.RowKit

theorem run_neq_got (x0 x1 y0 y1 : Int) (w : World) : (binOp .neq 108 (.agg #[.int .i64 x0, .int .i64 x1]) (.agg #[.int .i64 y0, .int .i64 y1])).run Tryz.prog w = .ok (.bool (!decide ([x0, x1] = [y0, y1]))) w := by
  have u0 := Tryz.underlying2
  have a0 := Tryz.isAgg2
  have s0 := Tryz.sizeOf2
  have hS : Tryz.prog.underlying 108 = some (.struct (Tryz.prog.fieldsOf 108)) := by kernel_rfl
  have hp : Tryz.prog.stoodInHeld 108 = false := by kernel_rfl
  rw [run_neq_struct, show (10000 : Nat) = 9999 + 1 from rfl, run_equalIn_agg w 9999 108 _ _ hS hp]
  simp only [Program.fieldsOf, Tryz.underlying108]
  go_simp
  by_cases h0 : x0 = y0
  rotate_left
  · simp [h0]
  subst h0
  by_cases h1 : x1 = y1 <;> simp [h1]

theorem same_gots (xs ys : List (List Int)) (hx0 : ∀ q ∈ xs, q.length = 2) (hy0 : ∀ q ∈ ys, q.length = 2) (v u : Value) (w : World) (hv : Gots w v xs) (hu : Gots w u ys) (hb : xs.length ≤ 4611686018427387904) :
    Calls Tryz.prog 55 #[v, u] w fun e w' => e = .returned (.bool (decide (xs = ys))) ∧ ∃ m, w' = w.drewN m := by
  by_cases hl : xs.length = ys.length
  · by_cases h0 : xs = []
    · subst h0
      have hy : ys = [] := List.eq_nil_of_length_eq_zero (by simpa using hl.symm)
      subst hy
      obtain ⟨A, c, rfl, -⟩ := hv
      obtain ⟨B, d, rfl, -⟩ := hu
      go_enter Tryz.func55, Tryz.ntmps55
      go_wp2
      refine wp_loop_rounds 1 ?_
      rw [rounds_succ]
      go_wp2
      go_ret
      exact ⟨by simp, 0, rfl⟩
    · have hpos : 0 < xs.length := List.length_pos_iff.2 h0
      obtain ⟨g, o, c, rfl, hc, hg, hcell⟩ := Rd.at_ fcgot_len hv hpos
      obtain ⟨g', o', d, rfl, hd, hg', hcell'⟩ := Rd.at_ fcgot_len hu (by omega)
      obtain ⟨n, hn⟩ : ∃ n, n = xs.length := ⟨_, rfl⟩
      have hn' : n = ys.length := hn.trans hl
      have HN := Lib.hid hn
      have HN' := Lib.hid hn'
      have hb' : (n : Int) ≤ 4611686018427387904 := by omega
      have HC := Lib.hid hcell
      have HC' := Lib.hid hcell'
      have HX := Lib.hid hx0
      have HY := Lib.hid hy0
      rw [← hn, ← hn']
      have hcn : n ≤ c := by omega
      have hdn : n ≤ d := by omega
      clear hcell hcell' hn hn' hl h0 hc hd hb hpos hv hu hx0 hy0
      go_enter Tryz.func55, Tryz.ntmps55
      go_wp2
      go_loopw [5] (fun i wr => ∃ k m : Nat, k ≤ n ∧ i = .int .i64 k ∧ wr = w.drewN m ∧ xs.take k = ys.take k) (fun i _ => n - (intOf i).toNat)
      case atStart => exact ⟨0, 0, Nat.zero_le _, rfl, rfl, rfl⟩
      case round =>
        obtain ⟨k, m, hk, rfl, rfl, ht⟩ := hrel
        have HT := Lib.hid ht
        clear ht
        by_cases hkn : k < n
        · have hx : k < xs.length := by have := HN.out; omega
          have hy : k < ys.length := by have := HN'.out; omega
          obtain ⟨x0, x1, hp⟩ := got_of (HX.out _ (List.getElem_mem hx))
          obtain ⟨y0, y1, hq⟩ := got_of (HY.out _ (List.getElem_mem hy))
          have cx0 : w.cell? ⟨g, o + k * 2, none⟩ = some (.int .i64 x0) := by have := HC.out k hx 0 (.int .i64 x0) (by omega) (by rw [hp]; rfl); simpa using this
          have cx1 : w.cell? ⟨g, o + k * 2 + 1, none⟩ = some (.int .i64 x1) := by have := HC.out k hx 1 (.int .i64 x1) (by omega) (by rw [hp]; rfl); simpa using this
          have cy0 : w.cell? ⟨g', o' + k * 2, none⟩ = some (.int .i64 y0) := by have := HC'.out k hy 0 (.int .i64 y0) (by omega) (by rw [hq]; rfl); simpa using this
          have cy1 : w.cell? ⟨g', o' + k * 2 + 1, none⟩ = some (.int .i64 y1) := by have := HC'.out k hy 1 (.int .i64 y1) (by omega) (by rw [hq]; rfl); simpa using this
          have HP := Lib.hid hp
          have HQ := Lib.hid hq
          clear hp hq
          obtain ⟨t, ht⟩ : ∃ t, (!decide ([x0, x1] = [y0, y1])) = t := ⟨_, rfl⟩
          have hneq : ∀ W, (binOp .neq 108 (.agg #[.int .i64 x0, .int .i64 x1]) (.agg #[.int .i64 y0, .int .i64 y1])).run Tryz.prog W = .ok (.bool t) W := fun W => by
            rw [← ht]; exact run_neq_got x0 x1 y0 y1 W
          have HTT := Lib.hid ht
          clear ht
          go_wp2_with fail
          go_quiet (fail)
          cases t
          · go_wp2
            have he : [x0, x1] = [y0, y1] := by
              have h1 := HTT.out
              simpa only [Bool.not_eq_false', decide_eq_true_eq] using h1
            exact ⟨⟨k + 1, _, by omega, by go_num, rfl, take_snoc_same xs ys k hx hy HT.out (by rw [HP.out, HQ.out, he])⟩, by simp [intOf]; omega⟩
          · go_wp2
            go_ret
            refine ⟨?_, _, World.drewN_drewN _ _ _⟩
            have : ¬ xs = ys := fun e => by
              have h1 : xs[k] = ys[k] := by subst e; rfl
              rw [HP.out, HQ.out] at h1
              have h2 := HTT.out
              rw [h1] at h2
              simp at h2
            rw [decide_eq_false this]; rfl
        · obtain rfl : k = n := by omega
          go_wp2
          go_ret
          refine ⟨?_, _, rfl⟩
          have : xs = ys := by
            have h1 := HT.out
            rw [List.take_of_length_le (by have := HN.out; omega), List.take_of_length_le (by have := HN'.out; omega)] at h1
            exact h1
          rw [decide_eq_true this]; rfl
  · have hl' : ¬ (xs.length : Int) = (ys.length : Int) := by omega
    have hne : ¬ xs = ys := fun e => hl (by rw [e])
    have D := Lib.hid (decide_eq_false hne)
    obtain ⟨A, c, rfl, -⟩ := hv
    obtain ⟨B, d, rfl, -⟩ := hu
    clear hne
    go_enter Tryz.func55, Tryz.ntmps55
    go_wp2
    go_ret
    exact ⟨by rw [D.out]; rfl, 0, rfl⟩
end Go.Proofs.YthjdkjinkmdclaaGreat

/- Small facts on arrays' cells. -/
namespace Go.Proofs.YthjdkjinkmdclaaGreat
open Go.RowKit

theorem set_ne_ {cur : Array Value} {a i : Nat} {u : Value} (h : a ≠ i) : (cur.setIfInBounds a u)[i]? = cur[i]? := Array.getElem?_setIfInBounds_ne h
theorem set_eq_ {cur : Array Value} {a : Nat} {u : Value} (h : a < cur.size) : (cur.setIfInBounds a u)[a]? = some u := by
  rw [Array.getElem?_setIfInBounds]; simp [h]
theorem one_of {α : Type} : ∀ {l : List α}, l.length = 1 → ∃ a, l = [a]
  | [a], _ => ⟨a, rfl⟩
end Go.Proofs.YthjdkjinkmdclaaGreat

/- law01: a page (byte): written over, and behind; whether it stands. -/
namespace Go.Proofs.YthjdkjinkmdclaaGreat
open Go.RowKit

abbrev row_byte (A : Option Addr) (n c : Nat) (m0 b0 : Int) : Value := .agg #[.slice A n c, .int .u8 m0, .int .u8 b0]
set_option maxHeartbeats 2000000 in
theorem write_byte_none (m0 b0 : Int) (w : World) : Calls Tryz.prog 114 #[row_byte none 0 0 m0 b0] w fun e w' => e = .returned (.tuple #[]) ∧ Below w.heap.size w w' := by
  unfold row_byte
  go_enter Tryz.func114, Tryz.ntmps114
  go_wp2
  refine wp_loop_rounds 1 ?_
  rw [rounds_succ]
  go_wp2
  exact bodyPost_end (results_none rfl _ _ _) rfl ⟨rfl, below_alloc_ _ _⟩
set_option maxHeartbeats 2000000 in
theorem behind_byte_none (m0 b0 : Int) (w : World) : Calls Tryz.prog 115 #[row_byte none 0 0 m0 b0] w fun e w' => e = .returned (.tuple #[]) ∧ Below w.heap.size w w' := by
  unfold row_byte
  go_enter Tryz.func115, Tryz.ntmps115
  go_wp2
  refine wp_loop_rounds 1 ?_
  rw [rounds_succ]
  go_wp2
  exact bodyPost_end (results_none rfl _ _ _) rfl ⟨rfl, below_alloc_ _ _⟩
set_option maxHeartbeats 2000000 in
theorem stands_byte_none (m0 b0 : Int) (w : World) : Calls Tryz.prog 113 #[row_byte none 0 0 m0 b0] w fun e w' => e = .returned (.bool true) ∧ Below w.heap.size w w' := by
  unfold row_byte
  go_enter Tryz.func113, Tryz.ntmps113
  go_wp2
  refine wp_loop_rounds 1 ?_
  rw [rounds_succ]
  go_wp2
  go_ret
  exact ⟨rfl, below_alloc_ _ _⟩
set_option maxHeartbeats 4000000 in
set_option maxRecDepth 100000 in
theorem write_byte (g n c : Nat) (m0 b0 : Int) (cur : Array Value) (w : World) (hk : Blk w g 5 cur) (hn : n ≤ c) (hc : c * 1 ≤ cur.size) (hb : c ≤ 4611686018427387904) :
    Calls Tryz.prog 114 #[row_byte (some ⟨g, 0, none⟩) n c m0 b0] w fun e w' => e = .returned (.tuple #[]) ∧ ∃ cur', Blk w' g 5 cur' ∧ cur'.size = cur.size ∧ (∀ i, 0 ≤ i → i < n → cur'[i]? = some (.int .u8 m0)) ∧ (∀ p, p < 0 ∨ n ≤ p → cur'[p]? = cur[p]?) ∧ w.grownBy w' (some g) := by
  unfold row_byte
  have K := Lib.hid (Blk.new w 79 #[.slice (some ⟨g, 0, none⟩) n c, .int .u8 m0, .int .u8 b0])
  have HK := Lib.hid (hk.alloc (.cells #[.slice (some ⟨g, 0, none⟩) n c, .int .u8 m0, .int .u8 b0] 79))
  have hgl := hk.lt
  have hn' : (n : Int) ≤ c := by omega
  have hb' : (c : Int) ≤ 4611686018427387904 := by omega
  have G0 := Lib.hid (show w.grownBy _ (some g) from grown_below_ (below_alloc_ w (.cells #[.slice (some ⟨g, 0, none⟩) n c, .int .u8 m0, .int .u8 b0] 79)) (some g))
  clear hk
  go_enter Tryz.func114, Tryz.ntmps114
  go_wp2_with fail
  go_loopg [2] (n - 0) (fun q x wr => ∃ (k : Nat) (cur' : Array Value), 0 ≤ k ∧ k ≤ n ∧ q = n - k ∧ x = .int .i64 k ∧ Blk wr g 5 cur' ∧ cur'.size = cur.size ∧ (∀ i, 0 ≤ i → i < k → cur'[i]? = some (.int .u8 m0)) ∧ (∀ p, p < 0 ∨ k ≤ p → cur'[p]? = cur[p]?) ∧ w.grownBy wr (some g) ∧ Blk wr w.heap.size 79 #[.slice (some ⟨g, 0, none⟩) n c, .int .u8 m0, .int .u8 b0])
  case atStart => exact ⟨0, cur, Nat.le_refl _, by omega, rfl, rfl, HK.out, rfl, fun i _ _ => by omega, fun _ _ => rfl, G0.out, K.out⟩
  case round =>
    obtain ⟨k, cur', hlk, hk, rfl, rfl, hB, hsz, hin, hot, hg, hbx⟩ := hrel
    have HB := Lib.hid hB
    have HI := Lib.hid hin
    have HO := Lib.hid hot
    have HG := Lib.hid hg
    have HX := Lib.hid hbx
    have HS := Lib.hid hsz
    have f := hB.free
    have x0 := hbx.cell 0
    have x1 := hbx.cell 1
    have x2 := hbx.cell 2
    simp only [List.getElem?_toArray, List.getElem?_cons_zero, List.getElem?_cons_succ] at x0 x1 x2
    clear hin hot hg hbx
    by_cases hkn : k < n
    · have hkn' : (k : Int) < n := by omega
      have hk0 : (0 : Int) ≤ k := by omega
      have hz0 : k < cur'.size := by omega
      have y0 : wr.cell? ⟨g, k, none⟩ = some (cur'[k]'hz0) := by rw [hB.cell]; simp [hz0]
      clear hB
      go_wp2
      go_roundg (n - (k + 1))
      case measure => omega
      case rel =>
        refine ⟨k + 1, (cur'.setIfInBounds (k) (.int .u8 m0)), by omega, by omega, rfl, by go_num, (HB.out.set_ (k) (.int .u8 m0)), by simp [HS.out], ?_, ?_, (grown_trans_ HG.out (grown_set_ wr g (k) (.int .u8 m0))), (HX.out.far (p := ⟨g, k, none⟩) (by simp; omega) _)⟩
        · intro i h1 h2
          by_cases hik : i = k
          · subst hik
            exact (by rw [set_eq_ (by (try simp); omega)])
          · have h_0 := HI.out i h1 (by omega)
            exact (by rw [set_ne_ (by omega)]; exact h_0)
        · intro p hp
          rw [set_ne_ (by omega)]
          exact HO.out p (by omega)
    · obtain rfl : k = n := by omega
      clear hB
      go_wp2
      exact bodyPost_end (results_none rfl _ _ _) rfl ⟨rfl, cur', HB.out, HS.out, HI.out, HO.out, HG.out⟩
set_option maxHeartbeats 4000000 in
set_option maxRecDepth 100000 in
theorem behind_byte (g n c : Nat) (m0 b0 : Int) (cur : Array Value) (w : World) (hk : Blk w g 5 cur) (hn : n ≤ c) (hc : c * 1 ≤ cur.size) (hb : c ≤ 4611686018427387904) :
    Calls Tryz.prog 115 #[row_byte (some ⟨g, 0, none⟩) n c m0 b0] w fun e w' => e = .returned (.tuple #[]) ∧ ∃ cur', Blk w' g 5 cur' ∧ cur'.size = cur.size ∧ (∀ i, n ≤ i → i < c → cur'[i]? = some (.int .u8 b0)) ∧ (∀ p, p < n ∨ c ≤ p → cur'[p]? = cur[p]?) ∧ w.grownBy w' (some g) := by
  unfold row_byte
  have K := Lib.hid (Blk.new w 79 #[.slice (some ⟨g, 0, none⟩) n c, .int .u8 m0, .int .u8 b0])
  have HK := Lib.hid (hk.alloc (.cells #[.slice (some ⟨g, 0, none⟩) n c, .int .u8 m0, .int .u8 b0] 79))
  have hgl := hk.lt
  have hn' : (n : Int) ≤ c := by omega
  have hb' : (c : Int) ≤ 4611686018427387904 := by omega
  have G0 := Lib.hid (show w.grownBy _ (some g) from grown_below_ (below_alloc_ w (.cells #[.slice (some ⟨g, 0, none⟩) n c, .int .u8 m0, .int .u8 b0] 79)) (some g))
  clear hk
  go_enter Tryz.func115, Tryz.ntmps115
  go_wp2_with fail
  go_loopg [3] (c - n) (fun q x wr => ∃ (k : Nat) (cur' : Array Value), n ≤ k ∧ k ≤ c ∧ q = c - k ∧ x = .int .i64 k ∧ Blk wr g 5 cur' ∧ cur'.size = cur.size ∧ (∀ i, n ≤ i → i < k → cur'[i]? = some (.int .u8 b0)) ∧ (∀ p, p < n ∨ k ≤ p → cur'[p]? = cur[p]?) ∧ w.grownBy wr (some g) ∧ Blk wr w.heap.size 79 #[.slice (some ⟨g, 0, none⟩) n c, .int .u8 m0, .int .u8 b0])
  case atStart => exact ⟨n, cur, Nat.le_refl _, by omega, rfl, rfl, HK.out, rfl, fun i _ _ => by omega, fun _ _ => rfl, G0.out, K.out⟩
  case round =>
    obtain ⟨k, cur', hlk, hk, rfl, rfl, hB, hsz, hin, hot, hg, hbx⟩ := hrel
    have HB := Lib.hid hB
    have HI := Lib.hid hin
    have HO := Lib.hid hot
    have HG := Lib.hid hg
    have HX := Lib.hid hbx
    have HS := Lib.hid hsz
    have f := hB.free
    have x0 := hbx.cell 0
    have x1 := hbx.cell 1
    have x2 := hbx.cell 2
    simp only [List.getElem?_toArray, List.getElem?_cons_zero, List.getElem?_cons_succ] at x0 x1 x2
    clear hin hot hg hbx
    by_cases hkn : k < c
    · have hkn' : (k : Int) < c := by omega
      have hk0 : (0 : Int) ≤ k := by omega
      have hz0 : k < cur'.size := by omega
      have y0 : wr.cell? ⟨g, k, none⟩ = some (cur'[k]'hz0) := by rw [hB.cell]; simp [hz0]
      clear hB
      go_wp2
      go_roundg (c - (k + 1))
      case measure => omega
      case rel =>
        refine ⟨k + 1, (cur'.setIfInBounds (k) (.int .u8 b0)), by omega, by omega, rfl, by go_num, (HB.out.set_ (k) (.int .u8 b0)), by simp [HS.out], ?_, ?_, (grown_trans_ HG.out (grown_set_ wr g (k) (.int .u8 b0))), (HX.out.far (p := ⟨g, k, none⟩) (by simp; omega) _)⟩
        · intro i h1 h2
          by_cases hik : i = k
          · subst hik
            exact (by rw [set_eq_ (by (try simp); omega)])
          · have h_0 := HI.out i h1 (by omega)
            exact (by rw [set_ne_ (by omega)]; exact h_0)
        · intro p hp
          rw [set_ne_ (by omega)]
          exact HO.out p (by omega)
    · obtain rfl : k = c := by omega
      clear hB
      go_wp2
      exact bodyPost_end (results_none rfl _ _ _) rfl ⟨rfl, cur', HB.out, HS.out, HI.out, HO.out, HG.out⟩
set_option maxHeartbeats 4000000 in
set_option maxRecDepth 100000 in
theorem stands_byte (g n c : Nat) (m0 b0 : Int) (cur : Array Value) (w : World) (hk : Blk w g 5 cur) (hn : n ≤ c) (_hc : c * 1 ≤ cur.size) (hb : c ≤ 4611686018427387904)
    (h1 : ∀ i, 0 ≤ i → i < n → cur[i]? = some (.int .u8 m0)) (h2 : ∀ i, n ≤ i → i < c → cur[i]? = some (.int .u8 b0)) :
    Calls Tryz.prog 113 #[row_byte (some ⟨g, 0, none⟩) n c m0 b0] w fun e w' => e = .returned (.bool true) ∧ Below w.heap.size w w' := by
  unfold row_byte
  have K := Lib.hid (Blk.new w 79 #[.slice (some ⟨g, 0, none⟩) n c, .int .u8 m0, .int .u8 b0])
  have HK := Lib.hid (hk.alloc (.cells #[.slice (some ⟨g, 0, none⟩) n c, .int .u8 m0, .int .u8 b0] 79))
  have H1 := Lib.hid h1
  have H2 := Lib.hid h2
  have hn' : (n : Int) ≤ c := by omega
  have hb' : (c : Int) ≤ 4611686018427387904 := by omega
  have kx := K.out
  have x0 := kx.cell 0
  have x1 := kx.cell 1
  have x2 := kx.cell 2
  simp only [List.getElem?_toArray, List.getElem?_cons_zero, List.getElem?_cons_succ] at x0 x1 x2
  clear hk h1 h2 kx
  have hnm : (m0 != m0) = false := by simp
  have hnb : (b0 != b0) = false := by simp
  go_enter Tryz.func113, Tryz.ntmps113
  go_wp2_with fail
  go_loopg [4] c (fun q x wr => ∃ k m : Nat, k ≤ c ∧ q = c - k ∧ x = .int .i64 k ∧ wr = (w.alloc (.cells #[.slice (some ⟨g, 0, none⟩) n c, .int .u8 m0, .int .u8 b0] 79)).drewN m)
  case atStart => exact ⟨0, 0, Nat.zero_le _, rfl, rfl, rfl⟩
  case round =>
    obtain ⟨k, m, hk, rfl, rfl, rfl⟩ := hrel
    by_cases hkc : k < c
    · have hkc' : (k : Int) < c := by omega
      have hk0 : (0 : Int) ≤ k := by omega
      by_cases hkn : k < n
      · have hkn' : (k : Int) < n := by omega
        have hkn2 : ¬ (n : Int) ≤ k := by omega
        have hd1 : decide ((k : Int) < n) = true := decide_eq_true hkn'
        have hd2 : decide ((n : Int) ≤ k) = false := decide_eq_false hkn2
        have hd3 : decide (n ≤ k) = false := decide_eq_false (by omega)
        have hd4 : ¬ n ≤ k := by omega
        have h_0 := H1.out k (Nat.zero_le _) hkn
        have y0 : (w.alloc (.cells #[.slice (some ⟨g, 0, none⟩) n c, .int .u8 m0, .int .u8 b0] 79)).cell? ⟨g, k, none⟩ = some (.int .u8 m0) := by rw [HK.out.cell]; exact h_0
        clear h_0
        go_wp2_with fail
        go_quiet (fail)
        go_wp2
        go_roundg (c - (k + 1))
        case measure => omega
        case rel => exact ⟨k + 1, _, by omega, rfl, by go_num, rfl⟩
      · have hkn' : ¬ (k : Int) < n := by omega
        have hkn2 : (n : Int) ≤ k := by omega
        have hd1 : decide ((k : Int) < n) = false := decide_eq_false hkn'
        have hd2 : decide ((n : Int) ≤ k) = true := decide_eq_true hkn2
        have hd3 : decide (n ≤ k) = true := decide_eq_true (by omega)
        have hd4 : n ≤ k := by omega
        have h_0 := H2.out k (by omega) hkc
        have y0 : (w.alloc (.cells #[.slice (some ⟨g, 0, none⟩) n c, .int .u8 m0, .int .u8 b0] 79)).cell? ⟨g, k, none⟩ = some (.int .u8 b0) := by rw [HK.out.cell]; exact h_0
        clear h_0
        go_wp2_with fail
        go_quiet (fail)
        go_wp2
        go_roundg (c - (k + 1))
        case measure => omega
        case rel => exact ⟨k + 1, _, by omega, rfl, by go_num, rfl⟩
    · obtain rfl : c = k := by omega
      go_wp2
      go_ret
      exact ⟨rfl, (below_alloc_ w (.cells #[.slice (some ⟨g, 0, none⟩) n c, .int .u8 m0, .int .u8 b0] 79)).trans ((below_drewN_ (w.alloc (.cells #[.slice (some ⟨g, 0, none⟩) n c, .int .u8 m0, .int .u8 b0] 79)).heap.size _ _).mono (by simp))⟩
end Go.Proofs.YthjdkjinkmdclaaGreat

/- law01: a page (countinghouse/api.Step): written over, and behind; whether it stands. -/
namespace Go.Proofs.YthjdkjinkmdclaaGreat
open Go.RowKit

abbrev row_step (A : Option Addr) (n c : Nat) (m0 m1 m2 m3 m4 m5 m6 m7 m8 m9 b0 b1 b2 b3 b4 b5 b6 b7 b8 b9 : Int) : Value := .agg #[.slice A n c, .int .u8 m0, .int .u8 m1, .int .u8 m2, .int .u8 m3, .int .u8 m4, .int .i64 m5, .int .i64 m6, .int .i64 m7, .int .i64 m8, .int .u64 m9, .int .u8 b0, .int .u8 b1, .int .u8 b2, .int .u8 b3, .int .u8 b4, .int .i64 b5, .int .i64 b6, .int .i64 b7, .int .i64 b8, .int .u64 b9]
set_option maxHeartbeats 2000000 in
theorem write_step_none (m0 m1 m2 m3 m4 m5 m6 m7 m8 m9 b0 b1 b2 b3 b4 b5 b6 b7 b8 b9 : Int) (w : World) : Calls Tryz.prog 150 #[row_step none 0 0 m0 m1 m2 m3 m4 m5 m6 m7 m8 m9 b0 b1 b2 b3 b4 b5 b6 b7 b8 b9] w fun e w' => e = .returned (.tuple #[]) ∧ Below w.heap.size w w' := by
  unfold row_step
  go_enter Tryz.func150, Tryz.ntmps150
  go_wp2
  refine wp_loop_rounds 1 ?_
  rw [rounds_succ]
  go_wp2
  exact bodyPost_end (results_none rfl _ _ _) rfl ⟨rfl, below_alloc_ _ _⟩
set_option maxHeartbeats 2000000 in
theorem behind_step_none (m0 m1 m2 m3 m4 m5 m6 m7 m8 m9 b0 b1 b2 b3 b4 b5 b6 b7 b8 b9 : Int) (w : World) : Calls Tryz.prog 151 #[row_step none 0 0 m0 m1 m2 m3 m4 m5 m6 m7 m8 m9 b0 b1 b2 b3 b4 b5 b6 b7 b8 b9] w fun e w' => e = .returned (.tuple #[]) ∧ Below w.heap.size w w' := by
  unfold row_step
  go_enter Tryz.func151, Tryz.ntmps151
  go_wp2
  refine wp_loop_rounds 1 ?_
  rw [rounds_succ]
  go_wp2
  exact bodyPost_end (results_none rfl _ _ _) rfl ⟨rfl, below_alloc_ _ _⟩
set_option maxHeartbeats 2000000 in
theorem stands_step_none (m0 m1 m2 m3 m4 m5 m6 m7 m8 m9 b0 b1 b2 b3 b4 b5 b6 b7 b8 b9 : Int) (w : World) : Calls Tryz.prog 149 #[row_step none 0 0 m0 m1 m2 m3 m4 m5 m6 m7 m8 m9 b0 b1 b2 b3 b4 b5 b6 b7 b8 b9] w fun e w' => e = .returned (.bool true) ∧ Below w.heap.size w w' := by
  unfold row_step
  go_enter Tryz.func149, Tryz.ntmps149
  go_wp2
  refine wp_loop_rounds 1 ?_
  rw [rounds_succ]
  go_wp2
  go_ret
  exact ⟨rfl, below_alloc_ _ _⟩
set_option maxHeartbeats 4000000 in
set_option maxRecDepth 100000 in
theorem write_step (g n c : Nat) (m0 m1 m2 m3 m4 m5 m6 m7 m8 m9 b0 b1 b2 b3 b4 b5 b6 b7 b8 b9 : Int) (cur : Array Value) (w : World) (hk : Blk w g 104 cur) (hn : n ≤ c) (hc : c * 10 ≤ cur.size) (hb : c ≤ 4611686018427387904) :
    Calls Tryz.prog 150 #[row_step (some ⟨g, 0, none⟩) n c m0 m1 m2 m3 m4 m5 m6 m7 m8 m9 b0 b1 b2 b3 b4 b5 b6 b7 b8 b9] w fun e w' => e = .returned (.tuple #[]) ∧ ∃ cur', Blk w' g 104 cur' ∧ cur'.size = cur.size ∧ (∀ i, 0 ≤ i → i < n → cur'[i * 10]? = some (.int .u8 m0) ∧ cur'[i * 10 + 1]? = some (.int .u8 m1) ∧ cur'[i * 10 + 2]? = some (.int .u8 m2) ∧ cur'[i * 10 + 3]? = some (.int .u8 m3) ∧ cur'[i * 10 + 4]? = some (.int .u8 m4) ∧ cur'[i * 10 + 5]? = some (.int .i64 m5) ∧ cur'[i * 10 + 6]? = some (.int .i64 m6) ∧ cur'[i * 10 + 7]? = some (.int .i64 m7) ∧ cur'[i * 10 + 8]? = some (.int .i64 m8) ∧ cur'[i * 10 + 9]? = some (.int .u64 m9)) ∧ (∀ p, p < 0 ∨ n * 10 ≤ p → cur'[p]? = cur[p]?) ∧ w.grownBy w' (some g) := by
  unfold row_step
  have K := Lib.hid (Blk.new w 106 #[.slice (some ⟨g, 0, none⟩) n c, .int .u8 m0, .int .u8 m1, .int .u8 m2, .int .u8 m3, .int .u8 m4, .int .i64 m5, .int .i64 m6, .int .i64 m7, .int .i64 m8, .int .u64 m9, .int .u8 b0, .int .u8 b1, .int .u8 b2, .int .u8 b3, .int .u8 b4, .int .i64 b5, .int .i64 b6, .int .i64 b7, .int .i64 b8, .int .u64 b9])
  have HK := Lib.hid (hk.alloc (.cells #[.slice (some ⟨g, 0, none⟩) n c, .int .u8 m0, .int .u8 m1, .int .u8 m2, .int .u8 m3, .int .u8 m4, .int .i64 m5, .int .i64 m6, .int .i64 m7, .int .i64 m8, .int .u64 m9, .int .u8 b0, .int .u8 b1, .int .u8 b2, .int .u8 b3, .int .u8 b4, .int .i64 b5, .int .i64 b6, .int .i64 b7, .int .i64 b8, .int .u64 b9] 106))
  have hgl := hk.lt
  have hn' : (n : Int) ≤ c := by omega
  have hb' : (c : Int) ≤ 4611686018427387904 := by omega
  have G0 := Lib.hid (show w.grownBy _ (some g) from grown_below_ (below_alloc_ w (.cells #[.slice (some ⟨g, 0, none⟩) n c, .int .u8 m0, .int .u8 m1, .int .u8 m2, .int .u8 m3, .int .u8 m4, .int .i64 m5, .int .i64 m6, .int .i64 m7, .int .i64 m8, .int .u64 m9, .int .u8 b0, .int .u8 b1, .int .u8 b2, .int .u8 b3, .int .u8 b4, .int .i64 b5, .int .i64 b6, .int .i64 b7, .int .i64 b8, .int .u64 b9] 106)) (some g))
  clear hk
  go_enter Tryz.func150, Tryz.ntmps150
  go_wp2_with fail
  go_loopg [2] (n - 0) (fun q x wr => ∃ (k : Nat) (cur' : Array Value), 0 ≤ k ∧ k ≤ n ∧ q = n - k ∧ x = .int .i64 k ∧ Blk wr g 104 cur' ∧ cur'.size = cur.size ∧ (∀ i, 0 ≤ i → i < k → cur'[i * 10]? = some (.int .u8 m0) ∧ cur'[i * 10 + 1]? = some (.int .u8 m1) ∧ cur'[i * 10 + 2]? = some (.int .u8 m2) ∧ cur'[i * 10 + 3]? = some (.int .u8 m3) ∧ cur'[i * 10 + 4]? = some (.int .u8 m4) ∧ cur'[i * 10 + 5]? = some (.int .i64 m5) ∧ cur'[i * 10 + 6]? = some (.int .i64 m6) ∧ cur'[i * 10 + 7]? = some (.int .i64 m7) ∧ cur'[i * 10 + 8]? = some (.int .i64 m8) ∧ cur'[i * 10 + 9]? = some (.int .u64 m9)) ∧ (∀ p, p < 0 ∨ k * 10 ≤ p → cur'[p]? = cur[p]?) ∧ w.grownBy wr (some g) ∧ Blk wr w.heap.size 106 #[.slice (some ⟨g, 0, none⟩) n c, .int .u8 m0, .int .u8 m1, .int .u8 m2, .int .u8 m3, .int .u8 m4, .int .i64 m5, .int .i64 m6, .int .i64 m7, .int .i64 m8, .int .u64 m9, .int .u8 b0, .int .u8 b1, .int .u8 b2, .int .u8 b3, .int .u8 b4, .int .i64 b5, .int .i64 b6, .int .i64 b7, .int .i64 b8, .int .u64 b9])
  case atStart => exact ⟨0, cur, Nat.le_refl _, by omega, rfl, rfl, HK.out, rfl, fun i _ _ => by omega, fun _ _ => rfl, G0.out, K.out⟩
  case round =>
    obtain ⟨k, cur', hlk, hk, rfl, rfl, hB, hsz, hin, hot, hg, hbx⟩ := hrel
    have HB := Lib.hid hB
    have HI := Lib.hid hin
    have HO := Lib.hid hot
    have HG := Lib.hid hg
    have HX := Lib.hid hbx
    have HS := Lib.hid hsz
    have f := hB.free
    have x0 := hbx.cell 0
    have x1 := hbx.cell 1
    have x2 := hbx.cell 2
    have x3 := hbx.cell 3
    have x4 := hbx.cell 4
    have x5 := hbx.cell 5
    have x6 := hbx.cell 6
    have x7 := hbx.cell 7
    have x8 := hbx.cell 8
    have x9 := hbx.cell 9
    have x10 := hbx.cell 10
    have x11 := hbx.cell 11
    have x12 := hbx.cell 12
    have x13 := hbx.cell 13
    have x14 := hbx.cell 14
    have x15 := hbx.cell 15
    have x16 := hbx.cell 16
    have x17 := hbx.cell 17
    have x18 := hbx.cell 18
    have x19 := hbx.cell 19
    have x20 := hbx.cell 20
    simp only [List.getElem?_toArray, List.getElem?_cons_zero, List.getElem?_cons_succ] at x0 x1 x2 x3 x4 x5 x6 x7 x8 x9 x10 x11 x12 x13 x14 x15 x16 x17 x18 x19 x20
    clear hin hot hg hbx
    by_cases hkn : k < n
    · have hkn' : (k : Int) < n := by omega
      have hk0 : (0 : Int) ≤ k := by omega
      have hz0 : k * 10 < cur'.size := by omega
      have y0 : wr.cell? ⟨g, k * 10, none⟩ = some (cur'[k * 10]'hz0) := by rw [hB.cell]; simp [hz0]
      have hz1 : k * 10 + 1 < cur'.size := by omega
      have y1 : wr.cell? ⟨g, k * 10 + 1, none⟩ = some (cur'[k * 10 + 1]'hz1) := by rw [hB.cell]; simp [hz1]
      have hz2 : k * 10 + 2 < cur'.size := by omega
      have y2 : wr.cell? ⟨g, k * 10 + 2, none⟩ = some (cur'[k * 10 + 2]'hz2) := by rw [hB.cell]; simp [hz2]
      have hz3 : k * 10 + 3 < cur'.size := by omega
      have y3 : wr.cell? ⟨g, k * 10 + 3, none⟩ = some (cur'[k * 10 + 3]'hz3) := by rw [hB.cell]; simp [hz3]
      have hz4 : k * 10 + 4 < cur'.size := by omega
      have y4 : wr.cell? ⟨g, k * 10 + 4, none⟩ = some (cur'[k * 10 + 4]'hz4) := by rw [hB.cell]; simp [hz4]
      have hz5 : k * 10 + 5 < cur'.size := by omega
      have y5 : wr.cell? ⟨g, k * 10 + 5, none⟩ = some (cur'[k * 10 + 5]'hz5) := by rw [hB.cell]; simp [hz5]
      have hz6 : k * 10 + 6 < cur'.size := by omega
      have y6 : wr.cell? ⟨g, k * 10 + 6, none⟩ = some (cur'[k * 10 + 6]'hz6) := by rw [hB.cell]; simp [hz6]
      have hz7 : k * 10 + 7 < cur'.size := by omega
      have y7 : wr.cell? ⟨g, k * 10 + 7, none⟩ = some (cur'[k * 10 + 7]'hz7) := by rw [hB.cell]; simp [hz7]
      have hz8 : k * 10 + 8 < cur'.size := by omega
      have y8 : wr.cell? ⟨g, k * 10 + 8, none⟩ = some (cur'[k * 10 + 8]'hz8) := by rw [hB.cell]; simp [hz8]
      have hz9 : k * 10 + 9 < cur'.size := by omega
      have y9 : wr.cell? ⟨g, k * 10 + 9, none⟩ = some (cur'[k * 10 + 9]'hz9) := by rw [hB.cell]; simp [hz9]
      clear hB
      go_wp2
      go_roundg (n - (k + 1))
      case measure => omega
      case rel =>
        refine ⟨k + 1, ((((((((((cur'.setIfInBounds (k * 10) (.int .u8 m0)).setIfInBounds (k * 10 + 1) (.int .u8 m1)).setIfInBounds (k * 10 + 2) (.int .u8 m2)).setIfInBounds (k * 10 + 3) (.int .u8 m3)).setIfInBounds (k * 10 + 4) (.int .u8 m4)).setIfInBounds (k * 10 + 5) (.int .i64 m5)).setIfInBounds (k * 10 + 6) (.int .i64 m6)).setIfInBounds (k * 10 + 7) (.int .i64 m7)).setIfInBounds (k * 10 + 8) (.int .i64 m8)).setIfInBounds (k * 10 + 9) (.int .u64 m9)), by omega, by omega, rfl, by go_num, ((((((((((HB.out.set_ (k * 10) (.int .u8 m0)).set_ (k * 10 + 1) (.int .u8 m1)).set_ (k * 10 + 2) (.int .u8 m2)).set_ (k * 10 + 3) (.int .u8 m3)).set_ (k * 10 + 4) (.int .u8 m4)).set_ (k * 10 + 5) (.int .i64 m5)).set_ (k * 10 + 6) (.int .i64 m6)).set_ (k * 10 + 7) (.int .i64 m7)).set_ (k * 10 + 8) (.int .i64 m8)).set_ (k * 10 + 9) (.int .u64 m9)), by simp [HS.out], ?_, ?_, (grown_trans_ (grown_trans_ (grown_trans_ (grown_trans_ (grown_trans_ (grown_trans_ (grown_trans_ (grown_trans_ (grown_trans_ (grown_trans_ HG.out (grown_set_ wr g (k * 10) (.int .u8 m0))) (grown_set_ (wr.setCell ⟨g, k * 10, none⟩ (.int .u8 m0)) g (k * 10 + 1) (.int .u8 m1))) (grown_set_ ((wr.setCell ⟨g, k * 10, none⟩ (.int .u8 m0)).setCell ⟨g, k * 10 + 1, none⟩ (.int .u8 m1)) g (k * 10 + 2) (.int .u8 m2))) (grown_set_ (((wr.setCell ⟨g, k * 10, none⟩ (.int .u8 m0)).setCell ⟨g, k * 10 + 1, none⟩ (.int .u8 m1)).setCell ⟨g, k * 10 + 2, none⟩ (.int .u8 m2)) g (k * 10 + 3) (.int .u8 m3))) (grown_set_ ((((wr.setCell ⟨g, k * 10, none⟩ (.int .u8 m0)).setCell ⟨g, k * 10 + 1, none⟩ (.int .u8 m1)).setCell ⟨g, k * 10 + 2, none⟩ (.int .u8 m2)).setCell ⟨g, k * 10 + 3, none⟩ (.int .u8 m3)) g (k * 10 + 4) (.int .u8 m4))) (grown_set_ (((((wr.setCell ⟨g, k * 10, none⟩ (.int .u8 m0)).setCell ⟨g, k * 10 + 1, none⟩ (.int .u8 m1)).setCell ⟨g, k * 10 + 2, none⟩ (.int .u8 m2)).setCell ⟨g, k * 10 + 3, none⟩ (.int .u8 m3)).setCell ⟨g, k * 10 + 4, none⟩ (.int .u8 m4)) g (k * 10 + 5) (.int .i64 m5))) (grown_set_ ((((((wr.setCell ⟨g, k * 10, none⟩ (.int .u8 m0)).setCell ⟨g, k * 10 + 1, none⟩ (.int .u8 m1)).setCell ⟨g, k * 10 + 2, none⟩ (.int .u8 m2)).setCell ⟨g, k * 10 + 3, none⟩ (.int .u8 m3)).setCell ⟨g, k * 10 + 4, none⟩ (.int .u8 m4)).setCell ⟨g, k * 10 + 5, none⟩ (.int .i64 m5)) g (k * 10 + 6) (.int .i64 m6))) (grown_set_ (((((((wr.setCell ⟨g, k * 10, none⟩ (.int .u8 m0)).setCell ⟨g, k * 10 + 1, none⟩ (.int .u8 m1)).setCell ⟨g, k * 10 + 2, none⟩ (.int .u8 m2)).setCell ⟨g, k * 10 + 3, none⟩ (.int .u8 m3)).setCell ⟨g, k * 10 + 4, none⟩ (.int .u8 m4)).setCell ⟨g, k * 10 + 5, none⟩ (.int .i64 m5)).setCell ⟨g, k * 10 + 6, none⟩ (.int .i64 m6)) g (k * 10 + 7) (.int .i64 m7))) (grown_set_ ((((((((wr.setCell ⟨g, k * 10, none⟩ (.int .u8 m0)).setCell ⟨g, k * 10 + 1, none⟩ (.int .u8 m1)).setCell ⟨g, k * 10 + 2, none⟩ (.int .u8 m2)).setCell ⟨g, k * 10 + 3, none⟩ (.int .u8 m3)).setCell ⟨g, k * 10 + 4, none⟩ (.int .u8 m4)).setCell ⟨g, k * 10 + 5, none⟩ (.int .i64 m5)).setCell ⟨g, k * 10 + 6, none⟩ (.int .i64 m6)).setCell ⟨g, k * 10 + 7, none⟩ (.int .i64 m7)) g (k * 10 + 8) (.int .i64 m8))) (grown_set_ (((((((((wr.setCell ⟨g, k * 10, none⟩ (.int .u8 m0)).setCell ⟨g, k * 10 + 1, none⟩ (.int .u8 m1)).setCell ⟨g, k * 10 + 2, none⟩ (.int .u8 m2)).setCell ⟨g, k * 10 + 3, none⟩ (.int .u8 m3)).setCell ⟨g, k * 10 + 4, none⟩ (.int .u8 m4)).setCell ⟨g, k * 10 + 5, none⟩ (.int .i64 m5)).setCell ⟨g, k * 10 + 6, none⟩ (.int .i64 m6)).setCell ⟨g, k * 10 + 7, none⟩ (.int .i64 m7)).setCell ⟨g, k * 10 + 8, none⟩ (.int .i64 m8)) g (k * 10 + 9) (.int .u64 m9))), ((((((((((HX.out.far (p := ⟨g, k * 10, none⟩) (by simp; omega) _).far (p := ⟨g, k * 10 + 1, none⟩) (by simp; omega) _).far (p := ⟨g, k * 10 + 2, none⟩) (by simp; omega) _).far (p := ⟨g, k * 10 + 3, none⟩) (by simp; omega) _).far (p := ⟨g, k * 10 + 4, none⟩) (by simp; omega) _).far (p := ⟨g, k * 10 + 5, none⟩) (by simp; omega) _).far (p := ⟨g, k * 10 + 6, none⟩) (by simp; omega) _).far (p := ⟨g, k * 10 + 7, none⟩) (by simp; omega) _).far (p := ⟨g, k * 10 + 8, none⟩) (by simp; omega) _).far (p := ⟨g, k * 10 + 9, none⟩) (by simp; omega) _)⟩
        · intro i h1 h2
          by_cases hik : i = k
          · subst hik
            exact ⟨(by rw [set_ne_ (by omega), set_ne_ (by omega), set_ne_ (by omega), set_ne_ (by omega), set_ne_ (by omega), set_ne_ (by omega), set_ne_ (by omega), set_ne_ (by omega), set_ne_ (by omega), set_eq_ (by (try simp); omega)]), (by rw [set_ne_ (by omega), set_ne_ (by omega), set_ne_ (by omega), set_ne_ (by omega), set_ne_ (by omega), set_ne_ (by omega), set_ne_ (by omega), set_ne_ (by omega), set_eq_ (by (try simp); omega)]), (by rw [set_ne_ (by omega), set_ne_ (by omega), set_ne_ (by omega), set_ne_ (by omega), set_ne_ (by omega), set_ne_ (by omega), set_ne_ (by omega), set_eq_ (by (try simp); omega)]), (by rw [set_ne_ (by omega), set_ne_ (by omega), set_ne_ (by omega), set_ne_ (by omega), set_ne_ (by omega), set_ne_ (by omega), set_eq_ (by (try simp); omega)]), (by rw [set_ne_ (by omega), set_ne_ (by omega), set_ne_ (by omega), set_ne_ (by omega), set_ne_ (by omega), set_eq_ (by (try simp); omega)]), (by rw [set_ne_ (by omega), set_ne_ (by omega), set_ne_ (by omega), set_ne_ (by omega), set_eq_ (by (try simp); omega)]), (by rw [set_ne_ (by omega), set_ne_ (by omega), set_ne_ (by omega), set_eq_ (by (try simp); omega)]), (by rw [set_ne_ (by omega), set_ne_ (by omega), set_eq_ (by (try simp); omega)]), (by rw [set_ne_ (by omega), set_eq_ (by (try simp); omega)]), (by rw [set_eq_ (by (try simp); omega)])⟩
          · obtain ⟨h_0, h_1, h_2, h_3, h_4, h_5, h_6, h_7, h_8, h_9⟩ := HI.out i h1 (by omega)
            exact ⟨(by rw [set_ne_ (by omega), set_ne_ (by omega), set_ne_ (by omega), set_ne_ (by omega), set_ne_ (by omega), set_ne_ (by omega), set_ne_ (by omega), set_ne_ (by omega), set_ne_ (by omega), set_ne_ (by omega)]; exact h_0), (by rw [set_ne_ (by omega), set_ne_ (by omega), set_ne_ (by omega), set_ne_ (by omega), set_ne_ (by omega), set_ne_ (by omega), set_ne_ (by omega), set_ne_ (by omega), set_ne_ (by omega), set_ne_ (by omega)]; exact h_1), (by rw [set_ne_ (by omega), set_ne_ (by omega), set_ne_ (by omega), set_ne_ (by omega), set_ne_ (by omega), set_ne_ (by omega), set_ne_ (by omega), set_ne_ (by omega), set_ne_ (by omega), set_ne_ (by omega)]; exact h_2), (by rw [set_ne_ (by omega), set_ne_ (by omega), set_ne_ (by omega), set_ne_ (by omega), set_ne_ (by omega), set_ne_ (by omega), set_ne_ (by omega), set_ne_ (by omega), set_ne_ (by omega), set_ne_ (by omega)]; exact h_3), (by rw [set_ne_ (by omega), set_ne_ (by omega), set_ne_ (by omega), set_ne_ (by omega), set_ne_ (by omega), set_ne_ (by omega), set_ne_ (by omega), set_ne_ (by omega), set_ne_ (by omega), set_ne_ (by omega)]; exact h_4), (by rw [set_ne_ (by omega), set_ne_ (by omega), set_ne_ (by omega), set_ne_ (by omega), set_ne_ (by omega), set_ne_ (by omega), set_ne_ (by omega), set_ne_ (by omega), set_ne_ (by omega), set_ne_ (by omega)]; exact h_5), (by rw [set_ne_ (by omega), set_ne_ (by omega), set_ne_ (by omega), set_ne_ (by omega), set_ne_ (by omega), set_ne_ (by omega), set_ne_ (by omega), set_ne_ (by omega), set_ne_ (by omega), set_ne_ (by omega)]; exact h_6), (by rw [set_ne_ (by omega), set_ne_ (by omega), set_ne_ (by omega), set_ne_ (by omega), set_ne_ (by omega), set_ne_ (by omega), set_ne_ (by omega), set_ne_ (by omega), set_ne_ (by omega), set_ne_ (by omega)]; exact h_7), (by rw [set_ne_ (by omega), set_ne_ (by omega), set_ne_ (by omega), set_ne_ (by omega), set_ne_ (by omega), set_ne_ (by omega), set_ne_ (by omega), set_ne_ (by omega), set_ne_ (by omega), set_ne_ (by omega)]; exact h_8), (by rw [set_ne_ (by omega), set_ne_ (by omega), set_ne_ (by omega), set_ne_ (by omega), set_ne_ (by omega), set_ne_ (by omega), set_ne_ (by omega), set_ne_ (by omega), set_ne_ (by omega), set_ne_ (by omega)]; exact h_9)⟩
        · intro p hp
          rw [set_ne_ (by omega), set_ne_ (by omega), set_ne_ (by omega), set_ne_ (by omega), set_ne_ (by omega), set_ne_ (by omega), set_ne_ (by omega), set_ne_ (by omega), set_ne_ (by omega), set_ne_ (by omega)]
          exact HO.out p (by omega)
    · obtain rfl : k = n := by omega
      clear hB
      go_wp2
      exact bodyPost_end (results_none rfl _ _ _) rfl ⟨rfl, cur', HB.out, HS.out, HI.out, HO.out, HG.out⟩
set_option maxHeartbeats 4000000 in
set_option maxRecDepth 100000 in
theorem behind_step (g n c : Nat) (m0 m1 m2 m3 m4 m5 m6 m7 m8 m9 b0 b1 b2 b3 b4 b5 b6 b7 b8 b9 : Int) (cur : Array Value) (w : World) (hk : Blk w g 104 cur) (hn : n ≤ c) (hc : c * 10 ≤ cur.size) (hb : c ≤ 4611686018427387904) :
    Calls Tryz.prog 151 #[row_step (some ⟨g, 0, none⟩) n c m0 m1 m2 m3 m4 m5 m6 m7 m8 m9 b0 b1 b2 b3 b4 b5 b6 b7 b8 b9] w fun e w' => e = .returned (.tuple #[]) ∧ ∃ cur', Blk w' g 104 cur' ∧ cur'.size = cur.size ∧ (∀ i, n ≤ i → i < c → cur'[i * 10]? = some (.int .u8 b0) ∧ cur'[i * 10 + 1]? = some (.int .u8 b1) ∧ cur'[i * 10 + 2]? = some (.int .u8 b2) ∧ cur'[i * 10 + 3]? = some (.int .u8 b3) ∧ cur'[i * 10 + 4]? = some (.int .u8 b4) ∧ cur'[i * 10 + 5]? = some (.int .i64 b5) ∧ cur'[i * 10 + 6]? = some (.int .i64 b6) ∧ cur'[i * 10 + 7]? = some (.int .i64 b7) ∧ cur'[i * 10 + 8]? = some (.int .i64 b8) ∧ cur'[i * 10 + 9]? = some (.int .u64 b9)) ∧ (∀ p, p < n * 10 ∨ c * 10 ≤ p → cur'[p]? = cur[p]?) ∧ w.grownBy w' (some g) := by
  unfold row_step
  have K := Lib.hid (Blk.new w 106 #[.slice (some ⟨g, 0, none⟩) n c, .int .u8 m0, .int .u8 m1, .int .u8 m2, .int .u8 m3, .int .u8 m4, .int .i64 m5, .int .i64 m6, .int .i64 m7, .int .i64 m8, .int .u64 m9, .int .u8 b0, .int .u8 b1, .int .u8 b2, .int .u8 b3, .int .u8 b4, .int .i64 b5, .int .i64 b6, .int .i64 b7, .int .i64 b8, .int .u64 b9])
  have HK := Lib.hid (hk.alloc (.cells #[.slice (some ⟨g, 0, none⟩) n c, .int .u8 m0, .int .u8 m1, .int .u8 m2, .int .u8 m3, .int .u8 m4, .int .i64 m5, .int .i64 m6, .int .i64 m7, .int .i64 m8, .int .u64 m9, .int .u8 b0, .int .u8 b1, .int .u8 b2, .int .u8 b3, .int .u8 b4, .int .i64 b5, .int .i64 b6, .int .i64 b7, .int .i64 b8, .int .u64 b9] 106))
  have hgl := hk.lt
  have hn' : (n : Int) ≤ c := by omega
  have hb' : (c : Int) ≤ 4611686018427387904 := by omega
  have G0 := Lib.hid (show w.grownBy _ (some g) from grown_below_ (below_alloc_ w (.cells #[.slice (some ⟨g, 0, none⟩) n c, .int .u8 m0, .int .u8 m1, .int .u8 m2, .int .u8 m3, .int .u8 m4, .int .i64 m5, .int .i64 m6, .int .i64 m7, .int .i64 m8, .int .u64 m9, .int .u8 b0, .int .u8 b1, .int .u8 b2, .int .u8 b3, .int .u8 b4, .int .i64 b5, .int .i64 b6, .int .i64 b7, .int .i64 b8, .int .u64 b9] 106)) (some g))
  clear hk
  go_enter Tryz.func151, Tryz.ntmps151
  go_wp2_with fail
  go_loopg [3] (c - n) (fun q x wr => ∃ (k : Nat) (cur' : Array Value), n ≤ k ∧ k ≤ c ∧ q = c - k ∧ x = .int .i64 k ∧ Blk wr g 104 cur' ∧ cur'.size = cur.size ∧ (∀ i, n ≤ i → i < k → cur'[i * 10]? = some (.int .u8 b0) ∧ cur'[i * 10 + 1]? = some (.int .u8 b1) ∧ cur'[i * 10 + 2]? = some (.int .u8 b2) ∧ cur'[i * 10 + 3]? = some (.int .u8 b3) ∧ cur'[i * 10 + 4]? = some (.int .u8 b4) ∧ cur'[i * 10 + 5]? = some (.int .i64 b5) ∧ cur'[i * 10 + 6]? = some (.int .i64 b6) ∧ cur'[i * 10 + 7]? = some (.int .i64 b7) ∧ cur'[i * 10 + 8]? = some (.int .i64 b8) ∧ cur'[i * 10 + 9]? = some (.int .u64 b9)) ∧ (∀ p, p < n * 10 ∨ k * 10 ≤ p → cur'[p]? = cur[p]?) ∧ w.grownBy wr (some g) ∧ Blk wr w.heap.size 106 #[.slice (some ⟨g, 0, none⟩) n c, .int .u8 m0, .int .u8 m1, .int .u8 m2, .int .u8 m3, .int .u8 m4, .int .i64 m5, .int .i64 m6, .int .i64 m7, .int .i64 m8, .int .u64 m9, .int .u8 b0, .int .u8 b1, .int .u8 b2, .int .u8 b3, .int .u8 b4, .int .i64 b5, .int .i64 b6, .int .i64 b7, .int .i64 b8, .int .u64 b9])
  case atStart => exact ⟨n, cur, Nat.le_refl _, by omega, rfl, rfl, HK.out, rfl, fun i _ _ => by omega, fun _ _ => rfl, G0.out, K.out⟩
  case round =>
    obtain ⟨k, cur', hlk, hk, rfl, rfl, hB, hsz, hin, hot, hg, hbx⟩ := hrel
    have HB := Lib.hid hB
    have HI := Lib.hid hin
    have HO := Lib.hid hot
    have HG := Lib.hid hg
    have HX := Lib.hid hbx
    have HS := Lib.hid hsz
    have f := hB.free
    have x0 := hbx.cell 0
    have x1 := hbx.cell 1
    have x2 := hbx.cell 2
    have x3 := hbx.cell 3
    have x4 := hbx.cell 4
    have x5 := hbx.cell 5
    have x6 := hbx.cell 6
    have x7 := hbx.cell 7
    have x8 := hbx.cell 8
    have x9 := hbx.cell 9
    have x10 := hbx.cell 10
    have x11 := hbx.cell 11
    have x12 := hbx.cell 12
    have x13 := hbx.cell 13
    have x14 := hbx.cell 14
    have x15 := hbx.cell 15
    have x16 := hbx.cell 16
    have x17 := hbx.cell 17
    have x18 := hbx.cell 18
    have x19 := hbx.cell 19
    have x20 := hbx.cell 20
    simp only [List.getElem?_toArray, List.getElem?_cons_zero, List.getElem?_cons_succ] at x0 x1 x2 x3 x4 x5 x6 x7 x8 x9 x10 x11 x12 x13 x14 x15 x16 x17 x18 x19 x20
    clear hin hot hg hbx
    by_cases hkn : k < c
    · have hkn' : (k : Int) < c := by omega
      have hk0 : (0 : Int) ≤ k := by omega
      have hz0 : k * 10 < cur'.size := by omega
      have y0 : wr.cell? ⟨g, k * 10, none⟩ = some (cur'[k * 10]'hz0) := by rw [hB.cell]; simp [hz0]
      have hz1 : k * 10 + 1 < cur'.size := by omega
      have y1 : wr.cell? ⟨g, k * 10 + 1, none⟩ = some (cur'[k * 10 + 1]'hz1) := by rw [hB.cell]; simp [hz1]
      have hz2 : k * 10 + 2 < cur'.size := by omega
      have y2 : wr.cell? ⟨g, k * 10 + 2, none⟩ = some (cur'[k * 10 + 2]'hz2) := by rw [hB.cell]; simp [hz2]
      have hz3 : k * 10 + 3 < cur'.size := by omega
      have y3 : wr.cell? ⟨g, k * 10 + 3, none⟩ = some (cur'[k * 10 + 3]'hz3) := by rw [hB.cell]; simp [hz3]
      have hz4 : k * 10 + 4 < cur'.size := by omega
      have y4 : wr.cell? ⟨g, k * 10 + 4, none⟩ = some (cur'[k * 10 + 4]'hz4) := by rw [hB.cell]; simp [hz4]
      have hz5 : k * 10 + 5 < cur'.size := by omega
      have y5 : wr.cell? ⟨g, k * 10 + 5, none⟩ = some (cur'[k * 10 + 5]'hz5) := by rw [hB.cell]; simp [hz5]
      have hz6 : k * 10 + 6 < cur'.size := by omega
      have y6 : wr.cell? ⟨g, k * 10 + 6, none⟩ = some (cur'[k * 10 + 6]'hz6) := by rw [hB.cell]; simp [hz6]
      have hz7 : k * 10 + 7 < cur'.size := by omega
      have y7 : wr.cell? ⟨g, k * 10 + 7, none⟩ = some (cur'[k * 10 + 7]'hz7) := by rw [hB.cell]; simp [hz7]
      have hz8 : k * 10 + 8 < cur'.size := by omega
      have y8 : wr.cell? ⟨g, k * 10 + 8, none⟩ = some (cur'[k * 10 + 8]'hz8) := by rw [hB.cell]; simp [hz8]
      have hz9 : k * 10 + 9 < cur'.size := by omega
      have y9 : wr.cell? ⟨g, k * 10 + 9, none⟩ = some (cur'[k * 10 + 9]'hz9) := by rw [hB.cell]; simp [hz9]
      clear hB
      go_wp2
      go_roundg (c - (k + 1))
      case measure => omega
      case rel =>
        refine ⟨k + 1, ((((((((((cur'.setIfInBounds (k * 10) (.int .u8 b0)).setIfInBounds (k * 10 + 1) (.int .u8 b1)).setIfInBounds (k * 10 + 2) (.int .u8 b2)).setIfInBounds (k * 10 + 3) (.int .u8 b3)).setIfInBounds (k * 10 + 4) (.int .u8 b4)).setIfInBounds (k * 10 + 5) (.int .i64 b5)).setIfInBounds (k * 10 + 6) (.int .i64 b6)).setIfInBounds (k * 10 + 7) (.int .i64 b7)).setIfInBounds (k * 10 + 8) (.int .i64 b8)).setIfInBounds (k * 10 + 9) (.int .u64 b9)), by omega, by omega, rfl, by go_num, ((((((((((HB.out.set_ (k * 10) (.int .u8 b0)).set_ (k * 10 + 1) (.int .u8 b1)).set_ (k * 10 + 2) (.int .u8 b2)).set_ (k * 10 + 3) (.int .u8 b3)).set_ (k * 10 + 4) (.int .u8 b4)).set_ (k * 10 + 5) (.int .i64 b5)).set_ (k * 10 + 6) (.int .i64 b6)).set_ (k * 10 + 7) (.int .i64 b7)).set_ (k * 10 + 8) (.int .i64 b8)).set_ (k * 10 + 9) (.int .u64 b9)), by simp [HS.out], ?_, ?_, (grown_trans_ (grown_trans_ (grown_trans_ (grown_trans_ (grown_trans_ (grown_trans_ (grown_trans_ (grown_trans_ (grown_trans_ (grown_trans_ HG.out (grown_set_ wr g (k * 10) (.int .u8 b0))) (grown_set_ (wr.setCell ⟨g, k * 10, none⟩ (.int .u8 b0)) g (k * 10 + 1) (.int .u8 b1))) (grown_set_ ((wr.setCell ⟨g, k * 10, none⟩ (.int .u8 b0)).setCell ⟨g, k * 10 + 1, none⟩ (.int .u8 b1)) g (k * 10 + 2) (.int .u8 b2))) (grown_set_ (((wr.setCell ⟨g, k * 10, none⟩ (.int .u8 b0)).setCell ⟨g, k * 10 + 1, none⟩ (.int .u8 b1)).setCell ⟨g, k * 10 + 2, none⟩ (.int .u8 b2)) g (k * 10 + 3) (.int .u8 b3))) (grown_set_ ((((wr.setCell ⟨g, k * 10, none⟩ (.int .u8 b0)).setCell ⟨g, k * 10 + 1, none⟩ (.int .u8 b1)).setCell ⟨g, k * 10 + 2, none⟩ (.int .u8 b2)).setCell ⟨g, k * 10 + 3, none⟩ (.int .u8 b3)) g (k * 10 + 4) (.int .u8 b4))) (grown_set_ (((((wr.setCell ⟨g, k * 10, none⟩ (.int .u8 b0)).setCell ⟨g, k * 10 + 1, none⟩ (.int .u8 b1)).setCell ⟨g, k * 10 + 2, none⟩ (.int .u8 b2)).setCell ⟨g, k * 10 + 3, none⟩ (.int .u8 b3)).setCell ⟨g, k * 10 + 4, none⟩ (.int .u8 b4)) g (k * 10 + 5) (.int .i64 b5))) (grown_set_ ((((((wr.setCell ⟨g, k * 10, none⟩ (.int .u8 b0)).setCell ⟨g, k * 10 + 1, none⟩ (.int .u8 b1)).setCell ⟨g, k * 10 + 2, none⟩ (.int .u8 b2)).setCell ⟨g, k * 10 + 3, none⟩ (.int .u8 b3)).setCell ⟨g, k * 10 + 4, none⟩ (.int .u8 b4)).setCell ⟨g, k * 10 + 5, none⟩ (.int .i64 b5)) g (k * 10 + 6) (.int .i64 b6))) (grown_set_ (((((((wr.setCell ⟨g, k * 10, none⟩ (.int .u8 b0)).setCell ⟨g, k * 10 + 1, none⟩ (.int .u8 b1)).setCell ⟨g, k * 10 + 2, none⟩ (.int .u8 b2)).setCell ⟨g, k * 10 + 3, none⟩ (.int .u8 b3)).setCell ⟨g, k * 10 + 4, none⟩ (.int .u8 b4)).setCell ⟨g, k * 10 + 5, none⟩ (.int .i64 b5)).setCell ⟨g, k * 10 + 6, none⟩ (.int .i64 b6)) g (k * 10 + 7) (.int .i64 b7))) (grown_set_ ((((((((wr.setCell ⟨g, k * 10, none⟩ (.int .u8 b0)).setCell ⟨g, k * 10 + 1, none⟩ (.int .u8 b1)).setCell ⟨g, k * 10 + 2, none⟩ (.int .u8 b2)).setCell ⟨g, k * 10 + 3, none⟩ (.int .u8 b3)).setCell ⟨g, k * 10 + 4, none⟩ (.int .u8 b4)).setCell ⟨g, k * 10 + 5, none⟩ (.int .i64 b5)).setCell ⟨g, k * 10 + 6, none⟩ (.int .i64 b6)).setCell ⟨g, k * 10 + 7, none⟩ (.int .i64 b7)) g (k * 10 + 8) (.int .i64 b8))) (grown_set_ (((((((((wr.setCell ⟨g, k * 10, none⟩ (.int .u8 b0)).setCell ⟨g, k * 10 + 1, none⟩ (.int .u8 b1)).setCell ⟨g, k * 10 + 2, none⟩ (.int .u8 b2)).setCell ⟨g, k * 10 + 3, none⟩ (.int .u8 b3)).setCell ⟨g, k * 10 + 4, none⟩ (.int .u8 b4)).setCell ⟨g, k * 10 + 5, none⟩ (.int .i64 b5)).setCell ⟨g, k * 10 + 6, none⟩ (.int .i64 b6)).setCell ⟨g, k * 10 + 7, none⟩ (.int .i64 b7)).setCell ⟨g, k * 10 + 8, none⟩ (.int .i64 b8)) g (k * 10 + 9) (.int .u64 b9))), ((((((((((HX.out.far (p := ⟨g, k * 10, none⟩) (by simp; omega) _).far (p := ⟨g, k * 10 + 1, none⟩) (by simp; omega) _).far (p := ⟨g, k * 10 + 2, none⟩) (by simp; omega) _).far (p := ⟨g, k * 10 + 3, none⟩) (by simp; omega) _).far (p := ⟨g, k * 10 + 4, none⟩) (by simp; omega) _).far (p := ⟨g, k * 10 + 5, none⟩) (by simp; omega) _).far (p := ⟨g, k * 10 + 6, none⟩) (by simp; omega) _).far (p := ⟨g, k * 10 + 7, none⟩) (by simp; omega) _).far (p := ⟨g, k * 10 + 8, none⟩) (by simp; omega) _).far (p := ⟨g, k * 10 + 9, none⟩) (by simp; omega) _)⟩
        · intro i h1 h2
          by_cases hik : i = k
          · subst hik
            exact ⟨(by rw [set_ne_ (by omega), set_ne_ (by omega), set_ne_ (by omega), set_ne_ (by omega), set_ne_ (by omega), set_ne_ (by omega), set_ne_ (by omega), set_ne_ (by omega), set_ne_ (by omega), set_eq_ (by (try simp); omega)]), (by rw [set_ne_ (by omega), set_ne_ (by omega), set_ne_ (by omega), set_ne_ (by omega), set_ne_ (by omega), set_ne_ (by omega), set_ne_ (by omega), set_ne_ (by omega), set_eq_ (by (try simp); omega)]), (by rw [set_ne_ (by omega), set_ne_ (by omega), set_ne_ (by omega), set_ne_ (by omega), set_ne_ (by omega), set_ne_ (by omega), set_ne_ (by omega), set_eq_ (by (try simp); omega)]), (by rw [set_ne_ (by omega), set_ne_ (by omega), set_ne_ (by omega), set_ne_ (by omega), set_ne_ (by omega), set_ne_ (by omega), set_eq_ (by (try simp); omega)]), (by rw [set_ne_ (by omega), set_ne_ (by omega), set_ne_ (by omega), set_ne_ (by omega), set_ne_ (by omega), set_eq_ (by (try simp); omega)]), (by rw [set_ne_ (by omega), set_ne_ (by omega), set_ne_ (by omega), set_ne_ (by omega), set_eq_ (by (try simp); omega)]), (by rw [set_ne_ (by omega), set_ne_ (by omega), set_ne_ (by omega), set_eq_ (by (try simp); omega)]), (by rw [set_ne_ (by omega), set_ne_ (by omega), set_eq_ (by (try simp); omega)]), (by rw [set_ne_ (by omega), set_eq_ (by (try simp); omega)]), (by rw [set_eq_ (by (try simp); omega)])⟩
          · obtain ⟨h_0, h_1, h_2, h_3, h_4, h_5, h_6, h_7, h_8, h_9⟩ := HI.out i h1 (by omega)
            exact ⟨(by rw [set_ne_ (by omega), set_ne_ (by omega), set_ne_ (by omega), set_ne_ (by omega), set_ne_ (by omega), set_ne_ (by omega), set_ne_ (by omega), set_ne_ (by omega), set_ne_ (by omega), set_ne_ (by omega)]; exact h_0), (by rw [set_ne_ (by omega), set_ne_ (by omega), set_ne_ (by omega), set_ne_ (by omega), set_ne_ (by omega), set_ne_ (by omega), set_ne_ (by omega), set_ne_ (by omega), set_ne_ (by omega), set_ne_ (by omega)]; exact h_1), (by rw [set_ne_ (by omega), set_ne_ (by omega), set_ne_ (by omega), set_ne_ (by omega), set_ne_ (by omega), set_ne_ (by omega), set_ne_ (by omega), set_ne_ (by omega), set_ne_ (by omega), set_ne_ (by omega)]; exact h_2), (by rw [set_ne_ (by omega), set_ne_ (by omega), set_ne_ (by omega), set_ne_ (by omega), set_ne_ (by omega), set_ne_ (by omega), set_ne_ (by omega), set_ne_ (by omega), set_ne_ (by omega), set_ne_ (by omega)]; exact h_3), (by rw [set_ne_ (by omega), set_ne_ (by omega), set_ne_ (by omega), set_ne_ (by omega), set_ne_ (by omega), set_ne_ (by omega), set_ne_ (by omega), set_ne_ (by omega), set_ne_ (by omega), set_ne_ (by omega)]; exact h_4), (by rw [set_ne_ (by omega), set_ne_ (by omega), set_ne_ (by omega), set_ne_ (by omega), set_ne_ (by omega), set_ne_ (by omega), set_ne_ (by omega), set_ne_ (by omega), set_ne_ (by omega), set_ne_ (by omega)]; exact h_5), (by rw [set_ne_ (by omega), set_ne_ (by omega), set_ne_ (by omega), set_ne_ (by omega), set_ne_ (by omega), set_ne_ (by omega), set_ne_ (by omega), set_ne_ (by omega), set_ne_ (by omega), set_ne_ (by omega)]; exact h_6), (by rw [set_ne_ (by omega), set_ne_ (by omega), set_ne_ (by omega), set_ne_ (by omega), set_ne_ (by omega), set_ne_ (by omega), set_ne_ (by omega), set_ne_ (by omega), set_ne_ (by omega), set_ne_ (by omega)]; exact h_7), (by rw [set_ne_ (by omega), set_ne_ (by omega), set_ne_ (by omega), set_ne_ (by omega), set_ne_ (by omega), set_ne_ (by omega), set_ne_ (by omega), set_ne_ (by omega), set_ne_ (by omega), set_ne_ (by omega)]; exact h_8), (by rw [set_ne_ (by omega), set_ne_ (by omega), set_ne_ (by omega), set_ne_ (by omega), set_ne_ (by omega), set_ne_ (by omega), set_ne_ (by omega), set_ne_ (by omega), set_ne_ (by omega), set_ne_ (by omega)]; exact h_9)⟩
        · intro p hp
          rw [set_ne_ (by omega), set_ne_ (by omega), set_ne_ (by omega), set_ne_ (by omega), set_ne_ (by omega), set_ne_ (by omega), set_ne_ (by omega), set_ne_ (by omega), set_ne_ (by omega), set_ne_ (by omega)]
          exact HO.out p (by omega)
    · obtain rfl : k = c := by omega
      clear hB
      go_wp2
      exact bodyPost_end (results_none rfl _ _ _) rfl ⟨rfl, cur', HB.out, HS.out, HI.out, HO.out, HG.out⟩
set_option maxHeartbeats 4000000 in
set_option maxRecDepth 100000 in
theorem stands_step (g n c : Nat) (m0 m1 m2 m3 m4 m5 m6 m7 m8 m9 b0 b1 b2 b3 b4 b5 b6 b7 b8 b9 : Int) (cur : Array Value) (w : World) (hk : Blk w g 104 cur) (hn : n ≤ c) (_hc : c * 10 ≤ cur.size) (hb : c ≤ 4611686018427387904)
    (h1 : ∀ i, 0 ≤ i → i < n → cur[i * 10]? = some (.int .u8 m0) ∧ cur[i * 10 + 1]? = some (.int .u8 m1) ∧ cur[i * 10 + 2]? = some (.int .u8 m2) ∧ cur[i * 10 + 3]? = some (.int .u8 m3) ∧ cur[i * 10 + 4]? = some (.int .u8 m4) ∧ cur[i * 10 + 5]? = some (.int .i64 m5) ∧ cur[i * 10 + 6]? = some (.int .i64 m6) ∧ cur[i * 10 + 7]? = some (.int .i64 m7) ∧ cur[i * 10 + 8]? = some (.int .i64 m8) ∧ cur[i * 10 + 9]? = some (.int .u64 m9)) (h2 : ∀ i, n ≤ i → i < c → cur[i * 10]? = some (.int .u8 b0) ∧ cur[i * 10 + 1]? = some (.int .u8 b1) ∧ cur[i * 10 + 2]? = some (.int .u8 b2) ∧ cur[i * 10 + 3]? = some (.int .u8 b3) ∧ cur[i * 10 + 4]? = some (.int .u8 b4) ∧ cur[i * 10 + 5]? = some (.int .i64 b5) ∧ cur[i * 10 + 6]? = some (.int .i64 b6) ∧ cur[i * 10 + 7]? = some (.int .i64 b7) ∧ cur[i * 10 + 8]? = some (.int .i64 b8) ∧ cur[i * 10 + 9]? = some (.int .u64 b9)) :
    Calls Tryz.prog 149 #[row_step (some ⟨g, 0, none⟩) n c m0 m1 m2 m3 m4 m5 m6 m7 m8 m9 b0 b1 b2 b3 b4 b5 b6 b7 b8 b9] w fun e w' => e = .returned (.bool true) ∧ Below w.heap.size w w' := by
  unfold row_step
  have K := Lib.hid (Blk.new w 106 #[.slice (some ⟨g, 0, none⟩) n c, .int .u8 m0, .int .u8 m1, .int .u8 m2, .int .u8 m3, .int .u8 m4, .int .i64 m5, .int .i64 m6, .int .i64 m7, .int .i64 m8, .int .u64 m9, .int .u8 b0, .int .u8 b1, .int .u8 b2, .int .u8 b3, .int .u8 b4, .int .i64 b5, .int .i64 b6, .int .i64 b7, .int .i64 b8, .int .u64 b9])
  have HK := Lib.hid (hk.alloc (.cells #[.slice (some ⟨g, 0, none⟩) n c, .int .u8 m0, .int .u8 m1, .int .u8 m2, .int .u8 m3, .int .u8 m4, .int .i64 m5, .int .i64 m6, .int .i64 m7, .int .i64 m8, .int .u64 m9, .int .u8 b0, .int .u8 b1, .int .u8 b2, .int .u8 b3, .int .u8 b4, .int .i64 b5, .int .i64 b6, .int .i64 b7, .int .i64 b8, .int .u64 b9] 106))
  have H1 := Lib.hid h1
  have H2 := Lib.hid h2
  have hn' : (n : Int) ≤ c := by omega
  have hb' : (c : Int) ≤ 4611686018427387904 := by omega
  have kx := K.out
  have x0 := kx.cell 0
  have x1 := kx.cell 1
  have x2 := kx.cell 2
  have x3 := kx.cell 3
  have x4 := kx.cell 4
  have x5 := kx.cell 5
  have x6 := kx.cell 6
  have x7 := kx.cell 7
  have x8 := kx.cell 8
  have x9 := kx.cell 9
  have x10 := kx.cell 10
  have x11 := kx.cell 11
  have x12 := kx.cell 12
  have x13 := kx.cell 13
  have x14 := kx.cell 14
  have x15 := kx.cell 15
  have x16 := kx.cell 16
  have x17 := kx.cell 17
  have x18 := kx.cell 18
  have x19 := kx.cell 19
  have x20 := kx.cell 20
  simp only [List.getElem?_toArray, List.getElem?_cons_zero, List.getElem?_cons_succ] at x0 x1 x2 x3 x4 x5 x6 x7 x8 x9 x10 x11 x12 x13 x14 x15 x16 x17 x18 x19 x20
  clear hk h1 h2 kx
  have hnm : ∀ W, (binOp .neq 104 (.agg #[.int .u8 m0, .int .u8 m1, .int .u8 m2, .int .u8 m3, .int .u8 m4, .int .i64 m5, .int .i64 m6, .int .i64 m7, .int .i64 m8, .int .u64 m9]) (.agg #[.int .u8 m0, .int .u8 m1, .int .u8 m2, .int .u8 m3, .int .u8 m4, .int .i64 m5, .int .i64 m6, .int .i64 m7, .int .i64 m8, .int .u64 m9])).run Tryz.prog W = .ok (.bool false) W := fun W => by rw [run_neq_step m0 m1 m2 m3 m4 m5 m6 m7 m8 m9 m0 m1 m2 m3 m4 m5 m6 m7 m8 m9 W]; simp
  have hnb : ∀ W, (binOp .neq 104 (.agg #[.int .u8 b0, .int .u8 b1, .int .u8 b2, .int .u8 b3, .int .u8 b4, .int .i64 b5, .int .i64 b6, .int .i64 b7, .int .i64 b8, .int .u64 b9]) (.agg #[.int .u8 b0, .int .u8 b1, .int .u8 b2, .int .u8 b3, .int .u8 b4, .int .i64 b5, .int .i64 b6, .int .i64 b7, .int .i64 b8, .int .u64 b9])).run Tryz.prog W = .ok (.bool false) W := fun W => by rw [run_neq_step b0 b1 b2 b3 b4 b5 b6 b7 b8 b9 b0 b1 b2 b3 b4 b5 b6 b7 b8 b9 W]; simp
  go_enter Tryz.func149, Tryz.ntmps149
  go_wp2_with fail
  go_loopg [4] c (fun q x wr => ∃ k m : Nat, k ≤ c ∧ q = c - k ∧ x = .int .i64 k ∧ wr = (w.alloc (.cells #[.slice (some ⟨g, 0, none⟩) n c, .int .u8 m0, .int .u8 m1, .int .u8 m2, .int .u8 m3, .int .u8 m4, .int .i64 m5, .int .i64 m6, .int .i64 m7, .int .i64 m8, .int .u64 m9, .int .u8 b0, .int .u8 b1, .int .u8 b2, .int .u8 b3, .int .u8 b4, .int .i64 b5, .int .i64 b6, .int .i64 b7, .int .i64 b8, .int .u64 b9] 106)).drewN m)
  case atStart => exact ⟨0, 0, Nat.zero_le _, rfl, rfl, rfl⟩
  case round =>
    obtain ⟨k, m, hk, rfl, rfl, rfl⟩ := hrel
    by_cases hkc : k < c
    · have hkc' : (k : Int) < c := by omega
      have hk0 : (0 : Int) ≤ k := by omega
      by_cases hkn : k < n
      · have hkn' : (k : Int) < n := by omega
        have hkn2 : ¬ (n : Int) ≤ k := by omega
        have hd1 : decide ((k : Int) < n) = true := decide_eq_true hkn'
        have hd2 : decide ((n : Int) ≤ k) = false := decide_eq_false hkn2
        have hd3 : decide (n ≤ k) = false := decide_eq_false (by omega)
        have hd4 : ¬ n ≤ k := by omega
        obtain ⟨h_0, h_1, h_2, h_3, h_4, h_5, h_6, h_7, h_8, h_9⟩ := H1.out k (Nat.zero_le _) hkn
        have y0 : (w.alloc (.cells #[.slice (some ⟨g, 0, none⟩) n c, .int .u8 m0, .int .u8 m1, .int .u8 m2, .int .u8 m3, .int .u8 m4, .int .i64 m5, .int .i64 m6, .int .i64 m7, .int .i64 m8, .int .u64 m9, .int .u8 b0, .int .u8 b1, .int .u8 b2, .int .u8 b3, .int .u8 b4, .int .i64 b5, .int .i64 b6, .int .i64 b7, .int .i64 b8, .int .u64 b9] 106)).cell? ⟨g, k * 10, none⟩ = some (.int .u8 m0) := by rw [HK.out.cell]; exact h_0
        have y1 : (w.alloc (.cells #[.slice (some ⟨g, 0, none⟩) n c, .int .u8 m0, .int .u8 m1, .int .u8 m2, .int .u8 m3, .int .u8 m4, .int .i64 m5, .int .i64 m6, .int .i64 m7, .int .i64 m8, .int .u64 m9, .int .u8 b0, .int .u8 b1, .int .u8 b2, .int .u8 b3, .int .u8 b4, .int .i64 b5, .int .i64 b6, .int .i64 b7, .int .i64 b8, .int .u64 b9] 106)).cell? ⟨g, k * 10 + 1, none⟩ = some (.int .u8 m1) := by rw [HK.out.cell]; exact h_1
        have y2 : (w.alloc (.cells #[.slice (some ⟨g, 0, none⟩) n c, .int .u8 m0, .int .u8 m1, .int .u8 m2, .int .u8 m3, .int .u8 m4, .int .i64 m5, .int .i64 m6, .int .i64 m7, .int .i64 m8, .int .u64 m9, .int .u8 b0, .int .u8 b1, .int .u8 b2, .int .u8 b3, .int .u8 b4, .int .i64 b5, .int .i64 b6, .int .i64 b7, .int .i64 b8, .int .u64 b9] 106)).cell? ⟨g, k * 10 + 2, none⟩ = some (.int .u8 m2) := by rw [HK.out.cell]; exact h_2
        have y3 : (w.alloc (.cells #[.slice (some ⟨g, 0, none⟩) n c, .int .u8 m0, .int .u8 m1, .int .u8 m2, .int .u8 m3, .int .u8 m4, .int .i64 m5, .int .i64 m6, .int .i64 m7, .int .i64 m8, .int .u64 m9, .int .u8 b0, .int .u8 b1, .int .u8 b2, .int .u8 b3, .int .u8 b4, .int .i64 b5, .int .i64 b6, .int .i64 b7, .int .i64 b8, .int .u64 b9] 106)).cell? ⟨g, k * 10 + 3, none⟩ = some (.int .u8 m3) := by rw [HK.out.cell]; exact h_3
        have y4 : (w.alloc (.cells #[.slice (some ⟨g, 0, none⟩) n c, .int .u8 m0, .int .u8 m1, .int .u8 m2, .int .u8 m3, .int .u8 m4, .int .i64 m5, .int .i64 m6, .int .i64 m7, .int .i64 m8, .int .u64 m9, .int .u8 b0, .int .u8 b1, .int .u8 b2, .int .u8 b3, .int .u8 b4, .int .i64 b5, .int .i64 b6, .int .i64 b7, .int .i64 b8, .int .u64 b9] 106)).cell? ⟨g, k * 10 + 4, none⟩ = some (.int .u8 m4) := by rw [HK.out.cell]; exact h_4
        have y5 : (w.alloc (.cells #[.slice (some ⟨g, 0, none⟩) n c, .int .u8 m0, .int .u8 m1, .int .u8 m2, .int .u8 m3, .int .u8 m4, .int .i64 m5, .int .i64 m6, .int .i64 m7, .int .i64 m8, .int .u64 m9, .int .u8 b0, .int .u8 b1, .int .u8 b2, .int .u8 b3, .int .u8 b4, .int .i64 b5, .int .i64 b6, .int .i64 b7, .int .i64 b8, .int .u64 b9] 106)).cell? ⟨g, k * 10 + 5, none⟩ = some (.int .i64 m5) := by rw [HK.out.cell]; exact h_5
        have y6 : (w.alloc (.cells #[.slice (some ⟨g, 0, none⟩) n c, .int .u8 m0, .int .u8 m1, .int .u8 m2, .int .u8 m3, .int .u8 m4, .int .i64 m5, .int .i64 m6, .int .i64 m7, .int .i64 m8, .int .u64 m9, .int .u8 b0, .int .u8 b1, .int .u8 b2, .int .u8 b3, .int .u8 b4, .int .i64 b5, .int .i64 b6, .int .i64 b7, .int .i64 b8, .int .u64 b9] 106)).cell? ⟨g, k * 10 + 6, none⟩ = some (.int .i64 m6) := by rw [HK.out.cell]; exact h_6
        have y7 : (w.alloc (.cells #[.slice (some ⟨g, 0, none⟩) n c, .int .u8 m0, .int .u8 m1, .int .u8 m2, .int .u8 m3, .int .u8 m4, .int .i64 m5, .int .i64 m6, .int .i64 m7, .int .i64 m8, .int .u64 m9, .int .u8 b0, .int .u8 b1, .int .u8 b2, .int .u8 b3, .int .u8 b4, .int .i64 b5, .int .i64 b6, .int .i64 b7, .int .i64 b8, .int .u64 b9] 106)).cell? ⟨g, k * 10 + 7, none⟩ = some (.int .i64 m7) := by rw [HK.out.cell]; exact h_7
        have y8 : (w.alloc (.cells #[.slice (some ⟨g, 0, none⟩) n c, .int .u8 m0, .int .u8 m1, .int .u8 m2, .int .u8 m3, .int .u8 m4, .int .i64 m5, .int .i64 m6, .int .i64 m7, .int .i64 m8, .int .u64 m9, .int .u8 b0, .int .u8 b1, .int .u8 b2, .int .u8 b3, .int .u8 b4, .int .i64 b5, .int .i64 b6, .int .i64 b7, .int .i64 b8, .int .u64 b9] 106)).cell? ⟨g, k * 10 + 8, none⟩ = some (.int .i64 m8) := by rw [HK.out.cell]; exact h_8
        have y9 : (w.alloc (.cells #[.slice (some ⟨g, 0, none⟩) n c, .int .u8 m0, .int .u8 m1, .int .u8 m2, .int .u8 m3, .int .u8 m4, .int .i64 m5, .int .i64 m6, .int .i64 m7, .int .i64 m8, .int .u64 m9, .int .u8 b0, .int .u8 b1, .int .u8 b2, .int .u8 b3, .int .u8 b4, .int .i64 b5, .int .i64 b6, .int .i64 b7, .int .i64 b8, .int .u64 b9] 106)).cell? ⟨g, k * 10 + 9, none⟩ = some (.int .u64 m9) := by rw [HK.out.cell]; exact h_9
        clear h_0 h_1 h_2 h_3 h_4 h_5 h_6 h_7 h_8 h_9
        go_wp2_with fail
        go_quiet (fail)
        go_wp2
        go_roundg (c - (k + 1))
        case measure => omega
        case rel => exact ⟨k + 1, _, by omega, rfl, by go_num, rfl⟩
      · have hkn' : ¬ (k : Int) < n := by omega
        have hkn2 : (n : Int) ≤ k := by omega
        have hd1 : decide ((k : Int) < n) = false := decide_eq_false hkn'
        have hd2 : decide ((n : Int) ≤ k) = true := decide_eq_true hkn2
        have hd3 : decide (n ≤ k) = true := decide_eq_true (by omega)
        have hd4 : n ≤ k := by omega
        obtain ⟨h_0, h_1, h_2, h_3, h_4, h_5, h_6, h_7, h_8, h_9⟩ := H2.out k (by omega) hkc
        have y0 : (w.alloc (.cells #[.slice (some ⟨g, 0, none⟩) n c, .int .u8 m0, .int .u8 m1, .int .u8 m2, .int .u8 m3, .int .u8 m4, .int .i64 m5, .int .i64 m6, .int .i64 m7, .int .i64 m8, .int .u64 m9, .int .u8 b0, .int .u8 b1, .int .u8 b2, .int .u8 b3, .int .u8 b4, .int .i64 b5, .int .i64 b6, .int .i64 b7, .int .i64 b8, .int .u64 b9] 106)).cell? ⟨g, k * 10, none⟩ = some (.int .u8 b0) := by rw [HK.out.cell]; exact h_0
        have y1 : (w.alloc (.cells #[.slice (some ⟨g, 0, none⟩) n c, .int .u8 m0, .int .u8 m1, .int .u8 m2, .int .u8 m3, .int .u8 m4, .int .i64 m5, .int .i64 m6, .int .i64 m7, .int .i64 m8, .int .u64 m9, .int .u8 b0, .int .u8 b1, .int .u8 b2, .int .u8 b3, .int .u8 b4, .int .i64 b5, .int .i64 b6, .int .i64 b7, .int .i64 b8, .int .u64 b9] 106)).cell? ⟨g, k * 10 + 1, none⟩ = some (.int .u8 b1) := by rw [HK.out.cell]; exact h_1
        have y2 : (w.alloc (.cells #[.slice (some ⟨g, 0, none⟩) n c, .int .u8 m0, .int .u8 m1, .int .u8 m2, .int .u8 m3, .int .u8 m4, .int .i64 m5, .int .i64 m6, .int .i64 m7, .int .i64 m8, .int .u64 m9, .int .u8 b0, .int .u8 b1, .int .u8 b2, .int .u8 b3, .int .u8 b4, .int .i64 b5, .int .i64 b6, .int .i64 b7, .int .i64 b8, .int .u64 b9] 106)).cell? ⟨g, k * 10 + 2, none⟩ = some (.int .u8 b2) := by rw [HK.out.cell]; exact h_2
        have y3 : (w.alloc (.cells #[.slice (some ⟨g, 0, none⟩) n c, .int .u8 m0, .int .u8 m1, .int .u8 m2, .int .u8 m3, .int .u8 m4, .int .i64 m5, .int .i64 m6, .int .i64 m7, .int .i64 m8, .int .u64 m9, .int .u8 b0, .int .u8 b1, .int .u8 b2, .int .u8 b3, .int .u8 b4, .int .i64 b5, .int .i64 b6, .int .i64 b7, .int .i64 b8, .int .u64 b9] 106)).cell? ⟨g, k * 10 + 3, none⟩ = some (.int .u8 b3) := by rw [HK.out.cell]; exact h_3
        have y4 : (w.alloc (.cells #[.slice (some ⟨g, 0, none⟩) n c, .int .u8 m0, .int .u8 m1, .int .u8 m2, .int .u8 m3, .int .u8 m4, .int .i64 m5, .int .i64 m6, .int .i64 m7, .int .i64 m8, .int .u64 m9, .int .u8 b0, .int .u8 b1, .int .u8 b2, .int .u8 b3, .int .u8 b4, .int .i64 b5, .int .i64 b6, .int .i64 b7, .int .i64 b8, .int .u64 b9] 106)).cell? ⟨g, k * 10 + 4, none⟩ = some (.int .u8 b4) := by rw [HK.out.cell]; exact h_4
        have y5 : (w.alloc (.cells #[.slice (some ⟨g, 0, none⟩) n c, .int .u8 m0, .int .u8 m1, .int .u8 m2, .int .u8 m3, .int .u8 m4, .int .i64 m5, .int .i64 m6, .int .i64 m7, .int .i64 m8, .int .u64 m9, .int .u8 b0, .int .u8 b1, .int .u8 b2, .int .u8 b3, .int .u8 b4, .int .i64 b5, .int .i64 b6, .int .i64 b7, .int .i64 b8, .int .u64 b9] 106)).cell? ⟨g, k * 10 + 5, none⟩ = some (.int .i64 b5) := by rw [HK.out.cell]; exact h_5
        have y6 : (w.alloc (.cells #[.slice (some ⟨g, 0, none⟩) n c, .int .u8 m0, .int .u8 m1, .int .u8 m2, .int .u8 m3, .int .u8 m4, .int .i64 m5, .int .i64 m6, .int .i64 m7, .int .i64 m8, .int .u64 m9, .int .u8 b0, .int .u8 b1, .int .u8 b2, .int .u8 b3, .int .u8 b4, .int .i64 b5, .int .i64 b6, .int .i64 b7, .int .i64 b8, .int .u64 b9] 106)).cell? ⟨g, k * 10 + 6, none⟩ = some (.int .i64 b6) := by rw [HK.out.cell]; exact h_6
        have y7 : (w.alloc (.cells #[.slice (some ⟨g, 0, none⟩) n c, .int .u8 m0, .int .u8 m1, .int .u8 m2, .int .u8 m3, .int .u8 m4, .int .i64 m5, .int .i64 m6, .int .i64 m7, .int .i64 m8, .int .u64 m9, .int .u8 b0, .int .u8 b1, .int .u8 b2, .int .u8 b3, .int .u8 b4, .int .i64 b5, .int .i64 b6, .int .i64 b7, .int .i64 b8, .int .u64 b9] 106)).cell? ⟨g, k * 10 + 7, none⟩ = some (.int .i64 b7) := by rw [HK.out.cell]; exact h_7
        have y8 : (w.alloc (.cells #[.slice (some ⟨g, 0, none⟩) n c, .int .u8 m0, .int .u8 m1, .int .u8 m2, .int .u8 m3, .int .u8 m4, .int .i64 m5, .int .i64 m6, .int .i64 m7, .int .i64 m8, .int .u64 m9, .int .u8 b0, .int .u8 b1, .int .u8 b2, .int .u8 b3, .int .u8 b4, .int .i64 b5, .int .i64 b6, .int .i64 b7, .int .i64 b8, .int .u64 b9] 106)).cell? ⟨g, k * 10 + 8, none⟩ = some (.int .i64 b8) := by rw [HK.out.cell]; exact h_8
        have y9 : (w.alloc (.cells #[.slice (some ⟨g, 0, none⟩) n c, .int .u8 m0, .int .u8 m1, .int .u8 m2, .int .u8 m3, .int .u8 m4, .int .i64 m5, .int .i64 m6, .int .i64 m7, .int .i64 m8, .int .u64 m9, .int .u8 b0, .int .u8 b1, .int .u8 b2, .int .u8 b3, .int .u8 b4, .int .i64 b5, .int .i64 b6, .int .i64 b7, .int .i64 b8, .int .u64 b9] 106)).cell? ⟨g, k * 10 + 9, none⟩ = some (.int .u64 b9) := by rw [HK.out.cell]; exact h_9
        clear h_0 h_1 h_2 h_3 h_4 h_5 h_6 h_7 h_8 h_9
        go_wp2_with fail
        go_quiet (fail)
        go_wp2
        go_roundg (c - (k + 1))
        case measure => omega
        case rel => exact ⟨k + 1, _, by omega, rfl, by go_num, rfl⟩
    · obtain rfl : c = k := by omega
      go_wp2
      go_ret
      exact ⟨rfl, (below_alloc_ w (.cells #[.slice (some ⟨g, 0, none⟩) n c, .int .u8 m0, .int .u8 m1, .int .u8 m2, .int .u8 m3, .int .u8 m4, .int .i64 m5, .int .i64 m6, .int .i64 m7, .int .i64 m8, .int .u64 m9, .int .u8 b0, .int .u8 b1, .int .u8 b2, .int .u8 b3, .int .u8 b4, .int .i64 b5, .int .i64 b6, .int .i64 b7, .int .i64 b8, .int .u64 b9] 106)).trans ((below_drewN_ (w.alloc (.cells #[.slice (some ⟨g, 0, none⟩) n c, .int .u8 m0, .int .u8 m1, .int .u8 m2, .int .u8 m3, .int .u8 m4, .int .i64 m5, .int .i64 m6, .int .i64 m7, .int .i64 m8, .int .u64 m9, .int .u8 b0, .int .u8 b1, .int .u8 b2, .int .u8 b3, .int .u8 b4, .int .i64 b5, .int .i64 b6, .int .i64 b7, .int .i64 b8, .int .u64 b9] 106)).heap.size _ _).mono (by simp))⟩
end Go.Proofs.YthjdkjinkmdclaaGreat

/- law01: a page (countinghouse/api.Got): written over, and behind; whether it stands. -/
namespace Go.Proofs.YthjdkjinkmdclaaGreat
open Go.RowKit

abbrev row_got (A : Option Addr) (n c : Nat) (m0 m1 b0 b1 : Int) : Value := .agg #[.slice A n c, .int .i64 m0, .int .i64 m1, .int .i64 b0, .int .i64 b1]
set_option maxHeartbeats 2000000 in
theorem write_got_none (m0 m1 b0 b1 : Int) (w : World) : Calls Tryz.prog 153 #[row_got none 0 0 m0 m1 b0 b1] w fun e w' => e = .returned (.tuple #[]) ∧ Below w.heap.size w w' := by
  unfold row_got
  go_enter Tryz.func153, Tryz.ntmps153
  go_wp2
  refine wp_loop_rounds 1 ?_
  rw [rounds_succ]
  go_wp2
  exact bodyPost_end (results_none rfl _ _ _) rfl ⟨rfl, below_alloc_ _ _⟩
set_option maxHeartbeats 2000000 in
theorem behind_got_none (m0 m1 b0 b1 : Int) (w : World) : Calls Tryz.prog 154 #[row_got none 0 0 m0 m1 b0 b1] w fun e w' => e = .returned (.tuple #[]) ∧ Below w.heap.size w w' := by
  unfold row_got
  go_enter Tryz.func154, Tryz.ntmps154
  go_wp2
  refine wp_loop_rounds 1 ?_
  rw [rounds_succ]
  go_wp2
  exact bodyPost_end (results_none rfl _ _ _) rfl ⟨rfl, below_alloc_ _ _⟩
set_option maxHeartbeats 2000000 in
theorem stands_got_none (m0 m1 b0 b1 : Int) (w : World) : Calls Tryz.prog 152 #[row_got none 0 0 m0 m1 b0 b1] w fun e w' => e = .returned (.bool true) ∧ Below w.heap.size w w' := by
  unfold row_got
  go_enter Tryz.func152, Tryz.ntmps152
  go_wp2
  refine wp_loop_rounds 1 ?_
  rw [rounds_succ]
  go_wp2
  go_ret
  exact ⟨rfl, below_alloc_ _ _⟩
set_option maxHeartbeats 4000000 in
set_option maxRecDepth 100000 in
theorem write_got (g n c : Nat) (m0 m1 b0 b1 : Int) (cur : Array Value) (w : World) (hk : Blk w g 108 cur) (hn : n ≤ c) (hc : c * 2 ≤ cur.size) (hb : c ≤ 4611686018427387904) :
    Calls Tryz.prog 153 #[row_got (some ⟨g, 0, none⟩) n c m0 m1 b0 b1] w fun e w' => e = .returned (.tuple #[]) ∧ ∃ cur', Blk w' g 108 cur' ∧ cur'.size = cur.size ∧ (∀ i, 0 ≤ i → i < n → cur'[i * 2]? = some (.int .i64 m0) ∧ cur'[i * 2 + 1]? = some (.int .i64 m1)) ∧ (∀ p, p < 0 ∨ n * 2 ≤ p → cur'[p]? = cur[p]?) ∧ w.grownBy w' (some g) := by
  unfold row_got
  have K := Lib.hid (Blk.new w 110 #[.slice (some ⟨g, 0, none⟩) n c, .int .i64 m0, .int .i64 m1, .int .i64 b0, .int .i64 b1])
  have HK := Lib.hid (hk.alloc (.cells #[.slice (some ⟨g, 0, none⟩) n c, .int .i64 m0, .int .i64 m1, .int .i64 b0, .int .i64 b1] 110))
  have hgl := hk.lt
  have hn' : (n : Int) ≤ c := by omega
  have hb' : (c : Int) ≤ 4611686018427387904 := by omega
  have G0 := Lib.hid (show w.grownBy _ (some g) from grown_below_ (below_alloc_ w (.cells #[.slice (some ⟨g, 0, none⟩) n c, .int .i64 m0, .int .i64 m1, .int .i64 b0, .int .i64 b1] 110)) (some g))
  clear hk
  go_enter Tryz.func153, Tryz.ntmps153
  go_wp2_with fail
  go_loopg [2] (n - 0) (fun q x wr => ∃ (k : Nat) (cur' : Array Value), 0 ≤ k ∧ k ≤ n ∧ q = n - k ∧ x = .int .i64 k ∧ Blk wr g 108 cur' ∧ cur'.size = cur.size ∧ (∀ i, 0 ≤ i → i < k → cur'[i * 2]? = some (.int .i64 m0) ∧ cur'[i * 2 + 1]? = some (.int .i64 m1)) ∧ (∀ p, p < 0 ∨ k * 2 ≤ p → cur'[p]? = cur[p]?) ∧ w.grownBy wr (some g) ∧ Blk wr w.heap.size 110 #[.slice (some ⟨g, 0, none⟩) n c, .int .i64 m0, .int .i64 m1, .int .i64 b0, .int .i64 b1])
  case atStart => exact ⟨0, cur, Nat.le_refl _, by omega, rfl, rfl, HK.out, rfl, fun i _ _ => by omega, fun _ _ => rfl, G0.out, K.out⟩
  case round =>
    obtain ⟨k, cur', hlk, hk, rfl, rfl, hB, hsz, hin, hot, hg, hbx⟩ := hrel
    have HB := Lib.hid hB
    have HI := Lib.hid hin
    have HO := Lib.hid hot
    have HG := Lib.hid hg
    have HX := Lib.hid hbx
    have HS := Lib.hid hsz
    have f := hB.free
    have x0 := hbx.cell 0
    have x1 := hbx.cell 1
    have x2 := hbx.cell 2
    have x3 := hbx.cell 3
    have x4 := hbx.cell 4
    simp only [List.getElem?_toArray, List.getElem?_cons_zero, List.getElem?_cons_succ] at x0 x1 x2 x3 x4
    clear hin hot hg hbx
    by_cases hkn : k < n
    · have hkn' : (k : Int) < n := by omega
      have hk0 : (0 : Int) ≤ k := by omega
      have hz0 : k * 2 < cur'.size := by omega
      have y0 : wr.cell? ⟨g, k * 2, none⟩ = some (cur'[k * 2]'hz0) := by rw [hB.cell]; simp [hz0]
      have hz1 : k * 2 + 1 < cur'.size := by omega
      have y1 : wr.cell? ⟨g, k * 2 + 1, none⟩ = some (cur'[k * 2 + 1]'hz1) := by rw [hB.cell]; simp [hz1]
      clear hB
      go_wp2
      go_roundg (n - (k + 1))
      case measure => omega
      case rel =>
        refine ⟨k + 1, ((cur'.setIfInBounds (k * 2) (.int .i64 m0)).setIfInBounds (k * 2 + 1) (.int .i64 m1)), by omega, by omega, rfl, by go_num, ((HB.out.set_ (k * 2) (.int .i64 m0)).set_ (k * 2 + 1) (.int .i64 m1)), by simp [HS.out], ?_, ?_, (grown_trans_ (grown_trans_ HG.out (grown_set_ wr g (k * 2) (.int .i64 m0))) (grown_set_ (wr.setCell ⟨g, k * 2, none⟩ (.int .i64 m0)) g (k * 2 + 1) (.int .i64 m1))), ((HX.out.far (p := ⟨g, k * 2, none⟩) (by simp; omega) _).far (p := ⟨g, k * 2 + 1, none⟩) (by simp; omega) _)⟩
        · intro i h1 h2
          by_cases hik : i = k
          · subst hik
            exact ⟨(by rw [set_ne_ (by omega), set_eq_ (by (try simp); omega)]), (by rw [set_eq_ (by (try simp); omega)])⟩
          · obtain ⟨h_0, h_1⟩ := HI.out i h1 (by omega)
            exact ⟨(by rw [set_ne_ (by omega), set_ne_ (by omega)]; exact h_0), (by rw [set_ne_ (by omega), set_ne_ (by omega)]; exact h_1)⟩
        · intro p hp
          rw [set_ne_ (by omega), set_ne_ (by omega)]
          exact HO.out p (by omega)
    · obtain rfl : k = n := by omega
      clear hB
      go_wp2
      exact bodyPost_end (results_none rfl _ _ _) rfl ⟨rfl, cur', HB.out, HS.out, HI.out, HO.out, HG.out⟩
set_option maxHeartbeats 4000000 in
set_option maxRecDepth 100000 in
theorem behind_got (g n c : Nat) (m0 m1 b0 b1 : Int) (cur : Array Value) (w : World) (hk : Blk w g 108 cur) (hn : n ≤ c) (hc : c * 2 ≤ cur.size) (hb : c ≤ 4611686018427387904) :
    Calls Tryz.prog 154 #[row_got (some ⟨g, 0, none⟩) n c m0 m1 b0 b1] w fun e w' => e = .returned (.tuple #[]) ∧ ∃ cur', Blk w' g 108 cur' ∧ cur'.size = cur.size ∧ (∀ i, n ≤ i → i < c → cur'[i * 2]? = some (.int .i64 b0) ∧ cur'[i * 2 + 1]? = some (.int .i64 b1)) ∧ (∀ p, p < n * 2 ∨ c * 2 ≤ p → cur'[p]? = cur[p]?) ∧ w.grownBy w' (some g) := by
  unfold row_got
  have K := Lib.hid (Blk.new w 110 #[.slice (some ⟨g, 0, none⟩) n c, .int .i64 m0, .int .i64 m1, .int .i64 b0, .int .i64 b1])
  have HK := Lib.hid (hk.alloc (.cells #[.slice (some ⟨g, 0, none⟩) n c, .int .i64 m0, .int .i64 m1, .int .i64 b0, .int .i64 b1] 110))
  have hgl := hk.lt
  have hn' : (n : Int) ≤ c := by omega
  have hb' : (c : Int) ≤ 4611686018427387904 := by omega
  have G0 := Lib.hid (show w.grownBy _ (some g) from grown_below_ (below_alloc_ w (.cells #[.slice (some ⟨g, 0, none⟩) n c, .int .i64 m0, .int .i64 m1, .int .i64 b0, .int .i64 b1] 110)) (some g))
  clear hk
  go_enter Tryz.func154, Tryz.ntmps154
  go_wp2_with fail
  go_loopg [3] (c - n) (fun q x wr => ∃ (k : Nat) (cur' : Array Value), n ≤ k ∧ k ≤ c ∧ q = c - k ∧ x = .int .i64 k ∧ Blk wr g 108 cur' ∧ cur'.size = cur.size ∧ (∀ i, n ≤ i → i < k → cur'[i * 2]? = some (.int .i64 b0) ∧ cur'[i * 2 + 1]? = some (.int .i64 b1)) ∧ (∀ p, p < n * 2 ∨ k * 2 ≤ p → cur'[p]? = cur[p]?) ∧ w.grownBy wr (some g) ∧ Blk wr w.heap.size 110 #[.slice (some ⟨g, 0, none⟩) n c, .int .i64 m0, .int .i64 m1, .int .i64 b0, .int .i64 b1])
  case atStart => exact ⟨n, cur, Nat.le_refl _, by omega, rfl, rfl, HK.out, rfl, fun i _ _ => by omega, fun _ _ => rfl, G0.out, K.out⟩
  case round =>
    obtain ⟨k, cur', hlk, hk, rfl, rfl, hB, hsz, hin, hot, hg, hbx⟩ := hrel
    have HB := Lib.hid hB
    have HI := Lib.hid hin
    have HO := Lib.hid hot
    have HG := Lib.hid hg
    have HX := Lib.hid hbx
    have HS := Lib.hid hsz
    have f := hB.free
    have x0 := hbx.cell 0
    have x1 := hbx.cell 1
    have x2 := hbx.cell 2
    have x3 := hbx.cell 3
    have x4 := hbx.cell 4
    simp only [List.getElem?_toArray, List.getElem?_cons_zero, List.getElem?_cons_succ] at x0 x1 x2 x3 x4
    clear hin hot hg hbx
    by_cases hkn : k < c
    · have hkn' : (k : Int) < c := by omega
      have hk0 : (0 : Int) ≤ k := by omega
      have hz0 : k * 2 < cur'.size := by omega
      have y0 : wr.cell? ⟨g, k * 2, none⟩ = some (cur'[k * 2]'hz0) := by rw [hB.cell]; simp [hz0]
      have hz1 : k * 2 + 1 < cur'.size := by omega
      have y1 : wr.cell? ⟨g, k * 2 + 1, none⟩ = some (cur'[k * 2 + 1]'hz1) := by rw [hB.cell]; simp [hz1]
      clear hB
      go_wp2
      go_roundg (c - (k + 1))
      case measure => omega
      case rel =>
        refine ⟨k + 1, ((cur'.setIfInBounds (k * 2) (.int .i64 b0)).setIfInBounds (k * 2 + 1) (.int .i64 b1)), by omega, by omega, rfl, by go_num, ((HB.out.set_ (k * 2) (.int .i64 b0)).set_ (k * 2 + 1) (.int .i64 b1)), by simp [HS.out], ?_, ?_, (grown_trans_ (grown_trans_ HG.out (grown_set_ wr g (k * 2) (.int .i64 b0))) (grown_set_ (wr.setCell ⟨g, k * 2, none⟩ (.int .i64 b0)) g (k * 2 + 1) (.int .i64 b1))), ((HX.out.far (p := ⟨g, k * 2, none⟩) (by simp; omega) _).far (p := ⟨g, k * 2 + 1, none⟩) (by simp; omega) _)⟩
        · intro i h1 h2
          by_cases hik : i = k
          · subst hik
            exact ⟨(by rw [set_ne_ (by omega), set_eq_ (by (try simp); omega)]), (by rw [set_eq_ (by (try simp); omega)])⟩
          · obtain ⟨h_0, h_1⟩ := HI.out i h1 (by omega)
            exact ⟨(by rw [set_ne_ (by omega), set_ne_ (by omega)]; exact h_0), (by rw [set_ne_ (by omega), set_ne_ (by omega)]; exact h_1)⟩
        · intro p hp
          rw [set_ne_ (by omega), set_ne_ (by omega)]
          exact HO.out p (by omega)
    · obtain rfl : k = c := by omega
      clear hB
      go_wp2
      exact bodyPost_end (results_none rfl _ _ _) rfl ⟨rfl, cur', HB.out, HS.out, HI.out, HO.out, HG.out⟩
set_option maxHeartbeats 4000000 in
set_option maxRecDepth 100000 in
theorem stands_got (g n c : Nat) (m0 m1 b0 b1 : Int) (cur : Array Value) (w : World) (hk : Blk w g 108 cur) (hn : n ≤ c) (_hc : c * 2 ≤ cur.size) (hb : c ≤ 4611686018427387904)
    (h1 : ∀ i, 0 ≤ i → i < n → cur[i * 2]? = some (.int .i64 m0) ∧ cur[i * 2 + 1]? = some (.int .i64 m1)) (h2 : ∀ i, n ≤ i → i < c → cur[i * 2]? = some (.int .i64 b0) ∧ cur[i * 2 + 1]? = some (.int .i64 b1)) :
    Calls Tryz.prog 152 #[row_got (some ⟨g, 0, none⟩) n c m0 m1 b0 b1] w fun e w' => e = .returned (.bool true) ∧ Below w.heap.size w w' := by
  unfold row_got
  have K := Lib.hid (Blk.new w 110 #[.slice (some ⟨g, 0, none⟩) n c, .int .i64 m0, .int .i64 m1, .int .i64 b0, .int .i64 b1])
  have HK := Lib.hid (hk.alloc (.cells #[.slice (some ⟨g, 0, none⟩) n c, .int .i64 m0, .int .i64 m1, .int .i64 b0, .int .i64 b1] 110))
  have H1 := Lib.hid h1
  have H2 := Lib.hid h2
  have hn' : (n : Int) ≤ c := by omega
  have hb' : (c : Int) ≤ 4611686018427387904 := by omega
  have kx := K.out
  have x0 := kx.cell 0
  have x1 := kx.cell 1
  have x2 := kx.cell 2
  have x3 := kx.cell 3
  have x4 := kx.cell 4
  simp only [List.getElem?_toArray, List.getElem?_cons_zero, List.getElem?_cons_succ] at x0 x1 x2 x3 x4
  clear hk h1 h2 kx
  have hnm : ∀ W, (binOp .neq 108 (.agg #[.int .i64 m0, .int .i64 m1]) (.agg #[.int .i64 m0, .int .i64 m1])).run Tryz.prog W = .ok (.bool false) W := fun W => by rw [run_neq_got m0 m1 m0 m1 W]; simp
  have hnb : ∀ W, (binOp .neq 108 (.agg #[.int .i64 b0, .int .i64 b1]) (.agg #[.int .i64 b0, .int .i64 b1])).run Tryz.prog W = .ok (.bool false) W := fun W => by rw [run_neq_got b0 b1 b0 b1 W]; simp
  go_enter Tryz.func152, Tryz.ntmps152
  go_wp2_with fail
  go_loopg [4] c (fun q x wr => ∃ k m : Nat, k ≤ c ∧ q = c - k ∧ x = .int .i64 k ∧ wr = (w.alloc (.cells #[.slice (some ⟨g, 0, none⟩) n c, .int .i64 m0, .int .i64 m1, .int .i64 b0, .int .i64 b1] 110)).drewN m)
  case atStart => exact ⟨0, 0, Nat.zero_le _, rfl, rfl, rfl⟩
  case round =>
    obtain ⟨k, m, hk, rfl, rfl, rfl⟩ := hrel
    by_cases hkc : k < c
    · have hkc' : (k : Int) < c := by omega
      have hk0 : (0 : Int) ≤ k := by omega
      by_cases hkn : k < n
      · have hkn' : (k : Int) < n := by omega
        have hkn2 : ¬ (n : Int) ≤ k := by omega
        have hd1 : decide ((k : Int) < n) = true := decide_eq_true hkn'
        have hd2 : decide ((n : Int) ≤ k) = false := decide_eq_false hkn2
        have hd3 : decide (n ≤ k) = false := decide_eq_false (by omega)
        have hd4 : ¬ n ≤ k := by omega
        obtain ⟨h_0, h_1⟩ := H1.out k (Nat.zero_le _) hkn
        have y0 : (w.alloc (.cells #[.slice (some ⟨g, 0, none⟩) n c, .int .i64 m0, .int .i64 m1, .int .i64 b0, .int .i64 b1] 110)).cell? ⟨g, k * 2, none⟩ = some (.int .i64 m0) := by rw [HK.out.cell]; exact h_0
        have y1 : (w.alloc (.cells #[.slice (some ⟨g, 0, none⟩) n c, .int .i64 m0, .int .i64 m1, .int .i64 b0, .int .i64 b1] 110)).cell? ⟨g, k * 2 + 1, none⟩ = some (.int .i64 m1) := by rw [HK.out.cell]; exact h_1
        clear h_0 h_1
        go_wp2_with fail
        go_quiet (fail)
        go_wp2
        go_roundg (c - (k + 1))
        case measure => omega
        case rel => exact ⟨k + 1, _, by omega, rfl, by go_num, rfl⟩
      · have hkn' : ¬ (k : Int) < n := by omega
        have hkn2 : (n : Int) ≤ k := by omega
        have hd1 : decide ((k : Int) < n) = false := decide_eq_false hkn'
        have hd2 : decide ((n : Int) ≤ k) = true := decide_eq_true hkn2
        have hd3 : decide (n ≤ k) = true := decide_eq_true (by omega)
        have hd4 : n ≤ k := by omega
        obtain ⟨h_0, h_1⟩ := H2.out k (by omega) hkc
        have y0 : (w.alloc (.cells #[.slice (some ⟨g, 0, none⟩) n c, .int .i64 m0, .int .i64 m1, .int .i64 b0, .int .i64 b1] 110)).cell? ⟨g, k * 2, none⟩ = some (.int .i64 b0) := by rw [HK.out.cell]; exact h_0
        have y1 : (w.alloc (.cells #[.slice (some ⟨g, 0, none⟩) n c, .int .i64 m0, .int .i64 m1, .int .i64 b0, .int .i64 b1] 110)).cell? ⟨g, k * 2 + 1, none⟩ = some (.int .i64 b1) := by rw [HK.out.cell]; exact h_1
        clear h_0 h_1
        go_wp2_with fail
        go_quiet (fail)
        go_wp2
        go_roundg (c - (k + 1))
        case measure => omega
        case rel => exact ⟨k + 1, _, by omega, rfl, by go_num, rfl⟩
    · obtain rfl : c = k := by omega
      go_wp2
      go_ret
      exact ⟨rfl, (below_alloc_ w (.cells #[.slice (some ⟨g, 0, none⟩) n c, .int .i64 m0, .int .i64 m1, .int .i64 b0, .int .i64 b1] 110)).trans ((below_drewN_ (w.alloc (.cells #[.slice (some ⟨g, 0, none⟩) n c, .int .i64 m0, .int .i64 m1, .int .i64 b0, .int .i64 b1] 110)).heap.size _ _).mono (by simp))⟩
end Go.Proofs.YthjdkjinkmdclaaGreat

/- law01: a book of pages: Apart. -/
namespace Go.Proofs.YthjdkjinkmdclaaGreat
open Go.RowKit

/-- A page: its kind, where it lies, its mark, and the mark of what stands behind it. -/
structure Pg where
  kd : Nat
  lie : Option (Nat × Nat × Nat)
  m : List Int
  b : List Int
def slOf : Option (Nat × Nat × Nat) → Value
  | none => .slice none 0 0
  | some (g, n, c) => .slice (some ⟨g, 0, none⟩) n c
def bkOf : Option (Nat × Nat × Nat) → Option Nat
  | none => none
  | some (g, _, _) => some g
def kT : Nat → TypeId | 0 => 79 | 1 => 106 | _ => 110
def kE : Nat → TypeId | 0 => 5 | 1 => 104 | _ => 108
def kK : Nat → List IntKind | 0 => [.u8] | 1 => stepK | _ => gotK
def Pg.ifc (p : Pg) : Value := .iface (kT p.kd) (.agg (slOf p.lie :: (fc (kK p.kd) p.m ++ fc (kK p.kd) p.b)).toArray)
/-- Page p lies in the world w; where a holds its rows bear its mark, where b holds what is behind them the other one. -/
def Pg.In (p : Pg) (w : World) (a b : Prop) : Prop := match p.lie with
  | none => True
  | some (g, n, c) => ∃ cur, Blk w g (kE p.kd) cur ∧ n ≤ c ∧ c * (kK p.kd).length ≤ cur.size ∧ c ≤ 4611686018427387904 ∧
      (a → ∀ i, i < n → ∀ j u, (fc (kK p.kd) p.m)[j]? = some u → cur[i * (kK p.kd).length + j]? = some u) ∧ (b → ∀ i, n ≤ i → i < c → ∀ j u, (fc (kK p.kd) p.b)[j]? = some u → cur[i * (kK p.kd).length + j]? = some u)
def Pg.ok (p : Pg) : Prop := p.kd < 3 ∧ p.m.length = (kK p.kd).length ∧ p.b.length = (kK p.kd).length
theorem kE_page (k : Nat) : 81 ≠ kE k := by unfold kE; split <;> decide
theorem kE_book (k : Nat) : 50 ≠ kE k := by unfold kE; split <;> decide
theorem Pg.In.mono {p : Pg} {w : World} {a b a' b' : Prop} (h : p.In w a b) (ha : a' → a) (hb : b' → b) : p.In w a' b' := by
  obtain ⟨kd, lie, m, b0⟩ := p
  match lie, h with
  | none, _ => trivial
  | some (g, n, c), ⟨cur, hk, h1, h2, h3, h4, h5⟩ => exact ⟨cur, hk, h1, h2, h3, fun x => h4 (ha x), fun x => h5 (hb x)⟩
theorem Pg.In.grown {p : Pg} {w w' : World} {a b : Prop} {r : Option Nat} (h : p.In w a b) (hg : w.grownBy w' r) (hne : ∀ g, bkOf p.lie = some g → some g ≠ r) : p.In w' a b := by
  obtain ⟨kd, lie, m, b0⟩ := p
  match lie, h with
  | none, _ => trivial
  | some (g, n, c), ⟨cur, hk, h1⟩ => exact ⟨cur, hk.grown hg (hne g rfl), h1⟩
theorem Pg.In.keepBlk {p : Pg} {w w' : World} {a b : Prop} (h : p.In w a b) (hg : w.grownBy w' (bkOf p.lie)) {g' t : Nat} {cs : Array Value} (hk : Blk w g' t cs) (hne : t ≠ kE p.kd) : Blk w' g' t cs := by
  obtain ⟨kd, lie, m, b0⟩ := p
  match lie, h with
  | none, _ => exact hk.grown hg (by simp [bkOf])
  | some (g, n, c), ⟨cur, hb, _⟩ => exact hk.grown hg (fun e => hk.ne_ hb hne (Option.some.inj e))
theorem Pg.In.keepOw {p : Pg} {w w' : World} {a b : Prop} (h : p.In w a b) (hg : w.grownBy w' (bkOf p.lie)) {B e size n : Nat} {v : Value} {xs : List Value} (ho : Ow B w e size v n xs) (hne : e ≠ kE p.kd) : Ow B w' e size v n xs := by
  rcases ho with ho | ⟨g', c, cur, rfl, hB, hk, hr⟩
  · exact .inl ho
  · exact .inr ⟨g', c, cur, rfl, hB, h.keepBlk hg hk hne, hr⟩
theorem Ow.cell1 {B : Nat} {w : World} {e : TypeId} {v : Value} {xs : List Value} {n : Nat} (h : Ow B w e 1 v n xs) (k : Nat) (hk : k < xs.length) : ∃ g c, v = .slice (some ⟨g, 0, none⟩) n c ∧ n ≤ c ∧ w.cell? ⟨g, k, none⟩ = some xs[k] := by
  rcases h with ⟨_, _, rfl⟩ | ⟨g, c, cur, rfl, _, hg, hc, hl, _, ht⟩
  · simp at hk
  · refine ⟨g, c, rfl, hc, ?_⟩
    rw [hg.cell]
    have h1 : (cur.toList.take (n * 1))[k]? = some xs[k] := by rw [ht]; simp [hk]
    rw [List.getElem?_take, if_pos (by omega)] at h1
    simpa using h1
/-- The book's pages, some of them written. -/
structure St (ps : List Pg) (kb : Nat) (pv : Value) (B : Nat) (W w : World) (s t : Nat) : Prop where
  bk : Blk w kb 50 #[pv]
  ow : Ow 0 w 81 1 pv ps.length (ps.map Pg.ifc)
  bel : Below B W w
  le : B ≤ w.heap.size
  pgs : ∀ i (h : i < ps.length), (ps[i]).In w (i < s) (i < t)
theorem St.step {ps : List Pg} {kb : Nat} {pv : Value} {B : Nat} {W w w' : World} {s t s' t' : Nat} (h : St ps kb pv B W w s t) (hd : ∀ i j (hi : i < ps.length) (hj : j < ps.length), i ≠ j → ∀ g, bkOf (ps[i]).lie = some g → bkOf (ps[j]).lie ≠ some g) (hge : ∀ p ∈ ps, ∀ g, bkOf p.lie = some g → B ≤ g)
    (k : Nat) (hk : k < ps.length) (hg : w.grownBy w' (bkOf (ps[k]).lie)) (hin : (ps[k]).In w' (k < s') (k < t')) (m1 : ∀ i, i ≠ k → i < s' → i < s) (m2 : ∀ i, i ≠ k → i < t' → i < t) : St ps kb pv B W w' s' t' where
  bk := (h.pgs k hk).keepBlk hg h.bk (kE_book _)
  ow := (h.pgs k hk).keepOw hg h.ow (kE_page _)
  bel := h.bel.grown hg h.le (fun g hgg => hge _ (List.getElem_mem hk) g hgg)
  le := Nat.le_trans h.le hg.size
  pgs := fun i hi => by
    by_cases e : i = k
    · subst e; exact hin
    · exact ((h.pgs i hi).grown hg (fun g hgg he => hd i k hi hk e g hgg he.symm)).mono (m1 i e) (m2 i e)
theorem pgwr_byte (a : Option (Nat × Nat × Nat)) (m0 b0 : Int) (w : World) (h : (⟨0, a, [m0], [b0]⟩ : Pg).In w False False) :
    Calls Tryz.prog 114 #[.agg #[slOf a, .int .u8 m0, .int .u8 b0]] w fun e w' => e = .returned (.tuple #[]) ∧ (⟨0, a, [m0], [b0]⟩ : Pg).In w' True False ∧ w.grownBy w' (bkOf a) := by
  match a, h with
  | none, _ => exact (write_byte_none m0 b0 w).mono fun _ _ hh => ⟨hh.1, trivial, grown_below_ hh.2 _⟩
  | some (g, n, c), ⟨cur, hk, h1, h2, h3, h4, h5⟩ =>
    refine (write_byte g n c m0 b0 cur w hk h1 (by simpa [kK] using h2) h3).mono ?_
    rintro e w' ⟨he, cur', q0, qs, q1, q2, hg⟩
    exact ⟨he, ⟨cur', q0, h1, by rw [qs]; exact h2, h3, fun _ i hi => fun j u hj => by match j, hj with | 0, hj => (simp [kK, fc] at hj; subst hj; simpa [kK] using (q1 i (Nat.zero_le _) hi)) | (_ + 1), hj => (simp [kK, fc] at hj), fun x => x.elim⟩, hg⟩
theorem pgbe_byte (a : Option (Nat × Nat × Nat)) (m0 b0 : Int) (w : World) (h : (⟨0, a, [m0], [b0]⟩ : Pg).In w True False) :
    Calls Tryz.prog 115 #[.agg #[slOf a, .int .u8 m0, .int .u8 b0]] w fun e w' => e = .returned (.tuple #[]) ∧ (⟨0, a, [m0], [b0]⟩ : Pg).In w' True True ∧ w.grownBy w' (bkOf a) := by
  match a, h with
  | none, _ => exact (behind_byte_none m0 b0 w).mono fun _ _ hh => ⟨hh.1, trivial, grown_below_ hh.2 _⟩
  | some (g, n, c), ⟨cur, hk, h1, h2, h3, h4, h5⟩ =>
    refine (behind_byte g n c m0 b0 cur w hk h1 (by simpa [kK] using h2) h3).mono ?_
    rintro e w' ⟨he, cur', q0, qs, q1, q2, hg⟩
    exact ⟨he, ⟨cur', q0, h1, by rw [qs]; exact h2, h3, (by
      intro _ i hi j u hj
      have h := h4 trivial i hi j u hj
      have hj2 : j < 1 := by
        rcases Nat.lt_or_ge j 1 with h | h
        · exact h
        · exfalso
          rw [List.getElem?_eq_none (by simpa [kK, fc] using h)] at hj
          cases hj
      have hs : (kK 0).length = 1 := rfl
      simp only [hs] at h ⊢
      rw [q2 _ (.inl (by omega))]
      exact h), fun _ i hi1 hi2 => fun j u hj => by match j, hj with | 0, hj => (simp [kK, fc] at hj; subst hj; simpa [kK] using (q1 i hi1 hi2)) | (_ + 1), hj => (simp [kK, fc] at hj)⟩, hg⟩
theorem pgst_byte (a : Option (Nat × Nat × Nat)) (m0 b0 : Int) (w : World) (h : (⟨0, a, [m0], [b0]⟩ : Pg).In w True True) :
    Calls Tryz.prog 113 #[.agg #[slOf a, .int .u8 m0, .int .u8 b0]] w fun e w' => e = .returned (.bool true) ∧ Below w.heap.size w w' := by
  match a, h with
  | none, _ => exact stands_byte_none m0 b0 w
  | some (g, n, c), ⟨cur, hk, h1, h2, h3, h4, h5⟩ =>
    exact stands_byte g n c m0 b0 cur w hk h1 (by simpa [kK] using h2) h3 (fun i _ hi => by have := h4 trivial i hi 0 _ rfl; simpa [kK] using this) (fun i hi1 hi2 => by have := h5 trivial i hi1 hi2 0 _ rfl; simpa [kK] using this)
theorem pgwr_step (a : Option (Nat × Nat × Nat)) (m0 m1 m2 m3 m4 m5 m6 m7 m8 m9 b0 b1 b2 b3 b4 b5 b6 b7 b8 b9 : Int) (w : World) (h : (⟨1, a, [m0, m1, m2, m3, m4, m5, m6, m7, m8, m9], [b0, b1, b2, b3, b4, b5, b6, b7, b8, b9]⟩ : Pg).In w False False) :
    Calls Tryz.prog 150 #[.agg #[slOf a, .int .u8 m0, .int .u8 m1, .int .u8 m2, .int .u8 m3, .int .u8 m4, .int .i64 m5, .int .i64 m6, .int .i64 m7, .int .i64 m8, .int .u64 m9, .int .u8 b0, .int .u8 b1, .int .u8 b2, .int .u8 b3, .int .u8 b4, .int .i64 b5, .int .i64 b6, .int .i64 b7, .int .i64 b8, .int .u64 b9]] w fun e w' => e = .returned (.tuple #[]) ∧ (⟨1, a, [m0, m1, m2, m3, m4, m5, m6, m7, m8, m9], [b0, b1, b2, b3, b4, b5, b6, b7, b8, b9]⟩ : Pg).In w' True False ∧ w.grownBy w' (bkOf a) := by
  match a, h with
  | none, _ => exact (write_step_none m0 m1 m2 m3 m4 m5 m6 m7 m8 m9 b0 b1 b2 b3 b4 b5 b6 b7 b8 b9 w).mono fun _ _ hh => ⟨hh.1, trivial, grown_below_ hh.2 _⟩
  | some (g, n, c), ⟨cur, hk, h1, h2, h3, h4, h5⟩ =>
    refine (write_step g n c m0 m1 m2 m3 m4 m5 m6 m7 m8 m9 b0 b1 b2 b3 b4 b5 b6 b7 b8 b9 cur w hk h1 (by simpa [kK, stepK] using h2) h3).mono ?_
    rintro e w' ⟨he, cur', q0, qs, q1, q2, hg⟩
    exact ⟨he, ⟨cur', q0, h1, by rw [qs]; exact h2, h3, fun _ i hi => fun j u hj => by
            match j, hj with
            | 0, hj => (obtain rfl : _ = u := by simpa [kK, stepK, fc] using hj); simpa [kK, stepK] using ((q1 i (Nat.zero_le _) hi)).1
            | 1, hj => (obtain rfl : _ = u := by simpa [kK, stepK, fc] using hj); simpa [kK, stepK] using ((q1 i (Nat.zero_le _) hi)).2.1
            | 2, hj => (obtain rfl : _ = u := by simpa [kK, stepK, fc] using hj); simpa [kK, stepK] using ((q1 i (Nat.zero_le _) hi)).2.2.1
            | 3, hj => (obtain rfl : _ = u := by simpa [kK, stepK, fc] using hj); simpa [kK, stepK] using ((q1 i (Nat.zero_le _) hi)).2.2.2.1
            | 4, hj => (obtain rfl : _ = u := by simpa [kK, stepK, fc] using hj); simpa [kK, stepK] using ((q1 i (Nat.zero_le _) hi)).2.2.2.2.1
            | 5, hj => (obtain rfl : _ = u := by simpa [kK, stepK, fc] using hj); simpa [kK, stepK] using ((q1 i (Nat.zero_le _) hi)).2.2.2.2.2.1
            | 6, hj => (obtain rfl : _ = u := by simpa [kK, stepK, fc] using hj); simpa [kK, stepK] using ((q1 i (Nat.zero_le _) hi)).2.2.2.2.2.2.1
            | 7, hj => (obtain rfl : _ = u := by simpa [kK, stepK, fc] using hj); simpa [kK, stepK] using ((q1 i (Nat.zero_le _) hi)).2.2.2.2.2.2.2.1
            | 8, hj => (obtain rfl : _ = u := by simpa [kK, stepK, fc] using hj); simpa [kK, stepK] using ((q1 i (Nat.zero_le _) hi)).2.2.2.2.2.2.2.2.1
            | 9, hj => (obtain rfl : _ = u := by simpa [kK, stepK, fc] using hj); simpa [kK, stepK] using ((q1 i (Nat.zero_le _) hi)).2.2.2.2.2.2.2.2.2
            | (_ + 10), hj => simp [kK, stepK, fc] at hj, fun x => x.elim⟩, hg⟩
theorem pgbe_step (a : Option (Nat × Nat × Nat)) (m0 m1 m2 m3 m4 m5 m6 m7 m8 m9 b0 b1 b2 b3 b4 b5 b6 b7 b8 b9 : Int) (w : World) (h : (⟨1, a, [m0, m1, m2, m3, m4, m5, m6, m7, m8, m9], [b0, b1, b2, b3, b4, b5, b6, b7, b8, b9]⟩ : Pg).In w True False) :
    Calls Tryz.prog 151 #[.agg #[slOf a, .int .u8 m0, .int .u8 m1, .int .u8 m2, .int .u8 m3, .int .u8 m4, .int .i64 m5, .int .i64 m6, .int .i64 m7, .int .i64 m8, .int .u64 m9, .int .u8 b0, .int .u8 b1, .int .u8 b2, .int .u8 b3, .int .u8 b4, .int .i64 b5, .int .i64 b6, .int .i64 b7, .int .i64 b8, .int .u64 b9]] w fun e w' => e = .returned (.tuple #[]) ∧ (⟨1, a, [m0, m1, m2, m3, m4, m5, m6, m7, m8, m9], [b0, b1, b2, b3, b4, b5, b6, b7, b8, b9]⟩ : Pg).In w' True True ∧ w.grownBy w' (bkOf a) := by
  match a, h with
  | none, _ => exact (behind_step_none m0 m1 m2 m3 m4 m5 m6 m7 m8 m9 b0 b1 b2 b3 b4 b5 b6 b7 b8 b9 w).mono fun _ _ hh => ⟨hh.1, trivial, grown_below_ hh.2 _⟩
  | some (g, n, c), ⟨cur, hk, h1, h2, h3, h4, h5⟩ =>
    refine (behind_step g n c m0 m1 m2 m3 m4 m5 m6 m7 m8 m9 b0 b1 b2 b3 b4 b5 b6 b7 b8 b9 cur w hk h1 (by simpa [kK, stepK] using h2) h3).mono ?_
    rintro e w' ⟨he, cur', q0, qs, q1, q2, hg⟩
    exact ⟨he, ⟨cur', q0, h1, by rw [qs]; exact h2, h3, (by
      intro _ i hi j u hj
      have h := h4 trivial i hi j u hj
      have hj2 : j < 10 := by
        rcases Nat.lt_or_ge j 10 with h | h
        · exact h
        · exfalso
          rw [List.getElem?_eq_none (by simpa [kK, stepK, fc] using h)] at hj
          cases hj
      have hs : (kK 1).length = 10 := rfl
      simp only [hs] at h ⊢
      rw [q2 _ (.inl (by omega))]
      exact h), fun _ i hi1 hi2 => fun j u hj => by
            match j, hj with
            | 0, hj => (obtain rfl : _ = u := by simpa [kK, stepK, fc] using hj); simpa [kK, stepK] using ((q1 i hi1 hi2)).1
            | 1, hj => (obtain rfl : _ = u := by simpa [kK, stepK, fc] using hj); simpa [kK, stepK] using ((q1 i hi1 hi2)).2.1
            | 2, hj => (obtain rfl : _ = u := by simpa [kK, stepK, fc] using hj); simpa [kK, stepK] using ((q1 i hi1 hi2)).2.2.1
            | 3, hj => (obtain rfl : _ = u := by simpa [kK, stepK, fc] using hj); simpa [kK, stepK] using ((q1 i hi1 hi2)).2.2.2.1
            | 4, hj => (obtain rfl : _ = u := by simpa [kK, stepK, fc] using hj); simpa [kK, stepK] using ((q1 i hi1 hi2)).2.2.2.2.1
            | 5, hj => (obtain rfl : _ = u := by simpa [kK, stepK, fc] using hj); simpa [kK, stepK] using ((q1 i hi1 hi2)).2.2.2.2.2.1
            | 6, hj => (obtain rfl : _ = u := by simpa [kK, stepK, fc] using hj); simpa [kK, stepK] using ((q1 i hi1 hi2)).2.2.2.2.2.2.1
            | 7, hj => (obtain rfl : _ = u := by simpa [kK, stepK, fc] using hj); simpa [kK, stepK] using ((q1 i hi1 hi2)).2.2.2.2.2.2.2.1
            | 8, hj => (obtain rfl : _ = u := by simpa [kK, stepK, fc] using hj); simpa [kK, stepK] using ((q1 i hi1 hi2)).2.2.2.2.2.2.2.2.1
            | 9, hj => (obtain rfl : _ = u := by simpa [kK, stepK, fc] using hj); simpa [kK, stepK] using ((q1 i hi1 hi2)).2.2.2.2.2.2.2.2.2
            | (_ + 10), hj => simp [kK, stepK, fc] at hj⟩, hg⟩
theorem pgst_step (a : Option (Nat × Nat × Nat)) (m0 m1 m2 m3 m4 m5 m6 m7 m8 m9 b0 b1 b2 b3 b4 b5 b6 b7 b8 b9 : Int) (w : World) (h : (⟨1, a, [m0, m1, m2, m3, m4, m5, m6, m7, m8, m9], [b0, b1, b2, b3, b4, b5, b6, b7, b8, b9]⟩ : Pg).In w True True) :
    Calls Tryz.prog 149 #[.agg #[slOf a, .int .u8 m0, .int .u8 m1, .int .u8 m2, .int .u8 m3, .int .u8 m4, .int .i64 m5, .int .i64 m6, .int .i64 m7, .int .i64 m8, .int .u64 m9, .int .u8 b0, .int .u8 b1, .int .u8 b2, .int .u8 b3, .int .u8 b4, .int .i64 b5, .int .i64 b6, .int .i64 b7, .int .i64 b8, .int .u64 b9]] w fun e w' => e = .returned (.bool true) ∧ Below w.heap.size w w' := by
  match a, h with
  | none, _ => exact stands_step_none m0 m1 m2 m3 m4 m5 m6 m7 m8 m9 b0 b1 b2 b3 b4 b5 b6 b7 b8 b9 w
  | some (g, n, c), ⟨cur, hk, h1, h2, h3, h4, h5⟩ =>
    exact stands_step g n c m0 m1 m2 m3 m4 m5 m6 m7 m8 m9 b0 b1 b2 b3 b4 b5 b6 b7 b8 b9 cur w hk h1 (by simpa [kK, stepK] using h2) h3 (fun i _ hi => ⟨by have := h4 trivial i hi 0 _ rfl; simpa [kK, stepK] using this, by have := h4 trivial i hi 1 _ rfl; simpa [kK, stepK] using this, by have := h4 trivial i hi 2 _ rfl; simpa [kK, stepK] using this, by have := h4 trivial i hi 3 _ rfl; simpa [kK, stepK] using this, by have := h4 trivial i hi 4 _ rfl; simpa [kK, stepK] using this, by have := h4 trivial i hi 5 _ rfl; simpa [kK, stepK] using this, by have := h4 trivial i hi 6 _ rfl; simpa [kK, stepK] using this, by have := h4 trivial i hi 7 _ rfl; simpa [kK, stepK] using this, by have := h4 trivial i hi 8 _ rfl; simpa [kK, stepK] using this, by have := h4 trivial i hi 9 _ rfl; simpa [kK, stepK] using this⟩) (fun i hi1 hi2 => ⟨by have := h5 trivial i hi1 hi2 0 _ rfl; simpa [kK, stepK] using this, by have := h5 trivial i hi1 hi2 1 _ rfl; simpa [kK, stepK] using this, by have := h5 trivial i hi1 hi2 2 _ rfl; simpa [kK, stepK] using this, by have := h5 trivial i hi1 hi2 3 _ rfl; simpa [kK, stepK] using this, by have := h5 trivial i hi1 hi2 4 _ rfl; simpa [kK, stepK] using this, by have := h5 trivial i hi1 hi2 5 _ rfl; simpa [kK, stepK] using this, by have := h5 trivial i hi1 hi2 6 _ rfl; simpa [kK, stepK] using this, by have := h5 trivial i hi1 hi2 7 _ rfl; simpa [kK, stepK] using this, by have := h5 trivial i hi1 hi2 8 _ rfl; simpa [kK, stepK] using this, by have := h5 trivial i hi1 hi2 9 _ rfl; simpa [kK, stepK] using this⟩)
theorem pgwr_got (a : Option (Nat × Nat × Nat)) (m0 m1 b0 b1 : Int) (w : World) (h : (⟨2, a, [m0, m1], [b0, b1]⟩ : Pg).In w False False) :
    Calls Tryz.prog 153 #[.agg #[slOf a, .int .i64 m0, .int .i64 m1, .int .i64 b0, .int .i64 b1]] w fun e w' => e = .returned (.tuple #[]) ∧ (⟨2, a, [m0, m1], [b0, b1]⟩ : Pg).In w' True False ∧ w.grownBy w' (bkOf a) := by
  match a, h with
  | none, _ => exact (write_got_none m0 m1 b0 b1 w).mono fun _ _ hh => ⟨hh.1, trivial, grown_below_ hh.2 _⟩
  | some (g, n, c), ⟨cur, hk, h1, h2, h3, h4, h5⟩ =>
    refine (write_got g n c m0 m1 b0 b1 cur w hk h1 (by simpa [kK, gotK] using h2) h3).mono ?_
    rintro e w' ⟨he, cur', q0, qs, q1, q2, hg⟩
    exact ⟨he, ⟨cur', q0, h1, by rw [qs]; exact h2, h3, fun _ i hi => fun j u hj => by
            match j, hj with
            | 0, hj => (obtain rfl : _ = u := by simpa [kK, gotK, fc] using hj); simpa [kK, gotK] using ((q1 i (Nat.zero_le _) hi)).1
            | 1, hj => (obtain rfl : _ = u := by simpa [kK, gotK, fc] using hj); simpa [kK, gotK] using ((q1 i (Nat.zero_le _) hi)).2
            | (_ + 2), hj => simp [kK, gotK, fc] at hj, fun x => x.elim⟩, hg⟩
theorem pgbe_got (a : Option (Nat × Nat × Nat)) (m0 m1 b0 b1 : Int) (w : World) (h : (⟨2, a, [m0, m1], [b0, b1]⟩ : Pg).In w True False) :
    Calls Tryz.prog 154 #[.agg #[slOf a, .int .i64 m0, .int .i64 m1, .int .i64 b0, .int .i64 b1]] w fun e w' => e = .returned (.tuple #[]) ∧ (⟨2, a, [m0, m1], [b0, b1]⟩ : Pg).In w' True True ∧ w.grownBy w' (bkOf a) := by
  match a, h with
  | none, _ => exact (behind_got_none m0 m1 b0 b1 w).mono fun _ _ hh => ⟨hh.1, trivial, grown_below_ hh.2 _⟩
  | some (g, n, c), ⟨cur, hk, h1, h2, h3, h4, h5⟩ =>
    refine (behind_got g n c m0 m1 b0 b1 cur w hk h1 (by simpa [kK, gotK] using h2) h3).mono ?_
    rintro e w' ⟨he, cur', q0, qs, q1, q2, hg⟩
    exact ⟨he, ⟨cur', q0, h1, by rw [qs]; exact h2, h3, (by
      intro _ i hi j u hj
      have h := h4 trivial i hi j u hj
      have hj2 : j < 2 := by
        rcases Nat.lt_or_ge j 2 with h | h
        · exact h
        · exfalso
          rw [List.getElem?_eq_none (by simpa [kK, gotK, fc] using h)] at hj
          cases hj
      have hs : (kK 2).length = 2 := rfl
      simp only [hs] at h ⊢
      rw [q2 _ (.inl (by omega))]
      exact h), fun _ i hi1 hi2 => fun j u hj => by
            match j, hj with
            | 0, hj => (obtain rfl : _ = u := by simpa [kK, gotK, fc] using hj); simpa [kK, gotK] using ((q1 i hi1 hi2)).1
            | 1, hj => (obtain rfl : _ = u := by simpa [kK, gotK, fc] using hj); simpa [kK, gotK] using ((q1 i hi1 hi2)).2
            | (_ + 2), hj => simp [kK, gotK, fc] at hj⟩, hg⟩
theorem pgst_got (a : Option (Nat × Nat × Nat)) (m0 m1 b0 b1 : Int) (w : World) (h : (⟨2, a, [m0, m1], [b0, b1]⟩ : Pg).In w True True) :
    Calls Tryz.prog 152 #[.agg #[slOf a, .int .i64 m0, .int .i64 m1, .int .i64 b0, .int .i64 b1]] w fun e w' => e = .returned (.bool true) ∧ Below w.heap.size w w' := by
  match a, h with
  | none, _ => exact stands_got_none m0 m1 b0 b1 w
  | some (g, n, c), ⟨cur, hk, h1, h2, h3, h4, h5⟩ =>
    exact stands_got g n c m0 m1 b0 b1 cur w hk h1 (by simpa [kK, gotK] using h2) h3 (fun i _ hi => ⟨by have := h4 trivial i hi 0 _ rfl; simpa [kK, gotK] using this, by have := h4 trivial i hi 1 _ rfl; simpa [kK, gotK] using this⟩) (fun i hi1 hi2 => ⟨by have := h5 trivial i hi1 hi2 0 _ rfl; simpa [kK, gotK] using this, by have := h5 trivial i hi1 hi2 1 _ rfl; simpa [kK, gotK] using this⟩)
set_option maxHeartbeats 8000000 in
set_option maxRecDepth 100000 in
theorem apart_any (ps : List Pg) (hok : ∀ p ∈ ps, p.ok) (hd : ∀ i j (hi : i < ps.length) (hj : j < ps.length), i ≠ j → ∀ g, bkOf (ps[i]).lie = some g → bkOf (ps[j]).lie ≠ some g) (hl : ps.length ≤ 120) (kb : Nat) (pv : Value) (B : Nat) (w : World) (hge : ∀ p ∈ ps, ∀ g, bkOf p.lie = some g → B ≤ g)
    (hk : Blk w kb 50 #[pv]) (hp : Ow 0 w 81 1 pv ps.length (ps.map Pg.ifc)) (hin : ∀ p ∈ ps, p.In w False False) (hB : B ≤ w.heap.size) :
    Calls Tryz.prog 14 #[.pointer (some ⟨kb, 0, none⟩)] w fun e w' => e = .returned (.bool true) ∧ Below B w w' := by
  have HOK := Lib.hid hok
  have HD := Lib.hid hd
  have HGE := Lib.hid hge
  have S0 := Lib.hid (show St ps kb pv B w w 0 0 from ⟨hk, hp, Below.refl _ _, hB, fun i hi => (hin _ (List.getElem_mem hi)).mono (fun h => by omega) (fun h => by omega)⟩)
  have hl' : (ps.length : Int) ≤ 120 := by omega
  have hl2 : ¬ (120 : Int) < (ps.length : Int) := by omega
  have c0 := hk.cell 0
  simp only [List.getElem?_toArray, List.getElem?_cons_zero] at c0
  obtain ⟨A0, cc, rfl⟩ := hp.sl_
  obtain ⟨pv, hpv0⟩ : ∃ v, v = (Value.slice A0 ps.length cc) := ⟨_, rfl⟩
  rw [← hpv0] at S0
  have HPV := Lib.hid hpv0
  clear hok hd hge hk hp hin hpv0
  go_enter Tryz.func14, Tryz.ntmps14
  go_wp2_with fail
  go_loopg [3] ps.length (fun q x wr => ∃ k : Nat, k ≤ ps.length ∧ q = ps.length - k ∧ x = .int .i64 k ∧ St ps kb pv B w wr k 0)
  case atStart => exact ⟨0, Nat.zero_le _, by omega, rfl, S0.out⟩
  case round =>
    obtain ⟨k, hk, rfl, rfl, hS⟩ := hrel
    have HS := Lib.hid hS
    have c0 := hS.bk.cell 0
    simp only [List.getElem?_toArray, List.getElem?_cons_zero] at c0
    obtain ⟨A1, c1, hpv⟩ := hS.ow.sl_
    by_cases hkn : k < ps.length
    · have hkn' : (k : Int) < ps.length := by omega
      have hk0 : (0 : Int) ≤ k := by omega
      obtain ⟨gp, cp, hpv2, hcp, hcell⟩ := hS.ow.cell1 k (by simpa using hkn)
      rw [List.getElem_map] at hcell
      have hy := hS.pgs k hkn
      have hokk := HOK.out _ (List.getElem_mem hkn)
      obtain ⟨p, hp⟩ : ∃ p, p = ps[k] := ⟨_, rfl⟩
      rw [← hp] at hcell hy hokk
      have HP := Lib.hid hp
      obtain ⟨kd, lie, mm, bb⟩ := p
      obtain ⟨hkd, hok1, hok2⟩ := hokk
      simp only at hkd hok1 hok2
      rw [hpv2] at c0
      clear hS hp hpv hpv2
      obtain rfl | rfl | rfl : kd = 0 ∨ kd = 1 ∨ kd = 2 := by omega
      · obtain ⟨m0, rfl⟩ := one_of hok1
        obtain ⟨b0, rfl⟩ := one_of hok2
        have hm : ∀ W, (method 306 79 (.agg #[slOf lie, .int .u8 m0, .int .u8 b0]) "countinghouse/countinghouselaw01.write").run Tryz.prog W = .ok (114, .agg #[slOf lie, .int .u8 m0, .int .u8 b0]) W := fun _ => by kernel_rfl
        have HY := Lib.hid hy
        have x0 : wr.cell? ⟨gp, k, none⟩ = some (.iface 79 (.agg #[slOf lie, .int .u8 m0, .int .u8 b0])) := hcell
        clear hcell hy hok1 hok2
        go_wp2_with fail
        refine (pgwr_byte lie m0 b0 wr (HY.out.mono False.elim False.elim)).mono ?_
        rintro e w2 ⟨rfl, hi2, hg2⟩
        have S2 := Lib.hid (HS.out.step (s' := k + 1) (t' := 0) HD.out HGE.out k hkn (by rw [← HP.out]; exact hg2) (by rw [← HP.out]; exact hi2.mono (fun _ => trivial) (fun h => absurd h (by omega))) (fun i h1 h2 => by omega) (fun i h1 h2 => by omega))
        clear hi2 hg2
        go_wp2
        go_roundg (ps.length - (k + 1))
        case measure => omega
        case rel => exact ⟨k + 1, by omega, rfl, by go_num, S2.out⟩
      · obtain ⟨m0, m1, m2, m3, m4, m5, m6, m7, m8, m9, rfl⟩ := step_of hok1
        obtain ⟨b0, b1, b2, b3, b4, b5, b6, b7, b8, b9, rfl⟩ := step_of hok2
        have hm : ∀ W, (method 306 106 (.agg #[slOf lie, .int .u8 m0, .int .u8 m1, .int .u8 m2, .int .u8 m3, .int .u8 m4, .int .i64 m5, .int .i64 m6, .int .i64 m7, .int .i64 m8, .int .u64 m9, .int .u8 b0, .int .u8 b1, .int .u8 b2, .int .u8 b3, .int .u8 b4, .int .i64 b5, .int .i64 b6, .int .i64 b7, .int .i64 b8, .int .u64 b9]) "countinghouse/countinghouselaw01.write").run Tryz.prog W = .ok (150, .agg #[slOf lie, .int .u8 m0, .int .u8 m1, .int .u8 m2, .int .u8 m3, .int .u8 m4, .int .i64 m5, .int .i64 m6, .int .i64 m7, .int .i64 m8, .int .u64 m9, .int .u8 b0, .int .u8 b1, .int .u8 b2, .int .u8 b3, .int .u8 b4, .int .i64 b5, .int .i64 b6, .int .i64 b7, .int .i64 b8, .int .u64 b9]) W := fun _ => by kernel_rfl
        have HY := Lib.hid hy
        have x0 : wr.cell? ⟨gp, k, none⟩ = some (.iface 106 (.agg #[slOf lie, .int .u8 m0, .int .u8 m1, .int .u8 m2, .int .u8 m3, .int .u8 m4, .int .i64 m5, .int .i64 m6, .int .i64 m7, .int .i64 m8, .int .u64 m9, .int .u8 b0, .int .u8 b1, .int .u8 b2, .int .u8 b3, .int .u8 b4, .int .i64 b5, .int .i64 b6, .int .i64 b7, .int .i64 b8, .int .u64 b9])) := hcell
        clear hcell hy hok1 hok2
        go_wp2_with fail
        refine (pgwr_step lie m0 m1 m2 m3 m4 m5 m6 m7 m8 m9 b0 b1 b2 b3 b4 b5 b6 b7 b8 b9 wr (HY.out.mono False.elim False.elim)).mono ?_
        rintro e w2 ⟨rfl, hi2, hg2⟩
        have S2 := Lib.hid (HS.out.step (s' := k + 1) (t' := 0) HD.out HGE.out k hkn (by rw [← HP.out]; exact hg2) (by rw [← HP.out]; exact hi2.mono (fun _ => trivial) (fun h => absurd h (by omega))) (fun i h1 h2 => by omega) (fun i h1 h2 => by omega))
        clear hi2 hg2
        go_wp2
        go_roundg (ps.length - (k + 1))
        case measure => omega
        case rel => exact ⟨k + 1, by omega, rfl, by go_num, S2.out⟩
      · obtain ⟨m0, m1, rfl⟩ := got_of hok1
        obtain ⟨b0, b1, rfl⟩ := got_of hok2
        have hm : ∀ W, (method 306 110 (.agg #[slOf lie, .int .i64 m0, .int .i64 m1, .int .i64 b0, .int .i64 b1]) "countinghouse/countinghouselaw01.write").run Tryz.prog W = .ok (153, .agg #[slOf lie, .int .i64 m0, .int .i64 m1, .int .i64 b0, .int .i64 b1]) W := fun _ => by kernel_rfl
        have HY := Lib.hid hy
        have x0 : wr.cell? ⟨gp, k, none⟩ = some (.iface 110 (.agg #[slOf lie, .int .i64 m0, .int .i64 m1, .int .i64 b0, .int .i64 b1])) := hcell
        clear hcell hy hok1 hok2
        go_wp2_with fail
        refine (pgwr_got lie m0 m1 b0 b1 wr (HY.out.mono False.elim False.elim)).mono ?_
        rintro e w2 ⟨rfl, hi2, hg2⟩
        have S2 := Lib.hid (HS.out.step (s' := k + 1) (t' := 0) HD.out HGE.out k hkn (by rw [← HP.out]; exact hg2) (by rw [← HP.out]; exact hi2.mono (fun _ => trivial) (fun h => absurd h (by omega))) (fun i h1 h2 => by omega) (fun i h1 h2 => by omega))
        clear hi2 hg2
        go_wp2
        go_roundg (ps.length - (k + 1))
        case measure => omega
        case rel => exact ⟨k + 1, by omega, rfl, by go_num, S2.out⟩
    · obtain rfl : k = ps.length := by omega
      have S1 := Lib.hid hS
      rw [hpv] at c0
      clear hS hpv HS
      go_wp2_with fail
      go_loopg [4] ps.length (fun q x wr => ∃ k : Nat, k ≤ ps.length ∧ q = ps.length - k ∧ x = .int .i64 k ∧ St ps kb pv B w wr ps.length k)
      case atStart => exact ⟨0, Nat.zero_le _, by omega, rfl, S1.out⟩
      case round =>
        obtain ⟨k, hk, rfl, rfl, hS⟩ := hrel
        have HS := Lib.hid hS
        have c0 := hS.bk.cell 0
        simp only [List.getElem?_toArray, List.getElem?_cons_zero] at c0
        obtain ⟨A1, c1, hpv⟩ := hS.ow.sl_
        by_cases hkn : k < ps.length
        · have hkn' : (k : Int) < ps.length := by omega
          have hk0 : (0 : Int) ≤ k := by omega
          obtain ⟨gp, cp, hpv2, hcp, hcell⟩ := hS.ow.cell1 k (by simpa using hkn)
          rw [List.getElem_map] at hcell
          have hy := hS.pgs k hkn
          have hokk := HOK.out _ (List.getElem_mem hkn)
          obtain ⟨p, hp⟩ : ∃ p, p = ps[k] := ⟨_, rfl⟩
          rw [← hp] at hcell hy hokk
          have HP := Lib.hid hp
          obtain ⟨kd, lie, mm, bb⟩ := p
          obtain ⟨hkd, hok1, hok2⟩ := hokk
          simp only at hkd hok1 hok2
          rw [hpv2] at c0
          clear hS hp hpv hpv2
          obtain rfl | rfl | rfl : kd = 0 ∨ kd = 1 ∨ kd = 2 := by omega
          · obtain ⟨m0, rfl⟩ := one_of hok1
            obtain ⟨b0, rfl⟩ := one_of hok2
            have hm : ∀ W, (method 306 79 (.agg #[slOf lie, .int .u8 m0, .int .u8 b0]) "countinghouse/countinghouselaw01.writeBehind").run Tryz.prog W = .ok (115, .agg #[slOf lie, .int .u8 m0, .int .u8 b0]) W := fun _ => by kernel_rfl
            have HY := Lib.hid hy
            have x0 : wr.cell? ⟨gp, k, none⟩ = some (.iface 79 (.agg #[slOf lie, .int .u8 m0, .int .u8 b0])) := hcell
            clear hcell hy hok1 hok2
            go_wp2_with fail
            refine (pgbe_byte lie m0 b0 wr (HY.out.mono (fun _ => hkn) False.elim)).mono ?_
            rintro e w2 ⟨rfl, hi2, hg2⟩
            have S2 := Lib.hid (HS.out.step (s' := ps.length) (t' := k + 1) HD.out HGE.out k hkn (by rw [← HP.out]; exact hg2) (by rw [← HP.out]; exact hi2.mono (fun _ => trivial) (fun _ => trivial)) (fun i h1 h2 => by omega) (fun i h1 h2 => by omega))
            clear hi2 hg2
            go_wp2
            go_roundg (ps.length - (k + 1))
            case measure => omega
            case rel => exact ⟨k + 1, by omega, rfl, by go_num, S2.out⟩
          · obtain ⟨m0, m1, m2, m3, m4, m5, m6, m7, m8, m9, rfl⟩ := step_of hok1
            obtain ⟨b0, b1, b2, b3, b4, b5, b6, b7, b8, b9, rfl⟩ := step_of hok2
            have hm : ∀ W, (method 306 106 (.agg #[slOf lie, .int .u8 m0, .int .u8 m1, .int .u8 m2, .int .u8 m3, .int .u8 m4, .int .i64 m5, .int .i64 m6, .int .i64 m7, .int .i64 m8, .int .u64 m9, .int .u8 b0, .int .u8 b1, .int .u8 b2, .int .u8 b3, .int .u8 b4, .int .i64 b5, .int .i64 b6, .int .i64 b7, .int .i64 b8, .int .u64 b9]) "countinghouse/countinghouselaw01.writeBehind").run Tryz.prog W = .ok (151, .agg #[slOf lie, .int .u8 m0, .int .u8 m1, .int .u8 m2, .int .u8 m3, .int .u8 m4, .int .i64 m5, .int .i64 m6, .int .i64 m7, .int .i64 m8, .int .u64 m9, .int .u8 b0, .int .u8 b1, .int .u8 b2, .int .u8 b3, .int .u8 b4, .int .i64 b5, .int .i64 b6, .int .i64 b7, .int .i64 b8, .int .u64 b9]) W := fun _ => by kernel_rfl
            have HY := Lib.hid hy
            have x0 : wr.cell? ⟨gp, k, none⟩ = some (.iface 106 (.agg #[slOf lie, .int .u8 m0, .int .u8 m1, .int .u8 m2, .int .u8 m3, .int .u8 m4, .int .i64 m5, .int .i64 m6, .int .i64 m7, .int .i64 m8, .int .u64 m9, .int .u8 b0, .int .u8 b1, .int .u8 b2, .int .u8 b3, .int .u8 b4, .int .i64 b5, .int .i64 b6, .int .i64 b7, .int .i64 b8, .int .u64 b9])) := hcell
            clear hcell hy hok1 hok2
            go_wp2_with fail
            refine (pgbe_step lie m0 m1 m2 m3 m4 m5 m6 m7 m8 m9 b0 b1 b2 b3 b4 b5 b6 b7 b8 b9 wr (HY.out.mono (fun _ => hkn) False.elim)).mono ?_
            rintro e w2 ⟨rfl, hi2, hg2⟩
            have S2 := Lib.hid (HS.out.step (s' := ps.length) (t' := k + 1) HD.out HGE.out k hkn (by rw [← HP.out]; exact hg2) (by rw [← HP.out]; exact hi2.mono (fun _ => trivial) (fun _ => trivial)) (fun i h1 h2 => by omega) (fun i h1 h2 => by omega))
            clear hi2 hg2
            go_wp2
            go_roundg (ps.length - (k + 1))
            case measure => omega
            case rel => exact ⟨k + 1, by omega, rfl, by go_num, S2.out⟩
          · obtain ⟨m0, m1, rfl⟩ := got_of hok1
            obtain ⟨b0, b1, rfl⟩ := got_of hok2
            have hm : ∀ W, (method 306 110 (.agg #[slOf lie, .int .i64 m0, .int .i64 m1, .int .i64 b0, .int .i64 b1]) "countinghouse/countinghouselaw01.writeBehind").run Tryz.prog W = .ok (154, .agg #[slOf lie, .int .i64 m0, .int .i64 m1, .int .i64 b0, .int .i64 b1]) W := fun _ => by kernel_rfl
            have HY := Lib.hid hy
            have x0 : wr.cell? ⟨gp, k, none⟩ = some (.iface 110 (.agg #[slOf lie, .int .i64 m0, .int .i64 m1, .int .i64 b0, .int .i64 b1])) := hcell
            clear hcell hy hok1 hok2
            go_wp2_with fail
            refine (pgbe_got lie m0 m1 b0 b1 wr (HY.out.mono (fun _ => hkn) False.elim)).mono ?_
            rintro e w2 ⟨rfl, hi2, hg2⟩
            have S2 := Lib.hid (HS.out.step (s' := ps.length) (t' := k + 1) HD.out HGE.out k hkn (by rw [← HP.out]; exact hg2) (by rw [← HP.out]; exact hi2.mono (fun _ => trivial) (fun _ => trivial)) (fun i h1 h2 => by omega) (fun i h1 h2 => by omega))
            clear hi2 hg2
            go_wp2
            go_roundg (ps.length - (k + 1))
            case measure => omega
            case rel => exact ⟨k + 1, by omega, rfl, by go_num, S2.out⟩
        · obtain rfl : k = ps.length := by omega
          have S2 := Lib.hid hS
          rw [hpv] at c0
          clear hS hpv HS
          go_wp2_with fail
          go_loopg [5] ps.length (fun q x wr => ∃ k : Nat, k ≤ ps.length ∧ q = ps.length - k ∧ x = .int .i64 k ∧ St ps kb pv B w wr ps.length ps.length)
          case atStart => exact ⟨0, Nat.zero_le _, by omega, rfl, S2.out⟩
          case round =>
            obtain ⟨k, hk, rfl, rfl, hS⟩ := hrel
            have HS := Lib.hid hS
            have c0 := hS.bk.cell 0
            simp only [List.getElem?_toArray, List.getElem?_cons_zero] at c0
            obtain ⟨A1, c1, hpv⟩ := hS.ow.sl_
            by_cases hkn : k < ps.length
            · have hkn' : (k : Int) < ps.length := by omega
              have hk0 : (0 : Int) ≤ k := by omega
              obtain ⟨gp, cp, hpv2, hcp, hcell⟩ := hS.ow.cell1 k (by simpa using hkn)
              rw [List.getElem_map] at hcell
              have hy := hS.pgs k hkn
              have hokk := HOK.out _ (List.getElem_mem hkn)
              obtain ⟨p, hp⟩ : ∃ p, p = ps[k] := ⟨_, rfl⟩
              rw [← hp] at hcell hy hokk
              have HP := Lib.hid hp
              obtain ⟨kd, lie, mm, bb⟩ := p
              obtain ⟨hkd, hok1, hok2⟩ := hokk
              simp only at hkd hok1 hok2
              rw [hpv2] at c0
              clear hS hp hpv hpv2
              obtain rfl | rfl | rfl : kd = 0 ∨ kd = 1 ∨ kd = 2 := by omega
              · obtain ⟨m0, rfl⟩ := one_of hok1
                obtain ⟨b0, rfl⟩ := one_of hok2
                have hm : ∀ W, (method 306 79 (.agg #[slOf lie, .int .u8 m0, .int .u8 b0]) "countinghouse/countinghouselaw01.stands").run Tryz.prog W = .ok (113, .agg #[slOf lie, .int .u8 m0, .int .u8 b0]) W := fun _ => by kernel_rfl
                have HY := Lib.hid hy
                have x0 : wr.cell? ⟨gp, k, none⟩ = some (.iface 79 (.agg #[slOf lie, .int .u8 m0, .int .u8 b0])) := hcell
                clear hcell hy hok1 hok2
                go_wp2_with fail
                refine (pgst_byte lie m0 b0 wr (HY.out.mono (fun _ => hkn) (fun _ => hkn))).mono ?_
                rintro e w2 ⟨rfl, hb2⟩
                have S2 := Lib.hid (HS.out.step (s' := ps.length) (t' := ps.length) HD.out HGE.out k hkn (grown_below_ hb2 _) ((HS.out.pgs k hkn).grown (grown_below_ hb2 none) (fun g _ => by simp)) (fun i h1 h2 => by omega) (fun i h1 h2 => by omega))
                clear hb2
                go_wp2
                go_roundg (ps.length - (k + 1))
                case measure => omega
                case rel => exact ⟨k + 1, by omega, rfl, by go_num, S2.out⟩
              · obtain ⟨m0, m1, m2, m3, m4, m5, m6, m7, m8, m9, rfl⟩ := step_of hok1
                obtain ⟨b0, b1, b2, b3, b4, b5, b6, b7, b8, b9, rfl⟩ := step_of hok2
                have hm : ∀ W, (method 306 106 (.agg #[slOf lie, .int .u8 m0, .int .u8 m1, .int .u8 m2, .int .u8 m3, .int .u8 m4, .int .i64 m5, .int .i64 m6, .int .i64 m7, .int .i64 m8, .int .u64 m9, .int .u8 b0, .int .u8 b1, .int .u8 b2, .int .u8 b3, .int .u8 b4, .int .i64 b5, .int .i64 b6, .int .i64 b7, .int .i64 b8, .int .u64 b9]) "countinghouse/countinghouselaw01.stands").run Tryz.prog W = .ok (149, .agg #[slOf lie, .int .u8 m0, .int .u8 m1, .int .u8 m2, .int .u8 m3, .int .u8 m4, .int .i64 m5, .int .i64 m6, .int .i64 m7, .int .i64 m8, .int .u64 m9, .int .u8 b0, .int .u8 b1, .int .u8 b2, .int .u8 b3, .int .u8 b4, .int .i64 b5, .int .i64 b6, .int .i64 b7, .int .i64 b8, .int .u64 b9]) W := fun _ => by kernel_rfl
                have HY := Lib.hid hy
                have x0 : wr.cell? ⟨gp, k, none⟩ = some (.iface 106 (.agg #[slOf lie, .int .u8 m0, .int .u8 m1, .int .u8 m2, .int .u8 m3, .int .u8 m4, .int .i64 m5, .int .i64 m6, .int .i64 m7, .int .i64 m8, .int .u64 m9, .int .u8 b0, .int .u8 b1, .int .u8 b2, .int .u8 b3, .int .u8 b4, .int .i64 b5, .int .i64 b6, .int .i64 b7, .int .i64 b8, .int .u64 b9])) := hcell
                clear hcell hy hok1 hok2
                go_wp2_with fail
                refine (pgst_step lie m0 m1 m2 m3 m4 m5 m6 m7 m8 m9 b0 b1 b2 b3 b4 b5 b6 b7 b8 b9 wr (HY.out.mono (fun _ => hkn) (fun _ => hkn))).mono ?_
                rintro e w2 ⟨rfl, hb2⟩
                have S2 := Lib.hid (HS.out.step (s' := ps.length) (t' := ps.length) HD.out HGE.out k hkn (grown_below_ hb2 _) ((HS.out.pgs k hkn).grown (grown_below_ hb2 none) (fun g _ => by simp)) (fun i h1 h2 => by omega) (fun i h1 h2 => by omega))
                clear hb2
                go_wp2
                go_roundg (ps.length - (k + 1))
                case measure => omega
                case rel => exact ⟨k + 1, by omega, rfl, by go_num, S2.out⟩
              · obtain ⟨m0, m1, rfl⟩ := got_of hok1
                obtain ⟨b0, b1, rfl⟩ := got_of hok2
                have hm : ∀ W, (method 306 110 (.agg #[slOf lie, .int .i64 m0, .int .i64 m1, .int .i64 b0, .int .i64 b1]) "countinghouse/countinghouselaw01.stands").run Tryz.prog W = .ok (152, .agg #[slOf lie, .int .i64 m0, .int .i64 m1, .int .i64 b0, .int .i64 b1]) W := fun _ => by kernel_rfl
                have HY := Lib.hid hy
                have x0 : wr.cell? ⟨gp, k, none⟩ = some (.iface 110 (.agg #[slOf lie, .int .i64 m0, .int .i64 m1, .int .i64 b0, .int .i64 b1])) := hcell
                clear hcell hy hok1 hok2
                go_wp2_with fail
                refine (pgst_got lie m0 m1 b0 b1 wr (HY.out.mono (fun _ => hkn) (fun _ => hkn))).mono ?_
                rintro e w2 ⟨rfl, hb2⟩
                have S2 := Lib.hid (HS.out.step (s' := ps.length) (t' := ps.length) HD.out HGE.out k hkn (grown_below_ hb2 _) ((HS.out.pgs k hkn).grown (grown_below_ hb2 none) (fun g _ => by simp)) (fun i h1 h2 => by omega) (fun i h1 h2 => by omega))
                clear hb2
                go_wp2
                go_roundg (ps.length - (k + 1))
                case measure => omega
                case rel => exact ⟨k + 1, by omega, rfl, by go_num, S2.out⟩
            · obtain rfl : k = ps.length := by omega
              have S3 := Lib.hid hS
              rw [hpv] at c0
              clear hS hpv HS
              go_wp2
              go_ret
              exact ⟨rfl, S3.out.bel⟩
end Go.Proofs.YthjdkjinkmdclaaGreat

/- law01: a page more in a book. -/
namespace Go.Proofs.YthjdkjinkmdclaaGreat
open Go.RowKit

theorem page_info : (Tryz.prog.info? 81).map (fun i => (i.zero, i.size, i.bytes)) = some (some .nilIface, 1, 16) := by kernel_rfl
/-- A book in block kb, its pages in the value pv; below B nothing has turned since W. -/
structure Bks (ps : List Pg) (B : Nat) (W w : World) (kb : Nat) (pv : Value) : Prop where
  bk : Blk w kb 50 #[pv]
  ow : Ow B w 81 1 pv ps.length (ps.map Pg.ifc)
  kbB : B ≤ kb
  bel : Below B W w
  le : B ≤ w.heap.size
theorem Bks.new_ {B : Nat} {W w : World} (hb : Below B W w) (hB : B ≤ w.heap.size) : Bks [] B W (w.alloc (.cells #[.slice none 0 0] 50)) w.heap.size (.slice none 0 0) :=
  ⟨Blk.new _ _ _, .inl ⟨rfl, rfl, rfl⟩, hB, hb.alloc hB _, by simp; omega⟩
theorem number_any (n c kb : Nat) (A : Option Addr) (w : World) (hk : Blk w kb 50 #[.slice A n c]) (hn : n ≤ 1000) :
    Calls Tryz.prog 33 #[.pointer (some ⟨kb, 0, none⟩)] w fun e w' => e = .returned (.int .i64 (n + 1)) ∧ w = w' := by
  have c0 := hk.cell 0
  simp only [List.getElem?_toArray, List.getElem?_cons_zero] at c0
  have hn' : (n : Int) ≤ 1000 := by omega
  clear hk
  go_enter Tryz.func33, Tryz.ntmps33
  go_wp2
  go_ret
  exact ⟨by go_num, rfl⟩
set_option maxHeartbeats 2000000 in
set_option maxRecDepth 100000 in
theorem add_byte (ps : List Pg) (B : Nat) (W w : World) (kb : Nat) (pv : Value) (h : Bks ps B W w kb pv) (hn : ps.length ≤ 100) (lie : Option (Nat × Nat × Nat)) :
    Calls Tryz.prog 13 #[.pointer (some ⟨kb, 0, none⟩), slOf lie] w fun e w' => e = .returned (.tuple #[]) ∧ ∃ (pv' : Value) (m b : List Int), m.length = 1 ∧ b.length = 1 ∧ Bks (ps ++ [⟨0, lie, m, b⟩]) B W w' kb pv' ∧ ∀ g t cs, t ≠ 50 → t ≠ 81 → Blk w g t cs → Blk w' g t cs := by
  obtain ⟨A, c, rfl⟩ := h.ow.sl_
  have H := Lib.hid h
  have HK := Lib.hid h.bk
  have c0 := h.bk.cell 0
  simp only [List.getElem?_toArray, List.getElem?_cons_zero] at c0
  have hn' : (ps.length : Int) ≤ 100 := by omega
  obtain ⟨LA, LN, LC, hlie⟩ : ∃ A n c, slOf lie = .slice A n c := by cases lie <;> exact ⟨_, _, _, rfl⟩
  rw [hlie]
  have HLIE := Lib.hid hlie
  clear h hlie
  go_enter Tryz.func13, Tryz.ntmps13
  go_wp2_with fail
  refine (number_any ps.length c kb A w HK.out (by omega)).mono ?_
  rintro e w1 ⟨rfl, rfl⟩
  go_wp2_with (at_builtin; go_must (refine wpList_ow rfl _ _ 48 81 .nilIface 1 16 rfl Tryz.underlying48 page_info rfl (by decide) rfl _ H.out.ow H.out.le rfl (by simp [Value.oneCell']) rfl (by omega) (by unfold maxLen; omega) ?_); intro v2 w2 ho2 hg2; obtain ⟨A2, c2, rfl⟩ := ho2.sl_; have hk2 := Blk.grown HK.out hg2.1 (fun e => Ow.notat H.out.ow HK.out (by decide) e.symm); have f2 := hk2.free; have z2 := hk2.cell 0; simp only [List.getElem?_toArray, List.getElem?_cons_zero] at z2; have O2 := Lib.hid ho2; have G2 := Lib.hid hg2; have K2 := Lib.hid hk2; clear ho2 hg2 hk2)
  have hk3 := K2.out.set_ 0 (.slice A2 (ps.length + 1) c2)
  refine bodyPost_end (results_none rfl _ _ _) rfl ⟨rfl, .slice A2 (ps.length + 1) c2, [(ps.length : Int) + 1], rfl, [bits .xor .u8 ((ps.length : Int) + 1) 128], rfl, ⟨?_, ?_, H.out.kbB, ?_, ?_⟩, ?_⟩
  rotate_left
  · have := Ow.aside O2.out K2.out (by decide) 0 (.slice A2 (ps.length + 1) c2)
    rw [List.length_append, List.map_append]
    simp only [List.map_cons, List.map_nil, Pg.ifc, HLIE.out]
    exact this
  · exact (H.out.bel.grown G2.out.1 H.out.le (fun k hk => Ow.blk_lt H.out.ow k hk)).setCell H.out.kbB _
  · have := G2.out.1.size
    have := H.out.le
    simp
    omega
  · intro g t cs ht1 ht2 hk
    exact (hk.grown G2.out.1 (fun e => Ow.notat H.out.ow hk ht2 e.symm)).far (p := ⟨kb, 0, none⟩) (hk.ne_ HK.out ht1) _
  · simpa using hk3
set_option maxHeartbeats 2000000 in
set_option maxRecDepth 100000 in
theorem add_step (ps : List Pg) (B : Nat) (W w : World) (kb : Nat) (pv : Value) (h : Bks ps B W w kb pv) (hn : ps.length ≤ 100) (lie : Option (Nat × Nat × Nat)) :
    Calls Tryz.prog 21 #[.pointer (some ⟨kb, 0, none⟩), slOf lie] w fun e w' => e = .returned (.tuple #[]) ∧ ∃ (pv' : Value) (m b : List Int), m.length = 10 ∧ b.length = 10 ∧ Bks (ps ++ [⟨1, lie, m, b⟩]) B W w' kb pv' ∧ ∀ g t cs, t ≠ 50 → t ≠ 81 → Blk w g t cs → Blk w' g t cs := by
  obtain ⟨A, c, rfl⟩ := h.ow.sl_
  have H := Lib.hid h
  have HK := Lib.hid h.bk
  have c0 := h.bk.cell 0
  simp only [List.getElem?_toArray, List.getElem?_cons_zero] at c0
  have hn' : (ps.length : Int) ≤ 100 := by omega
  obtain ⟨LA, LN, LC, hlie⟩ : ∃ A n c, slOf lie = .slice A n c := by cases lie <;> exact ⟨_, _, _, rfl⟩
  rw [hlie]
  have HLIE := Lib.hid hlie
  clear h hlie
  go_enter Tryz.func21, Tryz.ntmps21
  go_wp2_with fail
  refine (number_any ps.length c kb A w HK.out (by omega)).mono ?_
  rintro e w1 ⟨rfl, rfl⟩
  go_wp2_with (at_builtin; go_must (refine wpList_ow rfl _ _ 48 81 .nilIface 1 16 rfl Tryz.underlying48 page_info rfl (by decide) rfl _ H.out.ow H.out.le rfl (by simp [Value.oneCell']) rfl (by omega) (by unfold maxLen; omega) ?_); intro v2 w2 ho2 hg2; obtain ⟨A2, c2, rfl⟩ := ho2.sl_; have hk2 := Blk.grown HK.out hg2.1 (fun e => Ow.notat H.out.ow HK.out (by decide) e.symm); have f2 := hk2.free; have z2 := hk2.cell 0; simp only [List.getElem?_toArray, List.getElem?_cons_zero] at z2; have O2 := Lib.hid ho2; have G2 := Lib.hid hg2; have K2 := Lib.hid hk2; clear ho2 hg2 hk2)
  have hk3 := K2.out.set_ 0 (.slice A2 (ps.length + 1) c2)
  refine bodyPost_end (results_none rfl _ _ _) rfl ⟨rfl, .slice A2 (ps.length + 1) c2, [0, 0, 0, 0, 0, (ps.length : Int) + 1, 0, 0, 0, 0], rfl, [0, 0, 0, 0, 0, 0, (ps.length : Int) + 1, 0, 0, 0], rfl, ⟨?_, ?_, H.out.kbB, ?_, ?_⟩, ?_⟩
  rotate_left
  · have := Ow.aside O2.out K2.out (by decide) 0 (.slice A2 (ps.length + 1) c2)
    rw [List.length_append, List.map_append]
    simp only [List.map_cons, List.map_nil, Pg.ifc, HLIE.out]
    exact this
  · exact (H.out.bel.grown G2.out.1 H.out.le (fun k hk => Ow.blk_lt H.out.ow k hk)).setCell H.out.kbB _
  · have := G2.out.1.size
    have := H.out.le
    simp
    omega
  · intro g t cs ht1 ht2 hk
    exact (hk.grown G2.out.1 (fun e => Ow.notat H.out.ow hk ht2 e.symm)).far (p := ⟨kb, 0, none⟩) (hk.ne_ HK.out ht1) _
  · simpa using hk3
set_option maxHeartbeats 2000000 in
set_option maxRecDepth 100000 in
theorem add_got (ps : List Pg) (B : Nat) (W w : World) (kb : Nat) (pv : Value) (h : Bks ps B W w kb pv) (hn : ps.length ≤ 100) (lie : Option (Nat × Nat × Nat)) :
    Calls Tryz.prog 22 #[.pointer (some ⟨kb, 0, none⟩), slOf lie] w fun e w' => e = .returned (.tuple #[]) ∧ ∃ (pv' : Value) (m b : List Int), m.length = 2 ∧ b.length = 2 ∧ Bks (ps ++ [⟨2, lie, m, b⟩]) B W w' kb pv' ∧ ∀ g t cs, t ≠ 50 → t ≠ 81 → Blk w g t cs → Blk w' g t cs := by
  obtain ⟨A, c, rfl⟩ := h.ow.sl_
  have H := Lib.hid h
  have HK := Lib.hid h.bk
  have c0 := h.bk.cell 0
  simp only [List.getElem?_toArray, List.getElem?_cons_zero] at c0
  have hn' : (ps.length : Int) ≤ 100 := by omega
  obtain ⟨LA, LN, LC, hlie⟩ : ∃ A n c, slOf lie = .slice A n c := by cases lie <;> exact ⟨_, _, _, rfl⟩
  rw [hlie]
  have HLIE := Lib.hid hlie
  clear h hlie
  go_enter Tryz.func22, Tryz.ntmps22
  go_wp2_with fail
  refine (number_any ps.length c kb A w HK.out (by omega)).mono ?_
  rintro e w1 ⟨rfl, rfl⟩
  go_wp2_with (at_builtin; go_must (refine wpList_ow rfl _ _ 48 81 .nilIface 1 16 rfl Tryz.underlying48 page_info rfl (by decide) rfl _ H.out.ow H.out.le rfl (by simp [Value.oneCell']) rfl (by omega) (by unfold maxLen; omega) ?_); intro v2 w2 ho2 hg2; obtain ⟨A2, c2, rfl⟩ := ho2.sl_; have hk2 := Blk.grown HK.out hg2.1 (fun e => Ow.notat H.out.ow HK.out (by decide) e.symm); have f2 := hk2.free; have z2 := hk2.cell 0; simp only [List.getElem?_toArray, List.getElem?_cons_zero] at z2; have O2 := Lib.hid ho2; have G2 := Lib.hid hg2; have K2 := Lib.hid hk2; clear ho2 hg2 hk2)
  have hk3 := K2.out.set_ 0 (.slice A2 (ps.length + 1) c2)
  refine bodyPost_end (results_none rfl _ _ _) rfl ⟨rfl, .slice A2 (ps.length + 1) c2, [(ps.length : Int) + 1, 0], rfl, [0, (ps.length : Int) + 1], rfl, ⟨?_, ?_, H.out.kbB, ?_, ?_⟩, ?_⟩
  rotate_left
  · have := Ow.aside O2.out K2.out (by decide) 0 (.slice A2 (ps.length + 1) c2)
    rw [List.length_append, List.map_append]
    simp only [List.map_cons, List.map_nil, Pg.ifc, HLIE.out]
    exact this
  · exact (H.out.bel.grown G2.out.1 H.out.le (fun k hk => Ow.blk_lt H.out.ow k hk)).setCell H.out.kbB _
  · have := G2.out.1.size
    have := H.out.le
    simp
    omega
  · intro g t cs ht1 ht2 hk
    exact (hk.grown G2.out.1 (fun e => Ow.notat H.out.ow hk ht2 e.symm)).far (p := ⟨kb, 0, none⟩) (hk.ne_ HK.out ht1) _
  · simpa using hk3
end Go.Proofs.YthjdkjinkmdclaaGreat

/- law01: the pages of entries' steps in a book. -/
namespace Go.Proofs.YthjdkjinkmdclaaGreat
open Go.RowKit

/-- Pages of steps, where they lie. -/
def StPg (ls : List (Option (Nat × Nat × Nat))) (qs : List Pg) : Prop := qs.length = ls.length ∧ ∀ (i : Nat) (h : i < qs.length) (h' : i < ls.length), qs[i].kd = 1 ∧ qs[i].lie = ls[i] ∧ qs[i].m.length = 10 ∧ qs[i].b.length = 10
theorem StPg.snoc {ls : List (Option (Nat × Nat × Nat))} {qs : List Pg} {l : Option (Nat × Nat × Nat)} {m b : List Int} (h : StPg ls qs) (hm : m.length = 10) (hb : b.length = 10) : StPg (ls ++ [l]) (qs ++ [⟨1, l, m, b⟩]) := by
  obtain ⟨h1, h2⟩ := h
  refine ⟨by simp [h1], fun i a c => ?_⟩
  rcases Nat.lt_or_ge i qs.length with hi | hi
  · rw [List.getElem_append_left hi, List.getElem_append_left (by omega)]
    exact h2 i hi (by omega)
  · have hie : i = qs.length := by simp at a; omega
    subst hie
    rw [List.getElem_append_right (by omega), List.getElem_append_right (by omega)]
    simp only [h1, Nat.sub_self, List.getElem_cons_zero]
    exact ⟨trivial, trivial, hm, hb⟩
set_option maxHeartbeats 4000000 in
set_option maxRecDepth 100000 in
theorem add_ents (ps : List Pg) (B : Nat) (W w : World) (kb : Nat) (pv : Value) (h : Bks ps B W w kb pv) (n : Nat) (hn : ps.length + n ≤ 100) (ls : List (Option (Nat × Nat × Nat))) (hls : ls.length = n) (ge ce : Nat) (Ae : Option Addr) (cur : Array Value)
    (hv : n = 0 ∨ (Ae = some ⟨ge, 0, none⟩ ∧ Blk w ge 63 cur ∧ ∀ (i : Nat) (hi : i < ls.length), cur[i * 5 + 4]? = some (slOf ls[i]))) :
    Calls Tryz.prog 20 #[.pointer (some ⟨kb, 0, none⟩), .slice Ae n ce] w fun e w' => e = .returned (.tuple #[]) ∧ ∃ (pv' : Value) (qs : List Pg), StPg ls qs ∧ Bks (ps ++ qs) B W w' kb pv' ∧ ∀ g t cs, t ≠ 50 → t ≠ 81 → Blk w g t cs → Blk w' g t cs := by
  have H := Lib.hid h
  have HV := Lib.hid hv
  have HL := Lib.hid hls
  clear h hv hls
  go_enter Tryz.func20, Tryz.ntmps20
  go_wp2_with fail
  go_loopg [4] n (fun g c4 wr => ∃ (j : Nat) (pv' : Value) (qs : List Pg), j ≤ n ∧ g = n - j ∧ c4 = .int .i64 j ∧ StPg (ls.take j) qs ∧ Bks (ps ++ qs) B W wr kb pv' ∧ ∀ g t cs, t ≠ 50 → t ≠ 81 → Blk w g t cs → Blk wr g t cs)
  case atStart => exact ⟨0, pv, [], Nat.zero_le _, by omega, rfl, ⟨rfl, fun i h => by simp at h⟩, by simpa using H.out, fun _ _ _ _ _ h => h⟩
  case round =>
    obtain ⟨j, pv', qs, hj, hg, rfl, hst, hb, hkp⟩ := hrel
    have G := Lib.hid hg
    have ST := Lib.hid hst
    have BK := Lib.hid hb
    have KP := Lib.hid hkp
    clear hg hst hb hkp
    by_cases hjn : j < n
    · have hjn' : (j : Int) < n := by omega
      have hj0 : (0 : Int) ≤ j := by omega
      have hjl : j < ls.length := by rw [HL.out]; exact hjn
      have hwj : IntKind.i64.wrap ((j : Int) + 1) = (j : Int) + 1 := IntWalk.i64_in _ (by omega)
      obtain ⟨rfl, hk, hc⟩ : Ae = some ⟨ge, 0, none⟩ ∧ Blk w ge 63 cur ∧ ∀ (i : Nat) (hi : i < ls.length), cur[i * 5 + 4]? = some (slOf ls[i]) := by
        rcases HV.out with h | h
        · omega
        · exact h
      have c4 : wr.cell? ⟨ge, j * 5 + 4, none⟩ = some (slOf ls[j]) := by
        rw [(KP.out ge 63 cur (by decide) (by decide) hk).cell]
        exact hc j hjl
      have hT : ls.take (j + 1) = ls.take j ++ [ls[j]] := List.take_succ_eq_append_getElem hjl
      have hq : qs.length = j := by rw [ST.out.1, List.length_take]; omega
      obtain ⟨l, hl⟩ : ∃ l, l = ls[j] := ⟨_, rfl⟩
      rw [← hl] at c4 hT
      have HT := Lib.hid hT
      have CN := Lib.hid (add_step (ps ++ qs) B W wr kb pv' BK.out (by rw [List.length_append]; omega) l)
      obtain ⟨LA, LN, LC, hlie⟩ : ∃ A n c, slOf l = .slice A n c := by cases l <;> exact ⟨_, _, _, rfl⟩
      rw [hlie] at c4 CN
      clear hk hc hT hq hl hlie
      go_wp2_with fail
      refine CN.out.mono ?_
      rintro e w7 ⟨rfl, pv2, m, b, hm, hb, hB, hK⟩
      have B2 := Lib.hid hB
      have K2 := Lib.hid hK
      have M := Lib.hid hm
      have MB := Lib.hid hb
      clear hm hb hB hK c4
      go_wp2
      go_roundg (n - (j + 1))
      case measure => have := G.out; omega
      case rel =>
        refine ⟨j + 1, pv2, qs ++ [⟨1, l, m, b⟩], by omega, rfl, by go_num, ?_, by rw [← List.append_assoc]; exact B2.out, fun g t cs h1 h2 hk => K2.out g t cs h1 h2 (KP.out g t cs h1 h2 hk)⟩
        rw [HT.out]
        exact ST.out.snoc M.out MB.out
    · obtain rfl : j = n := by omega
      have ST2 := Lib.hid (show StPg ls qs from by have := ST.out; rw [← HL.out, List.take_length] at this; exact this)
      go_wp2
      refine bodyPost_end (results_none rfl _ _ _) rfl ?_
      exact ⟨rfl, pv', qs, ST2.out, BK.out, KP.out⟩
end Go.Proofs.YthjdkjinkmdclaaGreat

/- law01: whether two replies are the same. -/
namespace Go.Proofs.YthjdkjinkmdclaaGreat
open Go.RowKit

set_option maxHeartbeats 1000000 in
theorem samer_any (E A F B : Int) (v u : Value) (xs ys : List (List Int)) (hx : ∀ q ∈ xs, q.length = 2) (hy : ∀ q ∈ ys, q.length = 2) (w : World) (hv : Gots w v xs) (hu : Gots w u ys) (hn : xs.length ≤ 1000000) :
    Calls Tryz.prog 43 #[.agg #[.int .i64 E, .int .i64 A, v], .agg #[.int .i64 F, .int .i64 B, u]] w fun e w' => e = .returned (.bool (decide (E = F ∧ A = B ∧ xs = ys))) ∧ Below w.heap.size w w' := by
  have HV := Lib.hid (Rd.alloc (Rd.alloc hv (.cells #[.int .i64 E, .int .i64 A, v] 34)) (.cells #[.int .i64 F, .int .i64 B, u] 34))
  have HU := Lib.hid (Rd.alloc (Rd.alloc hu (.cells #[.int .i64 E, .int .i64 A, v] 34)) (.cells #[.int .i64 F, .int .i64 B, u] 34))
  have HX := Lib.hid hx
  have HY := Lib.hid hy
  obtain ⟨a1, e1, rfl, -⟩ := id hv
  obtain ⟨a2, e2, rfl, -⟩ := id hu
  clear hv hu hx hy
  by_cases h1 : E = F
  · by_cases h2 : A = B
    · have HD := Lib.hid (show decide (xs = ys) = decide (E = F ∧ A = B ∧ xs = ys) by rw [decide_eq_decide]; simp [h1, h2])
      have e1 : (E == F) = true := by simpa using h1
      have e2 : (A == B) = true := by simpa using h2
      clear h1 h2
      go_enter Tryz.func43, Tryz.ntmps43
      go_wp2_with fail
      refine (same_gots xs ys HX.out HY.out _ _ _ HV.out HU.out (by omega)).mono ?_
      rintro e w' ⟨rfl, m, rfl⟩
      go_wp2
      go_ret
      exact ⟨by rw [← HD.out]; rfl, (below_alloc2_ _ _ _).trans (below_drewN_ _ _ _)⟩
    · have HD := Lib.hid (show decide (E = F ∧ A = B ∧ xs = ys) = false from decide_eq_false (fun h => h2 h.2.1))
      have e1 : (E == F) = true := by simpa using h1
      have e2 : (A == B) = false := by simpa using h2
      clear h1 h2
      go_enter Tryz.func43, Tryz.ntmps43
      go_wp2
      go_ret
      exact ⟨by rw [HD.out]; rfl, below_alloc2_ _ _ _⟩
  · have HD := Lib.hid (show decide (E = F ∧ A = B ∧ xs = ys) = false from decide_eq_false (fun h => h1 h.1))
    have e1 : (E == F) = false := by simpa using h1
    clear h1
    go_enter Tryz.func43, Tryz.ntmps43
    go_wp2
    go_ret
    exact ⟨by rw [HD.out]; rfl, below_alloc2_ _ _ _⟩
end Go.Proofs.YthjdkjinkmdclaaGreat

/- law23: a letter is the document's. -/
namespace Go.Proofs.YthjdkjinkmdclaaGreat
open Go.RowKit

set_option maxHeartbeats 4000000 in
set_option maxRecDepth 100000 in
theorem same_any {w : World} {L : Lt} {ve vd vs vg ue ud us ug : Value} (hw : Lw w L ve vd vs vg) (ho : LoO w L.es L.data L.steps L.gots ue ud us ug) :
    Calls Tryz.prog 18 #[.agg (letC L ve vd vs vg), .agg (letO L ue ud us ug)] w fun e w' => e = .returned (.bool true) ∧ Below w.heap.size w w' := by
  obtain ⟨Ae, ce, Ad, cd, As, cs, Ag, cg, rfl, rfl, rfl, rfl⟩ := hw.sl
  have he2 := ho.ents
  obtain ⟨-, hd2, hs2, hg2⟩ := id ho
  obtain ⟨Be, de, rfl⟩ : ∃ A c, ue = .slice A L.es.length c := by obtain ⟨⟨ss, -, q, -⟩, -⟩ := ho; exact q.sl_
  obtain ⟨Bd, dd, rfl⟩ := hd2.sl_
  obtain ⟨Bs, ds, rfl⟩ := hs2.sl_
  obtain ⟨Bg, dg, rfl⟩ := hg2.sl_
  have hkb := hw.ok.kind
  have hwk : IntKind.i64.wrap L.kind = L.kind := by rw [IntKind.wrap_i64]; unfold byt at hkb; omega
  have b2 := below_alloc2_ w (.cells (letC L (.slice Ae L.es.length ce) (.slice Ad L.data.length cd) (.slice As L.steps.length cs) (.slice Ag L.gots.length cg)) 36) (.cells (letO L (.slice Be L.es.length de) (.slice Bd L.data.length dd) (.slice Bs L.steps.length ds) (.slice Bg L.gots.length dg)) 44)
  have k0 := (Blk.new w 36 (letC L (.slice Ae L.es.length ce) (.slice Ad L.data.length cd) (.slice As L.steps.length cs) (.slice Ag L.gots.length cg))).alloc (.cells (letO L (.slice Be L.es.length de) (.slice Bd L.data.length dd) (.slice Bs L.steps.length ds) (.slice Bg L.gots.length dg)) 44)
  have k1 := Blk.new (w.alloc (.cells (letC L (.slice Ae L.es.length ce) (.slice Ad L.data.length cd) (.slice As L.steps.length cs) (.slice Ag L.gots.length cg)) 36)) 44 (letO L (.slice Be L.es.length de) (.slice Bd L.data.length dd) (.slice Bs L.steps.length ds) (.slice Bg L.gots.length dg))
  rw [World.size_alloc] at k1
  have CE := Lib.hid (fun u (hu : Below w.heap.size w u) => samees_any L.es (fun e he => ⟨fok_len _ _ (hw.ok.es e he).1, hw.s6 e he, fun q hq => fok_len _ _ ((hw.ok.es e he).2 q hq)⟩) _ _ u (hw.es.below hu) (he2.below hu) (by have := hw.e6; omega))
  have CD := Lib.hid (fun u (hu : Below w.heap.size w u) => sameb_any L.data L.data _ _ u (hw.data.below hu) (Rd.below hd2.rd hu) (by have := hw.d6; omega))
  have CS := Lib.hid (fun u (hu : Below w.heap.size w u) => samecall_any L.cl L.num L.cl L.num _ _ L.steps L.steps (fun q hq => fok_len _ _ (hw.ok.steps q hq)) (fun q hq => fok_len _ _ (hw.ok.steps q hq)) u (Rd.below hw.steps hu) (Rd.below hs2.rd hu) hw.t6)
  have CG := Lib.hid (fun u (hu : Below w.heap.size w u) => samer_any L.re L.ra L.re L.ra _ _ L.gots L.gots (fun q hq => fok_len _ _ (hw.ok.gots q hq)) (fun q hq => fok_len _ _ (hw.ok.gots q hq)) u (Rd.below hw.gots hu) (Rd.below hg2.rd hu) hw.g6)
  obtain ⟨ne, hne⟩ : ∃ n, n = L.es.length := ⟨_, rfl⟩
  obtain ⟨nd, hnd⟩ : ∃ n, n = L.data.length := ⟨_, rfl⟩
  obtain ⟨ns, hns⟩ : ∃ n, n = L.steps.length := ⟨_, rfl⟩
  obtain ⟨ng, hng⟩ : ∃ n, n = L.gots.length := ⟨_, rfl⟩
  rw [← hne, ← hnd, ← hns, ← hng] at b2 k0 k1 ⊢
  simp only [← hne, ← hnd, ← hns, ← hng] at CE CD CS CG
  have K0 := Lib.hid k0
  have K1 := Lib.hid k1
  have B2 := Lib.hid b2
  clear hw ho he2 hd2 hs2 hg2 hkb k0 k1 b2 hne hnd hns hng
  simp only [letC, letO] at K0 K1 B2 ⊢
  go_enter Tryz.func18, Tryz.ntmps18
  have fa0 := K0.out.cell 0
  have fa1 := K0.out.cell 1
  have fa2 := K0.out.cell 2
  have fa3 := K0.out.cell 3
  have fa4 := K0.out.cell 4
  have fa5 := K0.out.cell 5
  have fa6 := K0.out.cell 6
  have fa7 := K0.out.cell 7
  have fa8 := K0.out.cell 8
  have fb0 := K1.out.cell 0
  have fb1 := K1.out.cell 1
  have fb2 := K1.out.cell 2
  have fb3 := K1.out.cell 3
  have fb4 := K1.out.cell 4
  have fb5 := K1.out.cell 5
  have fb6 := K1.out.cell 6
  have fb7 := K1.out.cell 7
  have fb8 := K1.out.cell 8
  simp only [List.getElem?_toArray, List.getElem?_cons_zero, List.getElem?_cons_succ] at fa0 fb0 fa1 fb1 fa2 fb2 fa3 fb3 fa4 fb4 fa5 fb5 fa6 fb6 fa7 fb7 fa8 fb8
  go_wp2_with fail
  refine (CE.out _ B2.out).mono ?_
  rintro e w3 ⟨rfl, b3⟩
  have B3 := Lib.hid (B2.out.trans (b3.mono B2.out.size))
  have K03 := Lib.hid (K0.out.below b3 K0.out.lt)
  have K13 := Lib.hid (K1.out.below b3 K1.out.lt)
  clear b3 K0 K1 B2 fa0 fb0 fa1 fb1 fa2 fb2 fa3 fb3 fa4 fb4 fa5 fb5 fa6 fb6 fa7 fb7 fa8 fb8
  have fa9 := K03.out.cell 9
  have fb9 := K13.out.cell 9
  simp only [List.getElem?_toArray, List.getElem?_cons_zero, List.getElem?_cons_succ] at fa9 fb9
  go_wp2_with fail
  refine (CD.out _ B3.out).mono ?_
  rintro e w4 ⟨rfl, m4, hw4⟩
  have b4_ : Below w3.heap.size w3 w4 := by rw [hw4]; exact below_drewN_ _ _ _
  clear hw4
  have B4 := Lib.hid (B3.out.trans (b4_.mono B3.out.size))
  have K04 := Lib.hid (K03.out.below b4_ K03.out.lt)
  have K14 := Lib.hid (K13.out.below b4_ K13.out.lt)
  clear b4_ K03 K13 B3 fa9 fb9
  have fa10 := K04.out.cell 10
  have fa11 := K04.out.cell 11
  have fa12 := K04.out.cell 12
  have fb10 := K14.out.cell 10
  have fb11 := K14.out.cell 11
  have fb12 := K14.out.cell 12
  simp only [List.getElem?_toArray, List.getElem?_cons_zero, List.getElem?_cons_succ] at fa10 fb10 fa11 fb11 fa12 fb12
  go_wp2_with fail
  refine (CS.out _ B4.out).mono ?_
  rintro e w5 ⟨rfl, b5_⟩
  have B5 := Lib.hid (B4.out.trans (b5_.mono B4.out.size))
  have K05 := Lib.hid (K04.out.below b5_ K04.out.lt)
  have K15 := Lib.hid (K14.out.below b5_ K14.out.lt)
  clear b5_ K04 K14 B4 fa10 fb10 fa11 fb11 fa12 fb12
  have fa13 := K05.out.cell 13
  have fa14 := K05.out.cell 14
  have fa15 := K05.out.cell 15
  have fa16 := K05.out.cell 16
  have fb13 := K15.out.cell 13
  have fb14 := K15.out.cell 14
  have fb15 := K15.out.cell 15
  have fb16 := K15.out.cell 16
  simp only [List.getElem?_toArray, List.getElem?_cons_zero, List.getElem?_cons_succ] at fa13 fb13 fa14 fb14 fa15 fb15 fa16 fb16
  go_wp2_with fail
  refine (CG.out _ B5.out).mono ?_
  rintro e w6 ⟨rfl, b6_⟩
  have B6 := Lib.hid (B5.out.trans (b6_.mono B5.out.size))
  have K06 := Lib.hid (K05.out.below b6_ K05.out.lt)
  have K16 := Lib.hid (K15.out.below b6_ K15.out.lt)
  clear b6_ K05 K15 B5 fa13 fb13 fa14 fb14 fa15 fb15 fa16 fb16
  go_wp2
  go_ret
  exact ⟨rfl, B6.out⟩
end Go.Proofs.YthjdkjinkmdclaaGreat

/- Letters: the document's Get answers what is got. -/
namespace Go.Proofs.YthjdkjinkmdclaaGreat
open Go.RowKit

theorem rget_any {w : World} {v : Value} {xs : List Int} (hb : Bs w v xs) (hby : ∀ c ∈ xs, byt c) (hl : xs.length ≤ 65536) :
    Calls Tryz.prog 17 #[v] w fun e w' => RGet (getL xs) w e w' := by
  by_cases h1 : (rd1 .u8 (.ok xs)).1 = 1
  · exact rget_1 hb hby hl h1
  by_cases h2 : (rd1 .u8 (.ok xs)).1 = 2
  · exact rget_2 hb hby hl h2
  by_cases h3 : (rd1 .u8 (.ok xs)).1 = 3
  · by_cases hB : 8 < (run numP 0 (rRun (heads ++ [.index, .mark, .commit]) (Rs.new xs)).2.1).1
    · exact rget_3c hb hby hl h3 hB
    · rcases hE : rEnts (run numP 0 (rRun (heads ++ [.index, .mark, .commit]) (Rs.new xs)).2.1).1 [] (run numP 0 (rRun (heads ++ [.index, .mark, .commit]) (Rs.new xs)).2.1).2 false with - | a
      · exact rget_3d hb hby hl h3 hB hE
      · have hE2 : (rEnts (run numP 0 (rRun (heads ++ [.index, .mark, .commit]) (Rs.new xs)).2.1).1 [] (run numP 0 (rRun (heads ++ [.index, .mark, .commit]) (Rs.new xs)).2.1).2 false).isSome = true := by rw [hE]; rfl
        rcases hA : getL xs with - | L
        · rw [← hA]; exact rget_3b hb hby hl h3 hB hE2 hA
        · rw [← hA]; exact rget_3a hb hby hl h3 hB hE2 (by rw [hA]; rfl)
  by_cases h4 : (rd1 .u8 (.ok xs)).1 = 4
  · exact rget_4 hb hby hl h4
  by_cases h5 : (rd1 .u8 (.ok xs)).1 = 5
  · by_cases hB : ∃ r, (run numP 0 (rRun (heads ++ [.index, .mark]) (Rs.new xs)).2.1).2 = .ok r ∧ ¬ (r.length < (run numP 0 (rRun (heads ++ [.index, .mark]) (Rs.new xs)).2.1).1 ∨ 65536 < (run numP 0 (rRun (heads ++ [.index, .mark]) (Rs.new xs)).2.1).1)
    · rcases hA : getL xs with - | L
      · rw [← hA]; exact rget_5b hb hby hl h5 hB hA
      · rw [← hA]; exact rget_5a hb hby hl h5 hB (by rw [hA]; rfl)
    · exact rget_5c hb hby hl h5 (fun r hr => Decidable.byContradiction fun h => hB ⟨r, hr, h⟩)
  by_cases h6 : (rd1 .u8 (.ok xs)).1 = 6
  · exact rget_6 hb hby hl h6
  by_cases h7 : (rd1 .u8 (.ok xs)).1 = 7
  · exact rget_7 hb hby hl h7
  · exact rget_0 hb hby hl (by unfold pcs; rw [if_neg h1, if_neg h2, if_neg h3, if_neg h4, if_neg h5, if_neg h6, if_neg h7])
end Go.Proofs.YthjdkjinkmdclaaGreat

/- LettersGet: the walk. -/
namespace Go.Proofs.YthjdkjinkmdclaaGreat
open Go.RowKit

/-- The letter that is answered. -/
def lt0 (xs : List Int) : Lt := (getL xs).getD Lt.zero
def lk (xs : List Int) : Int := if (getL xs).isSome = true then 0 else 4
theorem lt0_ok {xs : List Int} (hb : ∀ c ∈ xs, byt c) : ∀ p, okPc (lt0 xs) p := by
  unfold lt0
  rcases h : getL xs with - | L
  · exact fun p => okPc_zero p
  · exact (getL_back hb h).2.1
theorem get_uni {w : World} {v : Value} {xs : List Int} (hb : Bs w v xs) (hby : ∀ c ∈ xs, byt c) (hl : xs.length ≤ 70368744177664) :
    Calls Tryz.prog 16 #[v] w fun e w' => (∃ ve vd vs vg, e = .returned (.tuple #[.agg (letC (lt0 xs) ve vd vs vg), .int .i64 (lk xs)]) ∧ Lv w.heap.size w' (lt0 xs) ve vd vs vg ∧ ((lt0 xs).es = [] ∨ vs = .slice none 0 0)) ∧ Below w.heap.size w w' := by
  refine (Get_any2 hb hby hl).mono ?_
  rintro e w' ⟨h1, h2⟩
  refine ⟨?_, h2⟩
  unfold lt0 lk
  revert h1
  cases getL xs with
  | none => exact fun h1 => ⟨_, _, _, _, h1, Lv.zero _ _, .inl rfl⟩
  | some L => exact fun h1 => h1
theorem rget_uni {w : World} {v : Value} {xs : List Int} (hb : Bs w v xs) (hby : ∀ c ∈ xs, byt c) (hl : xs.length ≤ 65536) :
    Calls Tryz.prog 17 #[v] w fun e w' => (∃ ve vd vs vg, e = .returned (.tuple #[.agg (letO (lt0 xs) ve vd vs vg), .int .i64 (lk xs)]) ∧ LoO w' (lt0 xs).es (lt0 xs).data (lt0 xs).steps (lt0 xs).gots ve vd vs vg) ∧ Below w.heap.size w w' := by
  refine (rget_any hb hby hl).mono ?_
  rintro e w' ⟨h2, h1⟩
  refine ⟨?_, h2⟩
  unfold lt0 lk
  revert h1
  cases getL xs with
  | none => exact fun h1 => ⟨_, _, _, _, h1, LoO.nil_ _⟩
  | some L => exact fun h1 => h1
theorem LoO.below {w w' : World} {es : List Ent} {data : List Int} {steps gots : List (List Int)} {ve vd vs vg : Value} (h : LoO w es data steps gots ve vd vs vg) (hb : Below w.heap.size w w') : LoO w' es data steps gots ve vd vs vg := by
  obtain ⟨⟨ss, h1, h2, h3⟩, h4, h5, h6⟩ := h
  exact ⟨⟨ss, h1, h2.below hb, fun j a b => (h3 j a b).below hb⟩, h4.below hb, h5.below hb, h6.below hb⟩
theorem LoO.sl {w : World} {es : List Ent} {data : List Int} {steps gots : List (List Int)} {ve vd vs vg : Value} (h : LoO w es data steps gots ve vd vs vg) : (∃ A n c, ve = .slice A n c) ∧ (∃ A n c, vd = .slice A n c) ∧ (∃ A n c, vs = .slice A n c) ∧ ∃ A n c, vg = .slice A n c := by
  obtain ⟨⟨ss, h1, h2, h3⟩, h4, h5, h6⟩ := h
  refine ⟨?_, ?_, ?_, ?_⟩
  · obtain ⟨A, c, e⟩ := h2.sl_; exact ⟨A, _, c, e⟩
  · obtain ⟨A, c, e⟩ := h4.sl_; exact ⟨A, _, c, e⟩
  · obtain ⟨A, c, e⟩ := h5.sl_; exact ⟨A, _, c, e⟩
  · obtain ⟨A, c, e⟩ := h6.sl_; exact ⟨A, _, c, e⟩
theorem Pg.In.keep {p : Pg} {w w' : World} {a b : Prop} (h : p.In w a b) (hk : ∀ g t cs, t ≠ 50 → t ≠ 81 → Blk w g t cs → Blk w' g t cs) : p.In w' a b := by
  obtain ⟨kd, lie, m, b0⟩ := p
  match lie, h with
  | none, _ => trivial
  | some (g, n, c), ⟨cur, hb, h1⟩ => exact ⟨cur, hk _ _ _ (fun e => kE_book kd e.symm) (fun e => kE_page kd e.symm) hb, h1⟩
theorem Pg.In.bel {p : Pg} {w w' : World} {a b : Prop} (h : p.In w a b) (hb : Below w.heap.size w w') : p.In w' a b := by
  obtain ⟨kd, lie, m, b0⟩ := p
  match lie, h with
  | none, _ => trivial
  | some (g, n, c), ⟨cur, hk, h1⟩ => exact ⟨cur, hk.below hb hk.lt, h1⟩
/-- A slice of one's own whose room is its length, as a page. -/
theorem own_page {B kd size n : Nat} {e : TypeId} {A : Option Addr} {w : World} {xs : List Value} (h : Ow B w e size (.slice A n n) n xs) (he : e = kE kd) (hs : size = (kK kd).length) (hx : n ≤ 4611686018427387904) :
    ∃ lie, Value.slice A n n = slOf lie ∧ (∀ m b, (⟨kd, lie, m, b⟩ : Pg).In w False False) ∧ ∀ g, bkOf lie = some g → B ≤ g ∧ g < w.heap.size ∧ ∃ cs, Blk w g e cs := by
  subst he
  rcases h with ⟨hv, _, _⟩ | ⟨g, c, cur, hv, hB, hg, hcc, hl, hsz, ht⟩
  · exact ⟨none, hv, fun _ _ => trivial, fun _ h => by cases h⟩
  · injection hv with h1 h2 h3
    subst h1
    subst h3
    refine ⟨some (g, n, n), rfl, fun m b => ⟨cur, hg, Nat.le_refl _, by rw [← hs]; exact hsz, hx, fun h => h.elim, fun h => h.elim⟩, fun k hk => ?_⟩
    obtain rfl : g = k := by simpa [bkOf] using hk
    exact ⟨hB, hg.lt, cur, hg⟩
theorem bk_own {lie : Option (Nat × Nat × Nat)} {g : Nat} (h : bkOf lie = some g) : (slOf lie).ownBlock = some g := by
  match lie, h with
  | some (g', _, _), h => simpa [bkOf, slOf, Value.ownBlock] using h
theorem wpList_load_midW {P : Program} {ops : Array Oper} {rest : List Oper} {dst : Option Nat} {ty ty2 : TypeId} {x : Operand} {pos : String} {after : Array Edge} {guard : Option (Nat × Bool)} {a : Act} {w : World} {Q : Exit → Act → World → Prop} (b o : Nat) (cs : List Value) {d : TypeDesc} (hw : Region.wanted { dst := dst, op := .load ty x, type := ty2, pos := pos, after := after, guard := guard } (yielded ops a.tmps) = true)
    (hx : a.eval x = .pointer (some ⟨b, o, none⟩)) (hc : w.rangeAt b o cs)
    (hu : P.underlying ty = some d) (hd : d.isRow = true) (hi : (P.info? ty).map (·.size) = some cs.length)
    (h : wpList P ops Q rest (a.put dst (.agg cs.toArray)) w) : wpList P ops Q ({ dst := dst, op := .load ty x, type := ty2, pos := pos, after := after, guard := guard } :: rest) a w :=
  wpList_step fun K hK => by rw [if_pos hw]; exact wp_load_mid ty x rfl b o hx cs d hc hu hd hi (hK _ _ h)
/-- A twin's bytes, as a page. -/
theorem Tw.page_ {B g n c : Nat} {w : World} {xs ms : List Value} (h : Tw B w 5 1 (.slice (some ⟨g, 0, none⟩) n c) n xs ms) (hc : c ≤ 4611686018427387904) :
    (∀ m b, (⟨0, some (g, n, c), m, b⟩ : Pg).In w False False) ∧ B ≤ g ∧ g < w.heap.size := by
  obtain ⟨A, c', hv, h1, -, h3⟩ := h
  injection hv with q1 q2 q3
  subst q1; subst q3
  rcases h3 with ⟨hv2, _, _⟩ | ⟨g2, c2, cur, hv2, hB, hg, hcc, hl, hs, ht⟩
  · cases hv2
  injection hv2 with q1 q2 q3
  injection q1 with q1
  injection q1 with q1
  subst q1; subst q3
  exact ⟨fun m b => ⟨cur, hg, by omega, by simpa [kK] using hs, hc, fun h => h.elim, fun h => h.elim⟩, hB, hg.lt⟩
/-- The pages of the entries' steps. -/
theorem ents_pages {B : Nat} {w : World} {v : Value} {es : List Ent} (h : EntsO B w v es) (hn : ∀ e ∈ es, e.2.length ≤ 1000000) :
    ∃ (ls : List (Option (Nat × Nat × Nat))) (Ae : Option Addr) (ce ge : Nat) (cur : Array Value), ls.length = es.length ∧ v = .slice Ae es.length ce ∧ (es.length = 0 ∨ (Ae = some ⟨ge, 0, none⟩ ∧ Blk w ge 63 cur ∧ ∀ (i : Nat) (hi : i < ls.length), cur[i * 5 + 4]? = some (slOf ls[i]))) ∧
      (∀ (i : Nat) (hi : i < ls.length) m b, (⟨1, ls[i], m, b⟩ : Pg).In w False False) ∧ (∀ (i : Nat) (hi : i < ls.length) g, bkOf ls[i] = some g → B ≤ g ∧ g < w.heap.size ∧ ∃ cs, Blk w g 104 cs) ∧
      ∀ (i j : Nat) (hi : i < ls.length) (hj : j < ls.length), i ≠ j → ∀ g, bkOf ls[i] = some g → bkOf ls[j] ≠ some g := by
  obtain ⟨ss, h1, h2, h3, h4⟩ := h
  have hp : ∀ (j : Nat) (h : j < es.length), ∃ lie, ss[j]'(by omega) = slOf lie ∧ (∀ m b, (⟨1, lie, m, b⟩ : Pg).In w False False) ∧ ∀ g, bkOf lie = some g → B ≤ g ∧ g < w.heap.size ∧ ∃ cs, Blk w g 104 cs := fun j h => by
    obtain ⟨A, e1, e2⟩ := h3 j h (by omega)
    have hle := hn _ (List.getElem_mem h)
    rw [e1] at e2 ⊢
    exact own_page e2 rfl rfl (by omega)
  obtain ⟨f, hf⟩ : ∃ f : Nat → Option (Nat × Nat × Nat), ∀ (j : Nat) (h : j < es.length), ss[j]'(by omega) = slOf (f j) ∧ (∀ m b, (⟨1, f j, m, b⟩ : Pg).In w False False) ∧ ∀ g, bkOf (f j) = some g → B ≤ g ∧ g < w.heap.size ∧ ∃ cs, Blk w g 104 cs :=
    ⟨fun j => if h : j < es.length then (hp j h).choose else none, fun j h => by simp only [h, dif_pos]; exact (hp j h).choose_spec⟩
  obtain ⟨A, c, hv⟩ := h2.sl_
  have hls : ((List.range es.length).map f).length = es.length := by simp
  have hget : ∀ (i : Nat) (hi : i < ((List.range es.length).map f).length), ((List.range es.length).map f)[i] = f i := fun i hi => by simp
  have hpart : ∀ (i j : Nat) (hi : i < es.length) (hj : j < es.length), i < j → ∀ g, bkOf (f i) = some g → bkOf (f j) ≠ some g := by
    intro i j hi hj hij g h5 h6
    have h7 := List.pairwise_iff_getElem.1 h4 i j (by omega) (by omega) hij g
    rw [(hf i hi).1, (hf j hj).1] at h7
    exact h7 (bk_own h5) (bk_own h6)
  subst hv
  rcases h2 with ⟨hv2, h0, _⟩ | ⟨g, c2, cur, hv2, hB, hg, hcc, hl, hsz, ht⟩
  · refine ⟨(List.range es.length).map f, A, c, 0, #[], hls, rfl, .inl h0, fun i hi m b => ?_, fun i hi g => ?_, fun i j hi hj => ?_⟩ <;> (rw [hls] at hi; omega)
  · injection hv2 with e1 e2 e3
    subst e1
    refine ⟨(List.range es.length).map f, _, c, g, cur, hls, rfl, .inr ⟨rfl, hg, fun i hi => ?_⟩, fun i hi m b => ?_, fun i hi g0 => ?_, fun i j hi hj hij g0 => ?_⟩
    · rw [hget i hi]
      rw [hls] at hi
      have hz : (es.zip ss).length = es.length := by rw [List.length_zip]; omega
      have hcell : w.cell? ⟨g, 0 + i * 5 + 4, none⟩ = some (slOf (f i)) := by
        have hr : Rd w 5 (.slice (some ⟨g, 0, none⟩) es.length c) es.length ((es.zip ss).flatMap ecells) := Ow.rd (.inr ⟨g, c2, cur, by rw [e3], hB, hg, hcc, hl, hsz, ht⟩)
        rw [← hz] at hr
        obtain ⟨g', o', c', hv', -, -, hh⟩ := Rd.at_ ecells_len hr (by omega)
        injection hv' with q1 q2 q3
        injection q1 with q1
        injection q1 with q4 q5
        subst q4; subst q5
        refine hh i (by omega) 4 _ (by omega) ?_
        rw [List.getElem_zip]
        simp only [ecells]
        rw [(hf i hi).1]
        have : (fc entryK (es[i]).1).length = 4 := by simp [fc_len, entryK]
        rw [List.getElem?_append_right (by omega), this]
        rfl
      rw [hg.cell] at hcell
      simpa using hcell
    · rw [hget i hi]
      rw [hls] at hi
      exact (hf i hi).2.1 m b
    · rw [hget i hi]
      rw [hls] at hi
      exact (hf i hi).2.2 g0
    · rw [hget i hi, hget j hj]
      rw [hls] at hi hj
      intro h5 h6
      rcases Nat.lt_or_gt_of_ne hij with h | h
      · exact hpart i j hi hj h g0 h5 h6
      · exact hpart j i hj hi h g0 h6 h5
/-- Two pages that lie apart. -/
def Pg.ap (a b : Pg) : Prop := ∀ g, bkOf a.lie = some g → bkOf b.lie ≠ some g
theorem pg_pairs {P : List Pg} (h : P.Pairwise Pg.ap) : ∀ (i j : Nat) (hi : i < P.length) (hj : j < P.length), i ≠ j → ∀ g, bkOf (P[i]).lie = some g → bkOf (P[j]).lie ≠ some g := by
  intro i j hi hj hij g h1 h2
  rcases Nat.lt_or_gt_of_ne hij with hlt | hlt
  · exact List.pairwise_iff_getElem.1 h i j hi hj hlt g h1 h2
  · exact List.pairwise_iff_getElem.1 h j i hj hi hlt g h2 h1
theorem StPg.mem {ls : List (Option (Nat × Nat × Nat))} {qs : List Pg} (h : StPg ls qs) {p : Pg} (hp : p ∈ qs) : ∃ (i : Nat) (hi : i < ls.length), p = ⟨1, ls[i], p.m, p.b⟩ ∧ p.m.length = 10 ∧ p.b.length = 10 := by
  obtain ⟨i, hi, rfl⟩ := List.mem_iff_getElem.1 hp
  have hil : i < ls.length := by have := h.1; omega
  obtain ⟨h1, h2, h3, h4⟩ := h.2 i hi hil
  exact ⟨i, hil, by rw [← h1, ← h2], h3, h4⟩
theorem StPg.pair {ls : List (Option (Nat × Nat × Nat))} {qs : List Pg} (h : StPg ls qs) (hd : ∀ (i j : Nat) (hi : i < ls.length) (hj : j < ls.length), i ≠ j → ∀ g, bkOf ls[i] = some g → bkOf ls[j] ≠ some g) : qs.Pairwise Pg.ap := by
  refine List.pairwise_iff_getElem.2 fun i j hi hj hij g h1 h2 => ?_
  have hil : i < ls.length := by have := h.1; omega
  have hjl : j < ls.length := by have := h.1; omega
  rw [(h.2 i hi hil).2.1] at h1
  rw [(h.2 j hj hjl).2.1] at h2
  exact hd i j hil hjl (by omega) g h1 h2
/-- Blocks of two types. -/
theorem ap_types {w : World} {e e' : TypeId} {a b : Pg} (hne : e ≠ e') (ha : ∀ g, bkOf a.lie = some g → ∃ cs, Blk w g e cs) (hb : ∀ g, bkOf b.lie = some g → ∃ cs, Blk w g e' cs) : a.ap b := by
  intro g h1 h2
  obtain ⟨c1, k1⟩ := ha g h1
  obtain ⟨c2, k2⟩ := hb g h2
  exact k1.ne_ k2 hne rfl
theorem ap_low {a b : Pg} {N : Nat} (ha : ∀ g, bkOf a.lie = some g → g < N) (hb : ∀ g, bkOf b.lie = some g → N ≤ g) : a.ap b := by
  intro g h1 h2
  have := ha g h1
  have := hb g h2
  omega
theorem slOf_none {lie : Option (Nat × Nat × Nat)} (h : slOf lie = .slice none 0 0) : bkOf lie = none := by
  match lie, h with
  | none, _ => rfl
  | some (g, n, c), h => injection h with h1; cases h1
end Go.Proofs.YthjdkjinkmdclaaGreat

/- LettersGet: the walk. -/
namespace Go.Proofs.YthjdkjinkmdclaaGreat
open Go.RowKit

set_option maxHeartbeats 8000000 in
set_option maxRecDepth 100000 in
theorem lget_walk (v : Value) (xs : List Int) (w : World) (h : Bs w v xs) (hby : ∀ c ∈ xs, byt c) :
    Calls Tryz.prog 4 #[v] w fun e w' => e = .returned (.bool true) ∧ Below w.heap.size w w' := by
  have HY := Lib.hid hby
  have H := Lib.hid h
  obtain ⟨A, c, rfl, -⟩ := id h
  obtain ⟨m, hm⟩ : ∃ m, m = xs.length := ⟨_, rfl⟩
  have M := Lib.hid hm
  rw [← hm] at H ⊢
  clear h hby hm
  by_cases hlong : 5000 < m
  · have hlong' : (5000 : Int) < (m : Int) := by omega
    go_enter Tryz.func4, Tryz.ntmps4
    go_wp2_with fail
    refine (llives w).mono ?_
    rintro e w1 ⟨rfl, b1⟩
    have B1 := Lib.hid b1
    clear b1
    go_wp2
    go_ret
    exact ⟨rfl, B1.out⟩
  have hlong' : ¬ (5000 : Int) < (m : Int) := by omega
  go_enter Tryz.func4, Tryz.ntmps4
  go_wp2_with fail
  refine (Twin_bytec _ xs w H.out (by rw [← M.out]; omega)).mono ?_
  rintro e w1 ⟨gt, rfl, hT, hB⟩
  have HT := Lib.hid hT
  have B1 := Lib.hid hB
  have H1 := Lib.hid (H.out.below hB)
  rw [← M.out] at HT ⊢
  clear hT hB H
  obtain ⟨L, hL⟩ : ∃ L, L = lt0 xs := ⟨_, rfl⟩
  obtain ⟨k, hk⟩ : ∃ k, k = lk xs := ⟨_, rfl⟩
  have HL := Lib.hid hL
  have HK := Lib.hid hk
  have OK := Lib.hid (show ∀ p, okPc L p from by rw [hL]; exact lt0_ok HY.out)
  clear hL hk
  have hmt : (m : Int) ≤ (m : Int) + 2 := by omega
  go_upto_region 4 with fail
  go_cut [4, 5] (fun s4 s5 wx => ∃ q Ae ne Ad nd As ns Ag ng, s4 = .pointer (some ⟨q, 0, none⟩) ∧ s5 = .int .i64 k ∧ Blk wx q 36 (letC L (.slice Ae ne ne) (.slice Ad nd nd) (.slice As ns ns) (.slice Ag ng ng)) ∧ Lv w1.heap.size wx L (.slice Ae ne ne) (.slice Ad nd nd) (.slice As ns ns) (.slice Ag ng ng) ∧ (L.es = [] ∨ Value.slice As ns ns = .slice none 0 0) ∧ Below w1.heap.size w1 wx)
  case first =>
    as_aux_lemma =>
      have CG := Lib.hid (get_uni (v := .slice (some ⟨gt, 0, none⟩) m (m + 2)) (w := w1) (show Bs w1 _ xs from by have := HT.out.rd; rw [M.out] at this ⊢; exact this) HY.out (by rw [← M.out]; omega))
      rw [← HL.out, ← HK.out] at CG
      go_wp2_with fail
      refine CG.out.mono ?_
      rintro e w2 ⟨⟨ve, vd, vs, vg, rfl, hv, htwo⟩, hb⟩
      obtain ⟨Ae, ne, Ad, nd, As, ns, Ag, ng, rfl, rfl, rfl, rfl⟩ := hv.sl
      have b3 := below_alloc_ w2 (.cells (letC L (.slice Ae ne ne) (.slice Ad nd nd) (.slice As ns ns) (.slice Ag ng ng)) 36)
      have B3 := Lib.hid (hb.trans (b3.mono hb.size))
      have LW := Lib.hid (hv.below b3)
      have TW := Lib.hid htwo
      have K3 := Lib.hid (Blk.new w2 36 (letC L (.slice Ae ne ne) (.slice Ad nd nd) (.slice As ns ns) (.slice Ag ng ng)))
      simp only [letC] at B3 LW K3 ⊢
      clear hv hb b3 htwo CG
      go_wp2
      go_meet
      exact ⟨_, _, _, _, _, _, _, _, _, rfl, rfl, K3.out, LW.out, TW.out, B3.out⟩
  case rest =>
  obtain ⟨q, Ae, ne, Ad, nd, As, ns, Ag, ng, rfl, rfl, kq, lv, two, b2⟩ := hcut
  have KQ := Lib.hid kq
  have LV := Lib.hid lv
  have TWO := Lib.hid two
  have B2 := Lib.hid (B1.out.trans (b2.mono B1.out.size))
  have H2 := Lib.hid (H1.out.below b2)
  have T2 := Lib.hid (HT.out.below_ b2)
  obtain ⟨-, tg1, tg2⟩ := HT.out.page_ (by omega)
  have TG := Lib.hid (And.intro tg1 tg2)
  have H1S := Lib.hid B1.out.size
  clear kq lv two b2 H1 HT tg1 tg2 B1
  go_upto_region 5 with fail
  go_cut [6, 7] (fun s6 s7 wx => ∃ q2 Be be de Bd bd dd Bt bt dt Bg bg dg, s6 = .pointer (some ⟨q2, 0, none⟩) ∧ s7 = .int .i64 k ∧ Blk wx q2 44 (letO L (.slice Be be de) (.slice Bd bd dd) (.slice Bt bt dt) (.slice Bg bg dg)) ∧ LoO wx L.es L.data L.steps L.gots (.slice Be be de) (.slice Bd bd dd) (.slice Bt bt dt) (.slice Bg bg dg) ∧ Below wc.heap.size wc wx)
  case first =>
    as_aux_lemma =>
      have CG := Lib.hid (rget_uni H2.out HY.out (by rw [← M.out]; omega))
      rw [← HL.out, ← HK.out] at CG
      go_wp2_with fail
      refine CG.out.mono ?_
      rintro e w3 ⟨⟨ve, vd, vs, vg, rfl, hv⟩, hb⟩
      obtain ⟨⟨Be, be, de, rfl⟩, ⟨Bd, bd, dd, rfl⟩, ⟨Bt, bt, dt, rfl⟩, ⟨Bg, bg, dg, rfl⟩⟩ := hv.sl
      have b3 := below_alloc_ w3 (.cells (letO L (.slice Be be de) (.slice Bd bd dd) (.slice Bt bt dt) (.slice Bg bg dg)) 44)
      have B3 := Lib.hid (hb.trans (b3.mono hb.size))
      have LW := Lib.hid (hv.below b3)
      have K3 := Lib.hid (Blk.new w3 44 (letO L (.slice Be be de) (.slice Bd bd dd) (.slice Bt bt dt) (.slice Bg bg dg)))
      simp only [letO] at B3 LW K3 ⊢
      clear hv hb b3 CG
      go_wp2
      go_meet
      exact ⟨_, _, _, _, _, _, _, _, _, _, _, _, _, rfl, rfl, K3.out, LW.out, B3.out⟩
  case rest =>
  obtain ⟨q2, Be, be, de, Bd, bd, dd, Bt, bt, dt, Bg, bg, dg, rfl, rfl, kq2, lo, b3⟩ := hcut
  have KO := Lib.hid kq2
  have LO := Lib.hid lo
  have KQ3 := Lib.hid (KQ.out.below b3 KQ.out.lt)
  have LV3 := Lib.hid (LV.out.below b3)
  have B3 := Lib.hid (B2.out.trans (b3.mono B2.out.size))
  have H3 := Lib.hid (H2.out.below b3)
  have T3 := Lib.hid (T2.out.below_ b3)
  clear kq2 lo b3 KQ LV B2 H2 T2
  go_upto_region 6 with fail
  go_cut [39] (fun s39 wx => s39 = .bool false ∧ Below wc.heap.size wc wx)
  case first =>
    as_aux_lemma =>
      have hk1 : (k != k) = false := by simp
      have R3 := Lib.hid (Blk.range_ (cs := [.int .u8 L.kind, .int .u8 L.src, .int .u8 L.dst, .int .u64 L.term, .int .u64 L.index, .int .u64 L.mark, .int .u64 L.commit, .bool L.yes, .slice Ae ne ne, .slice Ad nd nd, .int .u8 L.cl, .int .u64 L.num, .slice As ns ns, .int .i64 L.e, .int .i64 L.re, .int .i64 L.ra, .slice Ag ng ng]) KQ3.out)
      have R1 := Lib.hid (Blk.range_ (cs := [.int .i64 L.kind, .int .u8 L.src, .int .u8 L.dst, .int .u64 L.term, .int .u64 L.index, .int .u64 L.mark, .int .u64 L.commit, .bool L.yes, .slice Be be de, .slice Bd bd dd, .int .u8 L.cl, .int .u64 L.num, .slice Bt bt dt, .int .i64 L.e, .int .i64 L.re, .int .i64 L.ra, .slice Bg bg dg]) KO.out)
      have CS := Lib.hid (same_any (LV3.out.lw OK.out) LO.out)
      have CL := Lib.hid (fun u (hu : Below wc.heap.size wc u) => Left_byte w.heap.size (.slice (some ⟨gt, 0, none⟩) m (m + 2)) _ xs u (by have := T3.out.below_ hu; rw [M.out] at this ⊢; exact this) (H3.out.below hu) (by rw [← M.out]; omega))
      go_wp2_with (first
        | ((with_reducible show wpList _ _ _ ({ dst := some 29, op := _, type := _, pos := _, after := _, guard := _ } :: _) _ _); go_must (refine wpList_load_midW (x := .tmp 4) q 0 [.int .u8 L.kind, .int .u8 L.src, .int .u8 L.dst, .int .u64 L.term, .int .u64 L.index, .int .u64 L.mark, .int .u64 L.commit, .bool L.yes, .slice Ae ne ne, .slice Ad nd nd, .int .u8 L.cl, .int .u64 L.num, .slice As ns ns, .int .i64 L.e, .int .i64 L.re, .int .i64 L.ra, .slice Ag ng ng] ?_ ?_ R3.out Tryz.underlying36 ?_ ?_ ?_; go_simp; exact rfl; exact rfl; exact let_size_))
        | ((with_reducible show wpList _ _ _ ({ dst := some 30, op := _, type := _, pos := _, after := _, guard := _ } :: _) _ _); go_must (refine wpList_load_midW (x := .tmp 6) q2 0 [.int .i64 L.kind, .int .u8 L.src, .int .u8 L.dst, .int .u64 L.term, .int .u64 L.index, .int .u64 L.mark, .int .u64 L.commit, .bool L.yes, .slice Be be de, .slice Bd bd dd, .int .u8 L.cl, .int .u64 L.num, .slice Bt bt dt, .int .i64 L.e, .int .i64 L.re, .int .i64 L.ra, .slice Bg bg dg] ?_ ?_ R1.out Tryz.underlying44 ?_ ?_ ?_; go_simp; exact rfl; exact rfl; exact other_size)))
      refine CS.out.mono ?_
      rintro e w12 ⟨rfl, b12⟩
      have CC := Lib.hid (CL.out _ b12)
      have B12 := Lib.hid b12
      clear b12 R1 R3 CL CS
      go_wp2_with fail
      refine CC.out.mono ?_
      rintro e w13 ⟨rfl, b13⟩
      have B13 := Lib.hid (B12.out.trans (b13.mono B12.out.size))
      clear b13
      go_wp2
      go_meet
      exact ⟨rfl, B13.out⟩
  case rest =>
  obtain ⟨rfl, b9⟩ := hcut
  have LWW := LV3.out.lw OK.out
  obtain ⟨pt, -, -⟩ := T3.out.page_ (by omega)
  have hd1 := LV3.out.data.1
  unfold Bo at hd1
  have hdl : L.data.length = nd := by obtain ⟨A', c', hv⟩ := hd1.sl_; injection hv with _ h _; exact h.symm
  rw [hdl] at hd1
  obtain ⟨lied, hld, pd, gd⟩ := own_page (kd := 0) hd1 rfl rfl (by have := LWW.d6; omega)
  obtain ⟨ls, Ae', ce, ge, cur, hls, hve, hcur, pe, gge, pge⟩ := ents_pages LV3.out.es.1 (fun e he => LWW.s6 e he)
  injection hve with q1 q2 q3
  subst q1
  obtain ⟨At, hst, hso⟩ := LV3.out.steps
  injection hst with q4 q5 q6
  rw [← q5] at hso
  obtain ⟨lies, hlst, ps, gs⟩ := own_page (kd := 1) hso rfl rfl (by have := LWW.t6; omega)
  obtain ⟨Au, hgt, hgo⟩ := LV3.out.gots
  injection hgt with q7 q8 q9
  rw [← q8] at hgo
  obtain ⟨lieg, hlg, pg, gg⟩ := own_page (kd := 2) hgo rfl rfl (by have := LWW.g6; omega)
  have he8 := (OK.out .entries).1
  have bw4 := B3.out.trans (b9.mono B3.out.size)
  have M0 := Lib.hid (Bks.new_ bw4 bw4.size)
  have KA := Lib.hid ((KQ3.out.below b9 KQ3.out.lt).alloc (.cells #[.slice none 0 0] 50))
  have ka : ∀ g t cs, t ≠ 50 → t ≠ 81 → Blk wc g t cs → Blk (wc.alloc (.cells #[.slice none 0 0] 50)) g t cs := fun _ _ _ _ _ hk => hk.alloc _
  have PT := Lib.hid (fun m b => ((pt m b).bel b9).keep ka)
  have PD := Lib.hid (fun m b => ((pd m b).bel b9).keep ka)
  have PE := Lib.hid (fun (i : Nat) (hi : i < ls.length) m b => ((pe i hi m b).bel b9).keep ka)
  have PS := Lib.hid (fun m b => ((ps m b).bel b9).keep ka)
  have PG := Lib.hid (fun m b => ((pg m b).bel b9).keep ka)
  have CE := Lib.hid (show ne = 0 ∨ (Ae = some ⟨ge, 0, none⟩ ∧ Blk (wc.alloc (.cells #[.slice none 0 0] 50)) ge 63 cur ∧ ∀ (i : Nat) (hi : i < ls.length), cur[i * 5 + 4]? = some (slOf ls[i])) from by
    rcases hcur with h | ⟨h1, h2, h3⟩
    · exact .inl (q2.trans h)
    · exact .inr ⟨h1, (h2.below b9 h2.lt).alloc _, h3⟩)
  have HLS := Lib.hid (show ls.length = ne from hls.trans q2.symm)
  have HE8 := Lib.hid (show ne ≤ 8 from by omega)
  have HLD := Lib.hid hld
  have HLT := Lib.hid hlst
  have HLG := Lib.hid hlg
  -- who lies where
  have AP := Lib.hid (show ∀ (m1 b1 m2 b2 m4 b4 m5 b5 : List Int) (qs : List Pg), StPg ls qs → ((⟨0, some (gt, m, m + 2), m1, b1⟩ : Pg) :: ⟨0, lied, m2, b2⟩ :: (qs ++ [⟨1, lies, m4, b4⟩, ⟨2, lieg, m5, b5⟩])).Pairwise Pg.ap from by
    intro m1 b1 m2 b2 m4 b4 m5 b5 qs hq
    have hlow : ∀ g, bkOf (some (gt, m, m + 2)) = some g → g < w1.heap.size := fun g hg => by
      have : gt = g := Option.some.inj hg
      have := TG.out.2
      omega
    have hqb : ∀ p ∈ qs, ∀ g, bkOf p.lie = some g → w1.heap.size ≤ g ∧ ∃ cs, Blk _ g 104 cs := fun p hp g hg => by
      obtain ⟨i, hi, he, -, -⟩ := hq.mem hp
      rw [he] at hg
      exact ⟨(gge i hi g hg).1, (gge i hi g hg).2.2⟩
    refine List.pairwise_cons.2 ⟨?_, List.pairwise_cons.2 ⟨?_, List.pairwise_append.2 ⟨hq.pair pge, ?_, ?_⟩⟩⟩
    · intro b hb
      refine ap_low hlow ?_
      simp only [List.mem_cons, List.mem_append, List.not_mem_nil, or_false] at hb
      rcases hb with rfl | hb | rfl | rfl
      · exact fun g hg => (gd g hg).1
      · exact fun g hg => (hqb b hb g hg).1
      · exact fun g hg => (gs g hg).1
      · exact fun g hg => (gg g hg).1
    · intro b hb
      simp only [List.mem_cons, List.mem_append, List.not_mem_nil, or_false] at hb
      rcases hb with hb | rfl | rfl
      · exact ap_types (e := 5) (e' := 104) (by decide) (fun g hg => (gd g hg).2.2) (fun g hg => (hqb b hb g hg).2)
      · exact ap_types (e := 5) (e' := 104) (by decide) (fun g hg => (gd g hg).2.2) (fun g hg => (gs g hg).2.2)
      · exact ap_types (e := 5) (e' := 108) (by decide) (fun g hg => (gd g hg).2.2) (fun g hg => (gg g hg).2.2)
    · refine List.pairwise_cons.2 ⟨?_, List.pairwise_singleton _ _⟩
      intro b hb
      simp only [List.mem_cons, List.not_mem_nil, or_false] at hb
      subst hb
      exact ap_types (e := 104) (e' := 108) (by decide) (fun g hg => (gs g hg).2.2) (fun g hg => (gg g hg).2.2)
    · intro a ha b hb
      simp only [List.mem_cons, List.not_mem_nil, or_false] at hb
      rcases hb with rfl | rfl
      · rcases TWO.out with h0 | h0
        · have : qs = [] := List.eq_nil_of_length_eq_zero (by rw [hq.1, hls, h0]; rfl)
          subst this
          cases ha
        · intro g h1 h2
          rw [slOf_none (hlst.symm.trans h0)] at h2
          cases h2
      · exact ap_types (e := 104) (e' := 108) (by decide) (fun g hg => (hqb a ha g hg).2) (fun g hg => (gg g hg).2.2))
  have GE := Lib.hid (show ∀ (m1 b1 m2 b2 m4 b4 m5 b5 : List Int) (qs : List Pg), StPg ls qs → ∀ p ∈ ((⟨0, some (gt, m, m + 2), m1, b1⟩ : Pg) :: ⟨0, lied, m2, b2⟩ :: (qs ++ [⟨1, lies, m4, b4⟩, ⟨2, lieg, m5, b5⟩])), ∀ g, bkOf p.lie = some g → w.heap.size ≤ g from by
    intro m1 b1 m2 b2 m4 b4 m5 b5 qs hq p hp g hg
    have h1 := H1S.out
    simp only [List.mem_cons, List.mem_append, List.not_mem_nil, or_false] at hp
    rcases hp with rfl | rfl | hp | rfl | rfl
    · have h2 : gt = g := Option.some.inj hg
      have := TG.out.1
      omega
    · have := (gd g hg).1; omega
    · obtain ⟨i, hi, he, -, -⟩ := hq.mem hp
      rw [he] at hg
      have := (gge i hi g hg).1; omega
    · have := (gs g hg).1; omega
    · have := (gg g hg).1; omega)
  clear b9 bw4 LWW pt hd1 hdl hld pd gd hls hcur pe gge pge hso hlst ps gs hgo hlg pg gg he8 ka q2 q3 q4 q5 q6 q7 q8 q9 KQ3 LV3 B3 H3 T3 KO LO TWO
  have c9 := KA.out.cell 9
  simp only [letC, List.getElem?_toArray, List.getElem?_cons_zero, List.getElem?_cons_succ] at c9
  go_wp2_with fail
  rw [show Value.slice (some ⟨gt, 0, none⟩) m (m + 2) = slOf (some (gt, m, m + 2)) from rfl]
  refine (add_byte [] _ _ _ _ _ M0.out (by simp) (some (gt, m, m + 2))).mono ?_
  rintro e w15 ⟨rfl, pv1, m1, b1, em1, eb1, hM1, hk1⟩
  have M1 := Lib.hid hM1
  have KA1 := Lib.hid (hk1 _ _ _ (by decide) (by decide) KA.out)
  have PT1 := Lib.hid ((PT.out m1 b1).keep hk1)
  have PD1 := Lib.hid (fun m b => (PD.out m b).keep hk1)
  have PE1 := Lib.hid (fun (i : Nat) (hi : i < ls.length) m b => (PE.out i hi m b).keep hk1)
  have PS1 := Lib.hid (fun m b => (PS.out m b).keep hk1)
  have PG1 := Lib.hid (fun m b => (PG.out m b).keep hk1)
  have CE1 := Lib.hid (show ne = 0 ∨ (Ae = some ⟨ge, 0, none⟩ ∧ Blk w15 ge 63 cur ∧ ∀ (i : Nat) (hi : i < ls.length), cur[i * 5 + 4]? = some (slOf ls[i])) from CE.out.imp_right fun h => ⟨h.1, hk1 _ _ _ (by decide) (by decide) h.2.1, h.2.2⟩)
  clear hM1 hk1 KA PT PD PE PS PG CE M0 c9
  have c9 := KA1.out.cell 9
  simp only [letC, List.getElem?_toArray, List.getElem?_cons_zero, List.getElem?_cons_succ] at c9
  go_wp2_with fail
  rw [HLD.out]
  refine (add_byte _ _ _ _ _ _ M1.out (by simp) lied).mono ?_
  rintro e w16 ⟨rfl, pv2, m2, b2, em2, eb2, hM2, hk2⟩
  have M2 := Lib.hid (show Bks [⟨0, some (gt, m, m + 2), m1, b1⟩, ⟨0, lied, m2, b2⟩] _ _ _ _ _ from hM2)
  have KA2 := Lib.hid (hk2 _ _ _ (by decide) (by decide) KA1.out)
  have PT2 := Lib.hid (PT1.out.keep hk2)
  have PD2 := Lib.hid ((PD1.out m2 b2).keep hk2)
  have PE2 := Lib.hid (fun (i : Nat) (hi : i < ls.length) m b => (PE1.out i hi m b).keep hk2)
  have PS2 := Lib.hid (fun m b => (PS1.out m b).keep hk2)
  have PG2 := Lib.hid (fun m b => (PG1.out m b).keep hk2)
  have CE2 := Lib.hid (show ne = 0 ∨ (Ae = some ⟨ge, 0, none⟩ ∧ Blk w16 ge 63 cur ∧ ∀ (i : Nat) (hi : i < ls.length), cur[i * 5 + 4]? = some (slOf ls[i])) from CE1.out.imp_right fun h => ⟨h.1, hk2 _ _ _ (by decide) (by decide) h.2.1, h.2.2⟩)
  clear hM2 hk2 KA1 PT1 PD1 PE1 PS1 PG1 CE1 M1 c9
  have c8 := KA2.out.cell 8
  simp only [letC, List.getElem?_toArray, List.getElem?_cons_zero, List.getElem?_cons_succ] at c8
  go_wp2_with fail
  refine (add_ents _ _ _ _ _ _ M2.out ne (by have := HE8.out; simp; omega) ls HLS.out ge ne Ae cur CE2.out).mono ?_
  rintro e w17 ⟨rfl, pv3, qs, hst, hM3, hk3⟩
  have ST := Lib.hid hst
  have M3 := Lib.hid hM3
  have KA3 := Lib.hid (hk3 _ _ _ (by decide) (by decide) KA2.out)
  have PT3 := Lib.hid (PT2.out.keep hk3)
  have PD3 := Lib.hid (PD2.out.keep hk3)
  have PE3 := Lib.hid (fun (i : Nat) (hi : i < ls.length) m b => (PE2.out i hi m b).keep hk3)
  have PS3 := Lib.hid (fun m b => (PS2.out m b).keep hk3)
  have PG3 := Lib.hid (fun m b => (PG2.out m b).keep hk3)
  have QL := Lib.hid (show qs.length ≤ 8 from by rw [hst.1, HLS.out]; exact HE8.out)
  clear hst hM3 hk3 KA2 PT2 PD2 PE2 PS2 PG2 CE2 M2 c8
  have c12 := KA3.out.cell 12
  simp only [letC, List.getElem?_toArray, List.getElem?_cons_zero, List.getElem?_cons_succ] at c12
  go_wp2_with fail
  rw [HLT.out]
  refine (add_step _ _ _ _ _ _ M3.out (by have := QL.out; simp; omega) lies).mono ?_
  rintro e w18 ⟨rfl, pv4, m4, b4, em4, eb4, hM4, hk4⟩
  have M4 := Lib.hid hM4
  have KA4 := Lib.hid (hk4 _ _ _ (by decide) (by decide) KA3.out)
  have PT4 := Lib.hid (PT3.out.keep hk4)
  have PD4 := Lib.hid (PD3.out.keep hk4)
  have PE4 := Lib.hid (fun (i : Nat) (hi : i < ls.length) m b => (PE3.out i hi m b).keep hk4)
  have PS4 := Lib.hid ((PS3.out m4 b4).keep hk4)
  have PG4 := Lib.hid (fun m b => (PG3.out m b).keep hk4)
  clear hM4 hk4 KA3 PT3 PD3 PE3 PS3 PG3 M3 c12
  have c16 := KA4.out.cell 16
  simp only [letC, List.getElem?_toArray, List.getElem?_cons_zero, List.getElem?_cons_succ] at c16
  go_wp2_with fail
  rw [HLG.out]
  refine (add_got _ _ _ _ _ _ M4.out (by have := QL.out; simp; omega) lieg).mono ?_
  rintro e w19 ⟨rfl, pv5, m5, b5, em5, eb5, hM5, hk5⟩
  have M5 := Lib.hid (show Bks ((⟨0, some (gt, m, m + 2), m1, b1⟩ : Pg) :: ⟨0, lied, m2, b2⟩ :: (qs ++ [⟨1, lies, m4, b4⟩, ⟨2, lieg, m5, b5⟩])) _ _ _ _ _ from by simpa using hM5)
  have PT5 := Lib.hid (PT4.out.keep hk5)
  have PD5 := Lib.hid (PD4.out.keep hk5)
  have PE5 := Lib.hid (fun (i : Nat) (hi : i < ls.length) m b => (PE4.out i hi m b).keep hk5)
  have PS5 := Lib.hid (PS4.out.keep hk5)
  have PG5 := Lib.hid ((PG4.out m5 b5).keep hk5)
  clear hM5 hk5 KA4 PT4 PD4 PE4 PS4 PG4 M4 c16
  go_wp2_with fail
  refine (apart_any ((⟨0, some (gt, m, m + 2), m1, b1⟩ : Pg) :: ⟨0, lied, m2, b2⟩ :: (qs ++ [⟨1, lies, m4, b4⟩, ⟨2, lieg, m5, b5⟩])) (by
      intro p hp
      simp only [List.mem_cons, List.mem_append, List.not_mem_nil, or_false] at hp
      rcases hp with rfl | rfl | hp | rfl | rfl
      · exact ⟨(show (0 : Nat) < 3 by decide), em1, eb1⟩
      · exact ⟨(show (0 : Nat) < 3 by decide), em2, eb2⟩
      · obtain ⟨i, hi, he, h1, h2⟩ := ST.out.mem hp
        rw [he]
        exact ⟨(show (1 : Nat) < 3 by decide), h1, h2⟩
      · exact ⟨(show (1 : Nat) < 3 by decide), em4, eb4⟩
      · exact ⟨(show (2 : Nat) < 3 by decide), em5, eb5⟩) (pg_pairs (AP.out m1 b1 m2 b2 m4 b4 m5 b5 qs ST.out)) (by have := QL.out; simp; omega) _ _ w.heap.size _ (GE.out m1 b1 m2 b2 m4 b4 m5 b5 qs ST.out) M5.out.bk (M5.out.ow.le (Nat.zero_le _)) (by
      intro p hp
      simp only [List.mem_cons, List.mem_append, List.not_mem_nil, or_false] at hp
      rcases hp with rfl | rfl | hp | rfl | rfl
      · exact PT5.out
      · exact PD5.out
      · obtain ⟨i, hi, he, h1, h2⟩ := ST.out.mem hp
        rw [he]
        exact PE5.out i hi _ _
      · exact PS5.out
      · exact PG5.out) M5.out.le).mono ?_
  rintro e w20 ⟨rfl, hb⟩
  have B18 := Lib.hid (M5.out.bel.trans hb)
  clear hb M5 PT5 PD5 PE5 PS5 PG5
  go_wp2_with fail
  refine (llives _).mono ?_
  rintro e w21 ⟨rfl, hb⟩
  have B19 := Lib.hid (B18.out.trans (hb.mono B18.out.size))
  clear hb
  go_wp2
  go_ret
  exact ⟨rfl, B19.out⟩
end Go.Proofs.YthjdkjinkmdclaaGreat

/- How arguments that are structs, and slices of structs, read. -/
namespace Go.Proofs.YthjdkjinkmdclaaGreat
open Go.ChangeShapes Go.WideShapes Go.ChangeAt Go.RowKit

section
variable {H : Type} {enc : TypeId × Value → H} {P : Program} {w : World} {base : Nat} {spare : Nat → Bool} {held : Bool}
/-- Each field of a struct reads. -/
theorem open_fields {t : TypeId} {fs : Array Field} {fuel : Nat} {cs : List Value} {x : DataW H × List MemPlace} (ht : P.underlying t = some (.struct fs))
    (h : DataW.trod enc P w base spare held fuel t cs = some x) :
    cs.length = P.cellsOf t ∧ ∀ (i : Nat) (f : Field), fs[i]? = some f → ∃ n y, DataW.trod enc P w base spare held n f.type ((cs.drop f.offset).take (P.cellsOf f.type)) = some y := by
  obtain ⟨xs, n, _, _, hl, hx, hh⟩ := DataW.trod_struct ht h
  refine ⟨hl, fun i f hf => ?_⟩
  have hi : i < fs.size := by
    rcases Nat.lt_or_ge i fs.size with h | h
    · exact h
    · rw [Array.getElem?_eq_none h] at hf; cases hf
  exact ⟨n, xs[i], (hh i f hf).trans (List.getElem?_eq_getElem (by omega))⟩
theorem len1 {α : Type} : ∀ {l : List α}, l.length = 1 → ∃ a, l = [a]
  | [a], _ => ⟨a, rfl⟩
theorem len2 {α : Type} : ∀ {l : List α}, l.length = 2 → ∃ a b, l = [a, b]
  | [a, b], _ => ⟨a, b, rfl⟩
theorem len3 {α : Type} : ∀ {l : List α}, l.length = 3 → ∃ a b c, l = [a, b, c]
  | [a, b, c], _ => ⟨a, b, c, rfl⟩
theorem len4 {α : Type} : ∀ {l : List α}, l.length = 4 → ∃ a b c d, l = [a, b, c, d]
  | [a, b, c, d], _ => ⟨a, b, c, d, rfl⟩
theorem len5 {α : Type} : ∀ {l : List α}, l.length = 5 → ∃ a b c d e, l = [a, b, c, d, e]
  | [a, b, c, d, e], _ => ⟨a, b, c, d, e, rfl⟩
theorem len6 {α : Type} : ∀ {l : List α}, l.length = 6 → ∃ a b c d e f, l = [a, b, c, d, e, f]
  | [a, b, c, d, e, f], _ => ⟨a, b, c, d, e, f, rfl⟩
theorem arr_of {α : Type} {cs : Array α} {l : List α} (h : cs.toList = l) : cs = l.toArray := by rw [← h]
end
end Go.Proofs.YthjdkjinkmdclaaGreat

/- How arguments that are slices of numbers read. -/
namespace Go.Proofs.YthjdkjinkmdclaaGreat
open Go.ChangeShapes Go.WideShapes Go.ChangeAt Go.RowKit Go.ChangeShapes

section
variable {H : Type} {enc : TypeId × Value → H} {P : Program} {w : World} {base : Nat} {spare : Nat → Bool} {held : Bool}
theorem open_rd {t e : TypeId} {k : IntKind} {fuel : Nat} {cs : List Value} {x : DataW H × List MemPlace} (ht : P.underlying t = some (.slice e)) (he : P.underlying e = some (.int k)) (hc : P.cellsOf e = 1)
    (h : DataW.trod enc P w base spare held fuel t cs = some x) :
    ∃ (A : Option Addr) (n c : Nat) (zs : List Int), cs = [.slice A n c] ∧ zs.length = n ∧ n ≤ c ∧ c ≤ maxLen ∧ Rd w 1 (.slice A n c) n (zs.map (Value.int k)) ∧ (∀ z ∈ zs, (Lit.int k z).wf = true) ∧ (n = 0 ∨ ∀ g, (Value.slice A n c).ownBlock = some g → base ≤ g) := by
  rcases open_ints ht he hc h with ⟨rfl, _⟩ | ⟨a, len, cap, zs, rfl, hb, hl, hm, hz, _, hcell, hwf⟩
  · exact ⟨none, 0, 0, [], rfl, rfl, Nat.le_refl _, Nat.zero_le _, ⟨none, 0, rfl, Nat.le_refl _, rfl, .inl rfl⟩, by simp, .inl rfl⟩
  · have hzl : len ≤ zs.length := by rw [hz]; split <;> omega
    have hlt : (zs.take len).length = len := by simp; omega
    refine ⟨some a, len, cap, zs.take len, rfl, hlt, hl, hm, ⟨_, _, rfl, hl, by simp; omega, ?_⟩, fun z hz => hwf z (List.mem_of_mem_take hz), .inr fun g hg => by simp [Value.ownBlock] at hg; omega⟩
    rcases Nat.eq_zero_or_pos len with h0 | h0
    · exact .inl h0
    · obtain ⟨b, o, spot⟩ := a
      have hspot : spot = none := by
        have := hcell 0 (by omega)
        simpa [Addr.add] using World.cell?_spot this
      subst hspot
      have h1 := hcell 0 (by omega)
      refine .inr ⟨b, o, rfl, block_lt_of_cell (by simpa [Addr.add] using h1), fun j u hu => ?_⟩
      have hj : j < len := by
        rcases Nat.lt_or_ge j len with h | h
        · exact h
        · rw [List.getElem?_eq_none (by simp; omega)] at hu; cases hu
      have h2 := hcell j (by omega)
      rw [Addr.add_lit] at h2
      rw [h2, ← hu]
      simp [hj, List.getD, List.getElem?_eq_getElem (show j < zs.length by omega)]
theorem okWide_array {r : Reach} {b0 : Nat} {t e : TypeId} {n : Nat} {v : Value} (ht : P.underlying t = some (.array n e)) (h : Value.okWide P w r b0 t v) : ∃ cs, v = .agg cs ∧ cs.size = P.cellsOf t := by
  unfold Value.okWide at h
  rw [ht] at h
  cases v <;> simp_all
/-- An array of numbers. -/
theorem open_arr {t e : TypeId} {n : Nat} {k : IntKind} {fuel : Nat} {cs : List Value} {x : DataW H × List MemPlace} (ht : P.underlying t = some (.array n e)) (he : P.underlying e = some (.int k)) (hc : P.cellsOf e = 1) (hC : P.cellsOf t = n)
    (h : DataW.trod enc P w base spare held fuel t cs = some x) : ∃ zs : List Int, cs = zs.map (Value.int k) ∧ zs.length = P.cellsOf t ∧ ∀ z ∈ zs, (Lit.int k z).wf = true := by
  obtain ⟨xs, m, _, _, hl, hx, hh⟩ := DataW.trod_array ht h
  have each : ∀ i (hi : i < cs.length), ∃ z, cs[i] = Value.int k z ∧ (Lit.int k z).wf = true := by
    intro i hi
    have h1 := hh i (by omega)
    rw [hc, Nat.mul_one] at h1
    have h2 : (cs.drop i).take 1 = [cs[i]] := by rw [List.drop_eq_getElem_cons hi]; rfl
    rw [h2, List.getElem?_eq_getElem (by omega)] at h1
    obtain ⟨z, e1, _, e2⟩ := DataW.trod_int he h1
    exact ⟨z, by simpa using e1, e2⟩
  refine ⟨cs.map fun v => match v with | .int _ z => z | _ => 0, ?_, by simp [hl], fun z hz => ?_⟩
  · apply List.ext_getElem (by simp)
    intro i h1 h2
    obtain ⟨z, e1, _⟩ := each i h1
    simp [e1]
  · obtain ⟨v, hv, rfl⟩ := List.mem_map.1 hz
    obtain ⟨i, hi, rfl⟩ := List.getElem_of_mem hv
    obtain ⟨z, e1, e2⟩ := each i hi
    rw [e1]; exact e2
theorem wf_byt {z : Int} (h : (Lit.int .u8 z).wf = true) : byt z := by
  simp [Lit.wf, IntKind.min, IntKind.max, IntKind.signed, IntKind.bits] at h
  exact ⟨by omega, by omega⟩
theorem wf_i64 {z : Int} (h : (Lit.int .i64 z).wf = true) : -9223372036854775808 ≤ z ∧ z ≤ 9223372036854775807 := by
  simp [Lit.wf, IntKind.min, IntKind.max, IntKind.signed, IntKind.bits] at h
  omega
end
end Go.Proofs.YthjdkjinkmdclaaGreat
