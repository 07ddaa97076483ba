import Derived.Test.YthjdkjinkmdclaaGreatPkg
import Derived.Test.YthjdkjinkmdclaaGreatSml
import Derived.Laws.StructEq
import Derived.Test.YthjdkjinkmdclaaGreatMem
import Derived.Test.YthjdkjinkmdclaaGreatMemB
import Derived.Test.YthjdkjinkmdclaaGreatSms
import Derived.Test.YthjdkjinkmdclaaGreatRow
import Derived.Test.YthjdkjinkmdclaaGreatAll
/- law01: whether two lists are the same (api.Got). -/
namespace Go.Proofs.YthjdkjinkmdclaaGreat
open Go.RowKit

theorem run_neq_got (x0 x1 y0 y1 : Int) (w : World) : (binOp .neq 108 (.agg #[.int .i64 x0, .int .i64 x1]) (.agg #[.int .i64 y0, .int .i64 y1])).run Tryz.prog w = .ok (.bool (!decide ([x0, x1] = [y0, y1]))) w := by
  have u0 := Tryz.underlying2
  have a0 := Tryz.isAgg2
  have s0 := Tryz.sizeOf2
  have hS : Tryz.prog.underlying 108 = some (.struct (Tryz.prog.fieldsOf 108)) := by kernel_rfl
  have hp : Tryz.prog.stoodInHeld 108 = false := by kernel_rfl
  rw [run_neq_struct, show (10000 : Nat) = 9999 + 1 from rfl, run_equalIn_agg w 9999 108 _ _ hS hp]
  simp only [Program.fieldsOf, Tryz.underlying108]
  go_simp
  by_cases h0 : x0 = y0
  rotate_left
  · simp [h0]
  subst h0
  by_cases h1 : x1 = y1 <;> simp [h1]

theorem same_gots (xs ys : List (List Int)) (hx0 : ∀ q ∈ xs, q.length = 2) (hy0 : ∀ q ∈ ys, q.length = 2) (v u : Value) (w : World) (hv : Gots w v xs) (hu : Gots w u ys) (hb : xs.length ≤ 4611686018427387904) :
    Calls Tryz.prog 55 #[v, u] w fun e w' => e = .returned (.bool (decide (xs = ys))) ∧ ∃ m, w' = w.drewN m := by
  by_cases hl : xs.length = ys.length
  · by_cases h0 : xs = []
    · subst h0
      have hy : ys = [] := List.eq_nil_of_length_eq_zero (by simpa using hl.symm)
      subst hy
      obtain ⟨A, c, rfl, -⟩ := hv
      obtain ⟨B, d, rfl, -⟩ := hu
      go_enter Tryz.func55, Tryz.ntmps55
      go_wp2
      refine wp_loop_rounds 1 ?_
      rw [rounds_succ]
      go_wp2
      go_ret
      exact ⟨by simp, 0, rfl⟩
    · have hpos : 0 < xs.length := List.length_pos_iff.2 h0
      obtain ⟨g, o, c, rfl, hc, hg, hcell⟩ := Rd.at_ fcgot_len hv hpos
      obtain ⟨g', o', d, rfl, hd, hg', hcell'⟩ := Rd.at_ fcgot_len hu (by omega)
      obtain ⟨n, hn⟩ : ∃ n, n = xs.length := ⟨_, rfl⟩
      have hn' : n = ys.length := hn.trans hl
      have HN := Lib.hid hn
      have HN' := Lib.hid hn'
      have hb' : (n : Int) ≤ 4611686018427387904 := by omega
      have HC := Lib.hid hcell
      have HC' := Lib.hid hcell'
      have HX := Lib.hid hx0
      have HY := Lib.hid hy0
      rw [← hn, ← hn']
      have hcn : n ≤ c := by omega
      have hdn : n ≤ d := by omega
      clear hcell hcell' hn hn' hl h0 hc hd hb hpos hv hu hx0 hy0
      go_enter Tryz.func55, Tryz.ntmps55
      go_wp2
      go_loopw [5] (fun i wr => ∃ k m : Nat, k ≤ n ∧ i = .int .i64 k ∧ wr = w.drewN m ∧ xs.take k = ys.take k) (fun i _ => n - (intOf i).toNat)
      case atStart => exact ⟨0, 0, Nat.zero_le _, rfl, rfl, rfl⟩
      case round =>
        obtain ⟨k, m, hk, rfl, rfl, ht⟩ := hrel
        have HT := Lib.hid ht
        clear ht
        by_cases hkn : k < n
        · have hx : k < xs.length := by have := HN.out; omega
          have hy : k < ys.length := by have := HN'.out; omega
          obtain ⟨x0, x1, hp⟩ := got_of (HX.out _ (List.getElem_mem hx))
          obtain ⟨y0, y1, hq⟩ := got_of (HY.out _ (List.getElem_mem hy))
          have cx0 : w.cell? ⟨g, o + k * 2, none⟩ = some (.int .i64 x0) := by have := HC.out k hx 0 (.int .i64 x0) (by omega) (by rw [hp]; rfl); simpa using this
          have cx1 : w.cell? ⟨g, o + k * 2 + 1, none⟩ = some (.int .i64 x1) := by have := HC.out k hx 1 (.int .i64 x1) (by omega) (by rw [hp]; rfl); simpa using this
          have cy0 : w.cell? ⟨g', o' + k * 2, none⟩ = some (.int .i64 y0) := by have := HC'.out k hy 0 (.int .i64 y0) (by omega) (by rw [hq]; rfl); simpa using this
          have cy1 : w.cell? ⟨g', o' + k * 2 + 1, none⟩ = some (.int .i64 y1) := by have := HC'.out k hy 1 (.int .i64 y1) (by omega) (by rw [hq]; rfl); simpa using this
          have HP := Lib.hid hp
          have HQ := Lib.hid hq
          clear hp hq
          obtain ⟨t, ht⟩ : ∃ t, (!decide ([x0, x1] = [y0, y1])) = t := ⟨_, rfl⟩
          have hneq : ∀ W, (binOp .neq 108 (.agg #[.int .i64 x0, .int .i64 x1]) (.agg #[.int .i64 y0, .int .i64 y1])).run Tryz.prog W = .ok (.bool t) W := fun W => by
            rw [← ht]; exact run_neq_got x0 x1 y0 y1 W
          have HTT := Lib.hid ht
          clear ht
          go_wp2_with fail
          go_quiet (fail)
          cases t
          · go_wp2
            have he : [x0, x1] = [y0, y1] := by
              have h1 := HTT.out
              simpa only [Bool.not_eq_false', decide_eq_true_eq] using h1
            exact ⟨⟨k + 1, _, by omega, by go_num, rfl, take_snoc_same xs ys k hx hy HT.out (by rw [HP.out, HQ.out, he])⟩, by simp [intOf]; omega⟩
          · go_wp2
            go_ret
            refine ⟨?_, _, World.drewN_drewN _ _ _⟩
            have : ¬ xs = ys := fun e => by
              have h1 : xs[k] = ys[k] := by subst e; rfl
              rw [HP.out, HQ.out] at h1
              have h2 := HTT.out
              rw [h1] at h2
              simp at h2
            rw [decide_eq_false this]; rfl
        · obtain rfl : k = n := by omega
          go_wp2
          go_ret
          refine ⟨?_, _, rfl⟩
          have : xs = ys := by
            have h1 := HT.out
            rw [List.take_of_length_le (by have := HN.out; omega), List.take_of_length_le (by have := HN'.out; omega)] at h1
            exact h1
          rw [decide_eq_true this]; rfl
  · have hl' : ¬ (xs.length : Int) = (ys.length : Int) := by omega
    have hne : ¬ xs = ys := fun e => hl (by rw [e])
    have D := Lib.hid (decide_eq_false hne)
    obtain ⟨A, c, rfl, -⟩ := hv
    obtain ⟨B, d, rfl, -⟩ := hu
    clear hne
    go_enter Tryz.func55, Tryz.ntmps55
    go_wp2
    go_ret
    exact ⟨by rw [D.out]; rfl, 0, rfl⟩
end Go.Proofs.YthjdkjinkmdclaaGreat

/- Small facts on arrays' cells. -/
namespace Go.Proofs.YthjdkjinkmdclaaGreat
open Go.RowKit

theorem set_ne_ {cur : Array Value} {a i : Nat} {u : Value} (h : a ≠ i) : (cur.setIfInBounds a u)[i]? = cur[i]? := Array.getElem?_setIfInBounds_ne h
theorem set_eq_ {cur : Array Value} {a : Nat} {u : Value} (h : a < cur.size) : (cur.setIfInBounds a u)[a]? = some u := by
  rw [Array.getElem?_setIfInBounds]; simp [h]
theorem one_of {α : Type} : ∀ {l : List α}, l.length = 1 → ∃ a, l = [a]
  | [a], _ => ⟨a, rfl⟩
end Go.Proofs.YthjdkjinkmdclaaGreat

/- law01: a page (byte): written over, and behind; whether it stands. -/
namespace Go.Proofs.YthjdkjinkmdclaaGreat
open Go.RowKit

abbrev row_byte (A : Option Addr) (n c : Nat) (m0 b0 : Int) : Value := .agg #[.slice A n c, .int .u8 m0, .int .u8 b0]
set_option maxHeartbeats 2000000 in
theorem write_byte_none (m0 b0 : Int) (w : World) : Calls Tryz.prog 114 #[row_byte none 0 0 m0 b0] w fun e w' => e = .returned (.tuple #[]) ∧ Below w.heap.size w w' := by
  unfold row_byte
  go_enter Tryz.func114, Tryz.ntmps114
  go_wp2
  refine wp_loop_rounds 1 ?_
  rw [rounds_succ]
  go_wp2
  exact bodyPost_end (results_none rfl _ _ _) rfl ⟨rfl, below_alloc_ _ _⟩
set_option maxHeartbeats 2000000 in
theorem behind_byte_none (m0 b0 : Int) (w : World) : Calls Tryz.prog 115 #[row_byte none 0 0 m0 b0] w fun e w' => e = .returned (.tuple #[]) ∧ Below w.heap.size w w' := by
  unfold row_byte
  go_enter Tryz.func115, Tryz.ntmps115
  go_wp2
  refine wp_loop_rounds 1 ?_
  rw [rounds_succ]
  go_wp2
  exact bodyPost_end (results_none rfl _ _ _) rfl ⟨rfl, below_alloc_ _ _⟩
set_option maxHeartbeats 2000000 in
theorem stands_byte_none (m0 b0 : Int) (w : World) : Calls Tryz.prog 113 #[row_byte none 0 0 m0 b0] w fun e w' => e = .returned (.bool true) ∧ Below w.heap.size w w' := by
  unfold row_byte
  go_enter Tryz.func113, Tryz.ntmps113
  go_wp2
  refine wp_loop_rounds 1 ?_
  rw [rounds_succ]
  go_wp2
  go_ret
  exact ⟨rfl, below_alloc_ _ _⟩
set_option maxHeartbeats 4000000 in
set_option maxRecDepth 100000 in
theorem write_byte (g n c : Nat) (m0 b0 : Int) (cur : Array Value) (w : World) (hk : Blk w g 5 cur) (hn : n ≤ c) (hc : c * 1 ≤ cur.size) (hb : c ≤ 4611686018427387904) :
    Calls Tryz.prog 114 #[row_byte (some ⟨g, 0, none⟩) n c m0 b0] w fun e w' => e = .returned (.tuple #[]) ∧ ∃ cur', Blk w' g 5 cur' ∧ cur'.size = cur.size ∧ (∀ i, 0 ≤ i → i < n → cur'[i]? = some (.int .u8 m0)) ∧ (∀ p, p < 0 ∨ n ≤ p → cur'[p]? = cur[p]?) ∧ w.grownBy w' (some g) := by
  unfold row_byte
  have K := Lib.hid (Blk.new w 79 #[.slice (some ⟨g, 0, none⟩) n c, .int .u8 m0, .int .u8 b0])
  have HK := Lib.hid (hk.alloc (.cells #[.slice (some ⟨g, 0, none⟩) n c, .int .u8 m0, .int .u8 b0] 79))
  have hgl := hk.lt
  have hn' : (n : Int) ≤ c := by omega
  have hb' : (c : Int) ≤ 4611686018427387904 := by omega
  have G0 := Lib.hid (show w.grownBy _ (some g) from grown_below_ (below_alloc_ w (.cells #[.slice (some ⟨g, 0, none⟩) n c, .int .u8 m0, .int .u8 b0] 79)) (some g))
  clear hk
  go_enter Tryz.func114, Tryz.ntmps114
  go_wp2_with fail
  go_loopg [2] (n - 0) (fun q x wr => ∃ (k : Nat) (cur' : Array Value), 0 ≤ k ∧ k ≤ n ∧ q = n - k ∧ x = .int .i64 k ∧ Blk wr g 5 cur' ∧ cur'.size = cur.size ∧ (∀ i, 0 ≤ i → i < k → cur'[i]? = some (.int .u8 m0)) ∧ (∀ p, p < 0 ∨ k ≤ p → cur'[p]? = cur[p]?) ∧ w.grownBy wr (some g) ∧ Blk wr w.heap.size 79 #[.slice (some ⟨g, 0, none⟩) n c, .int .u8 m0, .int .u8 b0])
  case atStart => exact ⟨0, cur, Nat.le_refl _, by omega, rfl, rfl, HK.out, rfl, fun i _ _ => by omega, fun _ _ => rfl, G0.out, K.out⟩
  case round =>
    obtain ⟨k, cur', hlk, hk, rfl, rfl, hB, hsz, hin, hot, hg, hbx⟩ := hrel
    have HB := Lib.hid hB
    have HI := Lib.hid hin
    have HO := Lib.hid hot
    have HG := Lib.hid hg
    have HX := Lib.hid hbx
    have HS := Lib.hid hsz
    have f := hB.free
    have x0 := hbx.cell 0
    have x1 := hbx.cell 1
    have x2 := hbx.cell 2
    simp only [List.getElem?_toArray, List.getElem?_cons_zero, List.getElem?_cons_succ] at x0 x1 x2
    clear hin hot hg hbx
    by_cases hkn : k < n
    · have hkn' : (k : Int) < n := by omega
      have hk0 : (0 : Int) ≤ k := by omega
      have hz0 : k < cur'.size := by omega
      have y0 : wr.cell? ⟨g, k, none⟩ = some (cur'[k]'hz0) := by rw [hB.cell]; simp [hz0]
      clear hB
      go_wp2
      go_roundg (n - (k + 1))
      case measure => omega
      case rel =>
        refine ⟨k + 1, (cur'.setIfInBounds (k) (.int .u8 m0)), by omega, by omega, rfl, by go_num, (HB.out.set_ (k) (.int .u8 m0)), by simp [HS.out], ?_, ?_, (grown_trans_ HG.out (grown_set_ wr g (k) (.int .u8 m0))), (HX.out.far (p := ⟨g, k, none⟩) (by simp; omega) _)⟩
        · intro i h1 h2
          by_cases hik : i = k
          · subst hik
            exact (by rw [set_eq_ (by (try simp); omega)])
          · have h_0 := HI.out i h1 (by omega)
            exact (by rw [set_ne_ (by omega)]; exact h_0)
        · intro p hp
          rw [set_ne_ (by omega)]
          exact HO.out p (by omega)
    · obtain rfl : k = n := by omega
      clear hB
      go_wp2
      exact bodyPost_end (results_none rfl _ _ _) rfl ⟨rfl, cur', HB.out, HS.out, HI.out, HO.out, HG.out⟩
set_option maxHeartbeats 4000000 in
set_option maxRecDepth 100000 in
theorem behind_byte (g n c : Nat) (m0 b0 : Int) (cur : Array Value) (w : World) (hk : Blk w g 5 cur) (hn : n ≤ c) (hc : c * 1 ≤ cur.size) (hb : c ≤ 4611686018427387904) :
    Calls Tryz.prog 115 #[row_byte (some ⟨g, 0, none⟩) n c m0 b0] w fun e w' => e = .returned (.tuple #[]) ∧ ∃ cur', Blk w' g 5 cur' ∧ cur'.size = cur.size ∧ (∀ i, n ≤ i → i < c → cur'[i]? = some (.int .u8 b0)) ∧ (∀ p, p < n ∨ c ≤ p → cur'[p]? = cur[p]?) ∧ w.grownBy w' (some g) := by
  unfold row_byte
  have K := Lib.hid (Blk.new w 79 #[.slice (some ⟨g, 0, none⟩) n c, .int .u8 m0, .int .u8 b0])
  have HK := Lib.hid (hk.alloc (.cells #[.slice (some ⟨g, 0, none⟩) n c, .int .u8 m0, .int .u8 b0] 79))
  have hgl := hk.lt
  have hn' : (n : Int) ≤ c := by omega
  have hb' : (c : Int) ≤ 4611686018427387904 := by omega
  have G0 := Lib.hid (show w.grownBy _ (some g) from grown_below_ (below_alloc_ w (.cells #[.slice (some ⟨g, 0, none⟩) n c, .int .u8 m0, .int .u8 b0] 79)) (some g))
  clear hk
  go_enter Tryz.func115, Tryz.ntmps115
  go_wp2_with fail
  go_loopg [3] (c - n) (fun q x wr => ∃ (k : Nat) (cur' : Array Value), n ≤ k ∧ k ≤ c ∧ q = c - k ∧ x = .int .i64 k ∧ Blk wr g 5 cur' ∧ cur'.size = cur.size ∧ (∀ i, n ≤ i → i < k → cur'[i]? = some (.int .u8 b0)) ∧ (∀ p, p < n ∨ k ≤ p → cur'[p]? = cur[p]?) ∧ w.grownBy wr (some g) ∧ Blk wr w.heap.size 79 #[.slice (some ⟨g, 0, none⟩) n c, .int .u8 m0, .int .u8 b0])
  case atStart => exact ⟨n, cur, Nat.le_refl _, by omega, rfl, rfl, HK.out, rfl, fun i _ _ => by omega, fun _ _ => rfl, G0.out, K.out⟩
  case round =>
    obtain ⟨k, cur', hlk, hk, rfl, rfl, hB, hsz, hin, hot, hg, hbx⟩ := hrel
    have HB := Lib.hid hB
    have HI := Lib.hid hin
    have HO := Lib.hid hot
    have HG := Lib.hid hg
    have HX := Lib.hid hbx
    have HS := Lib.hid hsz
    have f := hB.free
    have x0 := hbx.cell 0
    have x1 := hbx.cell 1
    have x2 := hbx.cell 2
    simp only [List.getElem?_toArray, List.getElem?_cons_zero, List.getElem?_cons_succ] at x0 x1 x2
    clear hin hot hg hbx
    by_cases hkn : k < c
    · have hkn' : (k : Int) < c := by omega
      have hk0 : (0 : Int) ≤ k := by omega
      have hz0 : k < cur'.size := by omega
      have y0 : wr.cell? ⟨g, k, none⟩ = some (cur'[k]'hz0) := by rw [hB.cell]; simp [hz0]
      clear hB
      go_wp2
      go_roundg (c - (k + 1))
      case measure => omega
      case rel =>
        refine ⟨k + 1, (cur'.setIfInBounds (k) (.int .u8 b0)), by omega, by omega, rfl, by go_num, (HB.out.set_ (k) (.int .u8 b0)), by simp [HS.out], ?_, ?_, (grown_trans_ HG.out (grown_set_ wr g (k) (.int .u8 b0))), (HX.out.far (p := ⟨g, k, none⟩) (by simp; omega) _)⟩
        · intro i h1 h2
          by_cases hik : i = k
          · subst hik
            exact (by rw [set_eq_ (by (try simp); omega)])
          · have h_0 := HI.out i h1 (by omega)
            exact (by rw [set_ne_ (by omega)]; exact h_0)
        · intro p hp
          rw [set_ne_ (by omega)]
          exact HO.out p (by omega)
    · obtain rfl : k = c := by omega
      clear hB
      go_wp2
      exact bodyPost_end (results_none rfl _ _ _) rfl ⟨rfl, cur', HB.out, HS.out, HI.out, HO.out, HG.out⟩
set_option maxHeartbeats 4000000 in
set_option maxRecDepth 100000 in
theorem stands_byte (g n c : Nat) (m0 b0 : Int) (cur : Array Value) (w : World) (hk : Blk w g 5 cur) (hn : n ≤ c) (_hc : c * 1 ≤ cur.size) (hb : c ≤ 4611686018427387904)
    (h1 : ∀ i, 0 ≤ i → i < n → cur[i]? = some (.int .u8 m0)) (h2 : ∀ i, n ≤ i → i < c → cur[i]? = some (.int .u8 b0)) :
    Calls Tryz.prog 113 #[row_byte (some ⟨g, 0, none⟩) n c m0 b0] w fun e w' => e = .returned (.bool true) ∧ Below w.heap.size w w' := by
  unfold row_byte
  have K := Lib.hid (Blk.new w 79 #[.slice (some ⟨g, 0, none⟩) n c, .int .u8 m0, .int .u8 b0])
  have HK := Lib.hid (hk.alloc (.cells #[.slice (some ⟨g, 0, none⟩) n c, .int .u8 m0, .int .u8 b0] 79))
  have H1 := Lib.hid h1
  have H2 := Lib.hid h2
  have hn' : (n : Int) ≤ c := by omega
  have hb' : (c : Int) ≤ 4611686018427387904 := by omega
  have kx := K.out
  have x0 := kx.cell 0
  have x1 := kx.cell 1
  have x2 := kx.cell 2
  simp only [List.getElem?_toArray, List.getElem?_cons_zero, List.getElem?_cons_succ] at x0 x1 x2
  clear hk h1 h2 kx
  have hnm : (m0 != m0) = false := by simp
  have hnb : (b0 != b0) = false := by simp
  go_enter Tryz.func113, Tryz.ntmps113
  go_wp2_with fail
  go_loopg [4] c (fun q x wr => ∃ k m : Nat, k ≤ c ∧ q = c - k ∧ x = .int .i64 k ∧ wr = (w.alloc (.cells #[.slice (some ⟨g, 0, none⟩) n c, .int .u8 m0, .int .u8 b0] 79)).drewN m)
  case atStart => exact ⟨0, 0, Nat.zero_le _, rfl, rfl, rfl⟩
  case round =>
    obtain ⟨k, m, hk, rfl, rfl, rfl⟩ := hrel
    by_cases hkc : k < c
    · have hkc' : (k : Int) < c := by omega
      have hk0 : (0 : Int) ≤ k := by omega
      by_cases hkn : k < n
      · have hkn' : (k : Int) < n := by omega
        have hkn2 : ¬ (n : Int) ≤ k := by omega
        have hd1 : decide ((k : Int) < n) = true := decide_eq_true hkn'
        have hd2 : decide ((n : Int) ≤ k) = false := decide_eq_false hkn2
        have hd3 : decide (n ≤ k) = false := decide_eq_false (by omega)
        have hd4 : ¬ n ≤ k := by omega
        have h_0 := H1.out k (Nat.zero_le _) hkn
        have y0 : (w.alloc (.cells #[.slice (some ⟨g, 0, none⟩) n c, .int .u8 m0, .int .u8 b0] 79)).cell? ⟨g, k, none⟩ = some (.int .u8 m0) := by rw [HK.out.cell]; exact h_0
        clear h_0
        go_wp2_with fail
        go_quiet (fail)
        go_wp2
        go_roundg (c - (k + 1))
        case measure => omega
        case rel => exact ⟨k + 1, _, by omega, rfl, by go_num, rfl⟩
      · have hkn' : ¬ (k : Int) < n := by omega
        have hkn2 : (n : Int) ≤ k := by omega
        have hd1 : decide ((k : Int) < n) = false := decide_eq_false hkn'
        have hd2 : decide ((n : Int) ≤ k) = true := decide_eq_true hkn2
        have hd3 : decide (n ≤ k) = true := decide_eq_true (by omega)
        have hd4 : n ≤ k := by omega
        have h_0 := H2.out k (by omega) hkc
        have y0 : (w.alloc (.cells #[.slice (some ⟨g, 0, none⟩) n c, .int .u8 m0, .int .u8 b0] 79)).cell? ⟨g, k, none⟩ = some (.int .u8 b0) := by rw [HK.out.cell]; exact h_0
        clear h_0
        go_wp2_with fail
        go_quiet (fail)
        go_wp2
        go_roundg (c - (k + 1))
        case measure => omega
        case rel => exact ⟨k + 1, _, by omega, rfl, by go_num, rfl⟩
    · obtain rfl : c = k := by omega
      go_wp2
      go_ret
      exact ⟨rfl, (below_alloc_ w (.cells #[.slice (some ⟨g, 0, none⟩) n c, .int .u8 m0, .int .u8 b0] 79)).trans ((below_drewN_ (w.alloc (.cells #[.slice (some ⟨g, 0, none⟩) n c, .int .u8 m0, .int .u8 b0] 79)).heap.size _ _).mono (by simp))⟩
end Go.Proofs.YthjdkjinkmdclaaGreat

/- law01: a page (countinghouse/api.Step): written over, and behind; whether it stands. -/
namespace Go.Proofs.YthjdkjinkmdclaaGreat
open Go.RowKit

abbrev row_step (A : Option Addr) (n c : Nat) (m0 m1 m2 m3 m4 m5 m6 m7 m8 m9 b0 b1 b2 b3 b4 b5 b6 b7 b8 b9 : Int) : Value := .agg #[.slice A n c, .int .u8 m0, .int .u8 m1, .int .u8 m2, .int .u8 m3, .int .u8 m4, .int .i64 m5, .int .i64 m6, .int .i64 m7, .int .i64 m8, .int .u64 m9, .int .u8 b0, .int .u8 b1, .int .u8 b2, .int .u8 b3, .int .u8 b4, .int .i64 b5, .int .i64 b6, .int .i64 b7, .int .i64 b8, .int .u64 b9]
set_option maxHeartbeats 2000000 in
theorem write_step_none (m0 m1 m2 m3 m4 m5 m6 m7 m8 m9 b0 b1 b2 b3 b4 b5 b6 b7 b8 b9 : Int) (w : World) : Calls Tryz.prog 150 #[row_step none 0 0 m0 m1 m2 m3 m4 m5 m6 m7 m8 m9 b0 b1 b2 b3 b4 b5 b6 b7 b8 b9] w fun e w' => e = .returned (.tuple #[]) ∧ Below w.heap.size w w' := by
  unfold row_step
  go_enter Tryz.func150, Tryz.ntmps150
  go_wp2
  refine wp_loop_rounds 1 ?_
  rw [rounds_succ]
  go_wp2
  exact bodyPost_end (results_none rfl _ _ _) rfl ⟨rfl, below_alloc_ _ _⟩
set_option maxHeartbeats 2000000 in
theorem behind_step_none (m0 m1 m2 m3 m4 m5 m6 m7 m8 m9 b0 b1 b2 b3 b4 b5 b6 b7 b8 b9 : Int) (w : World) : Calls Tryz.prog 151 #[row_step none 0 0 m0 m1 m2 m3 m4 m5 m6 m7 m8 m9 b0 b1 b2 b3 b4 b5 b6 b7 b8 b9] w fun e w' => e = .returned (.tuple #[]) ∧ Below w.heap.size w w' := by
  unfold row_step
  go_enter Tryz.func151, Tryz.ntmps151
  go_wp2
  refine wp_loop_rounds 1 ?_
  rw [rounds_succ]
  go_wp2
  exact bodyPost_end (results_none rfl _ _ _) rfl ⟨rfl, below_alloc_ _ _⟩
set_option maxHeartbeats 2000000 in
theorem stands_step_none (m0 m1 m2 m3 m4 m5 m6 m7 m8 m9 b0 b1 b2 b3 b4 b5 b6 b7 b8 b9 : Int) (w : World) : Calls Tryz.prog 149 #[row_step none 0 0 m0 m1 m2 m3 m4 m5 m6 m7 m8 m9 b0 b1 b2 b3 b4 b5 b6 b7 b8 b9] w fun e w' => e = .returned (.bool true) ∧ Below w.heap.size w w' := by
  unfold row_step
  go_enter Tryz.func149, Tryz.ntmps149
  go_wp2
  refine wp_loop_rounds 1 ?_
  rw [rounds_succ]
  go_wp2
  go_ret
  exact ⟨rfl, below_alloc_ _ _⟩
set_option maxHeartbeats 4000000 in
set_option maxRecDepth 100000 in
theorem write_step (g n c : Nat) (m0 m1 m2 m3 m4 m5 m6 m7 m8 m9 b0 b1 b2 b3 b4 b5 b6 b7 b8 b9 : Int) (cur : Array Value) (w : World) (hk : Blk w g 104 cur) (hn : n ≤ c) (hc : c * 10 ≤ cur.size) (hb : c ≤ 4611686018427387904) :
    Calls Tryz.prog 150 #[row_step (some ⟨g, 0, none⟩) n c m0 m1 m2 m3 m4 m5 m6 m7 m8 m9 b0 b1 b2 b3 b4 b5 b6 b7 b8 b9] w fun e w' => e = .returned (.tuple #[]) ∧ ∃ cur', Blk w' g 104 cur' ∧ cur'.size = cur.size ∧ (∀ i, 0 ≤ i → i < n → cur'[i * 10]? = some (.int .u8 m0) ∧ cur'[i * 10 + 1]? = some (.int .u8 m1) ∧ cur'[i * 10 + 2]? = some (.int .u8 m2) ∧ cur'[i * 10 + 3]? = some (.int .u8 m3) ∧ cur'[i * 10 + 4]? = some (.int .u8 m4) ∧ cur'[i * 10 + 5]? = some (.int .i64 m5) ∧ cur'[i * 10 + 6]? = some (.int .i64 m6) ∧ cur'[i * 10 + 7]? = some (.int .i64 m7) ∧ cur'[i * 10 + 8]? = some (.int .i64 m8) ∧ cur'[i * 10 + 9]? = some (.int .u64 m9)) ∧ (∀ p, p < 0 ∨ n * 10 ≤ p → cur'[p]? = cur[p]?) ∧ w.grownBy w' (some g) := by
  unfold row_step
  have K := Lib.hid (Blk.new w 106 #[.slice (some ⟨g, 0, none⟩) n c, .int .u8 m0, .int .u8 m1, .int .u8 m2, .int .u8 m3, .int .u8 m4, .int .i64 m5, .int .i64 m6, .int .i64 m7, .int .i64 m8, .int .u64 m9, .int .u8 b0, .int .u8 b1, .int .u8 b2, .int .u8 b3, .int .u8 b4, .int .i64 b5, .int .i64 b6, .int .i64 b7, .int .i64 b8, .int .u64 b9])
  have HK := Lib.hid (hk.alloc (.cells #[.slice (some ⟨g, 0, none⟩) n c, .int .u8 m0, .int .u8 m1, .int .u8 m2, .int .u8 m3, .int .u8 m4, .int .i64 m5, .int .i64 m6, .int .i64 m7, .int .i64 m8, .int .u64 m9, .int .u8 b0, .int .u8 b1, .int .u8 b2, .int .u8 b3, .int .u8 b4, .int .i64 b5, .int .i64 b6, .int .i64 b7, .int .i64 b8, .int .u64 b9] 106))
  have hgl := hk.lt
  have hn' : (n : Int) ≤ c := by omega
  have hb' : (c : Int) ≤ 4611686018427387904 := by omega
  have G0 := Lib.hid (show w.grownBy _ (some g) from grown_below_ (below_alloc_ w (.cells #[.slice (some ⟨g, 0, none⟩) n c, .int .u8 m0, .int .u8 m1, .int .u8 m2, .int .u8 m3, .int .u8 m4, .int .i64 m5, .int .i64 m6, .int .i64 m7, .int .i64 m8, .int .u64 m9, .int .u8 b0, .int .u8 b1, .int .u8 b2, .int .u8 b3, .int .u8 b4, .int .i64 b5, .int .i64 b6, .int .i64 b7, .int .i64 b8, .int .u64 b9] 106)) (some g))
  clear hk
  go_enter Tryz.func150, Tryz.ntmps150
  go_wp2_with fail
  go_loopg [2] (n - 0) (fun q x wr => ∃ (k : Nat) (cur' : Array Value), 0 ≤ k ∧ k ≤ n ∧ q = n - k ∧ x = .int .i64 k ∧ Blk wr g 104 cur' ∧ cur'.size = cur.size ∧ (∀ i, 0 ≤ i → i < k → cur'[i * 10]? = some (.int .u8 m0) ∧ cur'[i * 10 + 1]? = some (.int .u8 m1) ∧ cur'[i * 10 + 2]? = some (.int .u8 m2) ∧ cur'[i * 10 + 3]? = some (.int .u8 m3) ∧ cur'[i * 10 + 4]? = some (.int .u8 m4) ∧ cur'[i * 10 + 5]? = some (.int .i64 m5) ∧ cur'[i * 10 + 6]? = some (.int .i64 m6) ∧ cur'[i * 10 + 7]? = some (.int .i64 m7) ∧ cur'[i * 10 + 8]? = some (.int .i64 m8) ∧ cur'[i * 10 + 9]? = some (.int .u64 m9)) ∧ (∀ p, p < 0 ∨ k * 10 ≤ p → cur'[p]? = cur[p]?) ∧ w.grownBy wr (some g) ∧ Blk wr w.heap.size 106 #[.slice (some ⟨g, 0, none⟩) n c, .int .u8 m0, .int .u8 m1, .int .u8 m2, .int .u8 m3, .int .u8 m4, .int .i64 m5, .int .i64 m6, .int .i64 m7, .int .i64 m8, .int .u64 m9, .int .u8 b0, .int .u8 b1, .int .u8 b2, .int .u8 b3, .int .u8 b4, .int .i64 b5, .int .i64 b6, .int .i64 b7, .int .i64 b8, .int .u64 b9])
  case atStart => exact ⟨0, cur, Nat.le_refl _, by omega, rfl, rfl, HK.out, rfl, fun i _ _ => by omega, fun _ _ => rfl, G0.out, K.out⟩
  case round =>
    obtain ⟨k, cur', hlk, hk, rfl, rfl, hB, hsz, hin, hot, hg, hbx⟩ := hrel
    have HB := Lib.hid hB
    have HI := Lib.hid hin
    have HO := Lib.hid hot
    have HG := Lib.hid hg
    have HX := Lib.hid hbx
    have HS := Lib.hid hsz
    have f := hB.free
    have x0 := hbx.cell 0
    have x1 := hbx.cell 1
    have x2 := hbx.cell 2
    have x3 := hbx.cell 3
    have x4 := hbx.cell 4
    have x5 := hbx.cell 5
    have x6 := hbx.cell 6
    have x7 := hbx.cell 7
    have x8 := hbx.cell 8
    have x9 := hbx.cell 9
    have x10 := hbx.cell 10
    have x11 := hbx.cell 11
    have x12 := hbx.cell 12
    have x13 := hbx.cell 13
    have x14 := hbx.cell 14
    have x15 := hbx.cell 15
    have x16 := hbx.cell 16
    have x17 := hbx.cell 17
    have x18 := hbx.cell 18
    have x19 := hbx.cell 19
    have x20 := hbx.cell 20
    simp only [List.getElem?_toArray, List.getElem?_cons_zero, List.getElem?_cons_succ] at x0 x1 x2 x3 x4 x5 x6 x7 x8 x9 x10 x11 x12 x13 x14 x15 x16 x17 x18 x19 x20
    clear hin hot hg hbx
    by_cases hkn : k < n
    · have hkn' : (k : Int) < n := by omega
      have hk0 : (0 : Int) ≤ k := by omega
      have hz0 : k * 10 < cur'.size := by omega
      have y0 : wr.cell? ⟨g, k * 10, none⟩ = some (cur'[k * 10]'hz0) := by rw [hB.cell]; simp [hz0]
      have hz1 : k * 10 + 1 < cur'.size := by omega
      have y1 : wr.cell? ⟨g, k * 10 + 1, none⟩ = some (cur'[k * 10 + 1]'hz1) := by rw [hB.cell]; simp [hz1]
      have hz2 : k * 10 + 2 < cur'.size := by omega
      have y2 : wr.cell? ⟨g, k * 10 + 2, none⟩ = some (cur'[k * 10 + 2]'hz2) := by rw [hB.cell]; simp [hz2]
      have hz3 : k * 10 + 3 < cur'.size := by omega
      have y3 : wr.cell? ⟨g, k * 10 + 3, none⟩ = some (cur'[k * 10 + 3]'hz3) := by rw [hB.cell]; simp [hz3]
      have hz4 : k * 10 + 4 < cur'.size := by omega
      have y4 : wr.cell? ⟨g, k * 10 + 4, none⟩ = some (cur'[k * 10 + 4]'hz4) := by rw [hB.cell]; simp [hz4]
      have hz5 : k * 10 + 5 < cur'.size := by omega
      have y5 : wr.cell? ⟨g, k * 10 + 5, none⟩ = some (cur'[k * 10 + 5]'hz5) := by rw [hB.cell]; simp [hz5]
      have hz6 : k * 10 + 6 < cur'.size := by omega
      have y6 : wr.cell? ⟨g, k * 10 + 6, none⟩ = some (cur'[k * 10 + 6]'hz6) := by rw [hB.cell]; simp [hz6]
      have hz7 : k * 10 + 7 < cur'.size := by omega
      have y7 : wr.cell? ⟨g, k * 10 + 7, none⟩ = some (cur'[k * 10 + 7]'hz7) := by rw [hB.cell]; simp [hz7]
      have hz8 : k * 10 + 8 < cur'.size := by omega
      have y8 : wr.cell? ⟨g, k * 10 + 8, none⟩ = some (cur'[k * 10 + 8]'hz8) := by rw [hB.cell]; simp [hz8]
      have hz9 : k * 10 + 9 < cur'.size := by omega
      have y9 : wr.cell? ⟨g, k * 10 + 9, none⟩ = some (cur'[k * 10 + 9]'hz9) := by rw [hB.cell]; simp [hz9]
      clear hB
      go_wp2
      go_roundg (n - (k + 1))
      case measure => omega
      case rel =>
        refine ⟨k + 1, ((((((((((cur'.setIfInBounds (k * 10) (.int .u8 m0)).setIfInBounds (k * 10 + 1) (.int .u8 m1)).setIfInBounds (k * 10 + 2) (.int .u8 m2)).setIfInBounds (k * 10 + 3) (.int .u8 m3)).setIfInBounds (k * 10 + 4) (.int .u8 m4)).setIfInBounds (k * 10 + 5) (.int .i64 m5)).setIfInBounds (k * 10 + 6) (.int .i64 m6)).setIfInBounds (k * 10 + 7) (.int .i64 m7)).setIfInBounds (k * 10 + 8) (.int .i64 m8)).setIfInBounds (k * 10 + 9) (.int .u64 m9)), by omega, by omega, rfl, by go_num, ((((((((((HB.out.set_ (k * 10) (.int .u8 m0)).set_ (k * 10 + 1) (.int .u8 m1)).set_ (k * 10 + 2) (.int .u8 m2)).set_ (k * 10 + 3) (.int .u8 m3)).set_ (k * 10 + 4) (.int .u8 m4)).set_ (k * 10 + 5) (.int .i64 m5)).set_ (k * 10 + 6) (.int .i64 m6)).set_ (k * 10 + 7) (.int .i64 m7)).set_ (k * 10 + 8) (.int .i64 m8)).set_ (k * 10 + 9) (.int .u64 m9)), by simp [HS.out], ?_, ?_, (grown_trans_ (grown_trans_ (grown_trans_ (grown_trans_ (grown_trans_ (grown_trans_ (grown_trans_ (grown_trans_ (grown_trans_ (grown_trans_ HG.out (grown_set_ wr g (k * 10) (.int .u8 m0))) (grown_set_ (wr.setCell ⟨g, k * 10, none⟩ (.int .u8 m0)) g (k * 10 + 1) (.int .u8 m1))) (grown_set_ ((wr.setCell ⟨g, k * 10, none⟩ (.int .u8 m0)).setCell ⟨g, k * 10 + 1, none⟩ (.int .u8 m1)) g (k * 10 + 2) (.int .u8 m2))) (grown_set_ (((wr.setCell ⟨g, k * 10, none⟩ (.int .u8 m0)).setCell ⟨g, k * 10 + 1, none⟩ (.int .u8 m1)).setCell ⟨g, k * 10 + 2, none⟩ (.int .u8 m2)) g (k * 10 + 3) (.int .u8 m3))) (grown_set_ ((((wr.setCell ⟨g, k * 10, none⟩ (.int .u8 m0)).setCell ⟨g, k * 10 + 1, none⟩ (.int .u8 m1)).setCell ⟨g, k * 10 + 2, none⟩ (.int .u8 m2)).setCell ⟨g, k * 10 + 3, none⟩ (.int .u8 m3)) g (k * 10 + 4) (.int .u8 m4))) (grown_set_ (((((wr.setCell ⟨g, k * 10, none⟩ (.int .u8 m0)).setCell ⟨g, k * 10 + 1, none⟩ (.int .u8 m1)).setCell ⟨g, k * 10 + 2, none⟩ (.int .u8 m2)).setCell ⟨g, k * 10 + 3, none⟩ (.int .u8 m3)).setCell ⟨g, k * 10 + 4, none⟩ (.int .u8 m4)) g (k * 10 + 5) (.int .i64 m5))) (grown_set_ ((((((wr.setCell ⟨g, k * 10, none⟩ (.int .u8 m0)).setCell ⟨g, k * 10 + 1, none⟩ (.int .u8 m1)).setCell ⟨g, k * 10 + 2, none⟩ (.int .u8 m2)).setCell ⟨g, k * 10 + 3, none⟩ (.int .u8 m3)).setCell ⟨g, k * 10 + 4, none⟩ (.int .u8 m4)).setCell ⟨g, k * 10 + 5, none⟩ (.int .i64 m5)) g (k * 10 + 6) (.int .i64 m6))) (grown_set_ (((((((wr.setCell ⟨g, k * 10, none⟩ (.int .u8 m0)).setCell ⟨g, k * 10 + 1, none⟩ (.int .u8 m1)).setCell ⟨g, k * 10 + 2, none⟩ (.int .u8 m2)).setCell ⟨g, k * 10 + 3, none⟩ (.int .u8 m3)).setCell ⟨g, k * 10 + 4, none⟩ (.int .u8 m4)).setCell ⟨g, k * 10 + 5, none⟩ (.int .i64 m5)).setCell ⟨g, k * 10 + 6, none⟩ (.int .i64 m6)) g (k * 10 + 7) (.int .i64 m7))) (grown_set_ ((((((((wr.setCell ⟨g, k * 10, none⟩ (.int .u8 m0)).setCell ⟨g, k * 10 + 1, none⟩ (.int .u8 m1)).setCell ⟨g, k * 10 + 2, none⟩ (.int .u8 m2)).setCell ⟨g, k * 10 + 3, none⟩ (.int .u8 m3)).setCell ⟨g, k * 10 + 4, none⟩ (.int .u8 m4)).setCell ⟨g, k * 10 + 5, none⟩ (.int .i64 m5)).setCell ⟨g, k * 10 + 6, none⟩ (.int .i64 m6)).setCell ⟨g, k * 10 + 7, none⟩ (.int .i64 m7)) g (k * 10 + 8) (.int .i64 m8))) (grown_set_ (((((((((wr.setCell ⟨g, k * 10, none⟩ (.int .u8 m0)).setCell ⟨g, k * 10 + 1, none⟩ (.int .u8 m1)).setCell ⟨g, k * 10 + 2, none⟩ (.int .u8 m2)).setCell ⟨g, k * 10 + 3, none⟩ (.int .u8 m3)).setCell ⟨g, k * 10 + 4, none⟩ (.int .u8 m4)).setCell ⟨g, k * 10 + 5, none⟩ (.int .i64 m5)).setCell ⟨g, k * 10 + 6, none⟩ (.int .i64 m6)).setCell ⟨g, k * 10 + 7, none⟩ (.int .i64 m7)).setCell ⟨g, k * 10 + 8, none⟩ (.int .i64 m8)) g (k * 10 + 9) (.int .u64 m9))), ((((((((((HX.out.far (p := ⟨g, k * 10, none⟩) (by simp; omega) _).far (p := ⟨g, k * 10 + 1, none⟩) (by simp; omega) _).far (p := ⟨g, k * 10 + 2, none⟩) (by simp; omega) _).far (p := ⟨g, k * 10 + 3, none⟩) (by simp; omega) _).far (p := ⟨g, k * 10 + 4, none⟩) (by simp; omega) _).far (p := ⟨g, k * 10 + 5, none⟩) (by simp; omega) _).far (p := ⟨g, k * 10 + 6, none⟩) (by simp; omega) _).far (p := ⟨g, k * 10 + 7, none⟩) (by simp; omega) _).far (p := ⟨g, k * 10 + 8, none⟩) (by simp; omega) _).far (p := ⟨g, k * 10 + 9, none⟩) (by simp; omega) _)⟩
        · intro i h1 h2
          by_cases hik : i = k
          · subst hik
            exact ⟨(by rw [set_ne_ (by omega), set_ne_ (by omega), set_ne_ (by omega), set_ne_ (by omega), set_ne_ (by omega), set_ne_ (by omega), set_ne_ (by omega), set_ne_ (by omega), set_ne_ (by omega), set_eq_ (by (try simp); omega)]), (by rw [set_ne_ (by omega), set_ne_ (by omega), set_ne_ (by omega), set_ne_ (by omega), set_ne_ (by omega), set_ne_ (by omega), set_ne_ (by omega), set_ne_ (by omega), set_eq_ (by (try simp); omega)]), (by rw [set_ne_ (by omega), set_ne_ (by omega), set_ne_ (by omega), set_ne_ (by omega), set_ne_ (by omega), set_ne_ (by omega), set_ne_ (by omega), set_eq_ (by (try simp); omega)]), (by rw [set_ne_ (by omega), set_ne_ (by omega), set_ne_ (by omega), set_ne_ (by omega), set_ne_ (by omega), set_ne_ (by omega), set_eq_ (by (try simp); omega)]), (by rw [set_ne_ (by omega), set_ne_ (by omega), set_ne_ (by omega), set_ne_ (by omega), set_ne_ (by omega), set_eq_ (by (try simp); omega)]), (by rw [set_ne_ (by omega), set_ne_ (by omega), set_ne_ (by omega), set_ne_ (by omega), set_eq_ (by (try simp); omega)]), (by rw [set_ne_ (by omega), set_ne_ (by omega), set_ne_ (by omega), set_eq_ (by (try simp); omega)]), (by rw [set_ne_ (by omega), set_ne_ (by omega), set_eq_ (by (try simp); omega)]), (by rw [set_ne_ (by omega), set_eq_ (by (try simp); omega)]), (by rw [set_eq_ (by (try simp); omega)])⟩
          · obtain ⟨h_0, h_1, h_2, h_3, h_4, h_5, h_6, h_7, h_8, h_9⟩ := HI.out i h1 (by omega)
            exact ⟨(by rw [set_ne_ (by omega), set_ne_ (by omega), set_ne_ (by omega), set_ne_ (by omega), set_ne_ (by omega), set_ne_ (by omega), set_ne_ (by omega), set_ne_ (by omega), set_ne_ (by omega), set_ne_ (by omega)]; exact h_0), (by rw [set_ne_ (by omega), set_ne_ (by omega), set_ne_ (by omega), set_ne_ (by omega), set_ne_ (by omega), set_ne_ (by omega), set_ne_ (by omega), set_ne_ (by omega), set_ne_ (by omega), set_ne_ (by omega)]; exact h_1), (by rw [set_ne_ (by omega), set_ne_ (by omega), set_ne_ (by omega), set_ne_ (by omega), set_ne_ (by omega), set_ne_ (by omega), set_ne_ (by omega), set_ne_ (by omega), set_ne_ (by omega), set_ne_ (by omega)]; exact h_2), (by rw [set_ne_ (by omega), set_ne_ (by omega), set_ne_ (by omega), set_ne_ (by omega), set_ne_ (by omega), set_ne_ (by omega), set_ne_ (by omega), set_ne_ (by omega), set_ne_ (by omega), set_ne_ (by omega)]; exact h_3), (by rw [set_ne_ (by omega), set_ne_ (by omega), set_ne_ (by omega), set_ne_ (by omega), set_ne_ (by omega), set_ne_ (by omega), set_ne_ (by omega), set_ne_ (by omega), set_ne_ (by omega), set_ne_ (by omega)]; exact h_4), (by rw [set_ne_ (by omega), set_ne_ (by omega), set_ne_ (by omega), set_ne_ (by omega), set_ne_ (by omega), set_ne_ (by omega), set_ne_ (by omega), set_ne_ (by omega), set_ne_ (by omega), set_ne_ (by omega)]; exact h_5), (by rw [set_ne_ (by omega), set_ne_ (by omega), set_ne_ (by omega), set_ne_ (by omega), set_ne_ (by omega), set_ne_ (by omega), set_ne_ (by omega), set_ne_ (by omega), set_ne_ (by omega), set_ne_ (by omega)]; exact h_6), (by rw [set_ne_ (by omega), set_ne_ (by omega), set_ne_ (by omega), set_ne_ (by omega), set_ne_ (by omega), set_ne_ (by omega), set_ne_ (by omega), set_ne_ (by omega), set_ne_ (by omega), set_ne_ (by omega)]; exact h_7), (by rw [set_ne_ (by omega), set_ne_ (by omega), set_ne_ (by omega), set_ne_ (by omega), set_ne_ (by omega), set_ne_ (by omega), set_ne_ (by omega), set_ne_ (by omega), set_ne_ (by omega), set_ne_ (by omega)]; exact h_8), (by rw [set_ne_ (by omega), set_ne_ (by omega), set_ne_ (by omega), set_ne_ (by omega), set_ne_ (by omega), set_ne_ (by omega), set_ne_ (by omega), set_ne_ (by omega), set_ne_ (by omega), set_ne_ (by omega)]; exact h_9)⟩
        · intro p hp
          rw [set_ne_ (by omega), set_ne_ (by omega), set_ne_ (by omega), set_ne_ (by omega), set_ne_ (by omega), set_ne_ (by omega), set_ne_ (by omega), set_ne_ (by omega), set_ne_ (by omega), set_ne_ (by omega)]
          exact HO.out p (by omega)
    · obtain rfl : k = n := by omega
      clear hB
      go_wp2
      exact bodyPost_end (results_none rfl _ _ _) rfl ⟨rfl, cur', HB.out, HS.out, HI.out, HO.out, HG.out⟩
set_option maxHeartbeats 4000000 in
set_option maxRecDepth 100000 in
theorem behind_step (g n c : Nat) (m0 m1 m2 m3 m4 m5 m6 m7 m8 m9 b0 b1 b2 b3 b4 b5 b6 b7 b8 b9 : Int) (cur : Array Value) (w : World) (hk : Blk w g 104 cur) (hn : n ≤ c) (hc : c * 10 ≤ cur.size) (hb : c ≤ 4611686018427387904) :
    Calls Tryz.prog 151 #[row_step (some ⟨g, 0, none⟩) n c m0 m1 m2 m3 m4 m5 m6 m7 m8 m9 b0 b1 b2 b3 b4 b5 b6 b7 b8 b9] w fun e w' => e = .returned (.tuple #[]) ∧ ∃ cur', Blk w' g 104 cur' ∧ cur'.size = cur.size ∧ (∀ i, n ≤ i → i < c → cur'[i * 10]? = some (.int .u8 b0) ∧ cur'[i * 10 + 1]? = some (.int .u8 b1) ∧ cur'[i * 10 + 2]? = some (.int .u8 b2) ∧ cur'[i * 10 + 3]? = some (.int .u8 b3) ∧ cur'[i * 10 + 4]? = some (.int .u8 b4) ∧ cur'[i * 10 + 5]? = some (.int .i64 b5) ∧ cur'[i * 10 + 6]? = some (.int .i64 b6) ∧ cur'[i * 10 + 7]? = some (.int .i64 b7) ∧ cur'[i * 10 + 8]? = some (.int .i64 b8) ∧ cur'[i * 10 + 9]? = some (.int .u64 b9)) ∧ (∀ p, p < n * 10 ∨ c * 10 ≤ p → cur'[p]? = cur[p]?) ∧ w.grownBy w' (some g) := by
  unfold row_step
  have K := Lib.hid (Blk.new w 106 #[.slice (some ⟨g, 0, none⟩) n c, .int .u8 m0, .int .u8 m1, .int .u8 m2, .int .u8 m3, .int .u8 m4, .int .i64 m5, .int .i64 m6, .int .i64 m7, .int .i64 m8, .int .u64 m9, .int .u8 b0, .int .u8 b1, .int .u8 b2, .int .u8 b3, .int .u8 b4, .int .i64 b5, .int .i64 b6, .int .i64 b7, .int .i64 b8, .int .u64 b9])
  have HK := Lib.hid (hk.alloc (.cells #[.slice (some ⟨g, 0, none⟩) n c, .int .u8 m0, .int .u8 m1, .int .u8 m2, .int .u8 m3, .int .u8 m4, .int .i64 m5, .int .i64 m6, .int .i64 m7, .int .i64 m8, .int .u64 m9, .int .u8 b0, .int .u8 b1, .int .u8 b2, .int .u8 b3, .int .u8 b4, .int .i64 b5, .int .i64 b6, .int .i64 b7, .int .i64 b8, .int .u64 b9] 106))
  have hgl := hk.lt
  have hn' : (n : Int) ≤ c := by omega
  have hb' : (c : Int) ≤ 4611686018427387904 := by omega
  have G0 := Lib.hid (show w.grownBy _ (some g) from grown_below_ (below_alloc_ w (.cells #[.slice (some ⟨g, 0, none⟩) n c, .int .u8 m0, .int .u8 m1, .int .u8 m2, .int .u8 m3, .int .u8 m4, .int .i64 m5, .int .i64 m6, .int .i64 m7, .int .i64 m8, .int .u64 m9, .int .u8 b0, .int .u8 b1, .int .u8 b2, .int .u8 b3, .int .u8 b4, .int .i64 b5, .int .i64 b6, .int .i64 b7, .int .i64 b8, .int .u64 b9] 106)) (some g))
  clear hk
  go_enter Tryz.func151, Tryz.ntmps151
  go_wp2_with fail
  go_loopg [3] (c - n) (fun q x wr => ∃ (k : Nat) (cur' : Array Value), n ≤ k ∧ k ≤ c ∧ q = c - k ∧ x = .int .i64 k ∧ Blk wr g 104 cur' ∧ cur'.size = cur.size ∧ (∀ i, n ≤ i → i < k → cur'[i * 10]? = some (.int .u8 b0) ∧ cur'[i * 10 + 1]? = some (.int .u8 b1) ∧ cur'[i * 10 + 2]? = some (.int .u8 b2) ∧ cur'[i * 10 + 3]? = some (.int .u8 b3) ∧ cur'[i * 10 + 4]? = some (.int .u8 b4) ∧ cur'[i * 10 + 5]? = some (.int .i64 b5) ∧ cur'[i * 10 + 6]? = some (.int .i64 b6) ∧ cur'[i * 10 + 7]? = some (.int .i64 b7) ∧ cur'[i * 10 + 8]? = some (.int .i64 b8) ∧ cur'[i * 10 + 9]? = some (.int .u64 b9)) ∧ (∀ p, p < n * 10 ∨ k * 10 ≤ p → cur'[p]? = cur[p]?) ∧ w.grownBy wr (some g) ∧ Blk wr w.heap.size 106 #[.slice (some ⟨g, 0, none⟩) n c, .int .u8 m0, .int .u8 m1, .int .u8 m2, .int .u8 m3, .int .u8 m4, .int .i64 m5, .int .i64 m6, .int .i64 m7, .int .i64 m8, .int .u64 m9, .int .u8 b0, .int .u8 b1, .int .u8 b2, .int .u8 b3, .int .u8 b4, .int .i64 b5, .int .i64 b6, .int .i64 b7, .int .i64 b8, .int .u64 b9])
  case atStart => exact ⟨n, cur, Nat.le_refl _, by omega, rfl, rfl, HK.out, rfl, fun i _ _ => by omega, fun _ _ => rfl, G0.out, K.out⟩
  case round =>
    obtain ⟨k, cur', hlk, hk, rfl, rfl, hB, hsz, hin, hot, hg, hbx⟩ := hrel
    have HB := Lib.hid hB
    have HI := Lib.hid hin
    have HO := Lib.hid hot
    have HG := Lib.hid hg
    have HX := Lib.hid hbx
    have HS := Lib.hid hsz
    have f := hB.free
    have x0 := hbx.cell 0
    have x1 := hbx.cell 1
    have x2 := hbx.cell 2
    have x3 := hbx.cell 3
    have x4 := hbx.cell 4
    have x5 := hbx.cell 5
    have x6 := hbx.cell 6
    have x7 := hbx.cell 7
    have x8 := hbx.cell 8
    have x9 := hbx.cell 9
    have x10 := hbx.cell 10
    have x11 := hbx.cell 11
    have x12 := hbx.cell 12
    have x13 := hbx.cell 13
    have x14 := hbx.cell 14
    have x15 := hbx.cell 15
    have x16 := hbx.cell 16
    have x17 := hbx.cell 17
    have x18 := hbx.cell 18
    have x19 := hbx.cell 19
    have x20 := hbx.cell 20
    simp only [List.getElem?_toArray, List.getElem?_cons_zero, List.getElem?_cons_succ] at x0 x1 x2 x3 x4 x5 x6 x7 x8 x9 x10 x11 x12 x13 x14 x15 x16 x17 x18 x19 x20
    clear hin hot hg hbx
    by_cases hkn : k < c
    · have hkn' : (k : Int) < c := by omega
      have hk0 : (0 : Int) ≤ k := by omega
      have hz0 : k * 10 < cur'.size := by omega
      have y0 : wr.cell? ⟨g, k * 10, none⟩ = some (cur'[k * 10]'hz0) := by rw [hB.cell]; simp [hz0]
      have hz1 : k * 10 + 1 < cur'.size := by omega
      have y1 : wr.cell? ⟨g, k * 10 + 1, none⟩ = some (cur'[k * 10 + 1]'hz1) := by rw [hB.cell]; simp [hz1]
      have hz2 : k * 10 + 2 < cur'.size := by omega
      have y2 : wr.cell? ⟨g, k * 10 + 2, none⟩ = some (cur'[k * 10 + 2]'hz2) := by rw [hB.cell]; simp [hz2]
      have hz3 : k * 10 + 3 < cur'.size := by omega
      have y3 : wr.cell? ⟨g, k * 10 + 3, none⟩ = some (cur'[k * 10 + 3]'hz3) := by rw [hB.cell]; simp [hz3]
      have hz4 : k * 10 + 4 < cur'.size := by omega
      have y4 : wr.cell? ⟨g, k * 10 + 4, none⟩ = some (cur'[k * 10 + 4]'hz4) := by rw [hB.cell]; simp [hz4]
      have hz5 : k * 10 + 5 < cur'.size := by omega
      have y5 : wr.cell? ⟨g, k * 10 + 5, none⟩ = some (cur'[k * 10 + 5]'hz5) := by rw [hB.cell]; simp [hz5]
      have hz6 : k * 10 + 6 < cur'.size := by omega
      have y6 : wr.cell? ⟨g, k * 10 + 6, none⟩ = some (cur'[k * 10 + 6]'hz6) := by rw [hB.cell]; simp [hz6]
      have hz7 : k * 10 + 7 < cur'.size := by omega
      have y7 : wr.cell? ⟨g, k * 10 + 7, none⟩ = some (cur'[k * 10 + 7]'hz7) := by rw [hB.cell]; simp [hz7]
      have hz8 : k * 10 + 8 < cur'.size := by omega
      have y8 : wr.cell? ⟨g, k * 10 + 8, none⟩ = some (cur'[k * 10 + 8]'hz8) := by rw [hB.cell]; simp [hz8]
      have hz9 : k * 10 + 9 < cur'.size := by omega
      have y9 : wr.cell? ⟨g, k * 10 + 9, none⟩ = some (cur'[k * 10 + 9]'hz9) := by rw [hB.cell]; simp [hz9]
      clear hB
      go_wp2
      go_roundg (c - (k + 1))
      case measure => omega
      case rel =>
        refine ⟨k + 1, ((((((((((cur'.setIfInBounds (k * 10) (.int .u8 b0)).setIfInBounds (k * 10 + 1) (.int .u8 b1)).setIfInBounds (k * 10 + 2) (.int .u8 b2)).setIfInBounds (k * 10 + 3) (.int .u8 b3)).setIfInBounds (k * 10 + 4) (.int .u8 b4)).setIfInBounds (k * 10 + 5) (.int .i64 b5)).setIfInBounds (k * 10 + 6) (.int .i64 b6)).setIfInBounds (k * 10 + 7) (.int .i64 b7)).setIfInBounds (k * 10 + 8) (.int .i64 b8)).setIfInBounds (k * 10 + 9) (.int .u64 b9)), by omega, by omega, rfl, by go_num, ((((((((((HB.out.set_ (k * 10) (.int .u8 b0)).set_ (k * 10 + 1) (.int .u8 b1)).set_ (k * 10 + 2) (.int .u8 b2)).set_ (k * 10 + 3) (.int .u8 b3)).set_ (k * 10 + 4) (.int .u8 b4)).set_ (k * 10 + 5) (.int .i64 b5)).set_ (k * 10 + 6) (.int .i64 b6)).set_ (k * 10 + 7) (.int .i64 b7)).set_ (k * 10 + 8) (.int .i64 b8)).set_ (k * 10 + 9) (.int .u64 b9)), by simp [HS.out], ?_, ?_, (grown_trans_ (grown_trans_ (grown_trans_ (grown_trans_ (grown_trans_ (grown_trans_ (grown_trans_ (grown_trans_ (grown_trans_ (grown_trans_ HG.out (grown_set_ wr g (k * 10) (.int .u8 b0))) (grown_set_ (wr.setCell ⟨g, k * 10, none⟩ (.int .u8 b0)) g (k * 10 + 1) (.int .u8 b1))) (grown_set_ ((wr.setCell ⟨g, k * 10, none⟩ (.int .u8 b0)).setCell ⟨g, k * 10 + 1, none⟩ (.int .u8 b1)) g (k * 10 + 2) (.int .u8 b2))) (grown_set_ (((wr.setCell ⟨g, k * 10, none⟩ (.int .u8 b0)).setCell ⟨g, k * 10 + 1, none⟩ (.int .u8 b1)).setCell ⟨g, k * 10 + 2, none⟩ (.int .u8 b2)) g (k * 10 + 3) (.int .u8 b3))) (grown_set_ ((((wr.setCell ⟨g, k * 10, none⟩ (.int .u8 b0)).setCell ⟨g, k * 10 + 1, none⟩ (.int .u8 b1)).setCell ⟨g, k * 10 + 2, none⟩ (.int .u8 b2)).setCell ⟨g, k * 10 + 3, none⟩ (.int .u8 b3)) g (k * 10 + 4) (.int .u8 b4))) (grown_set_ (((((wr.setCell ⟨g, k * 10, none⟩ (.int .u8 b0)).setCell ⟨g, k * 10 + 1, none⟩ (.int .u8 b1)).setCell ⟨g, k * 10 + 2, none⟩ (.int .u8 b2)).setCell ⟨g, k * 10 + 3, none⟩ (.int .u8 b3)).setCell ⟨g, k * 10 + 4, none⟩ (.int .u8 b4)) g (k * 10 + 5) (.int .i64 b5))) (grown_set_ ((((((wr.setCell ⟨g, k * 10, none⟩ (.int .u8 b0)).setCell ⟨g, k * 10 + 1, none⟩ (.int .u8 b1)).setCell ⟨g, k * 10 + 2, none⟩ (.int .u8 b2)).setCell ⟨g, k * 10 + 3, none⟩ (.int .u8 b3)).setCell ⟨g, k * 10 + 4, none⟩ (.int .u8 b4)).setCell ⟨g, k * 10 + 5, none⟩ (.int .i64 b5)) g (k * 10 + 6) (.int .i64 b6))) (grown_set_ (((((((wr.setCell ⟨g, k * 10, none⟩ (.int .u8 b0)).setCell ⟨g, k * 10 + 1, none⟩ (.int .u8 b1)).setCell ⟨g, k * 10 + 2, none⟩ (.int .u8 b2)).setCell ⟨g, k * 10 + 3, none⟩ (.int .u8 b3)).setCell ⟨g, k * 10 + 4, none⟩ (.int .u8 b4)).setCell ⟨g, k * 10 + 5, none⟩ (.int .i64 b5)).setCell ⟨g, k * 10 + 6, none⟩ (.int .i64 b6)) g (k * 10 + 7) (.int .i64 b7))) (grown_set_ ((((((((wr.setCell ⟨g, k * 10, none⟩ (.int .u8 b0)).setCell ⟨g, k * 10 + 1, none⟩ (.int .u8 b1)).setCell ⟨g, k * 10 + 2, none⟩ (.int .u8 b2)).setCell ⟨g, k * 10 + 3, none⟩ (.int .u8 b3)).setCell ⟨g, k * 10 + 4, none⟩ (.int .u8 b4)).setCell ⟨g, k * 10 + 5, none⟩ (.int .i64 b5)).setCell ⟨g, k * 10 + 6, none⟩ (.int .i64 b6)).setCell ⟨g, k * 10 + 7, none⟩ (.int .i64 b7)) g (k * 10 + 8) (.int .i64 b8))) (grown_set_ (((((((((wr.setCell ⟨g, k * 10, none⟩ (.int .u8 b0)).setCell ⟨g, k * 10 + 1, none⟩ (.int .u8 b1)).setCell ⟨g, k * 10 + 2, none⟩ (.int .u8 b2)).setCell ⟨g, k * 10 + 3, none⟩ (.int .u8 b3)).setCell ⟨g, k * 10 + 4, none⟩ (.int .u8 b4)).setCell ⟨g, k * 10 + 5, none⟩ (.int .i64 b5)).setCell ⟨g, k * 10 + 6, none⟩ (.int .i64 b6)).setCell ⟨g, k * 10 + 7, none⟩ (.int .i64 b7)).setCell ⟨g, k * 10 + 8, none⟩ (.int .i64 b8)) g (k * 10 + 9) (.int .u64 b9))), ((((((((((HX.out.far (p := ⟨g, k * 10, none⟩) (by simp; omega) _).far (p := ⟨g, k * 10 + 1, none⟩) (by simp; omega) _).far (p := ⟨g, k * 10 + 2, none⟩) (by simp; omega) _).far (p := ⟨g, k * 10 + 3, none⟩) (by simp; omega) _).far (p := ⟨g, k * 10 + 4, none⟩) (by simp; omega) _).far (p := ⟨g, k * 10 + 5, none⟩) (by simp; omega) _).far (p := ⟨g, k * 10 + 6, none⟩) (by simp; omega) _).far (p := ⟨g, k * 10 + 7, none⟩) (by simp; omega) _).far (p := ⟨g, k * 10 + 8, none⟩) (by simp; omega) _).far (p := ⟨g, k * 10 + 9, none⟩) (by simp; omega) _)⟩
        · intro i h1 h2
          by_cases hik : i = k
          · subst hik
            exact ⟨(by rw [set_ne_ (by omega), set_ne_ (by omega), set_ne_ (by omega), set_ne_ (by omega), set_ne_ (by omega), set_ne_ (by omega), set_ne_ (by omega), set_ne_ (by omega), set_ne_ (by omega), set_eq_ (by (try simp); omega)]), (by rw [set_ne_ (by omega), set_ne_ (by omega), set_ne_ (by omega), set_ne_ (by omega), set_ne_ (by omega), set_ne_ (by omega), set_ne_ (by omega), set_ne_ (by omega), set_eq_ (by (try simp); omega)]), (by rw [set_ne_ (by omega), set_ne_ (by omega), set_ne_ (by omega), set_ne_ (by omega), set_ne_ (by omega), set_ne_ (by omega), set_ne_ (by omega), set_eq_ (by (try simp); omega)]), (by rw [set_ne_ (by omega), set_ne_ (by omega), set_ne_ (by omega), set_ne_ (by omega), set_ne_ (by omega), set_ne_ (by omega), set_eq_ (by (try simp); omega)]), (by rw [set_ne_ (by omega), set_ne_ (by omega), set_ne_ (by omega), set_ne_ (by omega), set_ne_ (by omega), set_eq_ (by (try simp); omega)]), (by rw [set_ne_ (by omega), set_ne_ (by omega), set_ne_ (by omega), set_ne_ (by omega), set_eq_ (by (try simp); omega)]), (by rw [set_ne_ (by omega), set_ne_ (by omega), set_ne_ (by omega), set_eq_ (by (try simp); omega)]), (by rw [set_ne_ (by omega), set_ne_ (by omega), set_eq_ (by (try simp); omega)]), (by rw [set_ne_ (by omega), set_eq_ (by (try simp); omega)]), (by rw [set_eq_ (by (try simp); omega)])⟩
          · obtain ⟨h_0, h_1, h_2, h_3, h_4, h_5, h_6, h_7, h_8, h_9⟩ := HI.out i h1 (by omega)
            exact ⟨(by rw [set_ne_ (by omega), set_ne_ (by omega), set_ne_ (by omega), set_ne_ (by omega), set_ne_ (by omega), set_ne_ (by omega), set_ne_ (by omega), set_ne_ (by omega), set_ne_ (by omega), set_ne_ (by omega)]; exact h_0), (by rw [set_ne_ (by omega), set_ne_ (by omega), set_ne_ (by omega), set_ne_ (by omega), set_ne_ (by omega), set_ne_ (by omega), set_ne_ (by omega), set_ne_ (by omega), set_ne_ (by omega), set_ne_ (by omega)]; exact h_1), (by rw [set_ne_ (by omega), set_ne_ (by omega), set_ne_ (by omega), set_ne_ (by omega), set_ne_ (by omega), set_ne_ (by omega), set_ne_ (by omega), set_ne_ (by omega), set_ne_ (by omega), set_ne_ (by omega)]; exact h_2), (by rw [set_ne_ (by omega), set_ne_ (by omega), set_ne_ (by omega), set_ne_ (by omega), set_ne_ (by omega), set_ne_ (by omega), set_ne_ (by omega), set_ne_ (by omega), set_ne_ (by omega), set_ne_ (by omega)]; exact h_3), (by rw [set_ne_ (by omega), set_ne_ (by omega), set_ne_ (by omega), set_ne_ (by omega), set_ne_ (by omega), set_ne_ (by omega), set_ne_ (by omega), set_ne_ (by omega), set_ne_ (by omega), set_ne_ (by omega)]; exact h_4), (by rw [set_ne_ (by omega), set_ne_ (by omega), set_ne_ (by omega), set_ne_ (by omega), set_ne_ (by omega), set_ne_ (by omega), set_ne_ (by omega), set_ne_ (by omega), set_ne_ (by omega), set_ne_ (by omega)]; exact h_5), (by rw [set_ne_ (by omega), set_ne_ (by omega), set_ne_ (by omega), set_ne_ (by omega), set_ne_ (by omega), set_ne_ (by omega), set_ne_ (by omega), set_ne_ (by omega), set_ne_ (by omega), set_ne_ (by omega)]; exact h_6), (by rw [set_ne_ (by omega), set_ne_ (by omega), set_ne_ (by omega), set_ne_ (by omega), set_ne_ (by omega), set_ne_ (by omega), set_ne_ (by omega), set_ne_ (by omega), set_ne_ (by omega), set_ne_ (by omega)]; exact h_7), (by rw [set_ne_ (by omega), set_ne_ (by omega), set_ne_ (by omega), set_ne_ (by omega), set_ne_ (by omega), set_ne_ (by omega), set_ne_ (by omega), set_ne_ (by omega), set_ne_ (by omega), set_ne_ (by omega)]; exact h_8), (by rw [set_ne_ (by omega), set_ne_ (by omega), set_ne_ (by omega), set_ne_ (by omega), set_ne_ (by omega), set_ne_ (by omega), set_ne_ (by omega), set_ne_ (by omega), set_ne_ (by omega), set_ne_ (by omega)]; exact h_9)⟩
        · intro p hp
          rw [set_ne_ (by omega), set_ne_ (by omega), set_ne_ (by omega), set_ne_ (by omega), set_ne_ (by omega), set_ne_ (by omega), set_ne_ (by omega), set_ne_ (by omega), set_ne_ (by omega), set_ne_ (by omega)]
          exact HO.out p (by omega)
    · obtain rfl : k = c := by omega
      clear hB
      go_wp2
      exact bodyPost_end (results_none rfl _ _ _) rfl ⟨rfl, cur', HB.out, HS.out, HI.out, HO.out, HG.out⟩
set_option maxHeartbeats 4000000 in
set_option maxRecDepth 100000 in
theorem stands_step (g n c : Nat) (m0 m1 m2 m3 m4 m5 m6 m7 m8 m9 b0 b1 b2 b3 b4 b5 b6 b7 b8 b9 : Int) (cur : Array Value) (w : World) (hk : Blk w g 104 cur) (hn : n ≤ c) (_hc : c * 10 ≤ cur.size) (hb : c ≤ 4611686018427387904)
    (h1 : ∀ i, 0 ≤ i → i < n → cur[i * 10]? = some (.int .u8 m0) ∧ cur[i * 10 + 1]? = some (.int .u8 m1) ∧ cur[i * 10 + 2]? = some (.int .u8 m2) ∧ cur[i * 10 + 3]? = some (.int .u8 m3) ∧ cur[i * 10 + 4]? = some (.int .u8 m4) ∧ cur[i * 10 + 5]? = some (.int .i64 m5) ∧ cur[i * 10 + 6]? = some (.int .i64 m6) ∧ cur[i * 10 + 7]? = some (.int .i64 m7) ∧ cur[i * 10 + 8]? = some (.int .i64 m8) ∧ cur[i * 10 + 9]? = some (.int .u64 m9)) (h2 : ∀ i, n ≤ i → i < c → cur[i * 10]? = some (.int .u8 b0) ∧ cur[i * 10 + 1]? = some (.int .u8 b1) ∧ cur[i * 10 + 2]? = some (.int .u8 b2) ∧ cur[i * 10 + 3]? = some (.int .u8 b3) ∧ cur[i * 10 + 4]? = some (.int .u8 b4) ∧ cur[i * 10 + 5]? = some (.int .i64 b5) ∧ cur[i * 10 + 6]? = some (.int .i64 b6) ∧ cur[i * 10 + 7]? = some (.int .i64 b7) ∧ cur[i * 10 + 8]? = some (.int .i64 b8) ∧ cur[i * 10 + 9]? = some (.int .u64 b9)) :
    Calls Tryz.prog 149 #[row_step (some ⟨g, 0, none⟩) n c m0 m1 m2 m3 m4 m5 m6 m7 m8 m9 b0 b1 b2 b3 b4 b5 b6 b7 b8 b9] w fun e w' => e = .returned (.bool true) ∧ Below w.heap.size w w' := by
  unfold row_step
  have K := Lib.hid (Blk.new w 106 #[.slice (some ⟨g, 0, none⟩) n c, .int .u8 m0, .int .u8 m1, .int .u8 m2, .int .u8 m3, .int .u8 m4, .int .i64 m5, .int .i64 m6, .int .i64 m7, .int .i64 m8, .int .u64 m9, .int .u8 b0, .int .u8 b1, .int .u8 b2, .int .u8 b3, .int .u8 b4, .int .i64 b5, .int .i64 b6, .int .i64 b7, .int .i64 b8, .int .u64 b9])
  have HK := Lib.hid (hk.alloc (.cells #[.slice (some ⟨g, 0, none⟩) n c, .int .u8 m0, .int .u8 m1, .int .u8 m2, .int .u8 m3, .int .u8 m4, .int .i64 m5, .int .i64 m6, .int .i64 m7, .int .i64 m8, .int .u64 m9, .int .u8 b0, .int .u8 b1, .int .u8 b2, .int .u8 b3, .int .u8 b4, .int .i64 b5, .int .i64 b6, .int .i64 b7, .int .i64 b8, .int .u64 b9] 106))
  have H1 := Lib.hid h1
  have H2 := Lib.hid h2
  have hn' : (n : Int) ≤ c := by omega
  have hb' : (c : Int) ≤ 4611686018427387904 := by omega
  have kx := K.out
  have x0 := kx.cell 0
  have x1 := kx.cell 1
  have x2 := kx.cell 2
  have x3 := kx.cell 3
  have x4 := kx.cell 4
  have x5 := kx.cell 5
  have x6 := kx.cell 6
  have x7 := kx.cell 7
  have x8 := kx.cell 8
  have x9 := kx.cell 9
  have x10 := kx.cell 10
  have x11 := kx.cell 11
  have x12 := kx.cell 12
  have x13 := kx.cell 13
  have x14 := kx.cell 14
  have x15 := kx.cell 15
  have x16 := kx.cell 16
  have x17 := kx.cell 17
  have x18 := kx.cell 18
  have x19 := kx.cell 19
  have x20 := kx.cell 20
  simp only [List.getElem?_toArray, List.getElem?_cons_zero, List.getElem?_cons_succ] at x0 x1 x2 x3 x4 x5 x6 x7 x8 x9 x10 x11 x12 x13 x14 x15 x16 x17 x18 x19 x20
  clear hk h1 h2 kx
  have hnm : ∀ W, (binOp .neq 104 (.agg #[.int .u8 m0, .int .u8 m1, .int .u8 m2, .int .u8 m3, .int .u8 m4, .int .i64 m5, .int .i64 m6, .int .i64 m7, .int .i64 m8, .int .u64 m9]) (.agg #[.int .u8 m0, .int .u8 m1, .int .u8 m2, .int .u8 m3, .int .u8 m4, .int .i64 m5, .int .i64 m6, .int .i64 m7, .int .i64 m8, .int .u64 m9])).run Tryz.prog W = .ok (.bool false) W := fun W => by rw [run_neq_step m0 m1 m2 m3 m4 m5 m6 m7 m8 m9 m0 m1 m2 m3 m4 m5 m6 m7 m8 m9 W]; simp
  have hnb : ∀ W, (binOp .neq 104 (.agg #[.int .u8 b0, .int .u8 b1, .int .u8 b2, .int .u8 b3, .int .u8 b4, .int .i64 b5, .int .i64 b6, .int .i64 b7, .int .i64 b8, .int .u64 b9]) (.agg #[.int .u8 b0, .int .u8 b1, .int .u8 b2, .int .u8 b3, .int .u8 b4, .int .i64 b5, .int .i64 b6, .int .i64 b7, .int .i64 b8, .int .u64 b9])).run Tryz.prog W = .ok (.bool false) W := fun W => by rw [run_neq_step b0 b1 b2 b3 b4 b5 b6 b7 b8 b9 b0 b1 b2 b3 b4 b5 b6 b7 b8 b9 W]; simp
  go_enter Tryz.func149, Tryz.ntmps149
  go_wp2_with fail
  go_loopg [4] c (fun q x wr => ∃ k m : Nat, k ≤ c ∧ q = c - k ∧ x = .int .i64 k ∧ wr = (w.alloc (.cells #[.slice (some ⟨g, 0, none⟩) n c, .int .u8 m0, .int .u8 m1, .int .u8 m2, .int .u8 m3, .int .u8 m4, .int .i64 m5, .int .i64 m6, .int .i64 m7, .int .i64 m8, .int .u64 m9, .int .u8 b0, .int .u8 b1, .int .u8 b2, .int .u8 b3, .int .u8 b4, .int .i64 b5, .int .i64 b6, .int .i64 b7, .int .i64 b8, .int .u64 b9] 106)).drewN m)
  case atStart => exact ⟨0, 0, Nat.zero_le _, rfl, rfl, rfl⟩
  case round =>
    obtain ⟨k, m, hk, rfl, rfl, rfl⟩ := hrel
    by_cases hkc : k < c
    · have hkc' : (k : Int) < c := by omega
      have hk0 : (0 : Int) ≤ k := by omega
      by_cases hkn : k < n
      · have hkn' : (k : Int) < n := by omega
        have hkn2 : ¬ (n : Int) ≤ k := by omega
        have hd1 : decide ((k : Int) < n) = true := decide_eq_true hkn'
        have hd2 : decide ((n : Int) ≤ k) = false := decide_eq_false hkn2
        have hd3 : decide (n ≤ k) = false := decide_eq_false (by omega)
        have hd4 : ¬ n ≤ k := by omega
        obtain ⟨h_0, h_1, h_2, h_3, h_4, h_5, h_6, h_7, h_8, h_9⟩ := H1.out k (Nat.zero_le _) hkn
        have y0 : (w.alloc (.cells #[.slice (some ⟨g, 0, none⟩) n c, .int .u8 m0, .int .u8 m1, .int .u8 m2, .int .u8 m3, .int .u8 m4, .int .i64 m5, .int .i64 m6, .int .i64 m7, .int .i64 m8, .int .u64 m9, .int .u8 b0, .int .u8 b1, .int .u8 b2, .int .u8 b3, .int .u8 b4, .int .i64 b5, .int .i64 b6, .int .i64 b7, .int .i64 b8, .int .u64 b9] 106)).cell? ⟨g, k * 10, none⟩ = some (.int .u8 m0) := by rw [HK.out.cell]; exact h_0
        have y1 : (w.alloc (.cells #[.slice (some ⟨g, 0, none⟩) n c, .int .u8 m0, .int .u8 m1, .int .u8 m2, .int .u8 m3, .int .u8 m4, .int .i64 m5, .int .i64 m6, .int .i64 m7, .int .i64 m8, .int .u64 m9, .int .u8 b0, .int .u8 b1, .int .u8 b2, .int .u8 b3, .int .u8 b4, .int .i64 b5, .int .i64 b6, .int .i64 b7, .int .i64 b8, .int .u64 b9] 106)).cell? ⟨g, k * 10 + 1, none⟩ = some (.int .u8 m1) := by rw [HK.out.cell]; exact h_1
        have y2 : (w.alloc (.cells #[.slice (some ⟨g, 0, none⟩) n c, .int .u8 m0, .int .u8 m1, .int .u8 m2, .int .u8 m3, .int .u8 m4, .int .i64 m5, .int .i64 m6, .int .i64 m7, .int .i64 m8, .int .u64 m9, .int .u8 b0, .int .u8 b1, .int .u8 b2, .int .u8 b3, .int .u8 b4, .int .i64 b5, .int .i64 b6, .int .i64 b7, .int .i64 b8, .int .u64 b9] 106)).cell? ⟨g, k * 10 + 2, none⟩ = some (.int .u8 m2) := by rw [HK.out.cell]; exact h_2
        have y3 : (w.alloc (.cells #[.slice (some ⟨g, 0, none⟩) n c, .int .u8 m0, .int .u8 m1, .int .u8 m2, .int .u8 m3, .int .u8 m4, .int .i64 m5, .int .i64 m6, .int .i64 m7, .int .i64 m8, .int .u64 m9, .int .u8 b0, .int .u8 b1, .int .u8 b2, .int .u8 b3, .int .u8 b4, .int .i64 b5, .int .i64 b6, .int .i64 b7, .int .i64 b8, .int .u64 b9] 106)).cell? ⟨g, k * 10 + 3, none⟩ = some (.int .u8 m3) := by rw [HK.out.cell]; exact h_3
        have y4 : (w.alloc (.cells #[.slice (some ⟨g, 0, none⟩) n c, .int .u8 m0, .int .u8 m1, .int .u8 m2, .int .u8 m3, .int .u8 m4, .int .i64 m5, .int .i64 m6, .int .i64 m7, .int .i64 m8, .int .u64 m9, .int .u8 b0, .int .u8 b1, .int .u8 b2, .int .u8 b3, .int .u8 b4, .int .i64 b5, .int .i64 b6, .int .i64 b7, .int .i64 b8, .int .u64 b9] 106)).cell? ⟨g, k * 10 + 4, none⟩ = some (.int .u8 m4) := by rw [HK.out.cell]; exact h_4
        have y5 : (w.alloc (.cells #[.slice (some ⟨g, 0, none⟩) n c, .int .u8 m0, .int .u8 m1, .int .u8 m2, .int .u8 m3, .int .u8 m4, .int .i64 m5, .int .i64 m6, .int .i64 m7, .int .i64 m8, .int .u64 m9, .int .u8 b0, .int .u8 b1, .int .u8 b2, .int .u8 b3, .int .u8 b4, .int .i64 b5, .int .i64 b6, .int .i64 b7, .int .i64 b8, .int .u64 b9] 106)).cell? ⟨g, k * 10 + 5, none⟩ = some (.int .i64 m5) := by rw [HK.out.cell]; exact h_5
        have y6 : (w.alloc (.cells #[.slice (some ⟨g, 0, none⟩) n c, .int .u8 m0, .int .u8 m1, .int .u8 m2, .int .u8 m3, .int .u8 m4, .int .i64 m5, .int .i64 m6, .int .i64 m7, .int .i64 m8, .int .u64 m9, .int .u8 b0, .int .u8 b1, .int .u8 b2, .int .u8 b3, .int .u8 b4, .int .i64 b5, .int .i64 b6, .int .i64 b7, .int .i64 b8, .int .u64 b9] 106)).cell? ⟨g, k * 10 + 6, none⟩ = some (.int .i64 m6) := by rw [HK.out.cell]; exact h_6
        have y7 : (w.alloc (.cells #[.slice (some ⟨g, 0, none⟩) n c, .int .u8 m0, .int .u8 m1, .int .u8 m2, .int .u8 m3, .int .u8 m4, .int .i64 m5, .int .i64 m6, .int .i64 m7, .int .i64 m8, .int .u64 m9, .int .u8 b0, .int .u8 b1, .int .u8 b2, .int .u8 b3, .int .u8 b4, .int .i64 b5, .int .i64 b6, .int .i64 b7, .int .i64 b8, .int .u64 b9] 106)).cell? ⟨g, k * 10 + 7, none⟩ = some (.int .i64 m7) := by rw [HK.out.cell]; exact h_7
        have y8 : (w.alloc (.cells #[.slice (some ⟨g, 0, none⟩) n c, .int .u8 m0, .int .u8 m1, .int .u8 m2, .int .u8 m3, .int .u8 m4, .int .i64 m5, .int .i64 m6, .int .i64 m7, .int .i64 m8, .int .u64 m9, .int .u8 b0, .int .u8 b1, .int .u8 b2, .int .u8 b3, .int .u8 b4, .int .i64 b5, .int .i64 b6, .int .i64 b7, .int .i64 b8, .int .u64 b9] 106)).cell? ⟨g, k * 10 + 8, none⟩ = some (.int .i64 m8) := by rw [HK.out.cell]; exact h_8
        have y9 : (w.alloc (.cells #[.slice (some ⟨g, 0, none⟩) n c, .int .u8 m0, .int .u8 m1, .int .u8 m2, .int .u8 m3, .int .u8 m4, .int .i64 m5, .int .i64 m6, .int .i64 m7, .int .i64 m8, .int .u64 m9, .int .u8 b0, .int .u8 b1, .int .u8 b2, .int .u8 b3, .int .u8 b4, .int .i64 b5, .int .i64 b6, .int .i64 b7, .int .i64 b8, .int .u64 b9] 106)).cell? ⟨g, k * 10 + 9, none⟩ = some (.int .u64 m9) := by rw [HK.out.cell]; exact h_9
        clear h_0 h_1 h_2 h_3 h_4 h_5 h_6 h_7 h_8 h_9
        go_wp2_with fail
        go_quiet (fail)
        go_wp2
        go_roundg (c - (k + 1))
        case measure => omega
        case rel => exact ⟨k + 1, _, by omega, rfl, by go_num, rfl⟩
      · have hkn' : ¬ (k : Int) < n := by omega
        have hkn2 : (n : Int) ≤ k := by omega
        have hd1 : decide ((k : Int) < n) = false := decide_eq_false hkn'
        have hd2 : decide ((n : Int) ≤ k) = true := decide_eq_true hkn2
        have hd3 : decide (n ≤ k) = true := decide_eq_true (by omega)
        have hd4 : n ≤ k := by omega
        obtain ⟨h_0, h_1, h_2, h_3, h_4, h_5, h_6, h_7, h_8, h_9⟩ := H2.out k (by omega) hkc
        have y0 : (w.alloc (.cells #[.slice (some ⟨g, 0, none⟩) n c, .int .u8 m0, .int .u8 m1, .int .u8 m2, .int .u8 m3, .int .u8 m4, .int .i64 m5, .int .i64 m6, .int .i64 m7, .int .i64 m8, .int .u64 m9, .int .u8 b0, .int .u8 b1, .int .u8 b2, .int .u8 b3, .int .u8 b4, .int .i64 b5, .int .i64 b6, .int .i64 b7, .int .i64 b8, .int .u64 b9] 106)).cell? ⟨g, k * 10, none⟩ = some (.int .u8 b0) := by rw [HK.out.cell]; exact h_0
        have y1 : (w.alloc (.cells #[.slice (some ⟨g, 0, none⟩) n c, .int .u8 m0, .int .u8 m1, .int .u8 m2, .int .u8 m3, .int .u8 m4, .int .i64 m5, .int .i64 m6, .int .i64 m7, .int .i64 m8, .int .u64 m9, .int .u8 b0, .int .u8 b1, .int .u8 b2, .int .u8 b3, .int .u8 b4, .int .i64 b5, .int .i64 b6, .int .i64 b7, .int .i64 b8, .int .u64 b9] 106)).cell? ⟨g, k * 10 + 1, none⟩ = some (.int .u8 b1) := by rw [HK.out.cell]; exact h_1
        have y2 : (w.alloc (.cells #[.slice (some ⟨g, 0, none⟩) n c, .int .u8 m0, .int .u8 m1, .int .u8 m2, .int .u8 m3, .int .u8 m4, .int .i64 m5, .int .i64 m6, .int .i64 m7, .int .i64 m8, .int .u64 m9, .int .u8 b0, .int .u8 b1, .int .u8 b2, .int .u8 b3, .int .u8 b4, .int .i64 b5, .int .i64 b6, .int .i64 b7, .int .i64 b8, .int .u64 b9] 106)).cell? ⟨g, k * 10 + 2, none⟩ = some (.int .u8 b2) := by rw [HK.out.cell]; exact h_2
        have y3 : (w.alloc (.cells #[.slice (some ⟨g, 0, none⟩) n c, .int .u8 m0, .int .u8 m1, .int .u8 m2, .int .u8 m3, .int .u8 m4, .int .i64 m5, .int .i64 m6, .int .i64 m7, .int .i64 m8, .int .u64 m9, .int .u8 b0, .int .u8 b1, .int .u8 b2, .int .u8 b3, .int .u8 b4, .int .i64 b5, .int .i64 b6, .int .i64 b7, .int .i64 b8, .int .u64 b9] 106)).cell? ⟨g, k * 10 + 3, none⟩ = some (.int .u8 b3) := by rw [HK.out.cell]; exact h_3
        have y4 : (w.alloc (.cells #[.slice (some ⟨g, 0, none⟩) n c, .int .u8 m0, .int .u8 m1, .int .u8 m2, .int .u8 m3, .int .u8 m4, .int .i64 m5, .int .i64 m6, .int .i64 m7, .int .i64 m8, .int .u64 m9, .int .u8 b0, .int .u8 b1, .int .u8 b2, .int .u8 b3, .int .u8 b4, .int .i64 b5, .int .i64 b6, .int .i64 b7, .int .i64 b8, .int .u64 b9] 106)).cell? ⟨g, k * 10 + 4, none⟩ = some (.int .u8 b4) := by rw [HK.out.cell]; exact h_4
        have y5 : (w.alloc (.cells #[.slice (some ⟨g, 0, none⟩) n c, .int .u8 m0, .int .u8 m1, .int .u8 m2, .int .u8 m3, .int .u8 m4, .int .i64 m5, .int .i64 m6, .int .i64 m7, .int .i64 m8, .int .u64 m9, .int .u8 b0, .int .u8 b1, .int .u8 b2, .int .u8 b3, .int .u8 b4, .int .i64 b5, .int .i64 b6, .int .i64 b7, .int .i64 b8, .int .u64 b9] 106)).cell? ⟨g, k * 10 + 5, none⟩ = some (.int .i64 b5) := by rw [HK.out.cell]; exact h_5
        have y6 : (w.alloc (.cells #[.slice (some ⟨g, 0, none⟩) n c, .int .u8 m0, .int .u8 m1, .int .u8 m2, .int .u8 m3, .int .u8 m4, .int .i64 m5, .int .i64 m6, .int .i64 m7, .int .i64 m8, .int .u64 m9, .int .u8 b0, .int .u8 b1, .int .u8 b2, .int .u8 b3, .int .u8 b4, .int .i64 b5, .int .i64 b6, .int .i64 b7, .int .i64 b8, .int .u64 b9] 106)).cell? ⟨g, k * 10 + 6, none⟩ = some (.int .i64 b6) := by rw [HK.out.cell]; exact h_6
        have y7 : (w.alloc (.cells #[.slice (some ⟨g, 0, none⟩) n c, .int .u8 m0, .int .u8 m1, .int .u8 m2, .int .u8 m3, .int .u8 m4, .int .i64 m5, .int .i64 m6, .int .i64 m7, .int .i64 m8, .int .u64 m9, .int .u8 b0, .int .u8 b1, .int .u8 b2, .int .u8 b3, .int .u8 b4, .int .i64 b5, .int .i64 b6, .int .i64 b7, .int .i64 b8, .int .u64 b9] 106)).cell? ⟨g, k * 10 + 7, none⟩ = some (.int .i64 b7) := by rw [HK.out.cell]; exact h_7
        have y8 : (w.alloc (.cells #[.slice (some ⟨g, 0, none⟩) n c, .int .u8 m0, .int .u8 m1, .int .u8 m2, .int .u8 m3, .int .u8 m4, .int .i64 m5, .int .i64 m6, .int .i64 m7, .int .i64 m8, .int .u64 m9, .int .u8 b0, .int .u8 b1, .int .u8 b2, .int .u8 b3, .int .u8 b4, .int .i64 b5, .int .i64 b6, .int .i64 b7, .int .i64 b8, .int .u64 b9] 106)).cell? ⟨g, k * 10 + 8, none⟩ = some (.int .i64 b8) := by rw [HK.out.cell]; exact h_8
        have y9 : (w.alloc (.cells #[.slice (some ⟨g, 0, none⟩) n c, .int .u8 m0, .int .u8 m1, .int .u8 m2, .int .u8 m3, .int .u8 m4, .int .i64 m5, .int .i64 m6, .int .i64 m7, .int .i64 m8, .int .u64 m9, .int .u8 b0, .int .u8 b1, .int .u8 b2, .int .u8 b3, .int .u8 b4, .int .i64 b5, .int .i64 b6, .int .i64 b7, .int .i64 b8, .int .u64 b9] 106)).cell? ⟨g, k * 10 + 9, none⟩ = some (.int .u64 b9) := by rw [HK.out.cell]; exact h_9
        clear h_0 h_1 h_2 h_3 h_4 h_5 h_6 h_7 h_8 h_9
        go_wp2_with fail
        go_quiet (fail)
        go_wp2
        go_roundg (c - (k + 1))
        case measure => omega
        case rel => exact ⟨k + 1, _, by omega, rfl, by go_num, rfl⟩
    · obtain rfl : c = k := by omega
      go_wp2
      go_ret
      exact ⟨rfl, (below_alloc_ w (.cells #[.slice (some ⟨g, 0, none⟩) n c, .int .u8 m0, .int .u8 m1, .int .u8 m2, .int .u8 m3, .int .u8 m4, .int .i64 m5, .int .i64 m6, .int .i64 m7, .int .i64 m8, .int .u64 m9, .int .u8 b0, .int .u8 b1, .int .u8 b2, .int .u8 b3, .int .u8 b4, .int .i64 b5, .int .i64 b6, .int .i64 b7, .int .i64 b8, .int .u64 b9] 106)).trans ((below_drewN_ (w.alloc (.cells #[.slice (some ⟨g, 0, none⟩) n c, .int .u8 m0, .int .u8 m1, .int .u8 m2, .int .u8 m3, .int .u8 m4, .int .i64 m5, .int .i64 m6, .int .i64 m7, .int .i64 m8, .int .u64 m9, .int .u8 b0, .int .u8 b1, .int .u8 b2, .int .u8 b3, .int .u8 b4, .int .i64 b5, .int .i64 b6, .int .i64 b7, .int .i64 b8, .int .u64 b9] 106)).heap.size _ _).mono (by simp))⟩
end Go.Proofs.YthjdkjinkmdclaaGreat

/- law01: a page (countinghouse/api.Got): written over, and behind; whether it stands. -/
namespace Go.Proofs.YthjdkjinkmdclaaGreat
open Go.RowKit

abbrev row_got (A : Option Addr) (n c : Nat) (m0 m1 b0 b1 : Int) : Value := .agg #[.slice A n c, .int .i64 m0, .int .i64 m1, .int .i64 b0, .int .i64 b1]
set_option maxHeartbeats 2000000 in
theorem write_got_none (m0 m1 b0 b1 : Int) (w : World) : Calls Tryz.prog 153 #[row_got none 0 0 m0 m1 b0 b1] w fun e w' => e = .returned (.tuple #[]) ∧ Below w.heap.size w w' := by
  unfold row_got
  go_enter Tryz.func153, Tryz.ntmps153
  go_wp2
  refine wp_loop_rounds 1 ?_
  rw [rounds_succ]
  go_wp2
  exact bodyPost_end (results_none rfl _ _ _) rfl ⟨rfl, below_alloc_ _ _⟩
set_option maxHeartbeats 2000000 in
theorem behind_got_none (m0 m1 b0 b1 : Int) (w : World) : Calls Tryz.prog 154 #[row_got none 0 0 m0 m1 b0 b1] w fun e w' => e = .returned (.tuple #[]) ∧ Below w.heap.size w w' := by
  unfold row_got
  go_enter Tryz.func154, Tryz.ntmps154
  go_wp2
  refine wp_loop_rounds 1 ?_
  rw [rounds_succ]
  go_wp2
  exact bodyPost_end (results_none rfl _ _ _) rfl ⟨rfl, below_alloc_ _ _⟩
set_option maxHeartbeats 2000000 in
theorem stands_got_none (m0 m1 b0 b1 : Int) (w : World) : Calls Tryz.prog 152 #[row_got none 0 0 m0 m1 b0 b1] w fun e w' => e = .returned (.bool true) ∧ Below w.heap.size w w' := by
  unfold row_got
  go_enter Tryz.func152, Tryz.ntmps152
  go_wp2
  refine wp_loop_rounds 1 ?_
  rw [rounds_succ]
  go_wp2
  go_ret
  exact ⟨rfl, below_alloc_ _ _⟩
set_option maxHeartbeats 4000000 in
set_option maxRecDepth 100000 in
theorem write_got (g n c : Nat) (m0 m1 b0 b1 : Int) (cur : Array Value) (w : World) (hk : Blk w g 108 cur) (hn : n ≤ c) (hc : c * 2 ≤ cur.size) (hb : c ≤ 4611686018427387904) :
    Calls Tryz.prog 153 #[row_got (some ⟨g, 0, none⟩) n c m0 m1 b0 b1] w fun e w' => e = .returned (.tuple #[]) ∧ ∃ cur', Blk w' g 108 cur' ∧ cur'.size = cur.size ∧ (∀ i, 0 ≤ i → i < n → cur'[i * 2]? = some (.int .i64 m0) ∧ cur'[i * 2 + 1]? = some (.int .i64 m1)) ∧ (∀ p, p < 0 ∨ n * 2 ≤ p → cur'[p]? = cur[p]?) ∧ w.grownBy w' (some g) := by
  unfold row_got
  have K := Lib.hid (Blk.new w 110 #[.slice (some ⟨g, 0, none⟩) n c, .int .i64 m0, .int .i64 m1, .int .i64 b0, .int .i64 b1])
  have HK := Lib.hid (hk.alloc (.cells #[.slice (some ⟨g, 0, none⟩) n c, .int .i64 m0, .int .i64 m1, .int .i64 b0, .int .i64 b1] 110))
  have hgl := hk.lt
  have hn' : (n : Int) ≤ c := by omega
  have hb' : (c : Int) ≤ 4611686018427387904 := by omega
  have G0 := Lib.hid (show w.grownBy _ (some g) from grown_below_ (below_alloc_ w (.cells #[.slice (some ⟨g, 0, none⟩) n c, .int .i64 m0, .int .i64 m1, .int .i64 b0, .int .i64 b1] 110)) (some g))
  clear hk
  go_enter Tryz.func153, Tryz.ntmps153
  go_wp2_with fail
  go_loopg [2] (n - 0) (fun q x wr => ∃ (k : Nat) (cur' : Array Value), 0 ≤ k ∧ k ≤ n ∧ q = n - k ∧ x = .int .i64 k ∧ Blk wr g 108 cur' ∧ cur'.size = cur.size ∧ (∀ i, 0 ≤ i → i < k → cur'[i * 2]? = some (.int .i64 m0) ∧ cur'[i * 2 + 1]? = some (.int .i64 m1)) ∧ (∀ p, p < 0 ∨ k * 2 ≤ p → cur'[p]? = cur[p]?) ∧ w.grownBy wr (some g) ∧ Blk wr w.heap.size 110 #[.slice (some ⟨g, 0, none⟩) n c, .int .i64 m0, .int .i64 m1, .int .i64 b0, .int .i64 b1])
  case atStart => exact ⟨0, cur, Nat.le_refl _, by omega, rfl, rfl, HK.out, rfl, fun i _ _ => by omega, fun _ _ => rfl, G0.out, K.out⟩
  case round =>
    obtain ⟨k, cur', hlk, hk, rfl, rfl, hB, hsz, hin, hot, hg, hbx⟩ := hrel
    have HB := Lib.hid hB
    have HI := Lib.hid hin
    have HO := Lib.hid hot
    have HG := Lib.hid hg
    have HX := Lib.hid hbx
    have HS := Lib.hid hsz
    have f := hB.free
    have x0 := hbx.cell 0
    have x1 := hbx.cell 1
    have x2 := hbx.cell 2
    have x3 := hbx.cell 3
    have x4 := hbx.cell 4
    simp only [List.getElem?_toArray, List.getElem?_cons_zero, List.getElem?_cons_succ] at x0 x1 x2 x3 x4
    clear hin hot hg hbx
    by_cases hkn : k < n
    · have hkn' : (k : Int) < n := by omega
      have hk0 : (0 : Int) ≤ k := by omega
      have hz0 : k * 2 < cur'.size := by omega
      have y0 : wr.cell? ⟨g, k * 2, none⟩ = some (cur'[k * 2]'hz0) := by rw [hB.cell]; simp [hz0]
      have hz1 : k * 2 + 1 < cur'.size := by omega
      have y1 : wr.cell? ⟨g, k * 2 + 1, none⟩ = some (cur'[k * 2 + 1]'hz1) := by rw [hB.cell]; simp [hz1]
      clear hB
      go_wp2
      go_roundg (n - (k + 1))
      case measure => omega
      case rel =>
        refine ⟨k + 1, ((cur'.setIfInBounds (k * 2) (.int .i64 m0)).setIfInBounds (k * 2 + 1) (.int .i64 m1)), by omega, by omega, rfl, by go_num, ((HB.out.set_ (k * 2) (.int .i64 m0)).set_ (k * 2 + 1) (.int .i64 m1)), by simp [HS.out], ?_, ?_, (grown_trans_ (grown_trans_ HG.out (grown_set_ wr g (k * 2) (.int .i64 m0))) (grown_set_ (wr.setCell ⟨g, k * 2, none⟩ (.int .i64 m0)) g (k * 2 + 1) (.int .i64 m1))), ((HX.out.far (p := ⟨g, k * 2, none⟩) (by simp; omega) _).far (p := ⟨g, k * 2 + 1, none⟩) (by simp; omega) _)⟩
        · intro i h1 h2
          by_cases hik : i = k
          · subst hik
            exact ⟨(by rw [set_ne_ (by omega), set_eq_ (by (try simp); omega)]), (by rw [set_eq_ (by (try simp); omega)])⟩
          · obtain ⟨h_0, h_1⟩ := HI.out i h1 (by omega)
            exact ⟨(by rw [set_ne_ (by omega), set_ne_ (by omega)]; exact h_0), (by rw [set_ne_ (by omega), set_ne_ (by omega)]; exact h_1)⟩
        · intro p hp
          rw [set_ne_ (by omega), set_ne_ (by omega)]
          exact HO.out p (by omega)
    · obtain rfl : k = n := by omega
      clear hB
      go_wp2
      exact bodyPost_end (results_none rfl _ _ _) rfl ⟨rfl, cur', HB.out, HS.out, HI.out, HO.out, HG.out⟩
set_option maxHeartbeats 4000000 in
set_option maxRecDepth 100000 in
theorem behind_got (g n c : Nat) (m0 m1 b0 b1 : Int) (cur : Array Value) (w : World) (hk : Blk w g 108 cur) (hn : n ≤ c) (hc : c * 2 ≤ cur.size) (hb : c ≤ 4611686018427387904) :
    Calls Tryz.prog 154 #[row_got (some ⟨g, 0, none⟩) n c m0 m1 b0 b1] w fun e w' => e = .returned (.tuple #[]) ∧ ∃ cur', Blk w' g 108 cur' ∧ cur'.size = cur.size ∧ (∀ i, n ≤ i → i < c → cur'[i * 2]? = some (.int .i64 b0) ∧ cur'[i * 2 + 1]? = some (.int .i64 b1)) ∧ (∀ p, p < n * 2 ∨ c * 2 ≤ p → cur'[p]? = cur[p]?) ∧ w.grownBy w' (some g) := by
  unfold row_got
  have K := Lib.hid (Blk.new w 110 #[.slice (some ⟨g, 0, none⟩) n c, .int .i64 m0, .int .i64 m1, .int .i64 b0, .int .i64 b1])
  have HK := Lib.hid (hk.alloc (.cells #[.slice (some ⟨g, 0, none⟩) n c, .int .i64 m0, .int .i64 m1, .int .i64 b0, .int .i64 b1] 110))
  have hgl := hk.lt
  have hn' : (n : Int) ≤ c := by omega
  have hb' : (c : Int) ≤ 4611686018427387904 := by omega
  have G0 := Lib.hid (show w.grownBy _ (some g) from grown_below_ (below_alloc_ w (.cells #[.slice (some ⟨g, 0, none⟩) n c, .int .i64 m0, .int .i64 m1, .int .i64 b0, .int .i64 b1] 110)) (some g))
  clear hk
  go_enter Tryz.func154, Tryz.ntmps154
  go_wp2_with fail
  go_loopg [3] (c - n) (fun q x wr => ∃ (k : Nat) (cur' : Array Value), n ≤ k ∧ k ≤ c ∧ q = c - k ∧ x = .int .i64 k ∧ Blk wr g 108 cur' ∧ cur'.size = cur.size ∧ (∀ i, n ≤ i → i < k → cur'[i * 2]? = some (.int .i64 b0) ∧ cur'[i * 2 + 1]? = some (.int .i64 b1)) ∧ (∀ p, p < n * 2 ∨ k * 2 ≤ p → cur'[p]? = cur[p]?) ∧ w.grownBy wr (some g) ∧ Blk wr w.heap.size 110 #[.slice (some ⟨g, 0, none⟩) n c, .int .i64 m0, .int .i64 m1, .int .i64 b0, .int .i64 b1])
  case atStart => exact ⟨n, cur, Nat.le_refl _, by omega, rfl, rfl, HK.out, rfl, fun i _ _ => by omega, fun _ _ => rfl, G0.out, K.out⟩
  case round =>
    obtain ⟨k, cur', hlk, hk, rfl, rfl, hB, hsz, hin, hot, hg, hbx⟩ := hrel
    have HB := Lib.hid hB
    have HI := Lib.hid hin
    have HO := Lib.hid hot
    have HG := Lib.hid hg
    have HX := Lib.hid hbx
    have HS := Lib.hid hsz
    have f := hB.free
    have x0 := hbx.cell 0
    have x1 := hbx.cell 1
    have x2 := hbx.cell 2
    have x3 := hbx.cell 3
    have x4 := hbx.cell 4
    simp only [List.getElem?_toArray, List.getElem?_cons_zero, List.getElem?_cons_succ] at x0 x1 x2 x3 x4
    clear hin hot hg hbx
    by_cases hkn : k < c
    · have hkn' : (k : Int) < c := by omega
      have hk0 : (0 : Int) ≤ k := by omega
      have hz0 : k * 2 < cur'.size := by omega
      have y0 : wr.cell? ⟨g, k * 2, none⟩ = some (cur'[k * 2]'hz0) := by rw [hB.cell]; simp [hz0]
      have hz1 : k * 2 + 1 < cur'.size := by omega
      have y1 : wr.cell? ⟨g, k * 2 + 1, none⟩ = some (cur'[k * 2 + 1]'hz1) := by rw [hB.cell]; simp [hz1]
      clear hB
      go_wp2
      go_roundg (c - (k + 1))
      case measure => omega
      case rel =>
        refine ⟨k + 1, ((cur'.setIfInBounds (k * 2) (.int .i64 b0)).setIfInBounds (k * 2 + 1) (.int .i64 b1)), by omega, by omega, rfl, by go_num, ((HB.out.set_ (k * 2) (.int .i64 b0)).set_ (k * 2 + 1) (.int .i64 b1)), by simp [HS.out], ?_, ?_, (grown_trans_ (grown_trans_ HG.out (grown_set_ wr g (k * 2) (.int .i64 b0))) (grown_set_ (wr.setCell ⟨g, k * 2, none⟩ (.int .i64 b0)) g (k * 2 + 1) (.int .i64 b1))), ((HX.out.far (p := ⟨g, k * 2, none⟩) (by simp; omega) _).far (p := ⟨g, k * 2 + 1, none⟩) (by simp; omega) _)⟩
        · intro i h1 h2
          by_cases hik : i = k
          · subst hik
            exact ⟨(by rw [set_ne_ (by omega), set_eq_ (by (try simp); omega)]), (by rw [set_eq_ (by (try simp); omega)])⟩
          · obtain ⟨h_0, h_1⟩ := HI.out i h1 (by omega)
            exact ⟨(by rw [set_ne_ (by omega), set_ne_ (by omega)]; exact h_0), (by rw [set_ne_ (by omega), set_ne_ (by omega)]; exact h_1)⟩
        · intro p hp
          rw [set_ne_ (by omega), set_ne_ (by omega)]
          exact HO.out p (by omega)
    · obtain rfl : k = c := by omega
      clear hB
      go_wp2
      exact bodyPost_end (results_none rfl _ _ _) rfl ⟨rfl, cur', HB.out, HS.out, HI.out, HO.out, HG.out⟩
set_option maxHeartbeats 4000000 in
set_option maxRecDepth 100000 in
theorem stands_got (g n c : Nat) (m0 m1 b0 b1 : Int) (cur : Array Value) (w : World) (hk : Blk w g 108 cur) (hn : n ≤ c) (_hc : c * 2 ≤ cur.size) (hb : c ≤ 4611686018427387904)
    (h1 : ∀ i, 0 ≤ i → i < n → cur[i * 2]? = some (.int .i64 m0) ∧ cur[i * 2 + 1]? = some (.int .i64 m1)) (h2 : ∀ i, n ≤ i → i < c → cur[i * 2]? = some (.int .i64 b0) ∧ cur[i * 2 + 1]? = some (.int .i64 b1)) :
    Calls Tryz.prog 152 #[row_got (some ⟨g, 0, none⟩) n c m0 m1 b0 b1] w fun e w' => e = .returned (.bool true) ∧ Below w.heap.size w w' := by
  unfold row_got
  have K := Lib.hid (Blk.new w 110 #[.slice (some ⟨g, 0, none⟩) n c, .int .i64 m0, .int .i64 m1, .int .i64 b0, .int .i64 b1])
  have HK := Lib.hid (hk.alloc (.cells #[.slice (some ⟨g, 0, none⟩) n c, .int .i64 m0, .int .i64 m1, .int .i64 b0, .int .i64 b1] 110))
  have H1 := Lib.hid h1
  have H2 := Lib.hid h2
  have hn' : (n : Int) ≤ c := by omega
  have hb' : (c : Int) ≤ 4611686018427387904 := by omega
  have kx := K.out
  have x0 := kx.cell 0
  have x1 := kx.cell 1
  have x2 := kx.cell 2
  have x3 := kx.cell 3
  have x4 := kx.cell 4
  simp only [List.getElem?_toArray, List.getElem?_cons_zero, List.getElem?_cons_succ] at x0 x1 x2 x3 x4
  clear hk h1 h2 kx
  have hnm : ∀ W, (binOp .neq 108 (.agg #[.int .i64 m0, .int .i64 m1]) (.agg #[.int .i64 m0, .int .i64 m1])).run Tryz.prog W = .ok (.bool false) W := fun W => by rw [run_neq_got m0 m1 m0 m1 W]; simp
  have hnb : ∀ W, (binOp .neq 108 (.agg #[.int .i64 b0, .int .i64 b1]) (.agg #[.int .i64 b0, .int .i64 b1])).run Tryz.prog W = .ok (.bool false) W := fun W => by rw [run_neq_got b0 b1 b0 b1 W]; simp
  go_enter Tryz.func152, Tryz.ntmps152
  go_wp2_with fail
  go_loopg [4] c (fun q x wr => ∃ k m : Nat, k ≤ c ∧ q = c - k ∧ x = .int .i64 k ∧ wr = (w.alloc (.cells #[.slice (some ⟨g, 0, none⟩) n c, .int .i64 m0, .int .i64 m1, .int .i64 b0, .int .i64 b1] 110)).drewN m)
  case atStart => exact ⟨0, 0, Nat.zero_le _, rfl, rfl, rfl⟩
  case round =>
    obtain ⟨k, m, hk, rfl, rfl, rfl⟩ := hrel
    by_cases hkc : k < c
    · have hkc' : (k : Int) < c := by omega
      have hk0 : (0 : Int) ≤ k := by omega
      by_cases hkn : k < n
      · have hkn' : (k : Int) < n := by omega
        have hkn2 : ¬ (n : Int) ≤ k := by omega
        have hd1 : decide ((k : Int) < n) = true := decide_eq_true hkn'
        have hd2 : decide ((n : Int) ≤ k) = false := decide_eq_false hkn2
        have hd3 : decide (n ≤ k) = false := decide_eq_false (by omega)
        have hd4 : ¬ n ≤ k := by omega
        obtain ⟨h_0, h_1⟩ := H1.out k (Nat.zero_le _) hkn
        have y0 : (w.alloc (.cells #[.slice (some ⟨g, 0, none⟩) n c, .int .i64 m0, .int .i64 m1, .int .i64 b0, .int .i64 b1] 110)).cell? ⟨g, k * 2, none⟩ = some (.int .i64 m0) := by rw [HK.out.cell]; exact h_0
        have y1 : (w.alloc (.cells #[.slice (some ⟨g, 0, none⟩) n c, .int .i64 m0, .int .i64 m1, .int .i64 b0, .int .i64 b1] 110)).cell? ⟨g, k * 2 + 1, none⟩ = some (.int .i64 m1) := by rw [HK.out.cell]; exact h_1
        clear h_0 h_1
        go_wp2_with fail
        go_quiet (fail)
        go_wp2
        go_roundg (c - (k + 1))
        case measure => omega
        case rel => exact ⟨k + 1, _, by omega, rfl, by go_num, rfl⟩
      · have hkn' : ¬ (k : Int) < n := by omega
        have hkn2 : (n : Int) ≤ k := by omega
        have hd1 : decide ((k : Int) < n) = false := decide_eq_false hkn'
        have hd2 : decide ((n : Int) ≤ k) = true := decide_eq_true hkn2
        have hd3 : decide (n ≤ k) = true := decide_eq_true (by omega)
        have hd4 : n ≤ k := by omega
        obtain ⟨h_0, h_1⟩ := H2.out k (by omega) hkc
        have y0 : (w.alloc (.cells #[.slice (some ⟨g, 0, none⟩) n c, .int .i64 m0, .int .i64 m1, .int .i64 b0, .int .i64 b1] 110)).cell? ⟨g, k * 2, none⟩ = some (.int .i64 b0) := by rw [HK.out.cell]; exact h_0
        have y1 : (w.alloc (.cells #[.slice (some ⟨g, 0, none⟩) n c, .int .i64 m0, .int .i64 m1, .int .i64 b0, .int .i64 b1] 110)).cell? ⟨g, k * 2 + 1, none⟩ = some (.int .i64 b1) := by rw [HK.out.cell]; exact h_1
        clear h_0 h_1
        go_wp2_with fail
        go_quiet (fail)
        go_wp2
        go_roundg (c - (k + 1))
        case measure => omega
        case rel => exact ⟨k + 1, _, by omega, rfl, by go_num, rfl⟩
    · obtain rfl : c = k := by omega
      go_wp2
      go_ret
      exact ⟨rfl, (below_alloc_ w (.cells #[.slice (some ⟨g, 0, none⟩) n c, .int .i64 m0, .int .i64 m1, .int .i64 b0, .int .i64 b1] 110)).trans ((below_drewN_ (w.alloc (.cells #[.slice (some ⟨g, 0, none⟩) n c, .int .i64 m0, .int .i64 m1, .int .i64 b0, .int .i64 b1] 110)).heap.size _ _).mono (by simp))⟩
end Go.Proofs.YthjdkjinkmdclaaGreat

/- law01: a book of pages: Apart. -/
namespace Go.Proofs.YthjdkjinkmdclaaGreat
open Go.RowKit

/-- A page: its kind, where it lies, its mark, and the mark of what stands behind it. -/
structure Pg where
  kd : Nat
  lie : Option (Nat × Nat × Nat)
  m : List Int
  b : List Int
def slOf : Option (Nat × Nat × Nat) → Value
  | none => .slice none 0 0
  | some (g, n, c) => .slice (some ⟨g, 0, none⟩) n c
def bkOf : Option (Nat × Nat × Nat) → Option Nat
  | none => none
  | some (g, _, _) => some g
def kT : Nat → TypeId | 0 => 79 | 1 => 106 | _ => 110
def kE : Nat → TypeId | 0 => 5 | 1 => 104 | _ => 108
def kK : Nat → List IntKind | 0 => [.u8] | 1 => stepK | _ => gotK
def Pg.ifc (p : Pg) : Value := .iface (kT p.kd) (.agg (slOf p.lie :: (fc (kK p.kd) p.m ++ fc (kK p.kd) p.b)).toArray)
/-- Page p lies in the world w; where a holds its rows bear its mark, where b holds what is behind them the other one. -/
def Pg.In (p : Pg) (w : World) (a b : Prop) : Prop := match p.lie with
  | none => True
  | some (g, n, c) => ∃ cur, Blk w g (kE p.kd) cur ∧ n ≤ c ∧ c * (kK p.kd).length ≤ cur.size ∧ c ≤ 4611686018427387904 ∧
      (a → ∀ i, i < n → ∀ j u, (fc (kK p.kd) p.m)[j]? = some u → cur[i * (kK p.kd).length + j]? = some u) ∧ (b → ∀ i, n ≤ i → i < c → ∀ j u, (fc (kK p.kd) p.b)[j]? = some u → cur[i * (kK p.kd).length + j]? = some u)
def Pg.ok (p : Pg) : Prop := p.kd < 3 ∧ p.m.length = (kK p.kd).length ∧ p.b.length = (kK p.kd).length
theorem kE_page (k : Nat) : 81 ≠ kE k := by unfold kE; split <;> decide
theorem kE_book (k : Nat) : 50 ≠ kE k := by unfold kE; split <;> decide
theorem Pg.In.mono {p : Pg} {w : World} {a b a' b' : Prop} (h : p.In w a b) (ha : a' → a) (hb : b' → b) : p.In w a' b' := by
  obtain ⟨kd, lie, m, b0⟩ := p
  match lie, h with
  | none, _ => trivial
  | some (g, n, c), ⟨cur, hk, h1, h2, h3, h4, h5⟩ => exact ⟨cur, hk, h1, h2, h3, fun x => h4 (ha x), fun x => h5 (hb x)⟩
theorem Pg.In.grown {p : Pg} {w w' : World} {a b : Prop} {r : Option Nat} (h : p.In w a b) (hg : w.grownBy w' r) (hne : ∀ g, bkOf p.lie = some g → some g ≠ r) : p.In w' a b := by
  obtain ⟨kd, lie, m, b0⟩ := p
  match lie, h with
  | none, _ => trivial
  | some (g, n, c), ⟨cur, hk, h1⟩ => exact ⟨cur, hk.grown hg (hne g rfl), h1⟩
theorem Pg.In.keepBlk {p : Pg} {w w' : World} {a b : Prop} (h : p.In w a b) (hg : w.grownBy w' (bkOf p.lie)) {g' t : Nat} {cs : Array Value} (hk : Blk w g' t cs) (hne : t ≠ kE p.kd) : Blk w' g' t cs := by
  obtain ⟨kd, lie, m, b0⟩ := p
  match lie, h with
  | none, _ => exact hk.grown hg (by simp [bkOf])
  | some (g, n, c), ⟨cur, hb, _⟩ => exact hk.grown hg (fun e => hk.ne_ hb hne (Option.some.inj e))
theorem Pg.In.keepOw {p : Pg} {w w' : World} {a b : Prop} (h : p.In w a b) (hg : w.grownBy w' (bkOf p.lie)) {B e size n : Nat} {v : Value} {xs : List Value} (ho : Ow B w e size v n xs) (hne : e ≠ kE p.kd) : Ow B w' e size v n xs := by
  rcases ho with ho | ⟨g', c, cur, rfl, hB, hk, hr⟩
  · exact .inl ho
  · exact .inr ⟨g', c, cur, rfl, hB, h.keepBlk hg hk hne, hr⟩
theorem Ow.cell1 {B : Nat} {w : World} {e : TypeId} {v : Value} {xs : List Value} {n : Nat} (h : Ow B w e 1 v n xs) (k : Nat) (hk : k < xs.length) : ∃ g c, v = .slice (some ⟨g, 0, none⟩) n c ∧ n ≤ c ∧ w.cell? ⟨g, k, none⟩ = some xs[k] := by
  rcases h with ⟨_, _, rfl⟩ | ⟨g, c, cur, rfl, _, hg, hc, hl, _, ht⟩
  · simp at hk
  · refine ⟨g, c, rfl, hc, ?_⟩
    rw [hg.cell]
    have h1 : (cur.toList.take (n * 1))[k]? = some xs[k] := by rw [ht]; simp [hk]
    rw [List.getElem?_take, if_pos (by omega)] at h1
    simpa using h1
/-- The book's pages, some of them written. -/
structure St (ps : List Pg) (kb : Nat) (pv : Value) (B : Nat) (W w : World) (s t : Nat) : Prop where
  bk : Blk w kb 50 #[pv]
  ow : Ow 0 w 81 1 pv ps.length (ps.map Pg.ifc)
  bel : Below B W w
  le : B ≤ w.heap.size
  pgs : ∀ i (h : i < ps.length), (ps[i]).In w (i < s) (i < t)
theorem St.step {ps : List Pg} {kb : Nat} {pv : Value} {B : Nat} {W w w' : World} {s t s' t' : Nat} (h : St ps kb pv B W w s t) (hd : ∀ i j (hi : i < ps.length) (hj : j < ps.length), i ≠ j → ∀ g, bkOf (ps[i]).lie = some g → bkOf (ps[j]).lie ≠ some g) (hge : ∀ p ∈ ps, ∀ g, bkOf p.lie = some g → B ≤ g)
    (k : Nat) (hk : k < ps.length) (hg : w.grownBy w' (bkOf (ps[k]).lie)) (hin : (ps[k]).In w' (k < s') (k < t')) (m1 : ∀ i, i ≠ k → i < s' → i < s) (m2 : ∀ i, i ≠ k → i < t' → i < t) : St ps kb pv B W w' s' t' where
  bk := (h.pgs k hk).keepBlk hg h.bk (kE_book _)
  ow := (h.pgs k hk).keepOw hg h.ow (kE_page _)
  bel := h.bel.grown hg h.le (fun g hgg => hge _ (List.getElem_mem hk) g hgg)
  le := Nat.le_trans h.le hg.size
  pgs := fun i hi => by
    by_cases e : i = k
    · subst e; exact hin
    · exact ((h.pgs i hi).grown hg (fun g hgg he => hd i k hi hk e g hgg he.symm)).mono (m1 i e) (m2 i e)
theorem pgwr_byte (a : Option (Nat × Nat × Nat)) (m0 b0 : Int) (w : World) (h : (⟨0, a, [m0], [b0]⟩ : Pg).In w False False) :
    Calls Tryz.prog 114 #[.agg #[slOf a, .int .u8 m0, .int .u8 b0]] w fun e w' => e = .returned (.tuple #[]) ∧ (⟨0, a, [m0], [b0]⟩ : Pg).In w' True False ∧ w.grownBy w' (bkOf a) := by
  match a, h with
  | none, _ => exact (write_byte_none m0 b0 w).mono fun _ _ hh => ⟨hh.1, trivial, grown_below_ hh.2 _⟩
  | some (g, n, c), ⟨cur, hk, h1, h2, h3, h4, h5⟩ =>
    refine (write_byte g n c m0 b0 cur w hk h1 (by simpa [kK] using h2) h3).mono ?_
    rintro e w' ⟨he, cur', q0, qs, q1, q2, hg⟩
    exact ⟨he, ⟨cur', q0, h1, by rw [qs]; exact h2, h3, fun _ i hi => fun j u hj => by match j, hj with | 0, hj => (simp [kK, fc] at hj; subst hj; simpa [kK] using (q1 i (Nat.zero_le _) hi)) | (_ + 1), hj => (simp [kK, fc] at hj), fun x => x.elim⟩, hg⟩
theorem pgbe_byte (a : Option (Nat × Nat × Nat)) (m0 b0 : Int) (w : World) (h : (⟨0, a, [m0], [b0]⟩ : Pg).In w True False) :
    Calls Tryz.prog 115 #[.agg #[slOf a, .int .u8 m0, .int .u8 b0]] w fun e w' => e = .returned (.tuple #[]) ∧ (⟨0, a, [m0], [b0]⟩ : Pg).In w' True True ∧ w.grownBy w' (bkOf a) := by
  match a, h with
  | none, _ => exact (behind_byte_none m0 b0 w).mono fun _ _ hh => ⟨hh.1, trivial, grown_below_ hh.2 _⟩
  | some (g, n, c), ⟨cur, hk, h1, h2, h3, h4, h5⟩ =>
    refine (behind_byte g n c m0 b0 cur w hk h1 (by simpa [kK] using h2) h3).mono ?_
    rintro e w' ⟨he, cur', q0, qs, q1, q2, hg⟩
    exact ⟨he, ⟨cur', q0, h1, by rw [qs]; exact h2, h3, (by
      intro _ i hi j u hj
      have h := h4 trivial i hi j u hj
      have hj2 : j < 1 := by
        rcases Nat.lt_or_ge j 1 with h | h
        · exact h
        · exfalso
          rw [List.getElem?_eq_none (by simpa [kK, fc] using h)] at hj
          cases hj
      have hs : (kK 0).length = 1 := rfl
      simp only [hs] at h ⊢
      rw [q2 _ (.inl (by omega))]
      exact h), fun _ i hi1 hi2 => fun j u hj => by match j, hj with | 0, hj => (simp [kK, fc] at hj; subst hj; simpa [kK] using (q1 i hi1 hi2)) | (_ + 1), hj => (simp [kK, fc] at hj)⟩, hg⟩
theorem pgst_byte (a : Option (Nat × Nat × Nat)) (m0 b0 : Int) (w : World) (h : (⟨0, a, [m0], [b0]⟩ : Pg).In w True True) :
    Calls Tryz.prog 113 #[.agg #[slOf a, .int .u8 m0, .int .u8 b0]] w fun e w' => e = .returned (.bool true) ∧ Below w.heap.size w w' := by
  match a, h with
  | none, _ => exact stands_byte_none m0 b0 w
  | some (g, n, c), ⟨cur, hk, h1, h2, h3, h4, h5⟩ =>
    exact stands_byte g n c m0 b0 cur w hk h1 (by simpa [kK] using h2) h3 (fun i _ hi => by have := h4 trivial i hi 0 _ rfl; simpa [kK] using this) (fun i hi1 hi2 => by have := h5 trivial i hi1 hi2 0 _ rfl; simpa [kK] using this)
theorem pgwr_step (a : Option (Nat × Nat × Nat)) (m0 m1 m2 m3 m4 m5 m6 m7 m8 m9 b0 b1 b2 b3 b4 b5 b6 b7 b8 b9 : Int) (w : World) (h : (⟨1, a, [m0, m1, m2, m3, m4, m5, m6, m7, m8, m9], [b0, b1, b2, b3, b4, b5, b6, b7, b8, b9]⟩ : Pg).In w False False) :
    Calls Tryz.prog 150 #[.agg #[slOf a, .int .u8 m0, .int .u8 m1, .int .u8 m2, .int .u8 m3, .int .u8 m4, .int .i64 m5, .int .i64 m6, .int .i64 m7, .int .i64 m8, .int .u64 m9, .int .u8 b0, .int .u8 b1, .int .u8 b2, .int .u8 b3, .int .u8 b4, .int .i64 b5, .int .i64 b6, .int .i64 b7, .int .i64 b8, .int .u64 b9]] w fun e w' => e = .returned (.tuple #[]) ∧ (⟨1, a, [m0, m1, m2, m3, m4, m5, m6, m7, m8, m9], [b0, b1, b2, b3, b4, b5, b6, b7, b8, b9]⟩ : Pg).In w' True False ∧ w.grownBy w' (bkOf a) := by
  match a, h with
  | none, _ => exact (write_step_none m0 m1 m2 m3 m4 m5 m6 m7 m8 m9 b0 b1 b2 b3 b4 b5 b6 b7 b8 b9 w).mono fun _ _ hh => ⟨hh.1, trivial, grown_below_ hh.2 _⟩
  | some (g, n, c), ⟨cur, hk, h1, h2, h3, h4, h5⟩ =>
    refine (write_step g n c m0 m1 m2 m3 m4 m5 m6 m7 m8 m9 b0 b1 b2 b3 b4 b5 b6 b7 b8 b9 cur w hk h1 (by simpa [kK, stepK] using h2) h3).mono ?_
    rintro e w' ⟨he, cur', q0, qs, q1, q2, hg⟩
    exact ⟨he, ⟨cur', q0, h1, by rw [qs]; exact h2, h3, fun _ i hi => fun j u hj => by
            match j, hj with
            | 0, hj => (obtain rfl : _ = u := by simpa [kK, stepK, fc] using hj); simpa [kK, stepK] using ((q1 i (Nat.zero_le _) hi)).1
            | 1, hj => (obtain rfl : _ = u := by simpa [kK, stepK, fc] using hj); simpa [kK, stepK] using ((q1 i (Nat.zero_le _) hi)).2.1
            | 2, hj => (obtain rfl : _ = u := by simpa [kK, stepK, fc] using hj); simpa [kK, stepK] using ((q1 i (Nat.zero_le _) hi)).2.2.1
            | 3, hj => (obtain rfl : _ = u := by simpa [kK, stepK, fc] using hj); simpa [kK, stepK] using ((q1 i (Nat.zero_le _) hi)).2.2.2.1
            | 4, hj => (obtain rfl : _ = u := by simpa [kK, stepK, fc] using hj); simpa [kK, stepK] using ((q1 i (Nat.zero_le _) hi)).2.2.2.2.1
            | 5, hj => (obtain rfl : _ = u := by simpa [kK, stepK, fc] using hj); simpa [kK, stepK] using ((q1 i (Nat.zero_le _) hi)).2.2.2.2.2.1
            | 6, hj => (obtain rfl : _ = u := by simpa [kK, stepK, fc] using hj); simpa [kK, stepK] using ((q1 i (Nat.zero_le _) hi)).2.2.2.2.2.2.1
            | 7, hj => (obtain rfl : _ = u := by simpa [kK, stepK, fc] using hj); simpa [kK, stepK] using ((q1 i (Nat.zero_le _) hi)).2.2.2.2.2.2.2.1
            | 8, hj => (obtain rfl : _ = u := by simpa [kK, stepK, fc] using hj); simpa [kK, stepK] using ((q1 i (Nat.zero_le _) hi)).2.2.2.2.2.2.2.2.1
            | 9, hj => (obtain rfl : _ = u := by simpa [kK, stepK, fc] using hj); simpa [kK, stepK] using ((q1 i (Nat.zero_le _) hi)).2.2.2.2.2.2.2.2.2
            | (_ + 10), hj => simp [kK, stepK, fc] at hj, fun x => x.elim⟩, hg⟩
theorem pgbe_step (a : Option (Nat × Nat × Nat)) (m0 m1 m2 m3 m4 m5 m6 m7 m8 m9 b0 b1 b2 b3 b4 b5 b6 b7 b8 b9 : Int) (w : World) (h : (⟨1, a, [m0, m1, m2, m3, m4, m5, m6, m7, m8, m9], [b0, b1, b2, b3, b4, b5, b6, b7, b8, b9]⟩ : Pg).In w True False) :
    Calls Tryz.prog 151 #[.agg #[slOf a, .int .u8 m0, .int .u8 m1, .int .u8 m2, .int .u8 m3, .int .u8 m4, .int .i64 m5, .int .i64 m6, .int .i64 m7, .int .i64 m8, .int .u64 m9, .int .u8 b0, .int .u8 b1, .int .u8 b2, .int .u8 b3, .int .u8 b4, .int .i64 b5, .int .i64 b6, .int .i64 b7, .int .i64 b8, .int .u64 b9]] w fun e w' => e = .returned (.tuple #[]) ∧ (⟨1, a, [m0, m1, m2, m3, m4, m5, m6, m7, m8, m9], [b0, b1, b2, b3, b4, b5, b6, b7, b8, b9]⟩ : Pg).In w' True True ∧ w.grownBy w' (bkOf a) := by
  match a, h with
  | none, _ => exact (behind_step_none m0 m1 m2 m3 m4 m5 m6 m7 m8 m9 b0 b1 b2 b3 b4 b5 b6 b7 b8 b9 w).mono fun _ _ hh => ⟨hh.1, trivial, grown_below_ hh.2 _⟩
  | some (g, n, c), ⟨cur, hk, h1, h2, h3, h4, h5⟩ =>
    refine (behind_step g n c m0 m1 m2 m3 m4 m5 m6 m7 m8 m9 b0 b1 b2 b3 b4 b5 b6 b7 b8 b9 cur w hk h1 (by simpa [kK, stepK] using h2) h3).mono ?_
    rintro e w' ⟨he, cur', q0, qs, q1, q2, hg⟩
    exact ⟨he, ⟨cur', q0, h1, by rw [qs]; exact h2, h3, (by
      intro _ i hi j u hj
      have h := h4 trivial i hi j u hj
      have hj2 : j < 10 := by
        rcases Nat.lt_or_ge j 10 with h | h
        · exact h
        · exfalso
          rw [List.getElem?_eq_none (by simpa [kK, stepK, fc] using h)] at hj
          cases hj
      have hs : (kK 1).length = 10 := rfl
      simp only [hs] at h ⊢
      rw [q2 _ (.inl (by omega))]
      exact h), fun _ i hi1 hi2 => fun j u hj => by
            match j, hj with
            | 0, hj => (obtain rfl : _ = u := by simpa [kK, stepK, fc] using hj); simpa [kK, stepK] using ((q1 i hi1 hi2)).1
            | 1, hj => (obtain rfl : _ = u := by simpa [kK, stepK, fc] using hj); simpa [kK, stepK] using ((q1 i hi1 hi2)).2.1
            | 2, hj => (obtain rfl : _ = u := by simpa [kK, stepK, fc] using hj); simpa [kK, stepK] using ((q1 i hi1 hi2)).2.2.1
            | 3, hj => (obtain rfl : _ = u := by simpa [kK, stepK, fc] using hj); simpa [kK, stepK] using ((q1 i hi1 hi2)).2.2.2.1
            | 4, hj => (obtain rfl : _ = u := by simpa [kK, stepK, fc] using hj); simpa [kK, stepK] using ((q1 i hi1 hi2)).2.2.2.2.1
            | 5, hj => (obtain rfl : _ = u := by simpa [kK, stepK, fc] using hj); simpa [kK, stepK] using ((q1 i hi1 hi2)).2.2.2.2.2.1
            | 6, hj => (obtain rfl : _ = u := by simpa [kK, stepK, fc] using hj); simpa [kK, stepK] using ((q1 i hi1 hi2)).2.2.2.2.2.2.1
            | 7, hj => (obtain rfl : _ = u := by simpa [kK, stepK, fc] using hj); simpa [kK, stepK] using ((q1 i hi1 hi2)).2.2.2.2.2.2.2.1
            | 8, hj => (obtain rfl : _ = u := by simpa [kK, stepK, fc] using hj); simpa [kK, stepK] using ((q1 i hi1 hi2)).2.2.2.2.2.2.2.2.1
            | 9, hj => (obtain rfl : _ = u := by simpa [kK, stepK, fc] using hj); simpa [kK, stepK] using ((q1 i hi1 hi2)).2.2.2.2.2.2.2.2.2
            | (_ + 10), hj => simp [kK, stepK, fc] at hj⟩, hg⟩
theorem pgst_step (a : Option (Nat × Nat × Nat)) (m0 m1 m2 m3 m4 m5 m6 m7 m8 m9 b0 b1 b2 b3 b4 b5 b6 b7 b8 b9 : Int) (w : World) (h : (⟨1, a, [m0, m1, m2, m3, m4, m5, m6, m7, m8, m9], [b0, b1, b2, b3, b4, b5, b6, b7, b8, b9]⟩ : Pg).In w True True) :
    Calls Tryz.prog 149 #[.agg #[slOf a, .int .u8 m0, .int .u8 m1, .int .u8 m2, .int .u8 m3, .int .u8 m4, .int .i64 m5, .int .i64 m6, .int .i64 m7, .int .i64 m8, .int .u64 m9, .int .u8 b0, .int .u8 b1, .int .u8 b2, .int .u8 b3, .int .u8 b4, .int .i64 b5, .int .i64 b6, .int .i64 b7, .int .i64 b8, .int .u64 b9]] w fun e w' => e = .returned (.bool true) ∧ Below w.heap.size w w' := by
  match a, h with
  | none, _ => exact stands_step_none m0 m1 m2 m3 m4 m5 m6 m7 m8 m9 b0 b1 b2 b3 b4 b5 b6 b7 b8 b9 w
  | some (g, n, c), ⟨cur, hk, h1, h2, h3, h4, h5⟩ =>
    exact stands_step g n c m0 m1 m2 m3 m4 m5 m6 m7 m8 m9 b0 b1 b2 b3 b4 b5 b6 b7 b8 b9 cur w hk h1 (by simpa [kK, stepK] using h2) h3 (fun i _ hi => ⟨by have := h4 trivial i hi 0 _ rfl; simpa [kK, stepK] using this, by have := h4 trivial i hi 1 _ rfl; simpa [kK, stepK] using this, by have := h4 trivial i hi 2 _ rfl; simpa [kK, stepK] using this, by have := h4 trivial i hi 3 _ rfl; simpa [kK, stepK] using this, by have := h4 trivial i hi 4 _ rfl; simpa [kK, stepK] using this, by have := h4 trivial i hi 5 _ rfl; simpa [kK, stepK] using this, by have := h4 trivial i hi 6 _ rfl; simpa [kK, stepK] using this, by have := h4 trivial i hi 7 _ rfl; simpa [kK, stepK] using this, by have := h4 trivial i hi 8 _ rfl; simpa [kK, stepK] using this, by have := h4 trivial i hi 9 _ rfl; simpa [kK, stepK] using this⟩) (fun i hi1 hi2 => ⟨by have := h5 trivial i hi1 hi2 0 _ rfl; simpa [kK, stepK] using this, by have := h5 trivial i hi1 hi2 1 _ rfl; simpa [kK, stepK] using this, by have := h5 trivial i hi1 hi2 2 _ rfl; simpa [kK, stepK] using this, by have := h5 trivial i hi1 hi2 3 _ rfl; simpa [kK, stepK] using this, by have := h5 trivial i hi1 hi2 4 _ rfl; simpa [kK, stepK] using this, by have := h5 trivial i hi1 hi2 5 _ rfl; simpa [kK, stepK] using this, by have := h5 trivial i hi1 hi2 6 _ rfl; simpa [kK, stepK] using this, by have := h5 trivial i hi1 hi2 7 _ rfl; simpa [kK, stepK] using this, by have := h5 trivial i hi1 hi2 8 _ rfl; simpa [kK, stepK] using this, by have := h5 trivial i hi1 hi2 9 _ rfl; simpa [kK, stepK] using this⟩)
theorem pgwr_got (a : Option (Nat × Nat × Nat)) (m0 m1 b0 b1 : Int) (w : World) (h : (⟨2, a, [m0, m1], [b0, b1]⟩ : Pg).In w False False) :
    Calls Tryz.prog 153 #[.agg #[slOf a, .int .i64 m0, .int .i64 m1, .int .i64 b0, .int .i64 b1]] w fun e w' => e = .returned (.tuple #[]) ∧ (⟨2, a, [m0, m1], [b0, b1]⟩ : Pg).In w' True False ∧ w.grownBy w' (bkOf a) := by
  match a, h with
  | none, _ => exact (write_got_none m0 m1 b0 b1 w).mono fun _ _ hh => ⟨hh.1, trivial, grown_below_ hh.2 _⟩
  | some (g, n, c), ⟨cur, hk, h1, h2, h3, h4, h5⟩ =>
    refine (write_got g n c m0 m1 b0 b1 cur w hk h1 (by simpa [kK, gotK] using h2) h3).mono ?_
    rintro e w' ⟨he, cur', q0, qs, q1, q2, hg⟩
    exact ⟨he, ⟨cur', q0, h1, by rw [qs]; exact h2, h3, fun _ i hi => fun j u hj => by
            match j, hj with
            | 0, hj => (obtain rfl : _ = u := by simpa [kK, gotK, fc] using hj); simpa [kK, gotK] using ((q1 i (Nat.zero_le _) hi)).1
            | 1, hj => (obtain rfl : _ = u := by simpa [kK, gotK, fc] using hj); simpa [kK, gotK] using ((q1 i (Nat.zero_le _) hi)).2
            | (_ + 2), hj => simp [kK, gotK, fc] at hj, fun x => x.elim⟩, hg⟩
theorem pgbe_got (a : Option (Nat × Nat × Nat)) (m0 m1 b0 b1 : Int) (w : World) (h : (⟨2, a, [m0, m1], [b0, b1]⟩ : Pg).In w True False) :
    Calls Tryz.prog 154 #[.agg #[slOf a, .int .i64 m0, .int .i64 m1, .int .i64 b0, .int .i64 b1]] w fun e w' => e = .returned (.tuple #[]) ∧ (⟨2, a, [m0, m1], [b0, b1]⟩ : Pg).In w' True True ∧ w.grownBy w' (bkOf a) := by
  match a, h with
  | none, _ => exact (behind_got_none m0 m1 b0 b1 w).mono fun _ _ hh => ⟨hh.1, trivial, grown_below_ hh.2 _⟩
  | some (g, n, c), ⟨cur, hk, h1, h2, h3, h4, h5⟩ =>
    refine (behind_got g n c m0 m1 b0 b1 cur w hk h1 (by simpa [kK, gotK] using h2) h3).mono ?_
    rintro e w' ⟨he, cur', q0, qs, q1, q2, hg⟩
    exact ⟨he, ⟨cur', q0, h1, by rw [qs]; exact h2, h3, (by
      intro _ i hi j u hj
      have h := h4 trivial i hi j u hj
      have hj2 : j < 2 := by
        rcases Nat.lt_or_ge j 2 with h | h
        · exact h
        · exfalso
          rw [List.getElem?_eq_none (by simpa [kK, gotK, fc] using h)] at hj
          cases hj
      have hs : (kK 2).length = 2 := rfl
      simp only [hs] at h ⊢
      rw [q2 _ (.inl (by omega))]
      exact h), fun _ i hi1 hi2 => fun j u hj => by
            match j, hj with
            | 0, hj => (obtain rfl : _ = u := by simpa [kK, gotK, fc] using hj); simpa [kK, gotK] using ((q1 i hi1 hi2)).1
            | 1, hj => (obtain rfl : _ = u := by simpa [kK, gotK, fc] using hj); simpa [kK, gotK] using ((q1 i hi1 hi2)).2
            | (_ + 2), hj => simp [kK, gotK, fc] at hj⟩, hg⟩
theorem pgst_got (a : Option (Nat × Nat × Nat)) (m0 m1 b0 b1 : Int) (w : World) (h : (⟨2, a, [m0, m1], [b0, b1]⟩ : Pg).In w True True) :
    Calls Tryz.prog 152 #[.agg #[slOf a, .int .i64 m0, .int .i64 m1, .int .i64 b0, .int .i64 b1]] w fun e w' => e = .returned (.bool true) ∧ Below w.heap.size w w' := by
  match a, h with
  | none, _ => exact stands_got_none m0 m1 b0 b1 w
  | some (g, n, c), ⟨cur, hk, h1, h2, h3, h4, h5⟩ =>
    exact stands_got g n c m0 m1 b0 b1 cur w hk h1 (by simpa [kK, gotK] using h2) h3 (fun i _ hi => ⟨by have := h4 trivial i hi 0 _ rfl; simpa [kK, gotK] using this, by have := h4 trivial i hi 1 _ rfl; simpa [kK, gotK] using this⟩) (fun i hi1 hi2 => ⟨by have := h5 trivial i hi1 hi2 0 _ rfl; simpa [kK, gotK] using this, by have := h5 trivial i hi1 hi2 1 _ rfl; simpa [kK, gotK] using this⟩)
set_option maxHeartbeats 8000000 in
set_option maxRecDepth 100000 in
theorem apart_any (ps : List Pg) (hok : ∀ p ∈ ps, p.ok) (hd : ∀ i j (hi : i < ps.length) (hj : j < ps.length), i ≠ j → ∀ g, bkOf (ps[i]).lie = some g → bkOf (ps[j]).lie ≠ some g) (hl : ps.length ≤ 120) (kb : Nat) (pv : Value) (B : Nat) (w : World) (hge : ∀ p ∈ ps, ∀ g, bkOf p.lie = some g → B ≤ g)
    (hk : Blk w kb 50 #[pv]) (hp : Ow 0 w 81 1 pv ps.length (ps.map Pg.ifc)) (hin : ∀ p ∈ ps, p.In w False False) (hB : B ≤ w.heap.size) :
    Calls Tryz.prog 14 #[.pointer (some ⟨kb, 0, none⟩)] w fun e w' => e = .returned (.bool true) ∧ Below B w w' := by
  have HOK := Lib.hid hok
  have HD := Lib.hid hd
  have HGE := Lib.hid hge
  have S0 := Lib.hid (show St ps kb pv B w w 0 0 from ⟨hk, hp, Below.refl _ _, hB, fun i hi => (hin _ (List.getElem_mem hi)).mono (fun h => by omega) (fun h => by omega)⟩)
  have hl' : (ps.length : Int) ≤ 120 := by omega
  have hl2 : ¬ (120 : Int) < (ps.length : Int) := by omega
  have c0 := hk.cell 0
  simp only [List.getElem?_toArray, List.getElem?_cons_zero] at c0
  obtain ⟨A0, cc, rfl⟩ := hp.sl_
  obtain ⟨pv, hpv0⟩ : ∃ v, v = (Value.slice A0 ps.length cc) := ⟨_, rfl⟩
  rw [← hpv0] at S0
  have HPV := Lib.hid hpv0
  clear hok hd hge hk hp hin hpv0
  go_enter Tryz.func14, Tryz.ntmps14
  go_wp2_with fail
  go_loopg [3] ps.length (fun q x wr => ∃ k : Nat, k ≤ ps.length ∧ q = ps.length - k ∧ x = .int .i64 k ∧ St ps kb pv B w wr k 0)
  case atStart => exact ⟨0, Nat.zero_le _, by omega, rfl, S0.out⟩
  case round =>
    obtain ⟨k, hk, rfl, rfl, hS⟩ := hrel
    have HS := Lib.hid hS
    have c0 := hS.bk.cell 0
    simp only [List.getElem?_toArray, List.getElem?_cons_zero] at c0
    obtain ⟨A1, c1, hpv⟩ := hS.ow.sl_
    by_cases hkn : k < ps.length
    · have hkn' : (k : Int) < ps.length := by omega
      have hk0 : (0 : Int) ≤ k := by omega
      obtain ⟨gp, cp, hpv2, hcp, hcell⟩ := hS.ow.cell1 k (by simpa using hkn)
      rw [List.getElem_map] at hcell
      have hy := hS.pgs k hkn
      have hokk := HOK.out _ (List.getElem_mem hkn)
      obtain ⟨p, hp⟩ : ∃ p, p = ps[k] := ⟨_, rfl⟩
      rw [← hp] at hcell hy hokk
      have HP := Lib.hid hp
      obtain ⟨kd, lie, mm, bb⟩ := p
      obtain ⟨hkd, hok1, hok2⟩ := hokk
      simp only at hkd hok1 hok2
      rw [hpv2] at c0
      clear hS hp hpv hpv2
      obtain rfl | rfl | rfl : kd = 0 ∨ kd = 1 ∨ kd = 2 := by omega
      · obtain ⟨m0, rfl⟩ := one_of hok1
        obtain ⟨b0, rfl⟩ := one_of hok2
        have hm : ∀ W, (method 306 79 (.agg #[slOf lie, .int .u8 m0, .int .u8 b0]) "countinghouse/countinghouselaw01.write").run Tryz.prog W = .ok (114, .agg #[slOf lie, .int .u8 m0, .int .u8 b0]) W := fun _ => by kernel_rfl
        have HY := Lib.hid hy
        have x0 : wr.cell? ⟨gp, k, none⟩ = some (.iface 79 (.agg #[slOf lie, .int .u8 m0, .int .u8 b0])) := hcell
        clear hcell hy hok1 hok2
        go_wp2_with fail
        refine (pgwr_byte lie m0 b0 wr (HY.out.mono False.elim False.elim)).mono ?_
        rintro e w2 ⟨rfl, hi2, hg2⟩
        have S2 := Lib.hid (HS.out.step (s' := k + 1) (t' := 0) HD.out HGE.out k hkn (by rw [← HP.out]; exact hg2) (by rw [← HP.out]; exact hi2.mono (fun _ => trivial) (fun h => absurd h (by omega))) (fun i h1 h2 => by omega) (fun i h1 h2 => by omega))
        clear hi2 hg2
        go_wp2
        go_roundg (ps.length - (k + 1))
        case measure => omega
        case rel => exact ⟨k + 1, by omega, rfl, by go_num, S2.out⟩
      · obtain ⟨m0, m1, m2, m3, m4, m5, m6, m7, m8, m9, rfl⟩ := step_of hok1
        obtain ⟨b0, b1, b2, b3, b4, b5, b6, b7, b8, b9, rfl⟩ := step_of hok2
        have hm : ∀ W, (method 306 106 (.agg #[slOf lie, .int .u8 m0, .int .u8 m1, .int .u8 m2, .int .u8 m3, .int .u8 m4, .int .i64 m5, .int .i64 m6, .int .i64 m7, .int .i64 m8, .int .u64 m9, .int .u8 b0, .int .u8 b1, .int .u8 b2, .int .u8 b3, .int .u8 b4, .int .i64 b5, .int .i64 b6, .int .i64 b7, .int .i64 b8, .int .u64 b9]) "countinghouse/countinghouselaw01.write").run Tryz.prog W = .ok (150, .agg #[slOf lie, .int .u8 m0, .int .u8 m1, .int .u8 m2, .int .u8 m3, .int .u8 m4, .int .i64 m5, .int .i64 m6, .int .i64 m7, .int .i64 m8, .int .u64 m9, .int .u8 b0, .int .u8 b1, .int .u8 b2, .int .u8 b3, .int .u8 b4, .int .i64 b5, .int .i64 b6, .int .i64 b7, .int .i64 b8, .int .u64 b9]) W := fun _ => by kernel_rfl
        have HY := Lib.hid hy
        have x0 : wr.cell? ⟨gp, k, none⟩ = some (.iface 106 (.agg #[slOf lie, .int .u8 m0, .int .u8 m1, .int .u8 m2, .int .u8 m3, .int .u8 m4, .int .i64 m5, .int .i64 m6, .int .i64 m7, .int .i64 m8, .int .u64 m9, .int .u8 b0, .int .u8 b1, .int .u8 b2, .int .u8 b3, .int .u8 b4, .int .i64 b5, .int .i64 b6, .int .i64 b7, .int .i64 b8, .int .u64 b9])) := hcell
        clear hcell hy hok1 hok2
        go_wp2_with fail
        refine (pgwr_step lie m0 m1 m2 m3 m4 m5 m6 m7 m8 m9 b0 b1 b2 b3 b4 b5 b6 b7 b8 b9 wr (HY.out.mono False.elim False.elim)).mono ?_
        rintro e w2 ⟨rfl, hi2, hg2⟩
        have S2 := Lib.hid (HS.out.step (s' := k + 1) (t' := 0) HD.out HGE.out k hkn (by rw [← HP.out]; exact hg2) (by rw [← HP.out]; exact hi2.mono (fun _ => trivial) (fun h => absurd h (by omega))) (fun i h1 h2 => by omega) (fun i h1 h2 => by omega))
        clear hi2 hg2
        go_wp2
        go_roundg (ps.length - (k + 1))
        case measure => omega
        case rel => exact ⟨k + 1, by omega, rfl, by go_num, S2.out⟩
      · obtain ⟨m0, m1, rfl⟩ := got_of hok1
        obtain ⟨b0, b1, rfl⟩ := got_of hok2
        have hm : ∀ W, (method 306 110 (.agg #[slOf lie, .int .i64 m0, .int .i64 m1, .int .i64 b0, .int .i64 b1]) "countinghouse/countinghouselaw01.write").run Tryz.prog W = .ok (153, .agg #[slOf lie, .int .i64 m0, .int .i64 m1, .int .i64 b0, .int .i64 b1]) W := fun _ => by kernel_rfl
        have HY := Lib.hid hy
        have x0 : wr.cell? ⟨gp, k, none⟩ = some (.iface 110 (.agg #[slOf lie, .int .i64 m0, .int .i64 m1, .int .i64 b0, .int .i64 b1])) := hcell
        clear hcell hy hok1 hok2
        go_wp2_with fail
        refine (pgwr_got lie m0 m1 b0 b1 wr (HY.out.mono False.elim False.elim)).mono ?_
        rintro e w2 ⟨rfl, hi2, hg2⟩
        have S2 := Lib.hid (HS.out.step (s' := k + 1) (t' := 0) HD.out HGE.out k hkn (by rw [← HP.out]; exact hg2) (by rw [← HP.out]; exact hi2.mono (fun _ => trivial) (fun h => absurd h (by omega))) (fun i h1 h2 => by omega) (fun i h1 h2 => by omega))
        clear hi2 hg2
        go_wp2
        go_roundg (ps.length - (k + 1))
        case measure => omega
        case rel => exact ⟨k + 1, by omega, rfl, by go_num, S2.out⟩
    · obtain rfl : k = ps.length := by omega
      have S1 := Lib.hid hS
      rw [hpv] at c0
      clear hS hpv HS
      go_wp2_with fail
      go_loopg [4] ps.length (fun q x wr => ∃ k : Nat, k ≤ ps.length ∧ q = ps.length - k ∧ x = .int .i64 k ∧ St ps kb pv B w wr ps.length k)
      case atStart => exact ⟨0, Nat.zero_le _, by omega, rfl, S1.out⟩
      case round =>
        obtain ⟨k, hk, rfl, rfl, hS⟩ := hrel
        have HS := Lib.hid hS
        have c0 := hS.bk.cell 0
        simp only [List.getElem?_toArray, List.getElem?_cons_zero] at c0
        obtain ⟨A1, c1, hpv⟩ := hS.ow.sl_
        by_cases hkn : k < ps.length
        · have hkn' : (k : Int) < ps.length := by omega
          have hk0 : (0 : Int) ≤ k := by omega
          obtain ⟨gp, cp, hpv2, hcp, hcell⟩ := hS.ow.cell1 k (by simpa using hkn)
          rw [List.getElem_map] at hcell
          have hy := hS.pgs k hkn
          have hokk := HOK.out _ (List.getElem_mem hkn)
          obtain ⟨p, hp⟩ : ∃ p, p = ps[k] := ⟨_, rfl⟩
          rw [← hp] at hcell hy hokk
          have HP := Lib.hid hp
          obtain ⟨kd, lie, mm, bb⟩ := p
          obtain ⟨hkd, hok1, hok2⟩ := hokk
          simp only at hkd hok1 hok2
          rw [hpv2] at c0
          clear hS hp hpv hpv2
          obtain rfl | rfl | rfl : kd = 0 ∨ kd = 1 ∨ kd = 2 := by omega
          · obtain ⟨m0, rfl⟩ := one_of hok1
            obtain ⟨b0, rfl⟩ := one_of hok2
            have hm : ∀ W, (method 306 79 (.agg #[slOf lie, .int .u8 m0, .int .u8 b0]) "countinghouse/countinghouselaw01.writeBehind").run Tryz.prog W = .ok (115, .agg #[slOf lie, .int .u8 m0, .int .u8 b0]) W := fun _ => by kernel_rfl
            have HY := Lib.hid hy
            have x0 : wr.cell? ⟨gp, k, none⟩ = some (.iface 79 (.agg #[slOf lie, .int .u8 m0, .int .u8 b0])) := hcell
            clear hcell hy hok1 hok2
            go_wp2_with fail
            refine (pgbe_byte lie m0 b0 wr (HY.out.mono (fun _ => hkn) False.elim)).mono ?_
            rintro e w2 ⟨rfl, hi2, hg2⟩
            have S2 := Lib.hid (HS.out.step (s' := ps.length) (t' := k + 1) HD.out HGE.out k hkn (by rw [← HP.out]; exact hg2) (by rw [← HP.out]; exact hi2.mono (fun _ => trivial) (fun _ => trivial)) (fun i h1 h2 => by omega) (fun i h1 h2 => by omega))
            clear hi2 hg2
            go_wp2
            go_roundg (ps.length - (k + 1))
            case measure => omega
            case rel => exact ⟨k + 1, by omega, rfl, by go_num, S2.out⟩
          · obtain ⟨m0, m1, m2, m3, m4, m5, m6, m7, m8, m9, rfl⟩ := step_of hok1
            obtain ⟨b0, b1, b2, b3, b4, b5, b6, b7, b8, b9, rfl⟩ := step_of hok2
            have hm : ∀ W, (method 306 106 (.agg #[slOf lie, .int .u8 m0, .int .u8 m1, .int .u8 m2, .int .u8 m3, .int .u8 m4, .int .i64 m5, .int .i64 m6, .int .i64 m7, .int .i64 m8, .int .u64 m9, .int .u8 b0, .int .u8 b1, .int .u8 b2, .int .u8 b3, .int .u8 b4, .int .i64 b5, .int .i64 b6, .int .i64 b7, .int .i64 b8, .int .u64 b9]) "countinghouse/countinghouselaw01.writeBehind").run Tryz.prog W = .ok (151, .agg #[slOf lie, .int .u8 m0, .int .u8 m1, .int .u8 m2, .int .u8 m3, .int .u8 m4, .int .i64 m5, .int .i64 m6, .int .i64 m7, .int .i64 m8, .int .u64 m9, .int .u8 b0, .int .u8 b1, .int .u8 b2, .int .u8 b3, .int .u8 b4, .int .i64 b5, .int .i64 b6, .int .i64 b7, .int .i64 b8, .int .u64 b9]) W := fun _ => by kernel_rfl
            have HY := Lib.hid hy
            have x0 : wr.cell? ⟨gp, k, none⟩ = some (.iface 106 (.agg #[slOf lie, .int .u8 m0, .int .u8 m1, .int .u8 m2, .int .u8 m3, .int .u8 m4, .int .i64 m5, .int .i64 m6, .int .i64 m7, .int .i64 m8, .int .u64 m9, .int .u8 b0, .int .u8 b1, .int .u8 b2, .int .u8 b3, .int .u8 b4, .int .i64 b5, .int .i64 b6, .int .i64 b7, .int .i64 b8, .int .u64 b9])) := hcell
            clear hcell hy hok1 hok2
            go_wp2_with fail
            refine (pgbe_step lie m0 m1 m2 m3 m4 m5 m6 m7 m8 m9 b0 b1 b2 b3 b4 b5 b6 b7 b8 b9 wr (HY.out.mono (fun _ => hkn) False.elim)).mono ?_
            rintro e w2 ⟨rfl, hi2, hg2⟩
            have S2 := Lib.hid (HS.out.step (s' := ps.length) (t' := k + 1) HD.out HGE.out k hkn (by rw [← HP.out]; exact hg2) (by rw [← HP.out]; exact hi2.mono (fun _ => trivial) (fun _ => trivial)) (fun i h1 h2 => by omega) (fun i h1 h2 => by omega))
            clear hi2 hg2
            go_wp2
            go_roundg (ps.length - (k + 1))
            case measure => omega
            case rel => exact ⟨k + 1, by omega, rfl, by go_num, S2.out⟩
          · obtain ⟨m0, m1, rfl⟩ := got_of hok1
            obtain ⟨b0, b1, rfl⟩ := got_of hok2
            have hm : ∀ W, (method 306 110 (.agg #[slOf lie, .int .i64 m0, .int .i64 m1, .int .i64 b0, .int .i64 b1]) "countinghouse/countinghouselaw01.writeBehind").run Tryz.prog W = .ok (154, .agg #[slOf lie, .int .i64 m0, .int .i64 m1, .int .i64 b0, .int .i64 b1]) W := fun _ => by kernel_rfl
            have HY := Lib.hid hy
            have x0 : wr.cell? ⟨gp, k, none⟩ = some (.iface 110 (.agg #[slOf lie, .int .i64 m0, .int .i64 m1, .int .i64 b0, .int .i64 b1])) := hcell
            clear hcell hy hok1 hok2
            go_wp2_with fail
            refine (pgbe_got lie m0 m1 b0 b1 wr (HY.out.mono (fun _ => hkn) False.elim)).mono ?_
            rintro e w2 ⟨rfl, hi2, hg2⟩
            have S2 := Lib.hid (HS.out.step (s' := ps.length) (t' := k + 1) HD.out HGE.out k hkn (by rw [← HP.out]; exact hg2) (by rw [← HP.out]; exact hi2.mono (fun _ => trivial) (fun _ => trivial)) (fun i h1 h2 => by omega) (fun i h1 h2 => by omega))
            clear hi2 hg2
            go_wp2
            go_roundg (ps.length - (k + 1))
            case measure => omega
            case rel => exact ⟨k + 1, by omega, rfl, by go_num, S2.out⟩
        · obtain rfl : k = ps.length := by omega
          have S2 := Lib.hid hS
          rw [hpv] at c0
          clear hS hpv HS
          go_wp2_with fail
          go_loopg [5] ps.length (fun q x wr => ∃ k : Nat, k ≤ ps.length ∧ q = ps.length - k ∧ x = .int .i64 k ∧ St ps kb pv B w wr ps.length ps.length)
          case atStart => exact ⟨0, Nat.zero_le _, by omega, rfl, S2.out⟩
          case round =>
            obtain ⟨k, hk, rfl, rfl, hS⟩ := hrel
            have HS := Lib.hid hS
            have c0 := hS.bk.cell 0
            simp only [List.getElem?_toArray, List.getElem?_cons_zero] at c0
            obtain ⟨A1, c1, hpv⟩ := hS.ow.sl_
            by_cases hkn : k < ps.length
            · have hkn' : (k : Int) < ps.length := by omega
              have hk0 : (0 : Int) ≤ k := by omega
              obtain ⟨gp, cp, hpv2, hcp, hcell⟩ := hS.ow.cell1 k (by simpa using hkn)
              rw [List.getElem_map] at hcell
              have hy := hS.pgs k hkn
              have hokk := HOK.out _ (List.getElem_mem hkn)
              obtain ⟨p, hp⟩ : ∃ p, p = ps[k] := ⟨_, rfl⟩
              rw [← hp] at hcell hy hokk
              have HP := Lib.hid hp
              obtain ⟨kd, lie, mm, bb⟩ := p
              obtain ⟨hkd, hok1, hok2⟩ := hokk
              simp only at hkd hok1 hok2
              rw [hpv2] at c0
              clear hS hp hpv hpv2
              obtain rfl | rfl | rfl : kd = 0 ∨ kd = 1 ∨ kd = 2 := by omega
              · obtain ⟨m0, rfl⟩ := one_of hok1
                obtain ⟨b0, rfl⟩ := one_of hok2
                have hm : ∀ W, (method 306 79 (.agg #[slOf lie, .int .u8 m0, .int .u8 b0]) "countinghouse/countinghouselaw01.stands").run Tryz.prog W = .ok (113, .agg #[slOf lie, .int .u8 m0, .int .u8 b0]) W := fun _ => by kernel_rfl
                have HY := Lib.hid hy
                have x0 : wr.cell? ⟨gp, k, none⟩ = some (.iface 79 (.agg #[slOf lie, .int .u8 m0, .int .u8 b0])) := hcell
                clear hcell hy hok1 hok2
                go_wp2_with fail
                refine (pgst_byte lie m0 b0 wr (HY.out.mono (fun _ => hkn) (fun _ => hkn))).mono ?_
                rintro e w2 ⟨rfl, hb2⟩
                have S2 := Lib.hid (HS.out.step (s' := ps.length) (t' := ps.length) HD.out HGE.out k hkn (grown_below_ hb2 _) ((HS.out.pgs k hkn).grown (grown_below_ hb2 none) (fun g _ => by simp)) (fun i h1 h2 => by omega) (fun i h1 h2 => by omega))
                clear hb2
                go_wp2
                go_roundg (ps.length - (k + 1))
                case measure => omega
                case rel => exact ⟨k + 1, by omega, rfl, by go_num, S2.out⟩
              · obtain ⟨m0, m1, m2, m3, m4, m5, m6, m7, m8, m9, rfl⟩ := step_of hok1
                obtain ⟨b0, b1, b2, b3, b4, b5, b6, b7, b8, b9, rfl⟩ := step_of hok2
                have hm : ∀ W, (method 306 106 (.agg #[slOf lie, .int .u8 m0, .int .u8 m1, .int .u8 m2, .int .u8 m3, .int .u8 m4, .int .i64 m5, .int .i64 m6, .int .i64 m7, .int .i64 m8, .int .u64 m9, .int .u8 b0, .int .u8 b1, .int .u8 b2, .int .u8 b3, .int .u8 b4, .int .i64 b5, .int .i64 b6, .int .i64 b7, .int .i64 b8, .int .u64 b9]) "countinghouse/countinghouselaw01.stands").run Tryz.prog W = .ok (149, .agg #[slOf lie, .int .u8 m0, .int .u8 m1, .int .u8 m2, .int .u8 m3, .int .u8 m4, .int .i64 m5, .int .i64 m6, .int .i64 m7, .int .i64 m8, .int .u64 m9, .int .u8 b0, .int .u8 b1, .int .u8 b2, .int .u8 b3, .int .u8 b4, .int .i64 b5, .int .i64 b6, .int .i64 b7, .int .i64 b8, .int .u64 b9]) W := fun _ => by kernel_rfl
                have HY := Lib.hid hy
                have x0 : wr.cell? ⟨gp, k, none⟩ = some (.iface 106 (.agg #[slOf lie, .int .u8 m0, .int .u8 m1, .int .u8 m2, .int .u8 m3, .int .u8 m4, .int .i64 m5, .int .i64 m6, .int .i64 m7, .int .i64 m8, .int .u64 m9, .int .u8 b0, .int .u8 b1, .int .u8 b2, .int .u8 b3, .int .u8 b4, .int .i64 b5, .int .i64 b6, .int .i64 b7, .int .i64 b8, .int .u64 b9])) := hcell
                clear hcell hy hok1 hok2
                go_wp2_with fail
                refine (pgst_step lie m0 m1 m2 m3 m4 m5 m6 m7 m8 m9 b0 b1 b2 b3 b4 b5 b6 b7 b8 b9 wr (HY.out.mono (fun _ => hkn) (fun _ => hkn))).mono ?_
                rintro e w2 ⟨rfl, hb2⟩
                have S2 := Lib.hid (HS.out.step (s' := ps.length) (t' := ps.length) HD.out HGE.out k hkn (grown_below_ hb2 _) ((HS.out.pgs k hkn).grown (grown_below_ hb2 none) (fun g _ => by simp)) (fun i h1 h2 => by omega) (fun i h1 h2 => by omega))
                clear hb2
                go_wp2
                go_roundg (ps.length - (k + 1))
                case measure => omega
                case rel => exact ⟨k + 1, by omega, rfl, by go_num, S2.out⟩
              · obtain ⟨m0, m1, rfl⟩ := got_of hok1
                obtain ⟨b0, b1, rfl⟩ := got_of hok2
                have hm : ∀ W, (method 306 110 (.agg #[slOf lie, .int .i64 m0, .int .i64 m1, .int .i64 b0, .int .i64 b1]) "countinghouse/countinghouselaw01.stands").run Tryz.prog W = .ok (152, .agg #[slOf lie, .int .i64 m0, .int .i64 m1, .int .i64 b0, .int .i64 b1]) W := fun _ => by kernel_rfl
                have HY := Lib.hid hy
                have x0 : wr.cell? ⟨gp, k, none⟩ = some (.iface 110 (.agg #[slOf lie, .int .i64 m0, .int .i64 m1, .int .i64 b0, .int .i64 b1])) := hcell
                clear hcell hy hok1 hok2
                go_wp2_with fail
                refine (pgst_got lie m0 m1 b0 b1 wr (HY.out.mono (fun _ => hkn) (fun _ => hkn))).mono ?_
                rintro e w2 ⟨rfl, hb2⟩
                have S2 := Lib.hid (HS.out.step (s' := ps.length) (t' := ps.length) HD.out HGE.out k hkn (grown_below_ hb2 _) ((HS.out.pgs k hkn).grown (grown_below_ hb2 none) (fun g _ => by simp)) (fun i h1 h2 => by omega) (fun i h1 h2 => by omega))
                clear hb2
                go_wp2
                go_roundg (ps.length - (k + 1))
                case measure => omega
                case rel => exact ⟨k + 1, by omega, rfl, by go_num, S2.out⟩
            · obtain rfl : k = ps.length := by omega
              have S3 := Lib.hid hS
              rw [hpv] at c0
              clear hS hpv HS
              go_wp2
              go_ret
              exact ⟨rfl, S3.out.bel⟩
end Go.Proofs.YthjdkjinkmdclaaGreat

/- law01: a page more in a book. -/
namespace Go.Proofs.YthjdkjinkmdclaaGreat
open Go.RowKit

theorem page_info : (Tryz.prog.info? 81).map (fun i => (i.zero, i.size, i.bytes)) = some (some .nilIface, 1, 16) := by kernel_rfl
/-- A book in block kb, its pages in the value pv; below B nothing has turned since W. -/
structure Bks (ps : List Pg) (B : Nat) (W w : World) (kb : Nat) (pv : Value) : Prop where
  bk : Blk w kb 50 #[pv]
  ow : Ow B w 81 1 pv ps.length (ps.map Pg.ifc)
  kbB : B ≤ kb
  bel : Below B W w
  le : B ≤ w.heap.size
theorem Bks.new_ {B : Nat} {W w : World} (hb : Below B W w) (hB : B ≤ w.heap.size) : Bks [] B W (w.alloc (.cells #[.slice none 0 0] 50)) w.heap.size (.slice none 0 0) :=
  ⟨Blk.new _ _ _, .inl ⟨rfl, rfl, rfl⟩, hB, hb.alloc hB _, by simp; omega⟩
theorem number_any (n c kb : Nat) (A : Option Addr) (w : World) (hk : Blk w kb 50 #[.slice A n c]) (hn : n ≤ 1000) :
    Calls Tryz.prog 33 #[.pointer (some ⟨kb, 0, none⟩)] w fun e w' => e = .returned (.int .i64 (n + 1)) ∧ w = w' := by
  have c0 := hk.cell 0
  simp only [List.getElem?_toArray, List.getElem?_cons_zero] at c0
  have hn' : (n : Int) ≤ 1000 := by omega
  clear hk
  go_enter Tryz.func33, Tryz.ntmps33
  go_wp2
  go_ret
  exact ⟨by go_num, rfl⟩
set_option maxHeartbeats 2000000 in
set_option maxRecDepth 100000 in
theorem add_byte (ps : List Pg) (B : Nat) (W w : World) (kb : Nat) (pv : Value) (h : Bks ps B W w kb pv) (hn : ps.length ≤ 100) (lie : Option (Nat × Nat × Nat)) :
    Calls Tryz.prog 13 #[.pointer (some ⟨kb, 0, none⟩), slOf lie] w fun e w' => e = .returned (.tuple #[]) ∧ ∃ (pv' : Value) (m b : List Int), m.length = 1 ∧ b.length = 1 ∧ Bks (ps ++ [⟨0, lie, m, b⟩]) B W w' kb pv' ∧ ∀ g t cs, t ≠ 50 → t ≠ 81 → Blk w g t cs → Blk w' g t cs := by
  obtain ⟨A, c, rfl⟩ := h.ow.sl_
  have H := Lib.hid h
  have HK := Lib.hid h.bk
  have c0 := h.bk.cell 0
  simp only [List.getElem?_toArray, List.getElem?_cons_zero] at c0
  have hn' : (ps.length : Int) ≤ 100 := by omega
  obtain ⟨LA, LN, LC, hlie⟩ : ∃ A n c, slOf lie = .slice A n c := by cases lie <;> exact ⟨_, _, _, rfl⟩
  rw [hlie]
  have HLIE := Lib.hid hlie
  clear h hlie
  go_enter Tryz.func13, Tryz.ntmps13
  go_wp2_with fail
  refine (number_any ps.length c kb A w HK.out (by omega)).mono ?_
  rintro e w1 ⟨rfl, rfl⟩
  go_wp2_with (at_builtin; go_must (refine wpList_ow rfl _ _ 48 81 .nilIface 1 16 rfl Tryz.underlying48 page_info rfl (by decide) rfl _ H.out.ow H.out.le rfl (by simp [Value.oneCell']) rfl (by omega) (by unfold maxLen; omega) ?_); intro v2 w2 ho2 hg2; obtain ⟨A2, c2, rfl⟩ := ho2.sl_; have hk2 := Blk.grown HK.out hg2.1 (fun e => Ow.notat H.out.ow HK.out (by decide) e.symm); have f2 := hk2.free; have z2 := hk2.cell 0; simp only [List.getElem?_toArray, List.getElem?_cons_zero] at z2; have O2 := Lib.hid ho2; have G2 := Lib.hid hg2; have K2 := Lib.hid hk2; clear ho2 hg2 hk2)
  have hk3 := K2.out.set_ 0 (.slice A2 (ps.length + 1) c2)
  refine bodyPost_end (results_none rfl _ _ _) rfl ⟨rfl, .slice A2 (ps.length + 1) c2, [(ps.length : Int) + 1], rfl, [bits .xor .u8 ((ps.length : Int) + 1) 128], rfl, ⟨?_, ?_, H.out.kbB, ?_, ?_⟩, ?_⟩
  rotate_left
  · have := Ow.aside O2.out K2.out (by decide) 0 (.slice A2 (ps.length + 1) c2)
    rw [List.length_append, List.map_append]
    simp only [List.map_cons, List.map_nil, Pg.ifc, HLIE.out]
    exact this
  · exact (H.out.bel.grown G2.out.1 H.out.le (fun k hk => Ow.blk_lt H.out.ow k hk)).setCell H.out.kbB _
  · have := G2.out.1.size
    have := H.out.le
    simp
    omega
  · intro g t cs ht1 ht2 hk
    exact (hk.grown G2.out.1 (fun e => Ow.notat H.out.ow hk ht2 e.symm)).far (p := ⟨kb, 0, none⟩) (hk.ne_ HK.out ht1) _
  · simpa using hk3
set_option maxHeartbeats 2000000 in
set_option maxRecDepth 100000 in
theorem add_step (ps : List Pg) (B : Nat) (W w : World) (kb : Nat) (pv : Value) (h : Bks ps B W w kb pv) (hn : ps.length ≤ 100) (lie : Option (Nat × Nat × Nat)) :
    Calls Tryz.prog 21 #[.pointer (some ⟨kb, 0, none⟩), slOf lie] w fun e w' => e = .returned (.tuple #[]) ∧ ∃ (pv' : Value) (m b : List Int), m.length = 10 ∧ b.length = 10 ∧ Bks (ps ++ [⟨1, lie, m, b⟩]) B W w' kb pv' ∧ ∀ g t cs, t ≠ 50 → t ≠ 81 → Blk w g t cs → Blk w' g t cs := by
  obtain ⟨A, c, rfl⟩ := h.ow.sl_
  have H := Lib.hid h
  have HK := Lib.hid h.bk
  have c0 := h.bk.cell 0
  simp only [List.getElem?_toArray, List.getElem?_cons_zero] at c0
  have hn' : (ps.length : Int) ≤ 100 := by omega
  obtain ⟨LA, LN, LC, hlie⟩ : ∃ A n c, slOf lie = .slice A n c := by cases lie <;> exact ⟨_, _, _, rfl⟩
  rw [hlie]
  have HLIE := Lib.hid hlie
  clear h hlie
  go_enter Tryz.func21, Tryz.ntmps21
  go_wp2_with fail
  refine (number_any ps.length c kb A w HK.out (by omega)).mono ?_
  rintro e w1 ⟨rfl, rfl⟩
  go_wp2_with (at_builtin; go_must (refine wpList_ow rfl _ _ 48 81 .nilIface 1 16 rfl Tryz.underlying48 page_info rfl (by decide) rfl _ H.out.ow H.out.le rfl (by simp [Value.oneCell']) rfl (by omega) (by unfold maxLen; omega) ?_); intro v2 w2 ho2 hg2; obtain ⟨A2, c2, rfl⟩ := ho2.sl_; have hk2 := Blk.grown HK.out hg2.1 (fun e => Ow.notat H.out.ow HK.out (by decide) e.symm); have f2 := hk2.free; have z2 := hk2.cell 0; simp only [List.getElem?_toArray, List.getElem?_cons_zero] at z2; have O2 := Lib.hid ho2; have G2 := Lib.hid hg2; have K2 := Lib.hid hk2; clear ho2 hg2 hk2)
  have hk3 := K2.out.set_ 0 (.slice A2 (ps.length + 1) c2)
  refine bodyPost_end (results_none rfl _ _ _) rfl ⟨rfl, .slice A2 (ps.length + 1) c2, [0, 0, 0, 0, 0, (ps.length : Int) + 1, 0, 0, 0, 0], rfl, [0, 0, 0, 0, 0, 0, (ps.length : Int) + 1, 0, 0, 0], rfl, ⟨?_, ?_, H.out.kbB, ?_, ?_⟩, ?_⟩
  rotate_left
  · have := Ow.aside O2.out K2.out (by decide) 0 (.slice A2 (ps.length + 1) c2)
    rw [List.length_append, List.map_append]
    simp only [List.map_cons, List.map_nil, Pg.ifc, HLIE.out]
    exact this
  · exact (H.out.bel.grown G2.out.1 H.out.le (fun k hk => Ow.blk_lt H.out.ow k hk)).setCell H.out.kbB _
  · have := G2.out.1.size
    have := H.out.le
    simp
    omega
  · intro g t cs ht1 ht2 hk
    exact (hk.grown G2.out.1 (fun e => Ow.notat H.out.ow hk ht2 e.symm)).far (p := ⟨kb, 0, none⟩) (hk.ne_ HK.out ht1) _
  · simpa using hk3
set_option maxHeartbeats 2000000 in
set_option maxRecDepth 100000 in
theorem add_got (ps : List Pg) (B : Nat) (W w : World) (kb : Nat) (pv : Value) (h : Bks ps B W w kb pv) (hn : ps.length ≤ 100) (lie : Option (Nat × Nat × Nat)) :
    Calls Tryz.prog 22 #[.pointer (some ⟨kb, 0, none⟩), slOf lie] w fun e w' => e = .returned (.tuple #[]) ∧ ∃ (pv' : Value) (m b : List Int), m.length = 2 ∧ b.length = 2 ∧ Bks (ps ++ [⟨2, lie, m, b⟩]) B W w' kb pv' ∧ ∀ g t cs, t ≠ 50 → t ≠ 81 → Blk w g t cs → Blk w' g t cs := by
  obtain ⟨A, c, rfl⟩ := h.ow.sl_
  have H := Lib.hid h
  have HK := Lib.hid h.bk
  have c0 := h.bk.cell 0
  simp only [List.getElem?_toArray, List.getElem?_cons_zero] at c0
  have hn' : (ps.length : Int) ≤ 100 := by omega
  obtain ⟨LA, LN, LC, hlie⟩ : ∃ A n c, slOf lie = .slice A n c := by cases lie <;> exact ⟨_, _, _, rfl⟩
  rw [hlie]
  have HLIE := Lib.hid hlie
  clear h hlie
  go_enter Tryz.func22, Tryz.ntmps22
  go_wp2_with fail
  refine (number_any ps.length c kb A w HK.out (by omega)).mono ?_
  rintro e w1 ⟨rfl, rfl⟩
  go_wp2_with (at_builtin; go_must (refine wpList_ow rfl _ _ 48 81 .nilIface 1 16 rfl Tryz.underlying48 page_info rfl (by decide) rfl _ H.out.ow H.out.le rfl (by simp [Value.oneCell']) rfl (by omega) (by unfold maxLen; omega) ?_); intro v2 w2 ho2 hg2; obtain ⟨A2, c2, rfl⟩ := ho2.sl_; have hk2 := Blk.grown HK.out hg2.1 (fun e => Ow.notat H.out.ow HK.out (by decide) e.symm); have f2 := hk2.free; have z2 := hk2.cell 0; simp only [List.getElem?_toArray, List.getElem?_cons_zero] at z2; have O2 := Lib.hid ho2; have G2 := Lib.hid hg2; have K2 := Lib.hid hk2; clear ho2 hg2 hk2)
  have hk3 := K2.out.set_ 0 (.slice A2 (ps.length + 1) c2)
  refine bodyPost_end (results_none rfl _ _ _) rfl ⟨rfl, .slice A2 (ps.length + 1) c2, [(ps.length : Int) + 1, 0], rfl, [0, (ps.length : Int) + 1], rfl, ⟨?_, ?_, H.out.kbB, ?_, ?_⟩, ?_⟩
  rotate_left
  · have := Ow.aside O2.out K2.out (by decide) 0 (.slice A2 (ps.length + 1) c2)
    rw [List.length_append, List.map_append]
    simp only [List.map_cons, List.map_nil, Pg.ifc, HLIE.out]
    exact this
  · exact (H.out.bel.grown G2.out.1 H.out.le (fun k hk => Ow.blk_lt H.out.ow k hk)).setCell H.out.kbB _
  · have := G2.out.1.size
    have := H.out.le
    simp
    omega
  · intro g t cs ht1 ht2 hk
    exact (hk.grown G2.out.1 (fun e => Ow.notat H.out.ow hk ht2 e.symm)).far (p := ⟨kb, 0, none⟩) (hk.ne_ HK.out ht1) _
  · simpa using hk3
end Go.Proofs.YthjdkjinkmdclaaGreat
