/- slices.Sort at []uint64, of 12 elements or fewer: the insertion sort. -/
import Derived.Test.YtameheoiaajmkaaPollA
import Derived.Sort.LotA
import Derived.Sort.Row
import Derived.Sort.Grow
import Derived.BigRegion
namespace Go.Proofs.Ytameheoiaajmkaa
open Go.RowKit Go.Sort

abbrev encU : Int → Value := Value.int .u64

theorem isNaN_any (x : Int) (w : World) : Calls Try.prog 46 #[.int .u64 x] w fun e w' => e = .returned (.bool false) ∧ w = w' := by
  go_enter Try.func46, Try.ntmps46
  go_wp2
  go_ret
  exact ⟨rfl, rfl⟩

theorem less_any (x y : Int) (w : World) : Calls Try.prog 36 #[.int .u64 x, .int .u64 y] w fun e w' => e = .returned (.bool (ltInt x y)) ∧ w = w' := by
  go_enter Try.func36, Try.ntmps36
  go_wp2_with (go_at_call 46; refine (isNaN_any _ _).mono ?_; rintro e w' ⟨rfl, rfl⟩)
  go_ret
  exact ⟨rfl, rfl⟩

theorem insOuter_go_ (a b i : Nat) (d : Array Int) (h : i < b) : insOuter ltInt a b i d = insOuter ltInt a b (i + 1) (insInner ltInt a i d) := by
  rw [insOuter, if_pos h]
theorem insOuter_stop_ (a b i : Nat) (d : Array Int) (h : ¬ i < b) : insOuter ltInt a b i d = d := by
  rw [insOuter, if_neg h]
theorem insInner_go_ (a j : Nat) (d : Array Int) (h : a < j) (hl : ltInt d[j]! d[j - 1]! = true) : insInner ltInt a j d = insInner ltInt a (j - 1) (swp d j (j - 1)) := by
  obtain ⟨k, rfl⟩ : ∃ k, j = k + 1 := ⟨j - 1, by omega⟩
  rw [insInner]
  have : (decide (k + 1 > a) && ltInt d[k + 1]! d[k]!) = true := by simp at hl ⊢; exact ⟨by omega, hl⟩
  rw [if_pos this]; rfl
theorem insInner_stop_ (a j : Nat) (d : Array Int) (h : j ≤ a ∨ ltInt d[j]! d[j - 1]! = false) : insInner ltInt a j d = d := by
  cases j with
  | zero => rw [insInner]
  | succ k =>
    rw [insInner]
    have : ¬ (decide (k + 1 > a) && ltInt d[k + 1]! d[k]!) = true := by
      rcases h with h | h
      · simp; omega
      · simp at h; simp [h]
    rw [if_neg this]

theorem putRow_drewN_ (w : World) (blk off : Nat) (d : Array Int) (m q : Nat) : (putRow encU (Sort.ahead w m) blk off d).drewN q = putRow encU (Sort.ahead w (m + q)) blk off d := by
  show ({ putRow encU (Sort.ahead w m) blk off d with drawn := _ } : World) = _
  simp [putRow, mapBlock, Sort.ahead, Nat.add_assoc]

set_option maxHeartbeats 4000000 in
set_option maxRecDepth 100000 in
theorem insertion_any (blk off cap a b : Nat) (d : Array Int) (w : World) (hH : Holds encU w blk off d) (hab : a ≤ b) (hb : b ≤ d.size) (hsz : d.size < 4611686018427387904) :
    Calls Try.prog 30 #[.slice (some ⟨blk, off, none⟩) d.size cap, .int .i64 a, .int .i64 b] w fun e w' =>
      e = .returned (.tuple #[]) ∧ ∃ n, w' = putRow encU (Sort.ahead w n) blk off (insertionSort ltInt d a b) := by
  go_enter Try.func30, Try.ntmps30
  go_wp2
  go_loopw [6] (fun vi wr => ∃ (i n : Nat) (dk : Array Int), vi = .int .i64 i ∧ a < i ∧ i ≤ b + 1 ∧ dk.size = d.size ∧ wr = putRow encU (Sort.ahead w n) blk off dk ∧
      insOuter ltInt a b i dk = insOuter ltInt a b (a + 1) d) (fun vi _ => b + 1 - (intOf vi).toNat)
  case atStart => exact ⟨a + 1, 0, d, by go_num, by omega, by omega, rfl, (putRow_self _ _ _ _ _ hH).symm, rfl⟩
  case round =>
    obtain ⟨i, n, dk, rfl, hai, hib, hsk, hwr, hO⟩ := hrel
    have HO := Lib.hid hO
    have HSK := Lib.hid hsk
    have HWR := Lib.hid hwr
    clear hO hsk hwr
    by_cases hlt : i < b
    · go_wp2
      go_loopw [7] (fun vj wr2 => ∃ (j m : Nat) (dj : Array Int), vj = .int .i64 j ∧ a ≤ j ∧ j ≤ i ∧ dj.size = d.size ∧ wr2 = putRow encU (Sort.ahead w m) blk off dj ∧
          insInner ltInt a j dj = insInner ltInt a i dk) (fun vj _ => (intOf vj).toNat)
      case atStart => exact ⟨i, n, dk, rfl, by omega, Nat.le_refl _, HSK.out, HWR.out, rfl⟩
      case round =>
        obtain ⟨j, m, dj, rfl, haj, hji, hsj, hw2, hI⟩ := hrel
        obtain ⟨G, hG⟩ : ∃ G : Nat → Int, ∀ t, G t = dj[t]! := ⟨fun t => dj[t]!, fun _ => rfl⟩
        have HSJ := Lib.hid hsj
        have hcw := Lib.hid (show ∀ t, t < d.size → wr.cell? ⟨blk, off + t, none⟩ = some (.int .u64 (G t)) from fun t ht => by
          rw [hw2, hG]; exact cell?_putRow _ _ _ _ d dj (holds_ahead _ _ _ _ _ _ hH) hsj t (by omega))
        have hfw := Lib.hid (show ∀ t, t < d.size → wr.frozen? ⟨blk, off + t, none⟩ = false from fun t ht => by
          rw [hw2]; show (putRow encU (Sort.ahead w m) blk off dj).frozen? _ = _; unfold putRow; rw [frozen?_mapBlock]; exact ((holds_ahead _ _ m _ _ _ hH) t ht).2)
        have HW := Lib.hid hw2
        have HG := Lib.hid hG
        have HI := Lib.hid hI
        have out := Lib.hid (show (j ≤ a ∨ ltInt dj[j]! dj[j - 1]! = false) → ∀ q, ∃ (i' n' : Nat) (dk' : Array Int), Value.int .i64 ((i : Int) + 1) = .int .i64 (i' : Nat) ∧ a < i' ∧ i' ≤ b + 1 ∧ dk'.size = d.size ∧
            wr.drewN q = putRow encU (Sort.ahead w n') blk off dk' ∧ insOuter ltInt a b i' dk' = insOuter ltInt a b (a + 1) d from fun hs q =>
          ⟨i + 1, m + q, dj, by go_num, by omega, by omega, hsj, by rw [hw2]; exact putRow_drewN_ _ _ _ _ _ _,
            by rw [← HO.out, insOuter_go_ _ _ _ _ hlt, ← HI.out, insInner_stop_ _ _ _ hs]⟩)
        clear hw2 hG hI hsj
        have hH' := Lib.hid hH
        clear hH
        by_cases hja : a < j
        · have c1 := hcw.out j (by omega)
          have c2 := hcw.out (j - 1) (by omega)
          have f1 := hfw.out j (by omega)
          have f2 := hfw.out (j - 1) (by omega)
          have hd : decide (a < j) = true := decide_eq_true hja
          go_wp2
          go_quiet ((go_at_call 36; exact quiet_left_ (less_any _ _ _)))
          cases hl : ltInt (G j) (G (j - 1))
          · go_wp2
            go_roundw
            case rel => exact out.out (Or.inr (by rw [← HG.out, ← HG.out]; exact hl)) _
            case measure => simp [intOf]; omega
          · go_wp2
            go_region
            all_goals go_wp2
            go_roundw
            case rel =>
              refine ⟨j - 1, m + (nq + 1), swp dj j (j - 1), by congr 1; omega, by omega, by omega, by rw [swp_size]; exact HSJ.out, ?_, ?_⟩
              · rw [HG.out, HG.out, HW.out, putRow_drewN_]
                exact (putRow_swp encU (Sort.ahead w (m + (nq + 1))) blk off dj j (j - 1) (by have := HSJ.out; omega) (by have := HSJ.out; omega))
              · rw [← HI.out, insInner_go_ a j dj hja (by rw [← HG.out, ← HG.out]; exact hl)]
            case measure => simp [intOf]; omega
        · have hd : decide (a < j) = false := decide_eq_false hja
          go_wp2
          go_quiet ((go_at_call 36; exact quiet_left_ (less_any _ _ _)))
          go_wp2
          go_roundw
          case rel => exact out.out (Or.inl (by omega)) _
          case measure => simp [intOf]; omega
    · go_wp2
      go_end0
      exact ⟨rfl, n, by unfold insertionSort; rw [← HO.out, insOuter_stop_ _ _ _ _ hlt]; exact HWR.out⟩

set_option maxRecDepth 1000000 in
set_option maxHeartbeats 4000000 in
theorem len64_small (x : Int) (w : World) (h0 : 0 ≤ x) (h1 : x ≤ 12) : Calls Try.prog 40 #[.int .u64 x] w fun e w' => (∃ y, e = .returned (.int .i64 y)) ∧ w = w' := by
  go_enter Try.func40, Try.ntmps40
  go_wp2
  go_ret
  exact ⟨⟨_, rfl⟩, rfl⟩

theorem len_small (x : Int) (w : World) (h0 : 0 ≤ x) (h1 : x ≤ 12) : Calls Try.prog 29 #[.int .u64 x] w fun e w' => (∃ y, e = .returned (.int .i64 y)) ∧ w = w' := by
  go_enter Try.func29, Try.ntmps29
  go_wp2_with (go_at_call 40; refine (len64_small _ _ h0 h1).mono ?_; rintro e w' ⟨⟨y, rfl⟩, rfl⟩)
  go_ret
  exact ⟨⟨_, rfl⟩, rfl⟩

set_option maxRecDepth 100000 in
set_option maxHeartbeats 1000000 in
theorem pdq_small (blk off cap : Nat) (d : Array Int) (y : Int) (w : World) (hH : Holds encU w blk off d) (h12 : d.size ≤ 12) :
    Calls Try.prog 28 #[.slice (some ⟨blk, off, none⟩) d.size cap, .int .i64 0, .int .i64 d.size, .int .i64 y] w fun e w' =>
      e = .returned (.tuple #[]) ∧ ∃ n, w' = putRow encU (Sort.ahead w n) blk off (insertionSort ltInt d 0 d.size) := by
  have H := Lib.hid hH
  clear hH
  go_enter Try.func28, Try.ntmps28
  go_wp2
  refine wp_loop_rounds 1 ?_
  rw [rounds_succ]
  go_wp2_with (go_at_call 30; refine (insertion_any blk off cap 0 d.size d _ H.out (Nat.zero_le _) (Nat.le_refl _) (by omega)).mono ?_; rintro e w' ⟨rfl, n, rfl⟩)
  refine bodyPost_ret (results_none rfl _ _ _) rfl ?_
  exact ⟨rfl, n, rfl⟩

theorem sort_small (blk off cap : Nat) (d : Array Int) (w : World) (hH : Holds encU w blk off d) (h12 : d.size ≤ 12) :
    Calls Try.prog 25 #[.slice (some ⟨blk, off, none⟩) d.size cap] w fun e w' =>
      e = .returned (.tuple #[]) ∧ ∃ n, w' = putRow encU (Sort.ahead w n) blk off (insertionSort ltInt d 0 d.size) := by
  have H := Lib.hid hH
  clear hH
  go_enter Try.func25, Try.ntmps25
  go_wp2_with (first | (go_at_call 29; refine (len_small _ _ (by omega) (by omega)).mono ?_; rintro e w' ⟨⟨y, rfl⟩, rfl⟩) | (go_at_call 28; refine (pdq_small blk off cap d _ _ H.out (by omega)).mono ?_; rintro e w' ⟨rfl, n, rfl⟩))
  go_end0
  exact ⟨rfl, n, rfl⟩
end Go.Proofs.Ytameheoiaajmkaa
