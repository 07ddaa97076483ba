/- The document's answer for what most of some numbers reach. -/
import Derived.Test.YtnfabkbajhfnfaaVp
namespace Go.Proofs.Ytnfabkbajhfnfaa
open Go.RowKit

/-- The slice at b, off holds the numbers. -/
def Us (w : World) (b off : Nat) (zs : List Int) : Prop := b < w.heap.size ∧ ∀ j, j < zs.length → w.cell? ⟨b, off + j, none⟩ = some (.int .u64 (zs[j]?.getD 0))
theorem Us.drewN {w : World} {b off : Nat} {zs : List Int} (h : Us w b off zs) (k : Nat) : Us (w.drewN k) b off zs := h
theorem Us.below {w w' : World} {b off : Nat} {zs : List Int} (h : Us w b off zs) (hb : Below w.heap.size w w') : Us w' b off zs :=
  ⟨Nat.lt_of_lt_of_le h.1 hb.size, fun j hj => (hb.cell (p := ⟨b, off + j, none⟩) h.1).trans (h.2 j hj)⟩
theorem cnt_take_snoc (p : Int → Bool) (l : List Int) {k : Nat} (hk : k < l.length) : (l.take (k + 1)).countP p = (l.take k).countP p + if p (l[k]?.getD 0) then 1 else 0 := by
  rw [List.take_succ_eq_append_getElem hk, List.countP_append, List.getElem?_eq_getElem hk]
  simp [List.countP_cons]
theorem cnt_take_le (p : Int → Bool) (l : List Int) (k : Nat) : (l.take k).countP p ≤ k := by
  have h1 := List.countP_le_length (p := p) (l := l.take k)
  have h2 := List.length_take_le k l
  omega
theorem refS_take_snoc (zs : List Int) {k : Nat} (hk : k < zs.length) : refS zs (zs.take (k + 1)) = refStep zs (refS zs (zs.take k)) (zs[k]?.getD 0) := by
  rw [List.take_succ_eq_append_getElem hk, refS_snoc, List.getElem?_eq_getElem hk]
  rfl
set_option maxHeartbeats 2000000 in
set_option maxRecDepth 100000 in
theorem ref_any (b off c : Nat) (zs : List Int) (hlen : zs.length ≤ 1000000) (w : World) (hU : Us w b off zs) :
    Calls Try.prog 7 #[.slice (some ⟨b, off, none⟩) zs.length c] w fun e w' => e = .returned (.int .u64 (refS zs zs)) ∧ ∃ q, w' = w.drewN q := by
  have U := Lib.hid hU
  obtain ⟨n, hn⟩ : ∃ n, n = zs.length := ⟨_, rfl⟩
  have N := Lib.hid hn
  rw [← hn] at hlen ⊢
  clear hU hn
  go_enter Try.func7, Try.ntmps7
  go_wp2_with fail
  go_loopg [3, 4, 5, 6] n (fun q c3 c4 c5 c6 wr => ∃ i qn : Nat, q = n - i ∧ i ≤ n ∧ c3 = .int .u64 (refS zs (zs.take i)) ∧ c4 = .int .i64 i ∧ wr = w.drewN qn)
  case atStart => exact ⟨0, 0, by omega, Nat.zero_le _, rfl, rfl, rfl⟩
  case round =>
    obtain ⟨i, qn, hq, hi, rfl, rfl, hw⟩ := hrel
    have Q := Lib.hid hq
    have HW := Lib.hid hw
    have UR := Lib.hid (show Us wr b off zs from by rw [hw]; exact U.out.drewN qn)
    clear hq hw
    by_cases hin : i < n
    · have hin' : (i : Int) < n := by omega
      have hiz : i < zs.length := by have := N.out; omega
      obtain ⟨x, hx⟩ : ∃ x, x = zs[i]?.getD 0 := ⟨_, rfl⟩
      obtain ⟨B, hB⟩ : ∃ B, B = refS zs (zs.take i) := ⟨_, rfl⟩
      rw [← hB]
      have SN := Lib.hid (show refS zs (zs.take (i + 1)) = refStep zs B x from by rw [refS_take_snoc zs hiz, ← hx, ← hB])
      have HX := Lib.hid hx
      clear hB hx hiz
      go_wp2_with fail
      go_loopg [5, 6] n (fun q c5 c6 wr => ∃ k qn : Nat, q = n - k ∧ k ≤ n ∧ c5 = .int .i64 ((zs.take k).countP (fun y => decide (x ≤ y)) : Nat) ∧ c6 = .int .i64 k ∧ wr = w.drewN qn)
      case atStart => exact ⟨0, qn, by omega, Nat.zero_le _, rfl, rfl, HW.out⟩
      case round =>
        obtain ⟨k, qn, hq, hk, rfl, rfl, hw⟩ := hrel
        have Q2 := Lib.hid hq
        have HW := Lib.hid hw
        have UR := Lib.hid (show Us wr b off zs from by rw [hw]; exact U.out.drewN qn)
        obtain ⟨C, hC⟩ : ∃ C, C = (zs.take k).countP (fun y => decide (x ≤ y)) := ⟨_, rfl⟩
        have hCk : C ≤ k := by rw [hC]; exact cnt_take_le _ _ _
        rw [← hC]
        have HC := Lib.hid hC
        have cx : wr.cell? ⟨b, off + i, none⟩ = some (.int .u64 x) := by rw [HX.out]; exact UR.out.2 i (by have := N.out; omega)
        clear hq hw hC
        by_cases hkn : k < n
        · have hkn' : (k : Int) < n := by omega
          obtain ⟨y, hy⟩ : ∃ y, y = zs[k]?.getD 0 := ⟨_, rfl⟩
          have cy : wr.cell? ⟨b, off + k, none⟩ = some (.int .u64 y) := by rw [hy]; exact UR.out.2 k (by have := N.out; omega)
          have SK := Lib.hid (show (zs.take (k + 1)).countP (fun y => decide (x ≤ y)) = C + if decide (x ≤ y) = true then 1 else 0 from by rw [cnt_take_snoc _ _ (by have := N.out; omega), ← HC.out, ← hy])
          clear hy
          by_cases hxy : x ≤ y
          · go_wp2_with fail
            go_quiet (fail)
            go_wp2
            go_roundg (n - (k + 1))
            case measure => have := Q2.out; omega
            case rel => exact ⟨k + 1, qn + nq, rfl, by omega, by rw [SK.out, if_pos (decide_eq_true hxy)]; go_num, by go_num, by rw [HW.out, World.drewN_drewN]⟩
          · go_wp2_with fail
            go_quiet (fail)
            go_wp2
            go_roundg (n - (k + 1))
            case measure => have := Q2.out; omega
            case rel => exact ⟨k + 1, qn + nq, rfl, by omega, by rw [SK.out, if_neg (by rw [decide_eq_false (show ¬ x ≤ y by omega)]; decide)]; rfl, by go_num, by rw [HW.out, World.drewN_drewN]⟩
        · have hkn' : ¬ (k : Int) < n := by omega
          have hkk : k = n := by omega
          have HC2 := Lib.hid (show C = zs.countP (fun y => decide (x ≤ y)) from by rw [HC.out, List.take_of_length_le (by have := N.out; omega)])
          clear hkk
          by_cases h1 : n < 2 * C
          · have h1' : (n : Int) < 2 * (C : Int) := by omega
            by_cases h2 : B < x
            · have SS := Lib.hid (show refStep zs B x = x from by unfold refStep; rw [if_pos ⟨by rw [← HC2.out, ← N.out]; exact h1, h2⟩])
              go_wp2
              go_roundg (n - (i + 1))
              case measure => have := Q.out; omega
              case rel => exact ⟨i + 1, qn, rfl, by omega, by rw [SN.out, SS.out], by go_num, HW.out⟩
            · have SS := Lib.hid (show refStep zs B x = B from by unfold refStep; rw [if_neg (fun h => h2 h.2)])
              have h2' : x ≤ B := by omega
              go_wp2
              go_roundg (n - (i + 1))
              case measure => have := Q.out; omega
              case rel => exact ⟨i + 1, qn, rfl, by omega, by rw [SN.out, SS.out], by go_num, HW.out⟩
          · have SS := Lib.hid (show refStep zs B x = B from by unfold refStep; rw [if_neg (fun h => h1 (by rw [N.out, HC2.out]; exact h.1))])
            have h1' : ¬ (n : Int) < 2 * (C : Int) := by omega
            have hd1 : decide ((n : Int) < 2 * (C : Int)) = false := decide_eq_false h1'
            go_wp2
            go_roundg (n - (i + 1))
            case measure => have := Q.out; omega
            case rel => exact ⟨i + 1, qn, rfl, by omega, by rw [SN.out, SS.out], by go_num, HW.out⟩
    · have hin' : ¬ (i : Int) < n := by omega
      have R := Lib.hid (show refS zs (zs.take i) = refS zs zs from by rw [List.take_of_length_le (by have := N.out; omega)])
      go_wp2
      go_ret
      exact ⟨by rw [← R.out]; rfl, qn, HW.out⟩
theorem ref_none (A : Option Addr) (c : Nat) (w : World) : Calls Try.prog 7 #[.slice A 0 c] w fun e w' => e = .returned (.int .u64 0) ∧ w' = w := by
  go_enter Try.func7, Try.ntmps7
  go_wp2_with fail
  refine wp_loop_rounds 1 ?_
  rw [rounds_succ]
  go_wp2
  go_ret
  exact ⟨rfl, rfl⟩
end Go.Proofs.Ytnfabkbajhfnfaa
