/- Contracts of votes.Poll's methods on a poll that New made. -/
import Derived.Test.YtnfabkbajhfnfaaVa
import Derived.Laws.Rows
namespace Go.Proofs.Ytnfabkbajhfnfaa
open Go.RowKit

/-- Block b is a poll of n nodes, which said S. -/
def IsPoll (w : World) (b n : Nat) (S : List Int) : Prop :=
  S.length = 7 ∧ 1 ≤ n ∧ n ≤ 7 ∧ w.heap[b]? = some (.cells (.int .i64 n :: S.map (Value.int .u8)).toArray 38 (0, 0))

theorem IsPoll.cell0 {w : World} {b n : Nat} {S : List Int} (h : IsPoll w b n S) : w.cell? ⟨b, 0, none⟩ = some (.int .i64 n) := by
  rw [cell_of_row w b 0 _ _ _ h.2.2.2]; simp
theorem IsPoll.cell {w : World} {b n : Nat} {S : List Int} (h : IsPoll w b n S) (k : Nat) (hk : k < 7) : w.cell? ⟨b, 1 + k, none⟩ = some (.int .u8 (S[k]?.getD 0)) := by
  rw [cell_of_row w b _ _ _ _ h.2.2.2]
  have : k < S.length := by rw [h.1]; exact hk
  rw [Nat.add_comm]
  simp [List.getElem?_eq_getElem this]
theorem IsPoll.free {w : World} {b n : Nat} {S : List Int} (h : IsPoll w b n S) (k : Nat) : w.frozen? ⟨b, k, none⟩ = false :=
  frozen_of_row w b k _ _ h.2.2.2
theorem IsPoll.lt {w : World} {b n : Nat} {S : List Int} (h : IsPoll w b n S) : b < w.heap.size :=
  block_lt_of_cell (a := ⟨b, 0, none⟩) h.cell0
theorem IsPoll.below {w w' : World} {b n B : Nat} {S : List Int} (h : IsPoll w b n S) (hb : Below B w w') (hlt : b < B) : IsPoll w' b n S :=
  ⟨h.1, h.2.1, h.2.2.1, (hb.block b hlt).trans h.2.2.2⟩
theorem IsPoll.drewN {w : World} {b n : Nat} {S : List Int} (h : IsPoll w b n S) (k : Nat) : IsPoll (w.drewN k) b n S := h
theorem IsPoll.set {w : World} {b n : Nat} {S : List Int} (h : IsPoll w b n S) (k : Nat) (v : Int) : IsPoll (w.setCell ⟨b, 1 + k, none⟩ (.int .u8 v)) b n (S.set k v) := by
  refine ⟨by rw [List.length_set]; exact h.1, h.2.1, h.2.2.1, ?_⟩
  rw [heap_setCell_same w b (1 + k) _ _ _ h.2.2.2]
  rw [Nat.add_comm]
  simp [List.map_set]
theorem IsPoll.far {w : World} {b n : Nat} {S : List Int} (h : IsPoll w b n S) {p : Addr} (hp : b ≠ p.block) (u : Value) : IsPoll (w.setCell p u) b n S :=
  ⟨h.1, h.2.1, h.2.2.1, (heap_setCell_other w p b u hp).trans h.2.2.2⟩

def cnt (v : Int) (l : List Int) : Int := ((l.filter fun x => x == v).length : Nat)
theorem cnt_bd (v : Int) (l : List Int) : 0 ≤ cnt v l ∧ cnt v l ≤ l.length := by
  unfold cnt; exact ⟨by omega, by have := List.length_filter_le (fun x => x == v) l; omega⟩
theorem cnt_snoc (v : Int) (l : List Int) (k : Nat) (hk : k < l.length) : cnt v (l.take (k + 1)) = cnt v (l.take k) + if l[k]?.getD 0 = v then 1 else 0 := by
  unfold cnt
  rw [List.take_succ_eq_append_getElem hk, List.filter_append, List.length_append]
  rw [List.getElem?_eq_getElem hk]
  by_cases h : l[k] = v <;> simp [h]

set_option maxHeartbeats 400000 in
theorem many_any (b n : Nat) (S : List Int) (v : Int) (w : World) (h : IsPoll w b n S) :
    Calls Try.prog 17 #[.pointer (some ⟨b, 0, none⟩), .int .u8 v] w fun e w' => e = .returned (.int .i64 (cnt v (S.take n))) ∧ ∃ m, w' = w.drewN m := by
  have hc0 := h.cell0
  have h1 : (1 : Int) ≤ (n : Int) := by have := h.2.1; omega
  have h7 : (n : Int) ≤ 7 := by have := h.2.2.1; omega
  have hl := Lib.hid h.1
  have H := Lib.hid h
  clear h
  go_enter Try.func17, Try.ntmps17
  go_wp2_with (go_at_call 15; refine (there_yes _ n _ hc0 (by omega)).mono ?_; rintro e w' ⟨rfl, rfl⟩)
  go_quiet (fail)
  go_wp2
  go_loop [4, 18] (fun c i => ∃ k : Nat, k ≤ n ∧ i = .int .i64 k ∧ c = .int .i64 (cnt v (S.take k))) (fun _ i => n - (intOf i).toNat)
  case atStart => exact ⟨0, Nat.zero_le _, rfl, rfl⟩
  case round =>
    obtain ⟨k, hk, rfl, rfl⟩ := hrel
    have hbd := cnt_bd v (S.take k)
    have hlt : (S.take k).length ≤ k := List.length_take_le _ _
    by_cases hkn : k < n
    · have hcell : w.cell? ⟨b, 1 + k, none⟩ = some (.int .u8 (S[k]?.getD 0)) := H.out.cell k (by omega)
      have hs := Lib.hid (cnt_snoc v S k (by rw [hl.out]; omega))
      by_cases hv : S[k]?.getD 0 = v
      · have hv' : (S[k]?.getD 0 == v) = true := by simpa using hv
        have HV := Lib.hid hv
        clear hv
        go_wp2
        go_round
        case rel => exact ⟨k + 1, by omega, by go_num, by rw [hs.out, if_pos HV.out]⟩
        case measure => simp [intOf]; omega
      · have hv' : (S[k]?.getD 0 == v) = false := by simpa using hv
        have HV := Lib.hid hv
        clear hv
        go_wp2
        go_round
        case rel => exact ⟨k + 1, by omega, by go_num, by rw [hs.out, if_neg HV.out]; simp⟩
        case measure => simp [intOf]; omega
    · obtain rfl : k = n := by omega
      go_wp2
      go_ret
      exact ⟨rfl, _, rfl⟩

theorem yes_any (b n : Nat) (S : List Int) (w : World) (h : IsPoll w b n S) :
    Calls Try.prog 16 #[.pointer (some ⟨b, 0, none⟩)] w fun e w' => e = .returned (.int .i64 (cnt 1 (S.take n))) ∧ ∃ m, w' = w.drewN m := by
  have H := Lib.hid h
  clear h
  go_enter Try.func16, Try.ntmps16
  go_wp2_with (go_at_call 17; refine (many_any _ n S _ _ H.out).mono ?_; rintro e w' ⟨rfl, m, rfl⟩)
  go_ret
  exact ⟨rfl, _, rfl⟩

def wonB (n : Nat) (S : List Int) : Bool := decide ((n : Int) / 2 + 1 ≤ cnt 1 (S.take n))
def lostB (n : Nat) (S : List Int) : Bool := decide ((n : Int) - cnt 2 (S.take n) < (n : Int) / 2 + 1)

set_option maxHeartbeats 400000 in
theorem won_any (b n : Nat) (S : List Int) (w : World) (h : IsPoll w b n S) :
    Calls Try.prog 11 #[.pointer (some ⟨b, 0, none⟩)] w fun e w' => e = .returned (.bool (wonB n S)) ∧ ∃ m, w' = w.drewN m := by
  have hc0 := h.cell0
  have h1 : (1 : Int) ≤ (n : Int) := by have := h.2.1; omega
  have h7 : (n : Int) ≤ 7 := by have := h.2.2.1; omega
  have H := Lib.hid h
  have hb := cnt_bd 1 (S.take n)
  have hW : wonB n S = decide ((n : Int) / 2 + 1 ≤ cnt 1 (S.take n)) := rfl
  have HW := Lib.hid hW
  clear h hW
  go_enter Try.func11, Try.ntmps11
  go_wp2_with fail
  go_quiet (first | ((go_at_call 15; exact quiet_left_ (there_yes _ n _ hc0 (by omega)))) | ((go_at_call 16; exact Calls.quiet_of (yes_any _ n S _ (H.out.drewN _)))) | ((go_at_call 8; exact quiet_left_ (most_any _ _ (by omega) (by omega)))))
  go_wp2
  go_ret
  exact ⟨by rw [HW.out]; rfl, _, rfl⟩

set_option maxHeartbeats 400000 in
theorem lost_any (b n : Nat) (S : List Int) (w : World) (h : IsPoll w b n S) :
    Calls Try.prog 12 #[.pointer (some ⟨b, 0, none⟩)] w fun e w' => e = .returned (.bool (lostB n S)) ∧ ∃ m, w' = w.drewN m := by
  have hc0 := h.cell0
  have h1 : (1 : Int) ≤ (n : Int) := by have := h.2.1; omega
  have h7 : (n : Int) ≤ 7 := by have := h.2.2.1; omega
  have H := Lib.hid h
  have hb := cnt_bd 2 (S.take n)
  have hl7 : ((S.take n).length : Int) ≤ n := by have := List.length_take_le n S; omega
  have hW : lostB n S = decide ((n : Int) - cnt 2 (S.take n) < (n : Int) / 2 + 1) := rfl
  have HW := Lib.hid hW
  clear h hW
  go_enter Try.func12, Try.ntmps12
  go_wp2_with fail
  go_quiet (first | ((go_at_call 15; exact quiet_left_ (there_yes _ n _ hc0 (by omega)))) | ((go_at_call 17; exact Calls.quiet_of (many_any _ n S _ _ (H.out.drewN _)))) | ((go_at_call 8; exact quiet_left_ (most_any _ _ (by omega) (by omega)))))
  go_wp2
  go_ret
  exact ⟨by rw [HW.out]; rfl, _, rfl⟩
end Go.Proofs.Ytnfabkbajhfnfaa
