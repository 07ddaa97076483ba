/- lives: the chapter's examples. -/
import Derived.Test.YtnfabkbajhfnfaaVp
namespace Go.Proofs.Ytnfabkbajhfnfaa
open Go.RowKit

theorem reached579 (b : Nat) (w : World) (hb : b < w.heap.size) (h0 : w.cell? ⟨b, 0, none⟩ = some (.int .u64 5)) (h1 : w.cell? ⟨b, 1, none⟩ = some (.int .u64 9)) (h2 : w.cell? ⟨b, 2, none⟩ = some (.int .u64 7)) :
    Calls Try.prog 6 #[.slice (some ⟨b, 0, none⟩) 3 3] w fun e w' => e = .returned (.int .u64 7) ∧ Below w.heap.size w w' := by
  refine (reached_any b 0 3 [5, 9, 7] (by decide) (by decide) w hb ?_).mono ?_
  · intro j hj
    match j, hj with
    | 0, _ => exact h0
    | 1, _ => exact h1
    | 2, _ => exact h2
  · rintro e w' ⟨ds, hd, rfl, hbl⟩
    refine ⟨?_, hbl⟩
    have h := rch_of hd (by decide)
    obtain ⟨v, hv⟩ : ∃ v, v = ds[([5, 9, 7] : List Int).length - (([5, 9, 7] : List Int).length / 2 + 1)]! := ⟨_, rfl⟩
    rw [← hv] at h ⊢
    clear hv
    have hm := h.mem
    have hg := h.ge
    have ht := h.gt
    simp only [List.mem_cons, List.not_mem_nil, or_false] at hm
    rcases hm with rfl | rfl | rfl
    · exact absurd ht (by decide)
    · exact absurd hg (by decide)
    · rfl

theorem say_on_at (b n : Nat) (S S' : List Int) (x : Int) (k : Nat) (y : Bool) (w : World) (h : IsPoll w b n S) (hk : k < n) (hx : x = k + 1) (hs : S[k]?.getD 0 = 0) (hS : S.set k (if y then 1 else 2) = S') :
    Calls Try.prog 10 #[.pointer (some ⟨b, 0, none⟩), .int .u8 x, .bool y] w fun e w' =>
      e = .returned (.bool true) ∧ IsPoll w' b n S' ∧ w'.heap.size = w.heap.size ∧ w.grownBy w' (some b) := by
  subst hx; subst hS; exact say_on' b n S k y w h hk hs

set_option maxHeartbeats 1000000 in
theorem lives_any (w : World) : Calls Try.prog 5 #[] w fun e w' => e = .returned (.bool true) ∧ Below w.heap.size w w' := by
  go_enter Try.func5, Try.ntmps5
  go_wp2_with fail
  refine (new_any 3 _ (by omega) (by omega)).mono ?_
  rintro e w' ⟨rfl, rfl⟩
  have p0 := Lib.hid (IsPoll.born 3 w (by omega) (by omega))
  have b0 := Lib.hid ((Below.refl w.heap.size w).alloc (Nat.le_refl _) (.cells #[.int .i64 (3 : Nat), .int .u8 0, .int .u8 0, .int .u8 0, .int .u8 0, .int .u8 0, .int .u8 0, .int .u8 0] 38))
  go_wp2_with fail
  refine (say_on_at _ 3 zeros7 [1, 0, 0, 0, 0, 0, 0] _ 0 _ _ p0.out (by omega) rfl rfl rfl).mono ?_
  rintro e w1 ⟨rfl, q1, z1, g1⟩
  have p1 := Lib.hid q1
  have b1 := Lib.hid (b0.out.grown g1 b0.out.size (fun k e => by cases e; exact Nat.le_refl _))
  clear q1 z1 g1 p0 b0
  go_wp2_with fail
  refine (say_off _ 3 _ _ _ _ p1.out (by omega) (by omega) (.inr (.inr ⟨0, rfl, by omega, by decide⟩))).mono ?_
  rintro e w' ⟨rfl, rfl⟩
  go_wp2_with fail
  have hw : wonB 3 [1, 0, 0, 0, 0, 0, 0] = false := by decide
  refine (won_any _ 3 _ _ p1.out).mono ?_
  rintro e w' ⟨rfl, m, rfl⟩
  go_wp2_with fail
  refine (say_on_at _ 3 _ [1, 1, 0, 0, 0, 0, 0] _ 1 _ _ (p1.out.drewN m) (by omega) rfl rfl rfl).mono ?_
  rintro e w2 ⟨rfl, q2, z2, g2⟩
  have p2 := Lib.hid q2
  have b2 := Lib.hid ((b1.out.trans ⟨rfl, rfl, rfl, Nat.le_refl _, fun _ _ => rfl⟩ : Below w.heap.size w (w1.drewN m)).grown g2 b1.out.size (fun k e => by cases e; exact Nat.le_refl _))
  clear q2 z2 g2 p1 b1 hw
  go_wp2_with fail
  refine (most_any _ _ (by omega) (by omega)).mono ?_
  rintro e w' ⟨rfl, rfl⟩
  have c0 := Lib.hid (show (w2.alloc (.cells #[.int .u64 5, .int .u64 9, .int .u64 7] 24)).cell? ⟨w2.heap.size, 0, none⟩ = some (.int .u64 5) by rw [cell_of_row _ _ _ _ _ _ (heap_alloc_new _ _)]; rfl)
  have c1 := Lib.hid (show (w2.alloc (.cells #[.int .u64 5, .int .u64 9, .int .u64 7] 24)).cell? ⟨w2.heap.size, 1, none⟩ = some (.int .u64 9) by rw [cell_of_row _ _ _ _ _ _ (heap_alloc_new _ _)]; rfl)
  have c2 := Lib.hid (show (w2.alloc (.cells #[.int .u64 5, .int .u64 9, .int .u64 7] 24)).cell? ⟨w2.heap.size, 2, none⟩ = some (.int .u64 7) by rw [cell_of_row _ _ _ _ _ _ (heap_alloc_new _ _)]; rfl)
  go_wp2_with fail
  refine (reached579 _ _ (by simp) c0.out c1.out c2.out).mono ?_
  rintro e w3 ⟨rfl, hb3⟩
  have b3' : Below w.heap.size w w3 := (b2.out.alloc b2.out.size _).trans (hb3.mono (by simpa using Nat.le_succ_of_le b2.out.size))
  have p3 := Lib.hid (show IsPoll w3 w.heap.size 3 [1, 1, 0, 0, 0, 0, 0] from (p2.out.below ((Below.refl w2.heap.size w2).alloc (Nat.le_refl _) _) p2.out.lt).below hb3 (by simpa using Nat.lt_succ_of_lt p2.out.lt))
  have b3 := Lib.hid b3'
  clear hb3 b3' c0 c1 c2
  have hw : wonB 3 [1, 1, 0, 0, 0, 0, 0] = true := by decide
  have hl : lostB 3 [1, 1, 0, 0, 0, 0, 0] = false := by decide
  go_wp2_with fail
  refine (won_any _ 3 _ _ p3.out).mono ?_
  rintro e w' ⟨rfl, m2, rfl⟩
  go_wp2_with fail
  refine (lost_any _ 3 _ _ (p3.out.drewN m2)).mono ?_
  rintro e w' ⟨rfl, m3, rfl⟩
  go_wp2
  go_ret
  exact ⟨rfl, b3.out.trans ⟨rfl, rfl, rfl, Nat.le_refl _, fun _ _ => rfl⟩⟩
end Go.Proofs.Ytnfabkbajhfnfaa
