/- sums.Put, frames.Put. -/
import Derived.Test.YtnegondlkfeleaaDoorSum
import Derived.Test.YtnegondlkfeleaaDoorCat
namespace Go.Proofs.YtnegondlkfeleaaDoor
open Go.RowKit

theorem fourS_byt (n : Int) (h : 0 ≤ n ∧ n < 4294967296) : ∀ c ∈ fourS n, byt c := by
  intro c hc
  simp [fourS] at hc
  unfold byt
  rcases hc with rfl | rfl | rfl | rfl <;> omega
theorem moreS_in (n : Int) (bs : List Int) : 0 ≤ moreS n bs ∧ moreS n bs < 4294967296 := u32_in _ _ _
/-- Bytes and their sum. -/
def sumB (bs : List Int) : List Int := bs ++ fourS (moreS 0 bs)
theorem sumB_byt {bs : List Int} (h : ∀ c ∈ bs, byt c) : ∀ c ∈ sumB bs, byt c := by
  intro c hc
  rcases List.mem_append.1 hc with hc | hc
  · exact h c hc
  · exact fourS_byt _ (moreS_in 0 bs) c hc
theorem sumB_len (bs : List Int) : (sumB bs).length = bs.length + 4 := by simp [sumB, fourS]
/-- A body's frame. -/
def frameB (bs : List Int) : List Int := sumB (nb bs.length ++ bs)
theorem frameB_byt {bs : List Int} (h : ∀ c ∈ bs, byt c) : ∀ c ∈ frameB bs, byt c := sumB_byt fun c hc => by
  rcases List.mem_append.1 hc with hc | hc
  · exact nb_byt _ c hc
  · exact h c hc

theorem concat2 (v1 v2 : Value) (xs ys : List Int) (w : World) (h1 : Bs w v1 xs) (h2 : Bs w v2 ys) (hl : xs.length + ys.length ≤ 140737488355328) :
    Calls Tryd.prog 90 #[.slice (some ⟨w.heap.size, 0, none⟩) 2 2] (w.alloc (.cells #[v1, v2] 25)) fun e w' => ∃ v', e = .returned v' ∧ Bf w.heap.size w w' v' (xs ++ ys) := by
  have hb := below_alloc_ w (.cells #[v1, v2] 25)
  have hc : cat [xs, ys] = xs ++ ys := by simp [cat]
  have := concat_any (some ⟨w.heap.size, 0, none⟩) 2 [v1, v2] [xs, ys] (w.alloc (.cells #[v1, v2] 25))
    ⟨_, _, rfl, Nat.le_refl _, rfl, .inr ⟨w.heap.size, 0, rfl, by simp, fun j u hu => by rw [Nat.zero_add, (Blk.new w 25 #[v1, v2]).cell]; simpa using hu⟩⟩ rfl
    (fun j hj hj' => by
      match j, hj with
      | 0, _ => exact h1.below hb
      | 1, _ => exact h2.below hb) (by rw [hc, List.length_append]; exact hl) (by simp)
  rw [hc] at this
  exact this.mono fun e w' ⟨v', he, hB⟩ => ⟨v', he, hB.own.le hb.size, hb.trans (hB.bel.mono hb.size), Nat.le_trans hb.size hB.le⟩

set_option maxHeartbeats 1000000 in
set_option maxRecDepth 100000 in
theorem sput_any (v : Value) (bs : List Int) (w : World) (h : Bs w v bs) (hby : ∀ c ∈ bs, byt c) (T : Tab w) (hl : bs.length ≤ 140737488355000) :
    Calls Tryd.prog 91 #[v] w fun e w' => ∃ v', e = .returned v' ∧ Bo w.heap.size w' v' (sumB bs) ∧ Below w.heap.size w w' := by
  have H := Lib.hid h
  have BY := Lib.hid hby
  have TT := Lib.hid T
  obtain ⟨A0, c0, rfl, -⟩ := id h
  clear h hby T
  go_enter Tryd.func91, Tryd.ntmps91
  go_wp2_with fail
  refine (of_any _ bs _ H.out BY.out TT.out (by omega)).mono ?_
  rintro e w1 ⟨rfl, rfl⟩
  go_wp2_with fail
  refine (four_any _ _ (moreS_in 0 bs)).mono ?_
  rintro e w1 ⟨v1, rfl, h1, b1⟩
  obtain ⟨A1, n1, c1, rfl⟩ := h1.sl
  have H1 := Lib.hid h1
  have B1 := Lib.hid b1
  clear h1 b1
  go_wp2_with fail
  refine (concat2 _ _ bs (fourS (moreS 0 bs)) w1 (H.out.below B1.out) H1.out.bs (by simp [fourS]; omega)).mono ?_
  rintro e w2 ⟨v2, rfl, h2⟩
  have hlen : (bs ++ fourS (moreS 0 bs)).length ≤ 4611686018427387904 := by simp [fourS]; omega
  obtain ⟨A, c, rfl, hc, ho⟩ := h2.own.clip
  have H2 := Lib.hid h2
  have HO := Lib.hid ho
  clear h2 ho
  obtain ⟨L, hL⟩ : ∃ L, L = (bs ++ fourS (moreS 0 bs)).length := ⟨_, rfl⟩
  rw [← hL] at hc hlen ⊢
  have LL := Lib.hid hL
  clear hL
  go_wp2_with fail
  refine (byt_clip A _ c w2 hc hlen).mono ?_
  rintro e w3 ⟨rfl, rfl⟩
  go_wp2
  go_ret
  exact ⟨_, rfl, by rw [LL.out]; exact Ow.le HO.out B1.out.size, B1.out.trans (H2.out.bel.mono B1.out.size)⟩

set_option maxHeartbeats 1000000 in
set_option maxRecDepth 100000 in
theorem fput_any (v1 v2 : Value) (xs bs : List Int) (w : World) (h1 : Bs w v1 xs) (h2 : Bs w v2 bs) (hby : ∀ c ∈ bs, byt c) (T : Tab w) (hx : xs.length ≤ 70368744177664) (hl : bs.length ≤ 8192) :
    Calls Tryd.prog 61 #[v1, v2] w fun e w' => ∃ v', e = .returned (.tuple #[v', .int .i64 0]) ∧ Bo w.heap.size w' v' (xs ++ frameB bs) ∧ Below w.heap.size w w' := by
  have HA := Lib.hid h1
  have HB := Lib.hid h2
  have BY := Lib.hid hby
  have TT := Lib.hid T
  obtain ⟨A0, c0, rfl, -⟩ := id h1
  obtain ⟨A1, c1, rfl, -⟩ := id h2
  clear h1 h2 hby T
  have hl' : ¬ (8192 : Int) < (bs.length : Int) := by omega
  have hw : IntKind.u64.wrap (bs.length : Int) = bs.length := by rw [IntKind.wrap_u64]; omega
  go_enter Tryd.func61, Tryd.ntmps61
  go_wp2_with fail
  refine (num_any (.slice none 0 0) [] bs.length _ (Bo.nil_ 0 _).bs (by omega) (by simp)).mono ?_
  rintro e w1 ⟨v3, rfl, h3, b3⟩
  obtain ⟨A3, n3, c3, rfl⟩ := h3.sl
  have h3' := h3.bs
  rw [List.nil_append] at h3'
  have H3 := Lib.hid h3'
  have B3 := Lib.hid b3
  clear h3 h3' b3
  have hnb := nb_ten (n := bs.length) (by omega)
  go_wp2_with fail
  refine (concat2 _ _ (nb bs.length) bs w1 H3.out (HB.out.below B3.out) (by omega)).mono ?_
  rintro e w2 ⟨v4, rfl, h4⟩
  obtain ⟨A4, n4, c4, rfl⟩ := h4.own.sl
  have B4 := Lib.hid (B3.out.trans (h4.bel.mono B3.out.size))
  have H4 := Lib.hid h4
  clear h4
  go_wp2_with fail
  refine (sput_any _ (nb bs.length ++ bs) w2 H4.out.own.bs (by
    intro c hc
    rcases List.mem_append.1 hc with hc | hc
    · exact nb_byt _ c hc
    · exact BY.out c hc) (TT.out.below B4.out) (by rw [List.length_append]; omega)).mono ?_
  rintro e w3 ⟨v5, rfl, h5, b5⟩
  obtain ⟨A5, n5, c5, rfl⟩ := h5.sl
  have H5 := Lib.hid (show Bs w3 _ (frameB bs) from h5.bs)
  have B5 := Lib.hid (B4.out.trans (b5.mono B4.out.size))
  clear h5 b5
  have hfl : (frameB bs).length ≤ 8300 := by unfold frameB; rw [sumB_len, List.length_append]; omega
  go_wp2_with fail
  refine (concat2 _ _ xs (frameB bs) w3 (HA.out.below B5.out) H5.out (by omega)).mono ?_
  rintro e w4 ⟨v6, rfl, h6⟩
  have hlen : (xs ++ frameB bs).length ≤ 4611686018427387904 := by rw [List.length_append]; omega
  obtain ⟨A, c, rfl, hc, ho⟩ := h6.own.clip
  have H6 := Lib.hid h6
  have HO := Lib.hid ho
  clear h6 ho
  obtain ⟨L, hL⟩ : ∃ L, L = (xs ++ frameB bs).length := ⟨_, rfl⟩
  rw [← hL] at hc hlen ⊢
  have LL := Lib.hid hL
  clear hL
  go_wp2_with fail
  refine (byt_clip A _ c w4 hc hlen).mono ?_
  rintro e w5 ⟨rfl, rfl⟩
  go_wp2
  go_ret2
  exact ⟨_, rfl, by rw [LL.out]; exact Ow.le HO.out B5.out.size, B5.out.trans (H6.out.bel.mono B5.out.size)⟩
end Go.Proofs.YtnegondlkfeleaaDoor
