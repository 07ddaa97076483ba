/- StatesVoid: walk. -/
import Derived.Test.YtojafgijhbnjoaaDoorSli
namespace Go.Proofs.YtojafgijhbnjoaaDoor
open Go.RowKit

set_option maxHeartbeats 2000000 in
set_option maxRecDepth 100000 in
theorem svoid_walk (t v : Int) (w : World) (T : Tab w) : Calls Tryd.prog 3 #[.int .u64 t, .int .u8 v] w fun e w' => e = .returned (.bool true) ∧ Below w.heap.size w w' := by
  have TT := Lib.hid T
  have h0 : 0 < w.heap.size := block_lt_of_cell (T 0 (by decide))
  have HZ := Lib.hid h0
  obtain ⟨W, hW⟩ : ∃ W, W = (w.alloc (.cells (prC 0 0 (.pointer none) false) 27)).alloc (.cells #[.pointer none, .pointer (some ⟨w.heap.size, 0, none⟩)] 28) := ⟨_, rfl⟩
  have b1 := (below_alloc_ w (.cells (prC 0 0 (.pointer none) false) 27)).trans ((below_alloc_ (w.alloc (.cells (prC 0 0 (.pointer none) false) 27)) (.cells #[.pointer none, .pointer (some ⟨w.heap.size, 0, none⟩)] 28)).mono (by simp))
  have k1 := (Blk.new w 27 (prC 0 0 (.pointer none) false)).alloc (.cells #[.pointer none, .pointer (some ⟨w.heap.size, 0, none⟩)] 28)
  have k2 := Blk.new (w.alloc (.cells (prC 0 0 (.pointer none) false) 27)) 28 #[.pointer none, .pointer (some ⟨w.heap.size, 0, none⟩)]
  rw [← hW] at b1 k1 k2
  simp only [World.size_alloc] at k2
  have B1 := Lib.hid b1
  have K1 := Lib.hid k1
  have K2 := Lib.hid k2
  have HWW := Lib.hid hW
  clear T h0 hW b1 k1 k2
  go_enter Tryd.func3, Tryd.ntmps3
  go_wp2_with fail
  refine (open_nil _).mono ?_
  rintro e w1 ⟨rfl, rfl⟩
  rw [show (w.alloc (.cells #[.int .u64 0, .int .u8 0, .pointer none, .bool false] 27)).alloc (.cells #[.pointer none, .pointer (some ⟨w.heap.size, 0, none⟩)] 28) = W from HWW.out.symm]
  go_wp2_with fail
  go_loopg [9] 2 (fun g c9 wr => ∃ i : Nat, i ≤ 2 ∧ g = 2 - i ∧ c9 = .int .i64 i ∧ Below W.heap.size W wr)
  case atStart => exact ⟨0, by omega, rfl, rfl, Below.refl _ _⟩
  case round =>
    obtain ⟨i, hi, hg, rfl, hb⟩ := hrel
    have G := Lib.hid hg
    have BB := Lib.hid hb
    have P1 := Lib.hid (K1.out.below hb K1.out.lt)
    have P2 := Lib.hid (K2.out.below hb K2.out.lt)
    clear hg hb
    have a0 := P2.out.cell 0
    have a1 := P2.out.cell 1
    simp at a0 a1
    match i, hi with
    | 0, _ =>
      go_wp2_with fail
      refine (set_nil t v _).mono ?_
      rintro e w2 ⟨rfl, b2⟩
      have BB2 := Lib.hid (BB.out.trans (b2.mono BB.out.size))
      have z0 := ((P2.out.below b2 P2.out.lt)).cell 0
      simp at z0
      go_wp2_with fail
      refine (term_nil _).mono ?_
      rintro e w3 ⟨rfl, rfl⟩
      go_wp2_with fail
      refine (vote_nil _).mono ?_
      rintro e w3 ⟨rfl, rfl⟩
      go_wp2
      go_roundg 1
      case measure => have := G.out; omega
      case rel => exact ⟨1, by omega, rfl, by go_num, BB2.out⟩
    | 1, _ =>
      go_wp2_with fail
      refine (set_none _ 0 0 t v false _ P1.out).mono ?_
      rintro e w2 ⟨rfl, b2⟩
      have BB2 := Lib.hid (BB.out.trans (b2.mono BB.out.size))
      have Q1 := Lib.hid (P1.out.below b2 P1.out.lt)
      have z1 := ((P2.out.below b2 P2.out.lt)).cell 1
      simp at z1
      go_wp2_with fail
      refine (term_any _ 0 0 _ false _ Q1.out).mono ?_
      rintro e w3 ⟨rfl, rfl⟩
      go_wp2_with fail
      refine (vote_any _ 0 0 _ false _ Q1.out).mono ?_
      rintro e w3 ⟨rfl, rfl⟩
      go_wp2
      go_roundg 0
      case measure => have := G.out; omega
      case rel => exact ⟨2, by omega, rfl, by go_num, BB2.out⟩
    | 2, _ =>
      go_wp2_with fail
      have bw := B1.out.trans (BB.out.mono B1.out.size)
      refine (slives _ (TT.out.below bw) (Nat.lt_of_lt_of_le HZ.out bw.size)).mono ?_
      rintro e w3 ⟨rfl, b3⟩
      have BW := Lib.hid (bw.trans (b3.mono bw.size))
      clear b3 bw
      go_wp2
      go_ret
      exact ⟨rfl, BW.out⟩
end Go.Proofs.YtojafgijhbnjoaaDoor
