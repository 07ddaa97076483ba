/- lives: the chapter's example of disks. -/
import Derived.Test.YtenobcfgapolhaaDskO
namespace Go.Proofs.Ytenobcfgapolhaa
open Go.RowKit

theorem nm_a : Nm ⟨#[97]⟩ := ⟨by decide +kernel, by decide⟩

set_option maxHeartbeats 2000000 in
set_option maxRecDepth 100000 in
theorem dlives (w : World) : Calls Try.prog 5 #[] w fun e w' => e = .returned (.bool true) ∧ Below w.heap.size w w' := by
  go_enter Try.func5, Try.ntmps5
  go_wp2_with fail
  refine (on_new ⟨#[97]⟩ w).mono ?_
  rintro e w1 ⟨rfl, h1⟩
  have H1 := Lib.hid (h1.alloc (.cells (bc [1, 2]).toArray 5))
  have Y1 := Lib.hid (Bs.lit w1 [1, 2] (by simp))
  clear h1
  go_wp2_with fail
  refine (on_add ⟨some ([1, 2], 0), -1, false⟩ 0 nm_a _ [1, 2] (by intro c hc; simp at hc; rcases hc with rfl | rfl <;> simp [byt]) (by simp) H1.out Y1.out rfl).mono ?_
  rintro e w2 ⟨rfl, h2⟩
  have H2 := Lib.hid h2
  clear h2
  go_wp2_with fail
  refine (on_sure ⟨some ([1, 2], 2), -1, false⟩ 0 nm_a H2.out rfl).mono ?_
  rintro e w3 ⟨rfl, h3⟩
  have H3 := Lib.hid (h3.alloc (.cells (bc [3, 4]).toArray 5))
  have Y3 := Lib.hid (Bs.lit w3 [3, 4] (by simp))
  clear h3
  go_wp2_with fail
  refine (on_add ⟨some ([1, 2, 3, 4], 2), -1, false⟩ 0 nm_a _ [3, 4] (by intro c hc; simp at hc; rcases hc with rfl | rfl <;> simp [byt]) (by simp) H3.out Y3.out rfl).mono ?_
  rintro e w4 ⟨rfl, h4⟩
  have H4 := Lib.hid (h4.alloc (.cells #[.int .i64 1] 3))
  have Y4 := Lib.hid (show Rd (w4.alloc (.cells #[.int .i64 1] 3)) 1 (.slice (some ⟨w4.heap.size, 0, none⟩) 1 1) 1 (lossC [1]) from ⟨_, _, rfl, Nat.le_refl _, rfl, .inr ⟨w4.heap.size, 0, rfl, by simp, fun j u hu => by
    rw [Nat.zero_add, (Blk.new w4 3 #[.int .i64 1]).cell]
    simpa [lossC] using hu⟩⟩)
  clear h4
  go_wp2_with fail
  refine (on_lift ⟨some ([1, 2, 3], 3), -1, false⟩ _ [1] (by simp) H4.out Y4.out rfl).mono ?_
  rintro e w5 ⟨rfl, h5⟩
  have H5 := Lib.hid h5
  clear h5
  go_wp2_with fail
  refine (on_read [1, 2, 3] 0 nm_a H5.out rfl).mono ?_
  rintro e w6 ⟨P6, Y6, rfl, y6, h6, -⟩
  have Y6' := Lib.hid y6
  have H6 := Lib.hid h6
  clear y6 h6
  go_wp2_with fail
  refine (on_fuse 0 (by omega) H6.out).mono ?_
  rintro e w7 ⟨rfl, h7⟩
  have H7 := Lib.hid (h7.alloc (.cells (bc [9]).toArray 5))
  have Y7 := Lib.hid (Bs.lit w7 [9] (by simp))
  clear h7
  go_wp2_with fail
  refine (on_put ⟨some ([1, 2, 3], 3), 0, true⟩ 17 nm_a _ [9] (by intro c hc; simp at hc; subst hc; simp [byt]) (by simp) H7.out Y7.out rfl).mono ?_
  rintro e w8 ⟨rfl, h8⟩
  have hcv : (convert 32 9 (.slice P6 3 3)).run Try.prog w8 = .ok (.string ⟨#[1, 2, 3]⟩) w8 := run_convert_bs (P := Try.prog) (h8.sl Y6'.out (by simp)) 32 5 9 Try.underlying32 Try.underlying5 Try.underlying9
  have H8 := Lib.hid h8
  clear h8
  go_wp2_with fail
  refine (on_dead H8.out).mono ?_
  rintro e w9 ⟨rfl, rfl⟩
  go_wp2
  go_ret
  exact ⟨rfl, H8.out.bel⟩
end Go.Proofs.Ytenobcfgapolhaa
