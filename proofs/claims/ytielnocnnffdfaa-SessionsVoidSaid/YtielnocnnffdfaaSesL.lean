/- lives: the chapter's example. -/
import Derived.Test.YtielnocnnffdfaaBkC
namespace Go.Proofs.Ytielnocnnffdfaa
open Go.RowKit

theorem note_ex : noteE (fun _ => Pg.zero) 1 5 1 = 0 := by decide
def BL : Nat → Pg := noteB (fun _ => Pg.zero) 1 5 0 0 [(3, 0)]
theorem ask_ex5 : askR BL 1 5 = ((0, 0, [(3, 0)]), true, 0) := rfl
theorem ask_ex4 : askR BL 1 4 = ((0, 0, []), false, 18) := rfl
theorem ask_ex9 : askR BL 1 9 = ((0, 0, []), false, 0) := rfl

theorem ask_at (b : Nat) (B : Nat → Pg) (c n E A R : Int) (gs : List (Int × Int)) (l : Bool) (w : World) (h : IsBk w b B) (hr : askR B c n = ((E, A, gs), l, R)) :
    Calls Try.prog 20 #[.pointer (some ⟨b, 0, none⟩), .int .u8 c, .int .u64 n] w fun e w' => ∃ P, e = .returned (.tuple #[repV E A (.slice P gs.length gs.length), .bool l, .int .i64 R]) ∧
      Ow w.heap.size w' 42 2 (.slice P gs.length gs.length) gs.length (gcells gs) ∧ Below w.heap.size w w' := by
  have := ask_any b B c n w h
  rw [hr] at this
  exact this

theorem note_at (b : Nat) (B B' : Nat → Pg) (c n E A R : Int) (v : Value) (gs : List (Int × Int)) (w : World) (h : IsBk w b B) (hv : Gs w v gs) (hn2 : n ≤ 18446744073709551615) (hR : noteE B c n gs.length = R) (hB : noteB B c n E A gs = B') :
    Calls Try.prog 15 #[.pointer (some ⟨b, 0, none⟩), .int .u8 c, .int .u64 n, repV E A v] w fun e w' => e = .returned (.int .i64 R) ∧ IsBk w' b B' ∧ w.grownBy w' (some b) := by
  subst hR; subst hB; exact note_any b B c n E A v gs w h hv hn2
theorem IsBk.blk {w : World} {b : Nat} {B : Nat → Pg} (h : IsBk w b B) : ∃ cs, Blk w b 58 cs := by
  obtain ⟨V, hb, _⟩ := h; exact ⟨_, hb⟩

set_option maxHeartbeats 2000000 in
theorem slives (w : World) : Calls Try.prog 13 #[] w fun e w' => e = .returned (.bool true) ∧ Below w.heap.size w w' := by
  go_enter Try.func13, Try.ntmps13
  go_wp2_with fail
  refine (new_any _).mono ?_
  rintro e w1 ⟨rfl, hB, hb1⟩
  have HB := Lib.hid ((hB.below (below_alloc_ w1 (.cells #[.int .i64 3, .int .i64 0] 42))).below (below_alloc_ _ (.cells #[.int .i64 0, .int .i64 0, .slice (some ⟨w1.heap.size, 0, none⟩) 1 1] 33)))
  have hG : Ow 0 ((w1.alloc (.cells #[.int .i64 3, .int .i64 0] 42)).alloc (.cells #[.int .i64 0, .int .i64 0, .slice (some ⟨w1.heap.size, 0, none⟩) 1 1] 33)) 42 2 (.slice (some ⟨w1.heap.size, 0, none⟩) 1 1) 1 (gcells [(3, 0)]) :=
    .inr ⟨w1.heap.size, 1, _, rfl, Nat.zero_le _, (Blk.new _ _ _).alloc _, Nat.le_refl _, rfl, by simp, rfl⟩
  have HG := Lib.hid hG
  have HW := Lib.hid (hb1.trans ((below_alloc2_ w1 (.cells #[.int .i64 3, .int .i64 0] 42) (.cells #[.int .i64 0, .int .i64 0, .slice (some ⟨w1.heap.size, 0, none⟩) 1 1] 33)).mono hb1.size))
  have hR := Blk.new (w1.alloc (.cells #[.int .i64 3, .int .i64 0] 42)) 33 #[.int .i64 0, .int .i64 0, .slice (some ⟨w1.heap.size, 0, none⟩) 1 1]
  rw [World.size_alloc] at hR
  have HR := Lib.hid hR
  have hbl : w.heap.size < w1.heap.size := hB.lt
  clear hB hb1 hG hR
  go_wp2_with fail
  refine (note_at w.heap.size (fun _ => Pg.zero) BL 1 5 0 0 0 _ [(3, 0)] _ HB.out (show Gs _ _ [(3, 0)] from HG.out.rd) (by omega) rfl rfl).mono ?_
  rintro e w2 ⟨rfl, hB2, hg2⟩
  obtain ⟨cs2, hcs2⟩ := HB.out.blk
  have HB2 := Lib.hid hB2
  have HG2 := Lib.hid (HG.out.grown hg2 hcs2 (by decide))
  have HR2 := Lib.hid (HR.out.grown hg2 (by simp; omega))
  have HW2 := Lib.hid (below_grown_ HW.out hg2 HW.out.size (Nat.le_refl _))
  clear hB2 hg2 hcs2 HB HG HR HW
  go_wp2_with fail
  refine (ask_at w.heap.size BL 1 5 0 0 0 [(3, 0)] true _ HB2.out ask_ex5).mono ?_
  rintro e w3 ⟨P, rfl, ho, hb3⟩
  have HB3 := Lib.hid ((HB2.out.below hb3).below (below_alloc_ w3 (.cells #[.int .i64 0, .int .i64 0, .slice P 1 1] 33)))
  have HG3 := Lib.hid ((HG2.out.below hb3).below (below_alloc_ w3 (.cells #[.int .i64 0, .int .i64 0, .slice P 1 1] 33)))
  have HS3 := Lib.hid (ho.below (below_alloc_ w3 (.cells #[.int .i64 0, .int .i64 0, .slice P 1 1] 33)))
  have HR3 := Lib.hid ((HR2.out.below hb3 HR2.out.lt).alloc (.cells #[.int .i64 0, .int .i64 0, .slice P 1 1] 33))
  have HT3 := Lib.hid (Blk.new w3 33 #[.int .i64 0, .int .i64 0, .slice P 1 1])
  have HW3 := Lib.hid ((HW2.out.trans (hb3.mono HW2.out.size)).trans ((below_alloc_ w3 (.cells #[.int .i64 0, .int .i64 0, .slice P 1 1] 33)).mono (Nat.le_trans HW2.out.size hb3.size)))
  clear ho hb3 HB2 HG2 HR2 HW2
  go_wp2_with fail
  refine (ask_at w.heap.size BL 1 4 0 0 18 [] false _ HB3.out ask_ex4).mono ?_
  rintro e w4 ⟨P4, rfl, _, hb4⟩
  have hb4' := hb4.trans ((below_alloc_ w4 (.cells #[.int .i64 0, .int .i64 0, .slice P4 0 0] 33)).mono hb4.size)
  have HB4 := Lib.hid (HB3.out.below hb4')
  have HG4 := Lib.hid (HG3.out.below hb4')
  have HS4 := Lib.hid (HS3.out.below hb4')
  have HR4 := Lib.hid (HR3.out.below hb4' HR3.out.lt)
  have HT4 := Lib.hid (HT3.out.below hb4' HT3.out.lt)
  have HW4 := Lib.hid (HW3.out.trans (hb4'.mono HW3.out.size))
  clear hb4 hb4' HB3 HG3 HS3 HR3 HT3 HW3
  go_wp2_with fail
  refine (ask_at w.heap.size BL 1 9 0 0 0 [] false _ HB4.out ask_ex9).mono ?_
  rintro e w5 ⟨P5, rfl, _, hb5⟩
  have hb5' := hb5.trans ((below_alloc_ w5 (.cells #[.int .i64 0, .int .i64 0, .slice P5 0 0] 33)).mono hb5.size)
  have HG5 := Lib.hid (HG4.out.below hb5')
  have HS5 := Lib.hid (HS4.out.below hb5')
  have HR5 := HR4.out.below hb5' HR4.out.lt
  have HT5 := HT4.out.below hb5' HT4.out.lt
  have HW5 := Lib.hid (HW4.out.trans (hb5'.mono HW4.out.size))
  have r0 := HR5.cell 0
  have r1 := HR5.cell 1
  have r2 := HR5.cell 2
  have t0 := HT5.cell 0
  have t1 := HT5.cell 1
  have t2 := HT5.cell 2
  simp at r0 r1 r2 t0 t1 t2
  clear hb5 hb5' HB4 HG4 HS4 HR4 HT4 HW4 HR5 HT5
  go_wp2_with fail
  refine (samereply_any 0 0 0 0 _ _ [(3, 0)] [(3, 0)] _ (show Gs _ _ [(3, 0)] from HG5.out.rd) (show Gs _ _ [(3, 0)] from HS5.out.rd) (by decide)).mono ?_
  rintro e w6 ⟨rfl, hb6⟩
  go_wp2
  go_ret
  exact ⟨rfl, HW5.out.trans (hb6.mono HW5.out.size)⟩
end Go.Proofs.Ytielnocnnffdfaa
