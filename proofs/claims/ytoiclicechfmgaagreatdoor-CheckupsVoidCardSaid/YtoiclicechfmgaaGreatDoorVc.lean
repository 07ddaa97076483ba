/- Look, Mend and Twin of a disk that is not there, or that no call made, or that is dead. -/
import Derived.Test.YtoiclicechfmgaaGreatDoorVa
namespace Go.Proofs.YtoiclicechfmgaaGreatDoor
open Go.RowKit

/-- A disk that is not there, or that no call made. -/
def VoidD (w : World) (p : Option Addr) : Prop := p = none ∨ ∃ b, p = some ⟨b, 0, none⟩ ∧ w.cell? ⟨b, 0, none⟩ = some (.map none)
theorem VoidD.below {w w' : World} {p : Option Addr} (h : VoidD w p) (hb : Below w.heap.size w w') : VoidD w' p :=
  h.imp id fun ⟨b, e, hc⟩ => ⟨b, e, (hb.cell (block_lt_of_cell hc)).trans hc⟩
theorem there_vd (p : Option Addr) (w : World) (h : VoidD w p) : Calls Tryz.prog 41 #[.pointer p] w fun e w' => e = .returned (.bool false) ∧ w = w' := by
  have qm := fun (w : World) (r : Option Nat) => run_neq_map_nil (P := Tryz.prog) w _ _ _ r Tryz.underlying28
  rcases h with rfl | ⟨b, rfl, hc⟩
  · go_enter Tryz.func41, Tryz.ntmps41
    go_wp2
    go_ret
    exact ⟨rfl, rfl⟩
  · go_enter Tryz.func41, Tryz.ntmps41
    go_wp2
    go_ret
    exact ⟨rfl, rfl⟩
theorem asked_vd (p : Option Addr) (nm : ByteArray) (w : World) (h : VoidD w p) : Calls Tryz.prog 54 #[.pointer p, .string nm] w fun e w' => e = .returned (.int .i64 2) ∧ w = w' := by
  have H := Lib.hid h
  clear h
  go_enter Tryz.func54, Tryz.ntmps54
  go_wp2_with (go_at_call 41; refine (there_vd _ _ H.out).mono ?_; rintro e w' ⟨rfl, rfl⟩)
  go_ret
  exact ⟨rfl, rfl⟩
theorem read_vd (p : Option Addr) (nm : ByteArray) (w : World) (h : VoidD w p) : Calls Tryz.prog 21 #[.pointer p, .string nm] w fun e w' => e = .returned (.tuple #[.slice none 0 0, .int .i64 2]) ∧ w = w' := by
  have H := Lib.hid h
  clear h
  go_enter Tryz.func21, Tryz.ntmps21
  go_wp2_with (go_at_call 54; refine (asked_vd _ _ _ H.out).mono ?_; rintro e w' ⟨rfl, rfl⟩)
  go_ret2
  exact ⟨rfl, rfl⟩

/-- Read answers that nothing can be told. -/
def BadD (w : World) (p : Option Addr) (er : Int) : Prop := ∀ u, Below w.heap.size w u → Calls Tryz.prog 21 #[.pointer p, .string nmL] u fun e w' => ∃ P, e = .returned (.tuple #[.slice P 0 0, .int .i64 er]) ∧ Below u.heap.size u w'
theorem VoidD.bad {w : World} {p : Option Addr} (h : VoidD w p) : BadD w p 2 := fun u hu => (read_vd p nmL u (h.below hu)).mono fun e w' ⟨he, hw⟩ => ⟨none, he, hw ▸ Below.refl _ _⟩
theorem BadD.at_ {w w' : World} {p : Option Addr} {er : Int} (h : BadD w p er) (hb : Below w.heap.size w w') : BadD w' p er := fun u hu => h u (bel2 hb hu)
/-- A report of nothing. -/
abbrev re0 : Value := .agg #[.slice none 0 0, .int .u64 0, .int .u8 0, .int .u64 0, .int .u64 0, .int .u64 0, .bool false]
theorem re_same : (((((((reC (.slice none 0 0) false).setIfInBounds 0 (.slice none 0 0)).setIfInBounds 1 (.int .u64 0)).setIfInBounds 2 (.int .u8 0)).setIfInBounds 3 (.int .u64 0)).setIfInBounds 4 (.int .u64 0)).setIfInBounds 5 (.int .u64 0)).setIfInBounds 6 (.bool false) = reC (.slice none 0 0) false := by simp [reC]

set_option maxHeartbeats 1000000 in
set_option maxRecDepth 100000 in
theorem look_bad (p : Option Addr) (er : Int) (her : er = 2 ∨ er = 17) (w : World) (h : BadD w p er) : Calls Tryz.prog 7 #[.pointer p] w fun e w' => e = .returned (.tuple #[re0, .int .i64 er]) ∧ Below w.heap.size w w' := by
  have b0 := below_alloc_ w (.cells (reC (.slice none 0 0) false) 36)
  have K0 := Lib.hid (Blk.new w 36 (reC (.slice none 0 0) false))
  have RE := Lib.hid (h _ b0)
  have B0 := Lib.hid b0
  clear h b0
  rcases her with rfl | rfl
  · go_enter Tryz.func7, Tryz.ntmps7
    go_wp2_with fail
    go_step3
    go_wp2_with fail
    refine RE.out.mono ?_
    rintro e w1 ⟨P, rfl, b1⟩
    have K1 := Lib.hid (K0.out.below b1 K0.out.lt)
    have B1 := Lib.hid (bel2 B0.out b1)
    have r0 := K1.out.cell 0
    have r1 := K1.out.cell 1
    have r2 := K1.out.cell 2
    have r3 := K1.out.cell 3
    have r4 := K1.out.cell 4
    have r5 := K1.out.cell 5
    have r6 := K1.out.cell 6
    have f := K1.out.free
    simp [reC] at r0 r1 r2 r3 r4 r5 r6
    clear b1
    go_wp2
    have k2 := ((((((K1.out.set_ 0 (.slice none 0 0)).set_ 1 (.int .u64 0)).set_ 2 (.int .u8 0)).set_ 3 (.int .u64 0)).set_ 4 (.int .u64 0)).set_ 5 (.int .u64 0)).set_ 6 (.bool false)
    rw [re_same] at k2
    rw [Exit.noGoto_ret]
    refine bodyPost_ret (results_re rfl _ _ w.heap.size (reC (.slice none 0 0) false) (.int .i64 2) k2 rfl rfl rfl) rfl ?_
    exact ⟨rfl, ((((((B1.out.setCell (p := ⟨w.heap.size, 0, none⟩) (Nat.le_refl _) _).setCell (p := ⟨w.heap.size, 1, none⟩) (Nat.le_refl _) _).setCell (p := ⟨w.heap.size, 2, none⟩) (Nat.le_refl _) _).setCell (p := ⟨w.heap.size, 3, none⟩) (Nat.le_refl _) _).setCell (p := ⟨w.heap.size, 4, none⟩) (Nat.le_refl _) _).setCell (p := ⟨w.heap.size, 5, none⟩) (Nat.le_refl _) _).setCell (p := ⟨w.heap.size, 6, none⟩) (Nat.le_refl _) _⟩
  · go_enter Tryz.func7, Tryz.ntmps7
    go_wp2_with fail
    go_step3
    go_wp2_with fail
    refine RE.out.mono ?_
    rintro e w1 ⟨P, rfl, b1⟩
    have K1 := Lib.hid (K0.out.below b1 K0.out.lt)
    have B1 := Lib.hid (bel2 B0.out b1)
    have r0 := K1.out.cell 0
    have r1 := K1.out.cell 1
    have r2 := K1.out.cell 2
    have r3 := K1.out.cell 3
    have r4 := K1.out.cell 4
    have r5 := K1.out.cell 5
    have r6 := K1.out.cell 6
    have f := K1.out.free
    simp [reC] at r0 r1 r2 r3 r4 r5 r6
    clear b1
    go_wp2
    have k2 := ((((((K1.out.set_ 0 (.slice none 0 0)).set_ 1 (.int .u64 0)).set_ 2 (.int .u8 0)).set_ 3 (.int .u64 0)).set_ 4 (.int .u64 0)).set_ 5 (.int .u64 0)).set_ 6 (.bool false)
    rw [re_same] at k2
    rw [Exit.noGoto_ret]
    refine bodyPost_ret (results_re rfl _ _ w.heap.size (reC (.slice none 0 0) false) (.int .i64 17) k2 rfl rfl rfl) rfl ?_
    exact ⟨rfl, ((((((B1.out.setCell (p := ⟨w.heap.size, 0, none⟩) (Nat.le_refl _) _).setCell (p := ⟨w.heap.size, 1, none⟩) (Nat.le_refl _) _).setCell (p := ⟨w.heap.size, 2, none⟩) (Nat.le_refl _) _).setCell (p := ⟨w.heap.size, 3, none⟩) (Nat.le_refl _) _).setCell (p := ⟨w.heap.size, 4, none⟩) (Nat.le_refl _) _).setCell (p := ⟨w.heap.size, 5, none⟩) (Nat.le_refl _) _).setCell (p := ⟨w.heap.size, 6, none⟩) (Nat.le_refl _) _⟩

set_option maxHeartbeats 1000000 in
set_option maxRecDepth 100000 in
theorem mend_bad (p : Option Addr) (er : Int) (her : er = 2 ∨ er = 17) (w : World) (h : BadD w p er) : Calls Tryz.prog 8 #[.pointer p] w fun e w' => e = .returned (.tuple #[.int .i64 0, .int .i64 er]) ∧ Below w.heap.size w w' := by
  have LK := Lib.hid (look_bad p er her w h)
  have hne : (er != 0) = true := by rcases her with rfl | rfl <;> rfl
  clear h her
  go_enter Tryz.func8, Tryz.ntmps8
  go_wp2_with fail
  refine LK.out.mono ?_
  rintro e w1 ⟨rfl, b1⟩
  have B1 := Lib.hid (bel2 b1 (below_alloc_ w1 (.cells #[.slice none 0 0, .int .u64 0, .int .u8 0, .int .u64 0, .int .u64 0, .int .u64 0, .bool false] 36)))
  clear b1
  go_wp2
  go_ret2
  exact ⟨rfl, B1.out⟩

set_option maxHeartbeats 1000000 in
set_option maxRecDepth 100000 in
theorem same_zero (w : World) : Calls Tryz.prog 9 #[re0, re0] w fun e w' => e = .returned (.bool true) ∧ Below w.heap.size w w' := by
  have B2 := Lib.hid (below_alloc2_ w (.cells #[.slice none 0 0, .int .u64 0, .int .u8 0, .int .u64 0, .int .u64 0, .int .u64 0, .bool false] 36) (.cells #[.slice none 0 0, .int .u64 0, .int .u8 0, .int .u64 0, .int .u64 0, .int .u64 0, .bool false] 45))
  obtain ⟨w2, hw2⟩ : ∃ w2, w2 = (w.alloc (.cells #[.slice none 0 0, .int .u64 0, .int .u8 0, .int .u64 0, .int .u64 0, .int .u64 0, .bool false] 36)).alloc (.cells #[.slice none 0 0, .int .u64 0, .int .u8 0, .int .u64 0, .int .u64 0, .int .u64 0, .bool false] 45) := ⟨_, rfl⟩
  go_enter Tryz.func9, Tryz.ntmps9
  go_wp2
  go_loopg [5] 0 (fun q c5 wr => q = 0 ∧ c5 = .int .i64 0 ∧ wr = (w.alloc (.cells #[.slice none 0 0, .int .u64 0, .int .u8 0, .int .u64 0, .int .u64 0, .int .u64 0, .bool false] 36)).alloc (.cells #[.slice none 0 0, .int .u64 0, .int .u8 0, .int .u64 0, .int .u64 0, .int .u64 0, .bool false] 45))
  case atStart => exact ⟨rfl, rfl, rfl⟩
  case round =>
    obtain ⟨rfl, rfl, rfl⟩ := hrel
    go_wp2
    go_ret
    exact ⟨rfl, B2.out⟩
theorem twin_dead (d : Nat) (s : Mst) (F : List Nat) (hd : s.dead = true) (w : World) (h : Md w d s F) : Calls Tryz.prog 13 #[.pointer (some ⟨d, 0, none⟩)] w fun e w' => e = .returned (.pointer none) ∧ w = w' := by
  have DD := Lib.hid (mdead_at d s F true hd w h)
  clear h hd
  go_enter Tryz.func13, Tryz.ntmps13
  go_wp2_with fail
  refine DD.out.mono ?_
  rintro e w1 ⟨rfl, rfl⟩
  go_wp2
  go_ret
  exact ⟨rfl, rfl⟩
end Go.Proofs.YtoiclicechfmgaaGreatDoor
