/- logs: asked, Base, End. -/
import Derived.Test.YtnegondlkfeleaaDoorLoe
namespace Go.Proofs.YtnegondlkfeleaaDoor
open Go.RowKit

theorem lasked_any (p bi bt d : Nat) (ev : Value) (size : Int) (lost : Bool) (w : World) (h : Blk w p 37 (lgC bi bt ev d size lost)) : Calls Tryd.prog 39 #[.pointer (some ⟨p, 0, none⟩)] w fun e w' => e = .returned (.int .i64 (if lost then 17 else 0)) ∧ w = w' := by
  have a3 := h.cell 3
  have a5 := h.cell 5
  simp [lgC] at a3 a5
  cases lost
  · go_enter Tryd.func39, Tryd.ntmps39
    go_wp2
    go_ret
    exact ⟨rfl, rfl⟩
  · go_enter Tryd.func39, Tryd.ntmps39
    go_wp2
    go_ret
    exact ⟨rfl, rfl⟩
theorem lasked_nil (w : World) : Calls Tryd.prog 39 #[.pointer none] w fun e w' => e = .returned (.int .i64 2) ∧ w = w' := by
  go_enter Tryd.func39, Tryd.ntmps39
  go_wp2
  go_ret
  exact ⟨rfl, rfl⟩
theorem lbase_any (p bi bt d : Nat) (ev : Value) (size : Int) (lost : Bool) (w : World) (h : Blk w p 37 (lgC bi bt ev d size lost)) : Calls Tryd.prog 9 #[.pointer (some ⟨p, 0, none⟩)] w fun e w' => e = .returned (.tuple #[.int .u64 bi, .int .u64 bt]) ∧ ∃ m, w' = w.drewN m := by
  have a0 := h.cell 0
  have a1 := h.cell 1
  simp [lgC] at a0 a1
  go_enter Tryd.func9, Tryd.ntmps9
  go_wp2_with fail
  go_quiet (fail)
  go_wp2
  go_ret2
  exact ⟨rfl, _, rfl⟩
theorem Blk.ct {w : World} {p bi bt d : Nat} {ev : Value} {size : Int} {lost : Bool} (h : Blk w p 37 (lgC bi bt ev d size lost)) : Ct w p bi bt ev := ⟨by rw [h.cell]; rfl, by rw [h.cell]; rfl, by rw [h.cell]; rfl⟩
set_option maxHeartbeats 1000000 in
theorem lEnd_any (p bi bt d : Nat) (ev : Value) (es : List Ent) (size : Int) (lost : Bool) (w : World) (h : Blk w p 37 (lgC bi bt ev d size lost)) (he : Ents w ev es) (hw : Wf bi es) (hl : es.length ≤ 1000000) :
    Calls Tryd.prog 10 #[.pointer (some ⟨p, 0, none⟩)] w fun e w' => e = .returned (.tuple #[.int .u64 ((bi + es.length : Nat) : Int), .int .u64 (endT bt es)]) ∧ Below w.heap.size w w' := by
  have LE := Lib.hid (lend_any p bi bt ev es w h.ct he hw hl)
  obtain ⟨E, hE⟩ : ∃ E, E = bi + es.length := ⟨_, rfl⟩
  rw [← hE] at LE ⊢
  clear h he hw hl hE
  go_enter Tryd.func10, Tryd.ntmps10
  go_wp2_with fail
  refine LE.out.mono ?_
  rintro e w1 ⟨rfl, b1⟩
  have B1 := Lib.hid (bel2 b1 (below_alloc_ w1 (.cells #[.int .u64 E, .int .u64 (endT bt es)] 32)))
  clear b1
  go_wp2_with fail
  go_quiet (fail)
  go_wp2
  go_ret2
  exact ⟨rfl, B1.out.trans (below_drewN_ _ _ _)⟩
end Go.Proofs.YtnegondlkfeleaaDoor
