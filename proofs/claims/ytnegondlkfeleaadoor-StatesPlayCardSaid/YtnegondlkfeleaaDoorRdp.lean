/- The document's disk: Lift. -/
import Derived.Test.YtnegondlkfeleaaDoorRdo
import Derived.Test.YtnegondlkfeleaaDoorDskL
namespace Go.Proofs.YtnegondlkfeleaaDoor
open Go.RowKit

set_option maxHeartbeats 2000000 in
set_option maxRecDepth 100000 in
theorem rlift_none (nm : ByteArray) (m : Nat) (s : Dst) (F : List Nat) (lv : Value) (ls : List Int) (w : World) (h : RDk w m nm s F) (hlv : Rd w 1 lv ls.length (lossC ls)) (hf : s.file = none) :
    Calls Tryd.prog 26 #[.pointer (some ⟨m, 0, none⟩), lv] w fun e w' => e = .returned (.tuple #[]) ∧ RTo w F m nm (liftS s ls) w' := by
  have H := Lib.hid h
  rcases h.ex with ⟨-, hk, -⟩ | ⟨_, _, _, _, _, _, hf2, -⟩
  rotate_left
  · rw [hf] at hf2; cases hf2
  have E := Lib.hid (show liftS s ls = ⟨none, -1, false⟩ from by unfold liftS; rw [hf]; rfl)
  rw [E.out]
  have c0 := hk.cell 0
  have c1 := hk.cell 1
  have c2 := hk.cell 2
  have c3 := hk.cell 3
  have f1 := hk.free 1
  have f2 := hk.free 2
  have f3 := hk.free 3
  simp only [rm, List.getElem?_toArray, List.getElem?_cons_zero, List.getElem?_cons_succ] at c0 c1 c2 c3
  have HF := Lib.hid hf
  clear h hk hlv hf
  go_enter Tryd.func26, Tryd.ntmps26
  go_wp2
  go_loopg [4, 5, 6] 1 (fun g c4 c5 c6 wr => wr = w ∧ c4 = .int .i64 0)
  case atStart => exact ⟨rfl, rfl⟩
  case round =>
    obtain ⟨rfl, rfl⟩ := hrel
    go_wp2
    refine bodyPost_end (results_none rfl _ _ _) rfl ?_
    refine ⟨rfl, H.out.to (H.out.turn _ HF.out.symm (by simp) (by simp) (fun L hL => ?_) ?_) ?_⟩
    · have := ((hL.set_ 3 (.bool false)).set_ 1 (.bool false)).set_ 2 (.int .i64 0)
      simpa [rm, rfu] using this
    · exact (((Kp.refl _ _).setCell (.inl (by simp)) _).setCell (.inl (by simp)) _).setCell (.inl (by simp)) _
    · exact (((Kp.refl _ _).setCell (.inl (by simp)) _).setCell (.inl (by simp)) _).setCell (.inl (by simp)) _
end Go.Proofs.YtnegondlkfeleaaDoor
