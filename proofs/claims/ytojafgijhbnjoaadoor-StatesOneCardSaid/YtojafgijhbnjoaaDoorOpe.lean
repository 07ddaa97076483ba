/- states.Open: a disk without the file. -/
import Derived.Test.YtojafgijhbnjoaaDoorSet
namespace Go.Proofs.YtojafgijhbnjoaaDoor
open Go.RowKit

set_option maxHeartbeats 1000000 in
set_option maxRecDepth 100000 in
theorem open_new {X : List (Nat × Obj)} {B : Nat} {W w : World} {d : Nat} {s : Dst} (h : On X B W w d ⟨#[115, 116, 97, 116, 101]⟩ s) (hs : readS s = ([], 7)) :
    Calls Tryd.prog 10 #[.pointer (some ⟨d, 0, none⟩)] w fun e w' => ∃ p, e = .returned (.tuple #[.pointer (some ⟨p, 0, none⟩), .int .i64 0]) ∧ On ((p, prO 0 0 d false) :: X) B W w' d ⟨#[115, 116, 97, 116, 101]⟩ s ∧ w.heap.size ≤ p := by
  have H := Lib.hid h
  clear h
  go_enter Tryd.func10, Tryd.ntmps10
  go_wp2_with fail
  refine (on_read [] 7 nm_state H.out hs).mono ?_
  rintro e w1 ⟨P1, Y1, rfl, -, h1, b1⟩
  have O1 := Lib.hid ((h1.mono (Y := X) (by intro p hp; exact List.mem_append_right _ hp)).allocX (prO 0 0 d false))
  have B1 := Lib.hid b1.size
  clear h1 b1
  go_wp2_with fail
  go_ret2
  exact ⟨_, rfl, O1.out, B1.out⟩
end Go.Proofs.YtojafgijhbnjoaaDoor
