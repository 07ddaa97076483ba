/- shots.Open of a disk that has the file. -/
import Derived.Test.YtglghlfmjokgdaaDoorSrd
import Derived.Test.YtglghlfmjokgdaaDoorAsl
namespace Go.Proofs.YtglghlfmjokgdaaDoor
open Go.RowKit

set_option maxHeartbeats 1000000 in
set_option maxRecDepth 100000 in
theorem aopen_file {X : List (Nat × Obj)} {B : Nat} {W w : World} {d : Nat} {s : Dst} (T V : Nat) (xs : List Int) (h : On X B W w d nmS s) (hs : readS s = (shotB T V xs, 0)) (hT : T < 18446744073709551616) (hV : V < 18446744073709551616) (hxl : xs.length ≤ 65536) (hby : ∀ c ∈ xs, byt c) (hB0 : 0 < B) (TB : Tab W) :
    Calls Tryd.prog 8 #[.pointer (some ⟨d, 0, none⟩)] w fun e w' => ∃ p, e = .returned (.tuple #[.pointer (some ⟨p, 0, none⟩), .int .i64 0]) ∧ Am X B W w' p d T V xs false s ∧ w.heap.size ≤ p := by
  have H := Lib.hid h
  have TT := Lib.hid (Tab.at_ TB hB0 h.bel)
  have BY := Lib.hid hby
  have HTV := Lib.hid (And.intro hT hV)
  have XL := Lib.hid hxl
  clear h TB hby hT hV hxl
  go_enter Tryd.func8, Tryd.ntmps8
  go_wp2_with fail
  refine (on_read (shotB T V xs) 0 nm_shot H.out hs).mono ?_
  rintro e w1 ⟨P1, Y1, rfl, hs1, h1, b1⟩
  have O1 := Lib.hid (h1.mono (Y := X) (by intro p hp; exact List.mem_append_right _ hp))
  have RD := Lib.hid (sread_ok T V xs P1 _ w1 HTV.out.1 HTV.out.2 XL.out BY.out (TT.out.below b1) (h1.sl hs1 (fun q hq => List.mem_append_left _ hq)))
  have S1 := Lib.hid b1.size
  obtain ⟨L, hL⟩ : ∃ L, L = (shotB T V xs).length := ⟨_, rfl⟩
  rw [← hL] at RD ⊢
  clear h1 b1 hs1 hL hs
  go_wp2_with fail
  refine RD.out.mono ?_
  rintro e w2 ⟨A', c', rfl, h2, b2⟩
  have A2 := Lib.hid (O1.out.addBo b2 h2)
  have S2 := Lib.hid b2.size
  have XLL := Lib.hid (show xs.length ≤ 1000000 from by have := XL.out; omega)
  have LX := Lib.hid (fun q hq => lt_of_heap (O1.out.keep q hq))
  obtain ⟨n, hn⟩ : ∃ n, n = xs.length := ⟨_, rfl⟩
  rw [← hn] at A2 ⊢
  clear h2 b2 hn
  go_wp2_with fail
  go_ret2
  obtain ⟨Y, y1, y2, y3⟩ := A2.out
  have o := (y2.alloc (.cells #[.int .u64 T, .int .u64 V, .slice A' n c'] 25)).allocX (alO T V (.slice A' n c') d false)
  simp only [World.size_alloc] at o
  have z1 := S1.out
  have z2 := S2.out
  have z3 := H.out.le
  refine ⟨_, rfl, ⟨_, Y, y1, by omega, XLL.out, fun q hq => ?_, o⟩, by omega⟩
  have := lt_of_heap (y2.keep q hq)
  omega
end Go.Proofs.YtglghlfmjokgdaaDoor
