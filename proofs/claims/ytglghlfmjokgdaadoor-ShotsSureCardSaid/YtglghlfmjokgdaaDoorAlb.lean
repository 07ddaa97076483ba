/- An album: Shot; Open of a disk without the file; what is none. -/
import Derived.Test.YtglghlfmjokgdaaDoorOwn
import Derived.Test.YtglghlfmjokgdaaDoorSta
namespace Go.Proofs.YtglghlfmjokgdaaDoor
open Go.RowKit

theorem nm_shot : Nm ⟨#[115, 104, 111, 116]⟩ := ⟨by decide +kernel, by decide⟩
/-- An album's cells. -/
def alC (t v : Int) (dv d : Value) (lost : Bool) : Array Value := #[.int .u64 t, .int .u64 v, dv, d, .bool lost]

set_option maxHeartbeats 1000000 in
theorem shot_nil (w : World) : Calls Tryd.prog 9 #[.pointer none] w fun e w' => e = .returned (.agg #[.int .u64 0, .int .u64 0, .slice none 0 0]) ∧ Below w.heap.size w w' := by
  have k := Blk.new w 25 #[.int .u64 0, .int .u64 0, .slice none 0 0]
  go_enter Tryd.func9, Tryd.ntmps9
  go_wp2
  refine bodyPost_ret (res_cell1 Tryd.results9 k rfl Tryd.underlying25 infS) rfl ?_
  exact ⟨rfl, below_alloc_ _ _⟩

set_option maxHeartbeats 1000000 in
set_option maxRecDepth 100000 in
theorem shot_any (p : Nat) (t v : Int) (dv d : Value) (lost : Bool) (xs : List Int) (w : World) (h : Blk w p 28 (alC t v dv d lost)) (hd : Bs w dv xs) (hl : xs.length ≤ 70368744177664) :
    Calls Tryd.prog 9 #[.pointer (some ⟨p, 0, none⟩)] w fun e w' => ∃ P, e = .returned (.agg #[.int .u64 t, .int .u64 v, .slice P xs.length xs.length]) ∧ Bo w.heap.size w' (.slice P xs.length xs.length) xs ∧ Below w.heap.size w w' := by
  have b0 := below_alloc_ w (.cells #[.int .u64 0, .int .u64 0, .slice none 0 0] 25)
  have k0 := Blk.new w 25 #[.int .u64 0, .int .u64 0, .slice none 0 0]
  have k := h.below b0 h.lt
  have HB := Lib.hid (hd.below b0)
  obtain ⟨A, c, rfl, -⟩ := id hd
  have c0 := k.cell 0
  have c1 := k.cell 1
  have c2 := k.cell 2
  simp only [alC] at c0 c1 c2
  simp at c0 c1 c2
  have K0 := Lib.hid k0
  have B0 := Lib.hid b0
  clear h hd b0 k k0
  obtain ⟨L, hL⟩ : ∃ L, L = xs.length := ⟨_, rfl⟩
  rw [← hL] at HB c2 ⊢
  have LL := Lib.hid hL
  clear hL
  go_enter Tryd.func9, Tryd.ntmps9
  go_wp2_with fail
  refine (own_any t v _ xs _ HB.out hl).mono ?_
  rintro e w1 ⟨P, rfl, ho, b1⟩
  rw [← LL.out] at ho ⊢
  have HO := Lib.hid ho
  have B1 := Lib.hid (B0.out.trans (b1.mono B0.out.size))
  have j := K0.out.below b1 K0.out.lt
  have J := Lib.hid j
  have j0 := j.cell 0
  have j1 := j.cell 1
  have j2 := j.cell 2
  have f0 := j.free 0
  have f1 := j.free 1
  have f2 := j.free 2
  simp at j0 j1 j2
  clear ho b1 j
  go_wp2
  refine bodyPost_ret (res_cell1 Tryd.results9 (((J.out.set_ 0 _).set_ 1 _).set_ 2 _) rfl Tryd.underlying25 infS) rfl ?_
  have q : w.heap.size < (w.alloc (.cells #[.int .u64 0, .int .u64 0, .slice none 0 0] 25)).heap.size := by simp
  refine ⟨P, by simp, ?_, ?_⟩
  · exact (((HO.out.far (p := ⟨w.heap.size, 0, none⟩) q _).far (p := ⟨w.heap.size, 1, none⟩) q _).far (p := ⟨w.heap.size, 2, none⟩) q _).le (by simp)
  · exact ((B1.out.setCell (p := ⟨w.heap.size, 0, none⟩) (Nat.le_refl _) _).setCell (p := ⟨w.heap.size, 1, none⟩) (Nat.le_refl _) _).setCell (p := ⟨w.heap.size, 2, none⟩) (Nat.le_refl _) _

theorem aopen_nil (w : World) : Calls Tryd.prog 8 #[.pointer none] w fun e w' => e = .returned (.tuple #[.pointer none, .int .i64 2]) ∧ w = w' := by
  go_enter Tryd.func8, Tryd.ntmps8
  go_wp2
  go_ret2
  exact ⟨rfl, rfl⟩

theorem aset_nil (s : Value) (t v : Int) (dv : Value) (hs : s = .agg #[.int .u64 t, .int .u64 v, dv]) (h1 : dv.oneCell' = true) (w : World) : Calls Tryd.prog 10 #[.pointer none, s] w fun e w' => e = .returned (.int .i64 2) ∧ Below w.heap.size w w' := by
  subst hs
  go_enter Tryd.func10, Tryd.ntmps10
  go_wp2
  go_ret
  exact ⟨rfl, below_alloc_ _ _⟩
theorem aset_none (p : Nat) (t v t' v' : Int) (dv : Value) (A : Option Addr) (n c : Nat) (lost : Bool) (w : World) (h : Blk w p 28 (alC t v dv (.pointer none) lost)) :
    Calls Tryd.prog 10 #[.pointer (some ⟨p, 0, none⟩), .agg #[.int .u64 t', .int .u64 v', .slice A n c]] w fun e w' => e = .returned (.int .i64 2) ∧ Below w.heap.size w w' := by
  have k := h.alloc (.cells #[.int .u64 t', .int .u64 v', .slice A n c] 25)
  have c3 := k.cell 3
  simp [alC] at c3
  clear h k
  go_enter Tryd.func10, Tryd.ntmps10
  go_wp2
  go_ret
  exact ⟨rfl, below_alloc_ _ _⟩

/-- An album's block, as an object. -/
def alO (t v : Int) (dv : Value) (d : Nat) (lost : Bool) : Obj := .cells (alC t v dv (.pointer (some ⟨d, 0, none⟩)) lost) 28 (0, 0)

set_option maxHeartbeats 1000000 in
set_option maxRecDepth 100000 in
theorem aopen_new {X : List (Nat × Obj)} {B : Nat} {W w : World} {d : Nat} {s : Dst} (h : On X B W w d ⟨#[115, 104, 111, 116]⟩ s) (hs : readS s = ([], 7)) :
    Calls Tryd.prog 8 #[.pointer (some ⟨d, 0, none⟩)] w fun e w' => ∃ p, e = .returned (.tuple #[.pointer (some ⟨p, 0, none⟩), .int .i64 0]) ∧ On ((p, alO 0 0 (.slice none 0 0) d false) :: X) B W w' d ⟨#[115, 104, 111, 116]⟩ s ∧ w.heap.size ≤ p := by
  have H := Lib.hid h
  clear h
  go_enter Tryd.func8, Tryd.ntmps8
  go_wp2_with fail
  refine (on_read [] 7 nm_shot H.out hs).mono ?_
  rintro e w1 ⟨P1, Y1, rfl, -, h1, b1⟩
  have O1 := Lib.hid ((h1.mono (Y := X) (by intro p hp; exact List.mem_append_right _ hp)).allocX (alO 0 0 (.slice none 0 0) d false))
  have B1 := Lib.hid b1.size
  clear h1 b1
  go_wp2_with fail
  go_ret2
  exact ⟨_, rfl, O1.out, B1.out⟩
end Go.Proofs.YtglghlfmjokgdaaDoor
