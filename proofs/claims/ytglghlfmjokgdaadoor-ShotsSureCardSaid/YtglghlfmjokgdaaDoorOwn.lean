/- shots: a shot in new memory. -/
import Derived.Test.YtglghlfmjokgdaaDoorMemB
import Derived.Test.YtglghlfmjokgdaaDoorCloB
namespace Go.Proofs.YtglghlfmjokgdaaDoor
open Go.RowKit

/-- What a function hands back whose result is a struct's cell. -/
theorem res_cell1 {fn : Func} {p : Tmp} {ty : TypeId} (h : fn.results = #[.cell p ty]) {tmps : Array Value} {P : Program} {w : World} {g : Nat} {t : TypeId} {cs : Array Value} {fs : Array Field} (hk : Blk w g t cs)
    (hp : tmps.getD p undef = .pointer (some ⟨g, 0, none⟩)) (hu : P.underlying ty = some (.struct fs)) (hi : (P.info? ty).map (·.size) = some cs.size) :
    (results fn tmps).run P w = .ok (.agg cs) w := by
  have hl := run_loadVar_row (P := P) w g t ty cs (0, 0) (.struct fs) hk hu rfl hi
  have hp' : tmps[p]?.getD undef = .pointer (some ⟨g, 0, none⟩) := by rw [← hp]; simp
  simp [results, h, hp', asAddr, Sem.run_bind, hl, Result.andThen]
theorem infS : (Tryd.prog.info? 25).map (·.size) = some 3 := by kernel_rfl

set_option maxHeartbeats 1000000 in
set_option maxRecDepth 100000 in
theorem own_any (T V : Int) (v : Value) (xs : List Int) (w : World) (h : Bs w v xs) (hl : xs.length ≤ 70368744177664) :
    Calls Tryd.prog 42 #[.agg #[.int .u64 T, .int .u64 V, v]] w fun e w' => ∃ P, e = .returned (.agg #[.int .u64 T, .int .u64 V, .slice P xs.length xs.length]) ∧ Bo w.heap.size w' (.slice P xs.length xs.length) xs ∧ Below w.heap.size w w' := by
  have b0 := below_alloc2_ w (.cells #[.int .u64 T, .int .u64 V, v] 25) (.cells #[.int .u64 0, .int .u64 0, .slice none 0 0] 25)
  have k0 := (Blk.new w 25 #[.int .u64 T, .int .u64 V, v]).alloc (.cells #[.int .u64 0, .int .u64 0, .slice none 0 0] 25)
  have k1 := Blk.new (w.alloc (.cells #[.int .u64 T, .int .u64 V, v] 25)) 25 #[.int .u64 0, .int .u64 0, .slice none 0 0]
  have HB := Lib.hid (h.below b0)
  obtain ⟨A, c, rfl, -⟩ := id h
  have c0 := k0.cell 2
  simp at c0
  have hz : (w.alloc (.cells #[.int .u64 T, .int .u64 V, .slice A xs.length c] 25)).heap.size = w.heap.size + 1 := by simp
  rw [hz] at k1
  have B0 := Lib.hid b0
  have K0 := Lib.hid k0
  have K1 := Lib.hid k1
  clear h b0 k0 k1 hz
  go_enter Tryd.func42, Tryd.ntmps42
  go_wp2_with fail
  refine (byt_clone_any _ xs.length (bc xs) _ HB.out (bc_one xs) (by omega) (by omega)).mono ?_
  rintro e w1 ⟨v1, rfl, h1, b1⟩
  have h1' : Bo _ w1 v1 xs := h1
  obtain ⟨A1, c1, rfl, hc1, ho⟩ := h1'.clip
  have HO := Lib.hid ho
  have B1 := Lib.hid b1
  have J0 := Lib.hid (K0.out.below b1 K0.out.lt)
  have J1 := Lib.hid (K1.out.below b1 K1.out.lt)
  clear h1 h1' ho b1 c0
  obtain ⟨L, hL⟩ : ∃ L, L = xs.length := ⟨_, rfl⟩
  have hl' : L ≤ 4611686018427387904 := by omega
  rw [← hL] at hc1 ⊢
  have LL := Lib.hid hL
  clear hL hl
  go_wp2_with fail
  refine (byt_clip A1 L c1 w1 hc1 hl').mono ?_
  rintro e w2 ⟨rfl, rfl⟩
  have j0 := J0.out.cell 0
  have j1 := J0.out.cell 1
  have j2 := J0.out.cell 2
  have f2 := J0.out.free 2
  have i0 := J1.out.free 0
  have i1 := J1.out.free 1
  have i2 := J1.out.free 2
  have i3 := J1.out.cell 0
  have i4 := J1.out.cell 1
  have i5 := J1.out.cell 2
  simp at j0 j1 j2 i3 i4 i5
  go_wp2
  refine bodyPost_ret (res_cell1 Tryd.results42 ((((J1.out.far (by simp) _).set_ 0 _).set_ 1 _).set_ 2 _) rfl Tryd.underlying25 infS) rfl ?_
  rw [LL.out]
  have q0 : w.heap.size < ((w.alloc (.cells #[.int .u64 T, .int .u64 V, .slice A xs.length c] 25)).alloc (.cells #[.int .u64 0, .int .u64 0, .slice none 0 0] 25)).heap.size := by simp; omega
  have q1 : w.heap.size + 1 < ((w.alloc (.cells #[.int .u64 T, .int .u64 V, .slice A xs.length c] 25)).alloc (.cells #[.int .u64 0, .int .u64 0, .slice none 0 0] 25)).heap.size := by simp
  refine ⟨A1, by simp, ?_, ?_⟩
  · exact ((((HO.out.far (p := ⟨w.heap.size, 2, none⟩) q0 _).far (p := ⟨w.heap.size + 1, 0, none⟩) q1 _).far (p := ⟨w.heap.size + 1, 1, none⟩) q1 _).far (p := ⟨w.heap.size + 1, 2, none⟩) q1 _).le (by simp; omega)
  · exact ((((B0.out.trans (B1.out.mono B0.out.size)).setCell (p := ⟨w.heap.size, 2, none⟩) (Nat.le_refl _) _).setCell (p := ⟨w.heap.size + 1, 0, none⟩) (Nat.le_succ _) _).setCell (p := ⟨w.heap.size + 1, 1, none⟩) (Nat.le_succ _) _).setCell (p := ⟨w.heap.size + 1, 2, none⟩) (Nat.le_succ _) _
end Go.Proofs.YtglghlfmjokgdaaDoor
