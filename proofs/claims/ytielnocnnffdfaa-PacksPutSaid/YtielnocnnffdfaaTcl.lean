/- law01: a twin of a call, and whether it was left as it was. -/
import Derived.Test.YtielnocnnffdfaaTws
namespace Go.Proofs.Ytielnocnnffdfaa
open Go.RowKit

/-- What stands behind a twin's steps. -/
def stepMk : List Value := [.int .u8 0, .int .u8 0, .int .u8 0, .int .u8 0, .int .u8 0, .int .i64 (-77), .int .i64 0, .int .i64 0, .int .i64 0, .int .u64 0, .int .u8 0, .int .u8 0, .int .u8 0, .int .u8 0, .int .u8 0, .int .i64 (-77), .int .i64 0, .int .i64 0, .int .i64 0, .int .u64 0]
set_option maxHeartbeats 2000000 in
set_option maxRecDepth 100000 in
theorem Twin_call (x0 x1 : Int) (v : Value) (r : List (List Int)) (w : World) (hv : Steps w v r) (hn : r.length ≤ 1000000) :
    Calls Try.prog 30 #[.agg #[.int .u8 x0, .int .u64 x1, v]] w fun e w' => ∃ A c, e = .returned (.agg #[.int .u8 x0, .int .u64 x1, .slice A r.length c]) ∧ Tw w.heap.size w' 178 10 (.slice A r.length c) r.length (r.flatMap (fc stepK)) stepMk ∧ Below w.heap.size w w' := by
  have b2 := below_alloc2_ w (.cells #[.int .u8 x0, .int .u64 x1, v] 69) (.cells #[.int .u8 0, .int .u64 0, .slice none 0 0] 69)
  have k0 := (Blk.new w 69 #[.int .u8 x0, .int .u64 x1, v]).alloc (.cells #[.int .u8 0, .int .u64 0, .slice none 0 0] 69)
  have k1 := Blk.new (w.alloc (.cells #[.int .u8 x0, .int .u64 x1, v] 69)) 69 #[.int .u8 0, .int .u64 0, .slice none 0 0]
  rw [World.size_alloc] at k1
  have K0 := Lib.hid k0
  have K1 := Lib.hid k1
  have B2 := Lib.hid b2
  have V := Lib.hid (show Steps _ v r from Rd.below hv b2)
  have c2 := k0.cell 2
  simp only [List.getElem?_toArray, List.getElem?_cons_zero, List.getElem?_cons_succ] at c2
  obtain ⟨A, c, rfl, -⟩ := id hv
  clear hv k0 k1 b2
  go_enter Try.func30, Try.ntmps30
  go_wp2_with fail
  refine (Twin_step _ r _ V.out hn).mono ?_
  rintro e w1 ⟨A1, c1, rfl, hT, hB⟩
  have T1 := Lib.hid (hT.le_ (B' := w.heap.size) (by simp; omega))
  have B1 := Lib.hid hB
  have J0 := Lib.hid (K0.out.below hB K0.out.lt)
  have J1 := Lib.hid (K1.out.below hB K1.out.lt)
  have TL := Lib.hid hT
  clear hT hB c2
  have f0 := J0.out.free
  have f1 := J1.out.free
  have j0 := J0.out.cell 0
  have j1 := J0.out.cell 1
  have j2 := J0.out.cell 2
  have i0 := J1.out.cell 0
  have i1 := J1.out.cell 1
  have i2 := J1.out.cell 2
  simp only [List.getElem?_toArray, List.getElem?_cons_zero, List.getElem?_cons_succ] at j0 j1 j2 i0 i1 i2
  go_wp2
  have bf := ((((J1.out.far (p := ⟨w.heap.size, 2, none⟩) (by simp) (.slice A1 r.length c1)).set_ 0 (.int .u8 x0)).set_ 1 (.int .u64 x1)).set_ 2 (.slice A1 r.length c1))
  have y0 := bf.cell 0
  have y1 := bf.cell 1
  have y2 := bf.cell 2
  simp at y0 y1 y2
  refine bodyPost_ret (v := .agg #[.int .u8 x0, .int .u64 x1, .slice A1 r.length c1]) (by simp [results, Try.results30, go_sem, y0, y1, y2]) rfl ?_
  refine ⟨A1, c1, rfl, ?_, ?_⟩
  · have hk1 := (J0.out.set_ 2 (.slice A1 r.length c1))
    have hk2 := (J1.out.far (p := ⟨w.heap.size, 2, none⟩) (by simp) (.slice A1 r.length c1))
    exact (((T1.out.aside J0.out (by decide) 2 _).aside hk2 (by decide) 0 _).aside (hk2.set_ 0 _) (by decide) 1 _).aside ((hk2.set_ 0 _).set_ 1 _) (by decide) 2 _
  · exact ((((B2.out.trans (B1.out.mono B2.out.size)).setCell (p := ⟨w.heap.size, 2, none⟩) (Nat.le_refl _) _).setCell (p := ⟨w.heap.size + 1, 0, none⟩) (Nat.le_succ _) _).setCell (p := ⟨w.heap.size + 1, 1, none⟩) (Nat.le_succ _) _).setCell (p := ⟨w.heap.size + 1, 2, none⟩) (Nat.le_succ _) _
set_option maxHeartbeats 2000000 in
set_option maxRecDepth 100000 in
theorem Left_call (B : Nat) (x0 x1 : Int) (t v : Value) (r : List (List Int)) (hr : ∀ q ∈ r, q.length = 10) (w : World) (ht : Tw B w 178 10 t r.length (r.flatMap (fc stepK)) stepMk) (hv : Steps w v r) (hn : r.length ≤ 1000000) :
    Calls Try.prog 37 #[.agg #[.int .u8 x0, .int .u64 x1, t], .agg #[.int .u8 x0, .int .u64 x1, v]] w fun e w' => e = .returned (.bool true) ∧ Below w.heap.size w w' := by
  have b2 := below_alloc2_ w (.cells #[.int .u8 x0, .int .u64 x1, t] 69) (.cells #[.int .u8 x0, .int .u64 x1, v] 69)
  have C := Lib.hid (Left_step B t v r hr _ (ht.below b2) (show Steps _ _ r from Rd.below hv b2) hn)
  have B2 := Lib.hid b2
  obtain ⟨A, c, rfl, -⟩ := id hv
  obtain ⟨g, c1, rfl, -⟩ := ht.room
  clear hv ht b2
  go_enter Try.func37, Try.ntmps37
  go_wp2_with fail
  refine C.out.mono ?_
  rintro e w1 ⟨rfl, hB⟩
  have B1 := Lib.hid (B2.out.trans (hB.mono B2.out.size))
  clear hB
  go_wp2
  go_ret
  exact ⟨rfl, B1.out⟩
end Go.Proofs.Ytielnocnnffdfaa
