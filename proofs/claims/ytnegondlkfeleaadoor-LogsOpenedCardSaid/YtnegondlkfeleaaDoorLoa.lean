/- logs: an entry in new memory; an entry's frame. -/
import Derived.Test.YtnegondlkfeleaaDoorOwn
import Derived.Test.YtnegondlkfeleaaDoorCls
import Derived.Test.YtnegondlkfeleaaDoorPqe
import Derived.Test.YtnegondlkfeleaaDoorRow
import Derived.Test.YtnegondlkfeleaaDoorFoz
namespace Go.Proofs.YtnegondlkfeleaaDoor
open Go.RowKit

theorem bel2 {a b c : World} (h : Below a.heap.size a b) (k : Below b.heap.size b c) : Below a.heap.size a c := h.trans (k.mono h.size)
theorem infE : (Tryd.prog.info? 59).map (·.size) = some 5 := by kernel_rfl

set_option maxHeartbeats 1000000 in
set_option maxRecDepth 100000 in
theorem lown_any (x0 x1 x2 x3 : Int) (v : Value) (r : List (List Int)) (w : World) (h : Steps w v r) (hl : r.length ≤ 1000000) :
    Calls Tryd.prog 45 #[.agg #[.int .u64 x0, .int .u64 x1, .int .u8 x2, .int .u64 x3, v]] w fun e w' => ∃ P, e = .returned (.agg #[.int .u64 x0, .int .u64 x1, .int .u8 x2, .int .u64 x3, .slice P r.length r.length]) ∧
      Ow w.heap.size w' 107 10 (.slice P r.length r.length) r.length (r.flatMap (fc stepK)) ∧ Below w.heap.size w w' := by
  have b0 := below_alloc2_ w (.cells #[.int .u64 x0, .int .u64 x1, .int .u8 x2, .int .u64 x3, v] 59) (.cells #[.int .u64 0, .int .u64 0, .int .u8 0, .int .u64 0, .slice none 0 0] 59)
  have k0 := (Blk.new w 59 #[.int .u64 x0, .int .u64 x1, .int .u8 x2, .int .u64 x3, v]).alloc (.cells #[.int .u64 0, .int .u64 0, .int .u8 0, .int .u64 0, .slice none 0 0] 59)
  have k1 := Blk.new (w.alloc (.cells #[.int .u64 x0, .int .u64 x1, .int .u8 x2, .int .u64 x3, v] 59)) 59 #[.int .u64 0, .int .u64 0, .int .u8 0, .int .u64 0, .slice none 0 0]
  have HB := Lib.hid (Rd.below h b0)
  obtain ⟨A, c, rfl, -⟩ := id h
  have c0 := k0.cell 4
  simp at c0
  have hz : (w.alloc (.cells #[.int .u64 x0, .int .u64 x1, .int .u8 x2, .int .u64 x3, .slice A r.length c] 59)).heap.size = w.heap.size + 1 := by simp
  rw [hz] at k1
  have B0 := Lib.hid b0
  have K0 := Lib.hid k0
  have K1 := Lib.hid k1
  clear h b0 k0 k1 hz
  go_enter Tryd.func45, Tryd.ntmps45
  go_wp2_with fail
  refine (cst_clone_any _ r.length (r.flatMap (fc stepK)) _ HB.out (rows_one stepK r) (by omega) (by omega)).mono ?_
  rintro e w1 ⟨v1, rfl, h1, b1⟩
  obtain ⟨A1, c1, rfl, hc1, ho⟩ := h1.clip
  have HO := Lib.hid ho
  have B1 := Lib.hid b1
  have J0 := Lib.hid (K0.out.below b1 K0.out.lt)
  have J1 := Lib.hid (K1.out.below b1 K1.out.lt)
  clear h1 ho b1 c0
  obtain ⟨L, hL⟩ : ∃ L, L = r.length := ⟨_, rfl⟩
  have hl' : L ≤ 4611686018427387904 := by omega
  rw [← hL] at hc1 ⊢
  have LL := Lib.hid hL
  clear hL hl
  go_wp2_with fail
  refine (cst_clip A1 L c1 w1 hc1 hl').mono ?_
  rintro e w2 ⟨rfl, rfl⟩
  have j0 := J0.out.cell 0
  have j1 := J0.out.cell 1
  have j2 := J0.out.cell 2
  have j3 := J0.out.cell 3
  have j4 := J0.out.cell 4
  have f4 := J0.out.free 4
  have i0 := J1.out.free 0
  have i1 := J1.out.free 1
  have i2 := J1.out.free 2
  have i3 := J1.out.free 3
  have i4 := J1.out.free 4
  have i5 := J1.out.cell 0
  have i6 := J1.out.cell 1
  have i7 := J1.out.cell 2
  have i8 := J1.out.cell 3
  have i9 := J1.out.cell 4
  simp at j0 j1 j2 j3 j4 i5 i6 i7 i8 i9
  go_wp2
  refine bodyPost_ret (res_cell1 Tryd.results45 ((((((J1.out.far (by simp) _).set_ 0 _).set_ 1 _).set_ 2 _).set_ 3 _).set_ 4 _) rfl Tryd.underlying59 infE) rfl ?_
  rw [LL.out]
  have q0 : w.heap.size < ((w.alloc (.cells #[.int .u64 x0, .int .u64 x1, .int .u8 x2, .int .u64 x3, .slice A r.length c] 59)).alloc (.cells #[.int .u64 0, .int .u64 0, .int .u8 0, .int .u64 0, .slice none 0 0] 59)).heap.size := by simp; omega
  have q1 : w.heap.size + 1 < ((w.alloc (.cells #[.int .u64 x0, .int .u64 x1, .int .u8 x2, .int .u64 x3, .slice A r.length c] 59)).alloc (.cells #[.int .u64 0, .int .u64 0, .int .u8 0, .int .u64 0, .slice none 0 0] 59)).heap.size := by simp
  refine ⟨A1, by simp, ?_, ?_⟩
  · exact ((((((HO.out.far (p := ⟨w.heap.size, 4, none⟩) q0 _).far (p := ⟨w.heap.size + 1, 0, none⟩) q1 _).far (p := ⟨w.heap.size + 1, 1, none⟩) q1 _).far (p := ⟨w.heap.size + 1, 2, none⟩) q1 _).far (p := ⟨w.heap.size + 1, 3, none⟩) q1 _).far (p := ⟨w.heap.size + 1, 4, none⟩) q1 _).le (by simp; omega)
  · exact ((((((B0.out.trans (B1.out.mono B0.out.size)).setCell (p := ⟨w.heap.size, 4, none⟩) (Nat.le_refl _) _).setCell (p := ⟨w.heap.size + 1, 0, none⟩) (Nat.le_succ _) _).setCell (p := ⟨w.heap.size + 1, 1, none⟩) (Nat.le_succ _) _).setCell (p := ⟨w.heap.size + 1, 2, none⟩) (Nat.le_succ _) _).setCell (p := ⟨w.heap.size + 1, 3, none⟩) (Nat.le_succ _) _).setCell (p := ⟨w.heap.size + 1, 4, none⟩) (Nat.le_succ _) _

/-- The frame of an entry with steps enough; none. -/
def efr (e : List Int × List (List Int)) : List Int := if e.2.length ≤ 8 then frameB (entryB e) else []
set_option maxHeartbeats 1000000 in
set_option maxRecDepth 100000 in
theorem lframe_any (x0 x1 x2 x3 : Int) (v : Value) (r : List (List Int)) (h0 : fok1 .u64 x0) (h1 : fok1 .u64 x1) (h2 : fok1 .u8 x2) (h3 : fok1 .u64 x3) (hin : ∀ q ∈ r, fok stepK q) (w : World) (h : Steps w v r) (hl : r.length ≤ 8) (hs : (entryB ([x0, x1, x2, x3], r)).length ≤ 8192) (hby : ∀ c ∈ entryB ([x0, x1, x2, x3], r), byt c) (T : Tab w) :
    Calls Tryd.prog 40 #[.agg #[.int .u64 x0, .int .u64 x1, .int .u8 x2, .int .u64 x3, v]] w fun e w' => ∃ v', e = .returned v' ∧ Bo w.heap.size w' v' (frameB (entryB ([x0, x1, x2, x3], r))) ∧ Below w.heap.size w w' := by
  have b0 := below_alloc_ w (.cells #[.int .u64 x0, .int .u64 x1, .int .u8 x2, .int .u64 x3, v] 59)
  have k0 := Blk.new w 59 #[.int .u64 x0, .int .u64 x1, .int .u8 x2, .int .u64 x3, v]
  have PE := Lib.hid (Put_entry_any x0 x1 x2 x3 v r h0 h1 h2 h3 hin _ (Rd.below h b0) (by omega))
  rw [show entryR ([x0, x1, x2, x3], r) = (entryB ([x0, x1, x2, x3], r), 0) from if_pos hl] at PE
  obtain ⟨A, c, rfl, -⟩ := id h
  obtain ⟨bs, hbs⟩ : ∃ bs, bs = entryB ([x0, x1, x2, x3], r) := ⟨_, rfl⟩
  rw [← hbs] at PE hs hby ⊢
  have B0 := Lib.hid b0
  have TT := Lib.hid T
  have BY := Lib.hid hby
  have HS := Lib.hid hs
  have c0 := k0.cell 0
  have c1 := k0.cell 1
  have c2 := k0.cell 2
  have c3 := k0.cell 3
  have c4 := k0.cell 4
  simp at c0 c1 c2 c3 c4
  clear b0 k0 h h0 h1 h2 h3 hin hl hs hby T hbs
  go_enter Tryd.func40, Tryd.ntmps40
  go_wp2_with fail
  refine PE.out.mono ?_
  rintro e w1 ⟨v1, rfl, h1, b1⟩
  have H1 := Lib.hid h1
  have B1 := Lib.hid (bel2 B0.out b1)
  clear h1 b1
  go_wp2_with fail
  refine (fput_any (.slice none 0 0) _ [] bs _ (Bo.nil_ 0 _).bs H1.out.bs BY.out (TT.out.below B1.out) (by simp) HS.out).mono ?_
  rintro e w2 ⟨v2, rfl, h2, b2⟩
  have H2 := Lib.hid h2
  have B2 := Lib.hid b2
  clear h2 b2
  go_wp2
  go_ret
  exact ⟨_, rfl, by simpa using H2.out.le B1.out.size, bel2 B1.out B2.out⟩
end Go.Proofs.YtnegondlkfeleaaDoor
