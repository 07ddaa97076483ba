import Derived.Test.YtoiclicechfmgaaGreatDoorPcz
import Derived.Test.YtoiclicechfmgaaGreatDoorCaz
import Derived.Test.YtoiclicechfmgaaGreatDoorGtz
import Derived.Test.YtoiclicechfmgaaGreatDoorPuz
import Derived.Test.YtoiclicechfmgaaGreatDoorPkz
import Derived.Test.YtoiclicechfmgaaGreatDoorUbz
import Derived.Laws.StructEq
import Derived.BigRegion
import Derived.BigQuiet
/- api.Entry: packs.put, PutEntry. -/
namespace Go.Proofs.YtoiclicechfmgaaGreatDoor
open Go.RowKit

theorem entryLen {x0 x1 x2 x3 : Int} {r4 : List (List Int)} (h0 : fok1 .u64 x0) (h1 : fok1 .u64 x1) (h2 : fok1 .u8 x2) (h3 : fok1 .u64 x3) (t : r4.length ≤ 8) (hi : ∀ q ∈ r4, fok stepK q) : (entryB ([x0, x1, x2, x3], r4)).length ≤ 100000 := by
  have k1 := list_len stepK r4 10 rfl t (by decide) hi
  have k2 := fB_len entryK [x0, x1, x2, x3] (by simp only [entryK, fok]; exact ⟨h0, h1, h2, h3, trivial⟩)
  simp only [entryB, entryK, List.length_append, List.length_cons, List.length_nil] at k2 ⊢
  have k3 : (stepsB r4).length ≤ 90000 := k1
  omega
set_option maxHeartbeats 4000000 in
set_option maxRecDepth 100000 in
theorem put_entry_anyC (x0 : Int) (x1 : Int) (x2 : Int) (x3 : Int) (v4 : Value) (r4 : List (List Int)) (h0 : fok1 .u64 x0) (h1 : fok1 .u64 x1) (h2 : fok1 .u8 x2) (h3 : fok1 .u64 x3) (hin4 : ∀ q ∈ r4, fok stepK q) (w : World) (hv4 : Steps w v4 r4) (hg4 : r4.length ≤ 8) (hl : (entryB ([x0, x1, x2, x3], r4)).length ≤ 70368744177664) :
    Calls Tryz.prog 154 #[.agg #[.int .u64 x0, .int .u64 x1, .int .u8 x2, .int .u64 x3, v4], .bool true, .func (.func 155) #[] #[]] w fun e w' => ∃ v', e = .returned (.tuple #[v', .int .i64 0]) ∧ Bo w.heap.size w' v' (entryB ([x0, x1, x2, x3], r4)) ∧ Below w.heap.size w w' ∧ Clp v' := by
  have hb2 := below_alloc2_ w (.cells #[.int .u64 x0, .int .u64 x1, .int .u8 x2, .int .u64 x3, v4] 170) (.cells #[.slice none 0 0] 300)
  have HB2 := Lib.hid hb2
  have hu : Pu ((w.alloc (.cells #[.int .u64 x0, .int .u64 x1, .int .u8 x2, .int .u64 x3, v4] 170)).alloc (.cells #[.slice none 0 0] 300)) (w.heap.size + 1) none [] := ⟨⟨.slice none 0 0, by have := Blk.new (w.alloc (.cells #[.int .u64 x0, .int .u64 x1, .int .u8 x2, .int .u64 x3, v4] 170)) 300 #[.slice none 0 0]; rw [World.size_alloc] at this; exact this, Bo.nil_ _ _, rfl⟩⟩
  have HU := Lib.hid hu
  have Q0 := Lib.hid h0
  clear h0
  have Q1 := Lib.hid h1
  clear h1
  have Q2 := Lib.hid h2
  clear h2
  have Q3 := Lib.hid h3
  clear h3
  have HI4 := Lib.hid hin4
  have HV4 := Lib.hid (Rd.below hv4 hb2)
  have HN4 := Lib.hid (off_new hv4)
  obtain ⟨E4, q4, rfl, -⟩ := id hv4
  clear hin4 hv4
  clear hu hb2
  go_enter Tryz.func154, Tryz.ntmps154
  go_wp2_with fail
  refine (pentry_any (w.heap.size + 1) x0 x1 x2 x3 _ r4 Q0.out Q1.out Q2.out Q3.out HI4.out none _ [] HU.out HV4.out HN4.out (by omega) (by simpa using hl)).mono ?_
  rintro e w1 ⟨rfl, hP⟩
  obtain ⟨v1, k1, ho1, hbel⟩ := hP.done HB2.out (Nat.le_succ _) (by simp <;> omega)
  have c1 := k1.cell 0
  simp at c1
  rw [List.nil_append] at ho1
  obtain ⟨A1', cp1, rfl, hc1, hcl⟩ := ho1.clip
  have HO := Lib.hid hcl
  have HB := Lib.hid hbel
  clear hP k1 ho1 hbel hcl
  go_wp2_with fail
  refine (byt_clip A1' _ cp1 _ hc1 (by omega)).mono ?_
  rintro e w2 ⟨rfl, rfl⟩
  go_wp2
  refine bodyPost_ret (results_tmp2 rfl _ _ _) rfl ?_
  exact ⟨_, rfl, HO.out, HB.out, ⟨_, _, rfl⟩⟩
theorem put_entry_no (x0 : Int) (x1 : Int) (x2 : Int) (x3 : Int) (v4 : Value) (_r4 : List (List Int)) (f : Value) (w : World) :
    Calls Tryz.prog 154 #[.agg #[.int .u64 x0, .int .u64 x1, .int .u8 x2, .int .u64 x3, v4], .bool false, f] w fun e w' => e = .returned (.tuple #[.slice none 0 0, .int .i64 3]) ∧ Below w.heap.size w w' := by
  go_enter Tryz.func154, Tryz.ntmps154
  go_wp2
  refine bodyPost_ret (results_tmp2 rfl _ _ _) rfl ?_
  exact ⟨rfl, below_alloc_ _ _⟩
/-- What PutEntry answers. -/
def entryR (a : List Int × List (List Int)) : List Int × Int := if a.2.length ≤ 8 then (entryB a, 0) else ([], 3)
set_option maxHeartbeats 4000000 in
theorem Put_entry_anyC (x0 : Int) (x1 : Int) (x2 : Int) (x3 : Int) (v4 : Value) (r4 : List (List Int)) (h0 : fok1 .u64 x0) (h1 : fok1 .u64 x1) (h2 : fok1 .u8 x2) (h3 : fok1 .u64 x3) (hin4 : ∀ q ∈ r4, fok stepK q) (w : World) (hv4 : Steps w v4 r4) (hg4 : r4.length ≤ 1000000) :
    Calls Tryz.prog 142 #[.agg #[.int .u64 x0, .int .u64 x1, .int .u8 x2, .int .u64 x3, v4]] w fun e w' => ∃ v', e = .returned (.tuple #[v', .int .i64 (entryR ([x0, x1, x2, x3], r4)).2]) ∧ Bo w.heap.size w' v' (entryR ([x0, x1, x2, x3], r4)).1 ∧ Below w.heap.size w w' ∧ Clp v' := by
  have Q0 := Lib.hid h0
  clear h0
  have Q1 := Lib.hid h1
  clear h1
  have Q2 := Lib.hid h2
  clear h2
  have Q3 := Lib.hid h3
  clear h3
  have HI4 := Lib.hid hin4
  have HV4 := Lib.hid (Rd.alloc hv4 (.cells #[.int .u64 x0, .int .u64 x1, .int .u8 x2, .int .u64 x3, v4] 170))
  obtain ⟨E4, q4, rfl, -⟩ := id hv4
  clear hin4 hv4
  by_cases t4 : r4.length ≤ 8
  · have hl : (entryB ([x0, x1, x2, x3], r4)).length ≤ 70368744177664 := by
      have := entryLen Q0.out Q1.out Q2.out Q3.out t4 HI4.out
      omega
    have HR := Lib.hid (show entryR ([x0, x1, x2, x3], r4) = (entryB ([x0, x1, x2, x3], r4), 0) from if_pos t4)
    have t4' : (r4.length : Int) ≤ 8 := by omega
    rw [HR.out]
    go_enter Tryz.func142, Tryz.ntmps142
    go_wp2_with fail
    refine (put_entry_anyC x0 x1 x2 x3 _ r4 Q0.out Q1.out Q2.out Q3.out HI4.out _ HV4.out t4 hl).mono ?_
    rintro e w1 ⟨v1, rfl, ho, hb, hcl⟩
    have HCL := Lib.hid hcl
    clear hcl
    have HO := Lib.hid ho
    have HB := Lib.hid hb
    clear ho hb
    go_wp2
    refine bodyPost_ret (results_tmp2 rfl _ _ _) rfl ?_
    exact ⟨_, rfl, HO.out.le (by simp), (below_alloc_ _ _).trans (HB.out.mono (by simp)), HCL.out⟩
  · have t4' : ¬ (r4.length : Int) ≤ 8 := by omega
    have HR := Lib.hid (show entryR ([x0, x1, x2, x3], r4) = ([], 3) from if_neg (by (try simp only); omega))
    rw [HR.out]
    go_enter Tryz.func142, Tryz.ntmps142
    go_wp2_with fail
    refine (put_entry_no x0 x1 x2 x3 _ r4 _ _).mono ?_
    rintro e w1 ⟨rfl, hb⟩
    have HB := Lib.hid hb
    clear hb
    go_wp2
    refine bodyPost_ret (results_tmp2 rfl _ _ _) rfl ?_
    exact ⟨_, rfl, Bo.nil_ _ _, (below_alloc_ _ _).trans (HB.out.mono (by simp)), ⟨none, 0, rfl⟩⟩
theorem Put_entry_any (x0 : Int) (x1 : Int) (x2 : Int) (x3 : Int) (v4 : Value) (r4 : List (List Int)) (h0 : fok1 .u64 x0) (h1 : fok1 .u64 x1) (h2 : fok1 .u8 x2) (h3 : fok1 .u64 x3) (hin4 : ∀ q ∈ r4, fok stepK q) (w : World) (hv4 : Steps w v4 r4) (hg4 : r4.length ≤ 1000000) :
    Calls Tryz.prog 142 #[.agg #[.int .u64 x0, .int .u64 x1, .int .u8 x2, .int .u64 x3, v4]] w fun e w' => ∃ v', e = .returned (.tuple #[v', .int .i64 (entryR ([x0, x1, x2, x3], r4)).2]) ∧ Bo w.heap.size w' v' (entryR ([x0, x1, x2, x3], r4)).1 ∧ Below w.heap.size w w' :=
  (Put_entry_anyC x0 x1 x2 x3 v4 r4 h0 h1 h2 h3 hin4 w hv4 hg4).mono fun _ _ ⟨v, h1, h2, h3, _⟩ => ⟨v, h1, h2, h3⟩
end Go.Proofs.YtoiclicechfmgaaGreatDoor

/- logs: an entry in new memory; an entry's frame. -/
namespace Go.Proofs.YtoiclicechfmgaaGreatDoor
open Go.RowKit

theorem bel2 {a b c : World} (h : Below a.heap.size a b) (k : Below b.heap.size b c) : Below a.heap.size a c := h.trans (k.mono h.size)
theorem infE : (Tryz.prog.info? 170).map (·.size) = some 5 := by kernel_rfl

set_option maxHeartbeats 1000000 in
set_option maxRecDepth 100000 in
theorem lown_any (x0 x1 x2 x3 : Int) (v : Value) (r : List (List Int)) (w : World) (h : Steps w v r) (hl : r.length ≤ 1000000) :
    Calls Tryz.prog 118 #[.agg #[.int .u64 x0, .int .u64 x1, .int .u8 x2, .int .u64 x3, v]] w fun e w' => ∃ P, e = .returned (.agg #[.int .u64 x0, .int .u64 x1, .int .u8 x2, .int .u64 x3, .slice P r.length r.length]) ∧
      Ow w.heap.size w' 235 10 (.slice P r.length r.length) r.length (r.flatMap (fc stepK)) ∧ Below w.heap.size w w' := by
  have b0 := below_alloc2_ w (.cells #[.int .u64 x0, .int .u64 x1, .int .u8 x2, .int .u64 x3, v] 170) (.cells #[.int .u64 0, .int .u64 0, .int .u8 0, .int .u64 0, .slice none 0 0] 170)
  have k0 := (Blk.new w 170 #[.int .u64 x0, .int .u64 x1, .int .u8 x2, .int .u64 x3, v]).alloc (.cells #[.int .u64 0, .int .u64 0, .int .u8 0, .int .u64 0, .slice none 0 0] 170)
  have k1 := Blk.new (w.alloc (.cells #[.int .u64 x0, .int .u64 x1, .int .u8 x2, .int .u64 x3, v] 170)) 170 #[.int .u64 0, .int .u64 0, .int .u8 0, .int .u64 0, .slice none 0 0]
  have HB := Lib.hid (Rd.below h b0)
  obtain ⟨A, c, rfl, -⟩ := id h
  have c0 := k0.cell 4
  simp at c0
  have hz : (w.alloc (.cells #[.int .u64 x0, .int .u64 x1, .int .u8 x2, .int .u64 x3, .slice A r.length c] 170)).heap.size = w.heap.size + 1 := by simp
  rw [hz] at k1
  have B0 := Lib.hid b0
  have K0 := Lib.hid k0
  have K1 := Lib.hid k1
  clear h b0 k0 k1 hz
  go_enter Tryz.func118, Tryz.ntmps118
  go_wp2_with fail
  refine (cst_clone_any _ r.length (r.flatMap (fc stepK)) _ HB.out (rows_one stepK r) (by omega) (by omega)).mono ?_
  rintro e w1 ⟨v1, rfl, h1, b1⟩
  obtain ⟨A1, c1, rfl, hc1, ho⟩ := h1.clip
  have HO := Lib.hid ho
  have B1 := Lib.hid b1
  have J0 := Lib.hid (K0.out.below b1 K0.out.lt)
  have J1 := Lib.hid (K1.out.below b1 K1.out.lt)
  clear h1 ho b1 c0
  obtain ⟨L, hL⟩ : ∃ L, L = r.length := ⟨_, rfl⟩
  have hl' : L ≤ 4611686018427387904 := by omega
  rw [← hL] at hc1 ⊢
  have LL := Lib.hid hL
  clear hL hl
  go_wp2_with fail
  refine (cst_clip A1 L c1 w1 hc1 hl').mono ?_
  rintro e w2 ⟨rfl, rfl⟩
  have j0 := J0.out.cell 0
  have j1 := J0.out.cell 1
  have j2 := J0.out.cell 2
  have j3 := J0.out.cell 3
  have j4 := J0.out.cell 4
  have f4 := J0.out.free 4
  have i0 := J1.out.free 0
  have i1 := J1.out.free 1
  have i2 := J1.out.free 2
  have i3 := J1.out.free 3
  have i4 := J1.out.free 4
  have i5 := J1.out.cell 0
  have i6 := J1.out.cell 1
  have i7 := J1.out.cell 2
  have i8 := J1.out.cell 3
  have i9 := J1.out.cell 4
  simp at j0 j1 j2 j3 j4 i5 i6 i7 i8 i9
  go_wp2
  refine bodyPost_ret (res_cell1 Tryz.results118 ((((((J1.out.far (by simp) _).set_ 0 _).set_ 1 _).set_ 2 _).set_ 3 _).set_ 4 _) rfl Tryz.underlying170 infE) rfl ?_
  rw [LL.out]
  have q0 : w.heap.size < ((w.alloc (.cells #[.int .u64 x0, .int .u64 x1, .int .u8 x2, .int .u64 x3, .slice A r.length c] 170)).alloc (.cells #[.int .u64 0, .int .u64 0, .int .u8 0, .int .u64 0, .slice none 0 0] 170)).heap.size := by simp; omega
  have q1 : w.heap.size + 1 < ((w.alloc (.cells #[.int .u64 x0, .int .u64 x1, .int .u8 x2, .int .u64 x3, .slice A r.length c] 170)).alloc (.cells #[.int .u64 0, .int .u64 0, .int .u8 0, .int .u64 0, .slice none 0 0] 170)).heap.size := by simp
  refine ⟨A1, by simp, ?_, ?_⟩
  · exact ((((((HO.out.far (p := ⟨w.heap.size, 4, none⟩) q0 _).far (p := ⟨w.heap.size + 1, 0, none⟩) q1 _).far (p := ⟨w.heap.size + 1, 1, none⟩) q1 _).far (p := ⟨w.heap.size + 1, 2, none⟩) q1 _).far (p := ⟨w.heap.size + 1, 3, none⟩) q1 _).far (p := ⟨w.heap.size + 1, 4, none⟩) q1 _).le (by simp; omega)
  · exact ((((((B0.out.trans (B1.out.mono B0.out.size)).setCell (p := ⟨w.heap.size, 4, none⟩) (Nat.le_refl _) _).setCell (p := ⟨w.heap.size + 1, 0, none⟩) (Nat.le_succ _) _).setCell (p := ⟨w.heap.size + 1, 1, none⟩) (Nat.le_succ _) _).setCell (p := ⟨w.heap.size + 1, 2, none⟩) (Nat.le_succ _) _).setCell (p := ⟨w.heap.size + 1, 3, none⟩) (Nat.le_succ _) _).setCell (p := ⟨w.heap.size + 1, 4, none⟩) (Nat.le_succ _) _

/-- The frame of an entry with steps enough; none. -/
def efr (e : List Int × List (List Int)) : List Int := if e.2.length ≤ 8 then frameB (entryB e) else []
set_option maxHeartbeats 1000000 in
set_option maxRecDepth 100000 in
theorem lframe_any (x0 x1 x2 x3 : Int) (v : Value) (r : List (List Int)) (h0 : fok1 .u64 x0) (h1 : fok1 .u64 x1) (h2 : fok1 .u8 x2) (h3 : fok1 .u64 x3) (hin : ∀ q ∈ r, fok stepK q) (w : World) (h : Steps w v r) (hl : r.length ≤ 8) (hs : (entryB ([x0, x1, x2, x3], r)).length ≤ 8192) (hby : ∀ c ∈ entryB ([x0, x1, x2, x3], r), byt c) (T : Tab w) :
    Calls Tryz.prog 121 #[.agg #[.int .u64 x0, .int .u64 x1, .int .u8 x2, .int .u64 x3, v]] w fun e w' => ∃ v', e = .returned v' ∧ Bo w.heap.size w' v' (frameB (entryB ([x0, x1, x2, x3], r))) ∧ Below w.heap.size w w' := by
  have b0 := below_alloc_ w (.cells #[.int .u64 x0, .int .u64 x1, .int .u8 x2, .int .u64 x3, v] 170)
  have k0 := Blk.new w 170 #[.int .u64 x0, .int .u64 x1, .int .u8 x2, .int .u64 x3, v]
  have PE := Lib.hid (Put_entry_any x0 x1 x2 x3 v r h0 h1 h2 h3 hin _ (Rd.below h b0) (by omega))
  rw [show entryR ([x0, x1, x2, x3], r) = (entryB ([x0, x1, x2, x3], r), 0) from if_pos hl] at PE
  obtain ⟨A, c, rfl, -⟩ := id h
  obtain ⟨bs, hbs⟩ : ∃ bs, bs = entryB ([x0, x1, x2, x3], r) := ⟨_, rfl⟩
  rw [← hbs] at PE hs hby ⊢
  have B0 := Lib.hid b0
  have TT := Lib.hid T
  have BY := Lib.hid hby
  have HS := Lib.hid hs
  have c0 := k0.cell 0
  have c1 := k0.cell 1
  have c2 := k0.cell 2
  have c3 := k0.cell 3
  have c4 := k0.cell 4
  simp at c0 c1 c2 c3 c4
  clear b0 k0 h h0 h1 h2 h3 hin hl hs hby T hbs
  go_enter Tryz.func121, Tryz.ntmps121
  go_wp2_with fail
  refine PE.out.mono ?_
  rintro e w1 ⟨v1, rfl, h1, b1⟩
  have H1 := Lib.hid h1
  have B1 := Lib.hid (bel2 B0.out b1)
  clear h1 b1
  go_wp2_with fail
  refine (fput_any (.slice none 0 0) _ [] bs _ (Bo.nil_ 0 _).bs H1.out.bs BY.out (TT.out.below B1.out) (by simp) HS.out).mono ?_
  rintro e w2 ⟨v2, rfl, h2, b2⟩
  have H2 := Lib.hid h2
  have B2 := Lib.hid b2
  clear h2 b2
  go_wp2
  go_ret
  exact ⟨_, rfl, by simpa using H2.out.le B1.out.size, bel2 B1.out B2.out⟩
end Go.Proofs.YtoiclicechfmgaaGreatDoor

/- law01: whether two lists are the same (api.Step). -/
namespace Go.Proofs.YtoiclicechfmgaaGreatDoor
open Go.RowKit

theorem run_neq_step (x0 x1 x2 x3 x4 x5 x6 x7 x8 x9 y0 y1 y2 y3 y4 y5 y6 y7 y8 y9 : Int) (w : World) : (binOp .neq 235 (.agg #[.int .u8 x0, .int .u8 x1, .int .u8 x2, .int .u8 x3, .int .u8 x4, .int .i64 x5, .int .i64 x6, .int .i64 x7, .int .i64 x8, .int .u64 x9]) (.agg #[.int .u8 y0, .int .u8 y1, .int .u8 y2, .int .u8 y3, .int .u8 y4, .int .i64 y5, .int .i64 y6, .int .i64 y7, .int .i64 y8, .int .u64 y9])).run Tryz.prog w = .ok (.bool (!decide ([x0, x1, x2, x3, x4, x5, x6, x7, x8, x9] = [y0, y1, y2, y3, y4, y5, y6, y7, y8, y9]))) w := by
  have u0 := Tryz.underlying229
  have a0 := Tryz.isAgg229
  have s0 := Tryz.sizeOf229
  have u1 := Tryz.underlying230
  have a1 := Tryz.isAgg230
  have s1 := Tryz.sizeOf230
  have u2 := Tryz.underlying231
  have a2 := Tryz.isAgg231
  have s2 := Tryz.sizeOf231
  have u3 := Tryz.underlying2
  have a3 := Tryz.isAgg2
  have s3 := Tryz.sizeOf2
  have u4 := Tryz.underlying233
  have a4 := Tryz.isAgg233
  have s4 := Tryz.sizeOf233
  have u5 := Tryz.underlying34
  have a5 := Tryz.isAgg34
  have s5 := Tryz.sizeOf34
  have hS : Tryz.prog.underlying 235 = some (.struct (Tryz.prog.fieldsOf 235)) := by kernel_rfl
  have hp : Tryz.prog.stoodInHeld 235 = false := by kernel_rfl
  have hS2 : Tryz.prog.underlying 233 = some (.struct (Tryz.prog.fieldsOf 233)) := by kernel_rfl
  have hp2 : Tryz.prog.stoodInHeld 233 = false := by kernel_rfl
  have hq := fun (w : World) (a b c d : Int) => run_equalIn_agg w 9998 233 (P := Tryz.prog) #[.int .i64 a, .int .i64 b] #[.int .i64 c, .int .i64 d] hS2 hp2
  rw [run_neq_struct, show (10000 : Nat) = 9999 + 1 from rfl, run_equalIn_agg w 9999 235 _ _ hS hp]
  simp only [Program.fieldsOf, Tryz.underlying235]
  go_simp
  by_cases h0 : x0 = y0
  rotate_left
  · simp [h0]
  subst h0
  by_cases h1 : x1 = y1
  rotate_left
  · simp [h1]
  subst h1
  by_cases h2 : x2 = y2
  rotate_left
  · simp [h2]
  subst h2
  by_cases h3 : x3 = y3
  rotate_left
  · simp [h3]
  subst h3
  by_cases h4 : x4 = y4
  rotate_left
  · simp [h4]
  subst h4
  by_cases h5 : x5 = y5
  rotate_left
  · simp [h5]
  subst h5
  by_cases h6 : x6 = y6
  rotate_left
  · simp [h6]
  subst h6
  by_cases h7 : x7 = y7
  rotate_left
  · simp [h7]
  subst h7
  by_cases h8 : x8 = y8
  rotate_left
  · simp [h8]
  subst h8
  by_cases h9 : x9 = y9 <;> simp [h9]

end Go.Proofs.YtoiclicechfmgaaGreatDoor

/- law01: whether two calls are the same. -/
namespace Go.Proofs.YtoiclicechfmgaaGreatDoor
open Go.RowKit

end Go.Proofs.YtoiclicechfmgaaGreatDoor

/- Slices of entries: what reads as a list; SameEntries of the same ones. -/
namespace Go.Proofs.YtoiclicechfmgaaGreatDoor
open Go.RowKit

/-- An entry: its fields, its steps. -/
abbrev Ent := List Int × List (List Int)
def ecells (p : Ent × Value) : List Value := fc entryK p.1.1 ++ [p.2]
theorem ecells_len (p : Ent × Value) : (ecells p).length = 5 := by simp [ecells, fc_len, entryK]
/-- The slice v holds these entries. -/
def Ents (w : World) (v : Value) (es : List Ent) : Prop :=
  ∃ ss : List Value, ss.length = es.length ∧ Rd w 5 v es.length ((es.zip ss).flatMap ecells) ∧ ∀ (j : Nat) (h : j < es.length) (h' : j < ss.length), Steps w ss[j] es[j].2
theorem Ents.below {w w' : World} {v : Value} {es : List Ent} (h : Ents w v es) (hb : Below w.heap.size w w') : Ents w' v es := by
  obtain ⟨ss, h1, h2, h3⟩ := h
  exact ⟨ss, h1, h2.below hb, fun j a b => Rd.below (h3 j a b) hb⟩
theorem Ents.alloc {w : World} {v : Value} {es : List Ent} (h : Ents w v es) (o : Obj) : Ents (w.alloc o) v es := h.below (below_alloc_ _ _)
theorem Ents.at_ {w : World} {v : Value} {es : List Ent} (h : Ents w v es) (h0 : 0 < es.length) :
    ∃ g o c, v = .slice (some ⟨g, o, none⟩) es.length c ∧ es.length ≤ c ∧ g < w.heap.size ∧ ∀ (j : Nat) (hj : j < es.length), ∃ s, Steps w s es[j].2 ∧ ∀ i u, i < 5 → (ecells (es[j], s))[i]? = some u → w.cell? ⟨g, o + j * 5 + i, none⟩ = some u := by
  obtain ⟨ss, h1, h2, h3⟩ := h
  have hz : (es.zip ss).length = es.length := by rw [List.length_zip]; omega
  rw [← hz] at h2
  obtain ⟨g, o, c, rfl, hc, hg, hh⟩ := Rd.at_ ecells_len h2 (by omega)
  rw [hz] at hc ⊢
  refine ⟨g, o, c, rfl, hc, hg, fun j hj => ⟨ss[j]'(by omega), h3 j hj (by omega), fun i u hi hu => hh j (by omega) i u hi ?_⟩⟩
  rw [List.getElem_zip]; exact hu
/-- One entry, written out. -/
theorem Ents.one {w : World} {e : Ent} {s : Value} (h : Steps w s e.2) : Ents (w.alloc (.cells (ecells (e, s)).toArray 170)) (.slice (some ⟨w.heap.size, 0, none⟩) 1 1) [e] := by
  have hk := Blk.new w 170 (ecells (e, s)).toArray
  refine ⟨[s], rfl, ⟨_, _, rfl, Nat.le_refl _, by simp [ecells_len], .inr ⟨w.heap.size, 0, rfl, by simp, fun j u hu => ?_⟩⟩, fun j h1 h2 => ?_⟩
  · rw [Nat.zero_add, hk.cell]
    simpa using hu
  · obtain rfl : j = 0 := by simp at h1; exact h1
    exact Rd.alloc h _

end Go.Proofs.YtoiclicechfmgaaGreatDoor

/- logs: the end of a content; the term of an index. -/
namespace Go.Proofs.YtoiclicechfmgaaGreatDoor
open Go.RowKit

/-- The content at the cells p, 0 .. 2. -/
def Ct (w : World) (p bi bt : Nat) (ev : Value) : Prop := w.cell? ⟨p, 0, none⟩ = some (.int .u64 bi) ∧ w.cell? ⟨p, 1, none⟩ = some (.int .u64 bt) ∧ w.cell? ⟨p, 2, none⟩ = some ev
theorem Ct.below {w w' : World} {p bi bt : Nat} {ev : Value} (h : Ct w p bi bt ev) (hb : Below w.heap.size w w') : Ct w' p bi bt ev :=
  ⟨(hb.cell (block_lt_of_cell h.1)).trans h.1, (hb.cell (block_lt_of_cell h.2.1)).trans h.2.1, (hb.cell (block_lt_of_cell h.2.2)).trans h.2.2⟩
/-- Entries that follow each other behind the index bi. -/
def Wf (bi : Nat) (es : List Ent) : Prop := ∀ (j : Nat) (h : j < es.length), ∃ t c n : Int, es[j].1 = [((bi + 1 + j : Nat) : Int), t, c, n]
def endT (bt : Nat) (es : List Ent) : Int := match es.getLast? with
  | none => bt
  | some e => e.1.tail.headD 0
/-- Entry j, in its cells. -/
theorem Ents.ct {w : World} {v : Value} {es : List Ent} {bi : Nat} (h : Ents w v es) (hw : Wf bi es) (h0 : 0 < es.length) :
    ∃ g o c, v = .slice (some ⟨g, o, none⟩) es.length c ∧ es.length ≤ c ∧ g < w.heap.size ∧ ∀ (j : Nat) (hj : j < es.length), ∃ t x n : Int, ∃ s, es[j].1 = [((bi + 1 + j : Nat) : Int), t, x, n] ∧ Steps w s es[j].2 ∧
      w.cell? ⟨g, o + j * 5, none⟩ = some (.int .u64 ((bi + 1 + j : Nat) : Int)) ∧ w.cell? ⟨g, o + j * 5 + 1, none⟩ = some (.int .u64 t) ∧ w.cell? ⟨g, o + j * 5 + 2, none⟩ = some (.int .u8 x) ∧ w.cell? ⟨g, o + j * 5 + 3, none⟩ = some (.int .u64 n) ∧ w.cell? ⟨g, o + j * 5 + 4, none⟩ = some s := by
  obtain ⟨g, o, c, hv, hc, hg, hh⟩ := h.at_ h0
  refine ⟨g, o, c, hv, hc, hg, fun j hj => ?_⟩
  obtain ⟨t, x, n, he⟩ := hw j hj
  obtain ⟨s, hs, hcell⟩ := hh j hj
  have hec : ecells (es[j], s) = [.int .u64 ((bi + 1 + j : Nat) : Int), .int .u64 t, .int .u8 x, .int .u64 n, s] := by simp [ecells, he, entryK, fc]
  rw [hec] at hcell
  exact ⟨t, x, n, s, he, hs, hcell 0 _ (by omega) rfl, hcell 1 _ (by omega) rfl, hcell 2 _ (by omega) rfl, hcell 3 _ (by omega) rfl, hcell 4 _ (by omega) rfl⟩
theorem infM : (Tryz.prog.info? 131).map (·.size) = some 2 := by kernel_rfl

set_option maxHeartbeats 1000000 in
set_option maxRecDepth 100000 in
theorem lend_any (p bi bt : Nat) (ev : Value) (es : List Ent) (w : World) (h : Ct w p bi bt ev) (he : Ents w ev es) (hw : Wf bi es) (hl : es.length ≤ 1000000) :
    Calls Tryz.prog 65 #[.pointer (some ⟨p, 0, none⟩)] w fun e w' => e = .returned (.agg #[.int .u64 ((bi + es.length : Nat) : Int), .int .u64 (endT bt es)]) ∧ Below w.heap.size w w' := by
  have b0 := below_alloc_ w (.cells #[.int .u64 0, .int .u64 0] 131)
  have k0 := Blk.new w 131 #[.int .u64 0, .int .u64 0]
  obtain ⟨c0, c1, c2⟩ := h.below b0
  have e1 := he.below b0
  have i0 := k0.cell 0
  have i1 := k0.cell 1
  have f0 := k0.free 0
  have f1 := k0.free 1
  simp at i0 i1
  have B0 := Lib.hid b0
  have K0 := Lib.hid k0
  rcases Nat.eq_zero_or_pos es.length with h0 | h0
  · obtain rfl := List.eq_nil_of_length_eq_zero h0
    obtain ⟨_, _, ⟨A, c, rfl, -⟩, -⟩ := id he
    simp only [List.length_nil] at c2
    clear h he e1 hw hl h0 b0 k0
    go_enter Tryz.func65, Tryz.ntmps65
    go_wp2
    refine bodyPost_ret (res_cell1 Tryz.results65 (Blk.new w 131 #[_, _]) rfl Tryz.underlying131 infM) rfl ?_
    exact ⟨by simp [endT], below_alloc_ w _⟩
  · obtain ⟨g, o, c, rfl, hc, hg, hh⟩ := e1.ct hw h0
    obtain ⟨m, hm⟩ : ∃ m, es.length = m + 1 := ⟨es.length - 1, by omega⟩
    obtain ⟨t, x, n, s, hes, -, d0, d1, -⟩ := hh m (by omega)
    have ht : endT bt es = t := by
      have hgl : es.getLast? = some es[m] := by rw [List.getLast?_eq_getElem?, show es.length - 1 = m by omega]; exact List.getElem?_eq_getElem _
      simp [endT, hgl, hes]
    have hml : (m : Int) < 1000000 := by omega
    have hcm : (m : Int) + 1 ≤ (c : Int) := by omega
    have HT := Lib.hid ht
    have HM := Lib.hid hm
    rw [ht, hm]
    rw [hm] at c2
    clear h he e1 hw hl h0 b0 k0 hh hes ht hm hc hg
    go_enter Tryz.func65, Tryz.ntmps65
    go_wp2_with fail
    go_region
    go_wp2
    refine bodyPost_ret (res_cell1 Tryz.results65 (Blk.new w 131 #[_, _]).drew rfl Tryz.underlying131 infM) rfl ?_
    exact ⟨by simp; omega, (below_alloc_ w _).drew⟩

theorem mark_field (a b : Int) (w : World) : (Instr.field 131 (.agg #[.int .u64 a, .int .u64 b]) 0).run Tryz.prog w = .ok (.int .u64 a) w := by kernel_rfl
def tmE (es : List Ent) (j : Nat) : Int := (es[j]?.map fun e => e.1.tail.headD 0).getD 0
def termP (bi bt : Nat) (es : List Ent) (i : Nat) : Int × Bool := if i = bi then ((bt : Int), true) else if i < bi ∨ bi + es.length < i then (0, false) else (tmE es (i - bi - 1), true)

set_option maxHeartbeats 1000000 in
set_option maxRecDepth 100000 in
theorem lterm_any (p bi bt i : Nat) (ev : Value) (es : List Ent) (w : World) (h : Ct w p bi bt ev) (he : Ents w ev es) (hw : Wf bi es) (hl : es.length ≤ 1000000) (hi : i < 18446744073709551616) (hb : bi + es.length < 18446744073709551616) :
    Calls Tryz.prog 93 #[.pointer (some ⟨p, 0, none⟩), .int .u64 i] w fun e w' => e = .returned (.tuple #[.int .u64 (termP bi bt es i).1, .bool (termP bi bt es i).2]) ∧ Below w.heap.size w w' := by
  obtain ⟨c0, c1, c2⟩ := id h
  have H := Lib.hid h
  have HE := Lib.hid he
  have HW := Lib.hid hw
  have HL := Lib.hid hl
  by_cases h1 : i = bi
  · have hR : termP bi bt es i = ((bt : Int), true) := if_pos h1
    rw [hR]
    subst h1
    clear h he hw hl hR
    go_enter Tryz.func93, Tryz.ntmps93
    go_wp2
    go_ret2
    exact ⟨rfl, Below.refl _ _⟩
  by_cases h2 : i < bi
  · have hR : termP bi bt es i = (0, false) := by unfold termP; rw [if_neg h1, if_pos (.inl h2)]
    rw [hR]
    have n1 : ((i : Int) == (bi : Int)) = false := by simp; omega
    have n2 : decide ((i : Int) < (bi : Int)) = true := decide_eq_true (by omega)
    have n3 : (i : Int) < (bi : Int) := by omega
    clear h he hw hl hR h1 h2
    go_enter Tryz.func93, Tryz.ntmps93
    go_wp2
    go_ret2
    exact ⟨rfl, Below.refl _ _⟩
  have n1 : ((i : Int) == (bi : Int)) = false := by simp; omega
  have n2 : decide ((i : Int) < (bi : Int)) = false := decide_eq_false (by omega)
  have n3 : ¬ (i : Int) < (bi : Int) := by omega
  by_cases h3 : bi + es.length < i
  · have hR : termP bi bt es i = (0, false) := by unfold termP; rw [if_neg h1, if_pos (.inr h3)]
    rw [hR]
    obtain ⟨E, hE⟩ : ∃ E, E = bi + es.length := ⟨_, rfl⟩
    have LE := Lib.hid (lend_any p bi bt ev es w h he hw hl)
    rw [← hE] at LE h3
    have n4 : (E : Int) < (i : Int) := by omega
    have n5 : decide ((E : Int) < (i : Int)) = true := decide_eq_true n4
    have hfd := mark_field
    clear h he hw hl hR h1 h2 hE hb h3
    go_enter Tryz.func93, Tryz.ntmps93
    go_wp2_with fail
    refine LE.out.mono ?_
    rintro e w1 ⟨rfl, b1⟩
    have B1 := Lib.hid b1
    clear b1 c0 c1 c2
    go_wp2
    go_ret2
    exact ⟨rfl, B1.out⟩
  · obtain ⟨j, hj⟩ : ∃ j, j = i - bi - 1 := ⟨_, rfl⟩
    have hjl : j < es.length := by omega
    have hR : termP bi bt es i = (tmE es j, true) := by unfold termP; rw [if_neg h1, if_neg (by omega), hj]
    rw [hR]
    obtain ⟨g, o, c, rfl, hc, hg, hh⟩ := he.ct hw (by omega)
    obtain ⟨t, x, n, s, hes, -, -, d1, -⟩ := hh j hjl
    have ht : tmE es j = t := by simp [tmE, List.getElem?_eq_getElem hjl, hes]
    rw [ht]
    obtain ⟨E, hE⟩ : ∃ E, E = bi + es.length := ⟨_, rfl⟩
    have LE := Lib.hid (lend_any p bi bt _ es w h he hw hl)
    obtain ⟨n0, hn0⟩ : ∃ n, n = es.length := ⟨_, rfl⟩
    rw [← hE] at LE
    rw [← hn0] at c2 hc
    have D1 := Lib.hid d1
    have n4 : ¬ (E : Int) < (i : Int) := by omega
    have n5 : decide ((E : Int) < (i : Int)) = false := decide_eq_false n4
    obtain ⟨k1, hk1⟩ : ∃ k1, k1 = j + 1 := ⟨_, rfl⟩
    have n6 : (i : Int) - (bi : Int) = (k1 : Int) := by omega
    have n7 : (k1 : Int) - 1 = (j : Int) := by omega
    have n11 : IntKind.u64.wrap (k1 : Int) = (k1 : Int) := IntWalk.u64_in _ (by omega)
    have n12 : IntKind.u64.wrap (j : Int) = (j : Int) := IntWalk.u64_in _ (by omega)
    have N0 := Lib.hid hn0
    have n10 : (k1 : Int) ≤ 1000000 := by omega
    have n8 : (j : Int) < (n0 : Int) := by omega
    have n9 : (n0 : Int) ≤ 1000000 := by omega
    have hfd := mark_field
    clear h he hw hl hR h1 h2 hE hb h3 hh hes ht hn0 hjl hj d1 hk1
    go_enter Tryz.func93, Tryz.ntmps93
    go_wp2_with fail
    refine LE.out.mono ?_
    rintro e w1 ⟨rfl, b1⟩
    have B1 := Lib.hid b1
    obtain ⟨c0', c1', c2'⟩ := H.out.below b1
    have d1 := (b1.cell (block_lt_of_cell D1.out)).trans D1.out
    rw [← N0.out] at c2'
    clear b1 c0 c1 c2
    go_wp2_with fail
    go_quiet (fail)
    go_wp2
    go_ret2
    exact ⟨rfl, B1.out.trans (below_drewN_ _ _ _)⟩
end Go.Proofs.YtoiclicechfmgaaGreatDoor
