/- The document's taker: an entry. -/
import Derived.Test.YtielnocnnffdfaaGreatTkc
import Derived.Test.YtielnocnnffdfaaGreatJpc
namespace Go.Proofs.YtielnocnnffdfaaGreat
open Go.RowKit

set_option maxHeartbeats 8000000 in
set_option maxRecDepth 100000 in
theorem tentry_at (t : Nat) (s s1 s2 s3 s4 s5 : TS) (x0 x1 x2 x3 : Int) (rows : List (List Int)) (w : World) (h : Ts w t s) (h1 : rd1 .u64 s = (x0, s1)) (h2 : rd1 .u64 s1 = (x1, s2)) (h3 : rd1 .u8 s2 = (x2, s3)) (h4 : rd1 .u64 s3 = (x3, s4)) (hL : rdL stepK 8 s4 = (rows, s5)) :
    Calls Tryz.prog 43 #[.pointer (some ⟨t, 0, none⟩)] w fun e w' => ∃ A c, e = .returned (.agg #[.int .u64 x0, .int .u64 x1, .int .u8 x2, .int .u64 x3, .slice A rows.length c]) ∧ Ow w.heap.size w' 91 10 (.slice A rows.length c) rows.length (rows.flatMap (fc stepK)) ∧ Ts w' t s5 ∧ w.grownBy w' (some t) := by
  have hlt := h.lt
  have b2 := below_alloc2_ w (.cells #[.int .u64 0, .int .u64 0, .int .u8 0, .int .u64 0, .slice none 0 0] 43) (.cells #[.int .u64 0, .int .u64 0, .int .u8 0, .int .u64 0, .slice none 0 0] 43)
  have k0 := (Blk.new w 43 #[.int .u64 0, .int .u64 0, .int .u8 0, .int .u64 0, .slice none 0 0]).alloc (.cells #[.int .u64 0, .int .u64 0, .int .u8 0, .int .u64 0, .slice none 0 0] 43)
  have k1 := Blk.new (w.alloc (.cells #[.int .u64 0, .int .u64 0, .int .u8 0, .int .u64 0, .slice none 0 0] 43)) 43 #[.int .u64 0, .int .u64 0, .int .u8 0, .int .u64 0, .slice none 0 0]
  rw [World.size_alloc] at k1
  have T0 := Lib.hid (h.below b2)
  have KC0 := Lib.hid k1
  have K20 := Lib.hid k0
  have G0 := Lib.hid (grown_below_ b2 (some t))
  have HL := Lib.hid hL
  have H1 := Lib.hid h1
  have H2 := Lib.hid h2
  have H3 := Lib.hid h3
  have H4 := Lib.hid h4
  clear h hL b2 k0 k1 h1 h2 h3 h4
  go_enter Tryz.func43, Tryz.ntmps43
  go_wp2_with fail
  refine (rd_u64 t s s1 x0 _ T0.out H1.out).mono ?_
  rintro e w1 ⟨rfl, ht, hg⟩
  have kc := KC0.out.grown hg (fun e => by have := Option.some.inj e; omega)
  have f1 := kc.free
  have z1 := kc.cell 0
  simp only [List.getElem?_toArray, List.getElem?_cons_zero, List.getElem?_cons_succ] at z1
  have KC1 := Lib.hid (show Blk (w1.setCell ⟨w.heap.size + 1, 0, none⟩ (.int .u64 x0)) (w.heap.size + 1) 43 #[.int .u64 x0, .int .u64 0, .int .u8 0, .int .u64 0, .slice none 0 0] from by have := kc.set_ 0 (.int .u64 x0); simpa using this)
  have K21 := Lib.hid ((K20.out.grown hg (fun e => by have := Option.some.inj e; omega)).far (p := ⟨w.heap.size + 1, 0, none⟩) (by simp) (.int .u64 x0))
  have T1 := Lib.hid (ht.grown (grown_set_ w1 (w.heap.size + 1) 0 (.int .u64 x0)) (fun k e => by have := Option.some.inj e; omega))
  have G1 := Lib.hid (grown_far_ (grown_trans_ G0.out hg) (p := ⟨w.heap.size + 1, 0, none⟩) (by simp) (.int .u64 x0))
  clear ht hg kc T0 KC0 K20 G0
  go_wp2_with fail
  refine (rd_u64 t s1 s2 x1 _ T1.out H2.out).mono ?_
  rintro e w2 ⟨rfl, ht, hg⟩
  have kc := KC1.out.grown hg (fun e => by have := Option.some.inj e; omega)
  have f2 := kc.free
  have z2 := kc.cell 1
  simp only [List.getElem?_toArray, List.getElem?_cons_zero, List.getElem?_cons_succ] at z2
  have KC2 := Lib.hid (show Blk (w2.setCell ⟨w.heap.size + 1, 1, none⟩ (.int .u64 x1)) (w.heap.size + 1) 43 #[.int .u64 x0, .int .u64 x1, .int .u8 0, .int .u64 0, .slice none 0 0] from by have := kc.set_ 1 (.int .u64 x1); simpa using this)
  have K22 := Lib.hid ((K21.out.grown hg (fun e => by have := Option.some.inj e; omega)).far (p := ⟨w.heap.size + 1, 1, none⟩) (by simp) (.int .u64 x1))
  have T2 := Lib.hid (ht.grown (grown_set_ w2 (w.heap.size + 1) 1 (.int .u64 x1)) (fun k e => by have := Option.some.inj e; omega))
  have G2 := Lib.hid (grown_far_ (grown_trans_ G1.out hg) (p := ⟨w.heap.size + 1, 1, none⟩) (by simp) (.int .u64 x1))
  clear ht hg kc T1 KC1 K21 G1 f1 z1
  go_wp2_with fail
  refine (rd_u8 t s2 s3 x2 _ T2.out H3.out).mono ?_
  rintro e w3 ⟨rfl, ht, hg⟩
  have kc := KC2.out.grown hg (fun e => by have := Option.some.inj e; omega)
  have f3 := kc.free
  have z3 := kc.cell 2
  simp only [List.getElem?_toArray, List.getElem?_cons_zero, List.getElem?_cons_succ] at z3
  have KC3 := Lib.hid (show Blk (w3.setCell ⟨w.heap.size + 1, 2, none⟩ (.int .u8 x2)) (w.heap.size + 1) 43 #[.int .u64 x0, .int .u64 x1, .int .u8 x2, .int .u64 0, .slice none 0 0] from by have := kc.set_ 2 (.int .u8 x2); simpa using this)
  have K23 := Lib.hid ((K22.out.grown hg (fun e => by have := Option.some.inj e; omega)).far (p := ⟨w.heap.size + 1, 2, none⟩) (by simp) (.int .u8 x2))
  have T3 := Lib.hid (ht.grown (grown_set_ w3 (w.heap.size + 1) 2 (.int .u8 x2)) (fun k e => by have := Option.some.inj e; omega))
  have G3 := Lib.hid (grown_far_ (grown_trans_ G2.out hg) (p := ⟨w.heap.size + 1, 2, none⟩) (by simp) (.int .u8 x2))
  clear ht hg kc T2 KC2 K22 G2 f2 z2
  go_wp2_with fail
  refine (rd_u64 t s3 s4 x3 _ T3.out H4.out).mono ?_
  rintro e w4 ⟨rfl, ht, hg⟩
  have kc := KC3.out.grown hg (fun e => by have := Option.some.inj e; omega)
  have f4 := kc.free
  have z4 := kc.cell 3
  simp only [List.getElem?_toArray, List.getElem?_cons_zero, List.getElem?_cons_succ] at z4
  have KC4 := Lib.hid (show Blk (w4.setCell ⟨w.heap.size + 1, 3, none⟩ (.int .u64 x3)) (w.heap.size + 1) 43 #[.int .u64 x0, .int .u64 x1, .int .u8 x2, .int .u64 x3, .slice none 0 0] from by have := kc.set_ 3 (.int .u64 x3); simpa using this)
  have K24 := Lib.hid ((K23.out.grown hg (fun e => by have := Option.some.inj e; omega)).far (p := ⟨w.heap.size + 1, 3, none⟩) (by simp) (.int .u64 x3))
  have T4 := Lib.hid (ht.grown (grown_set_ w4 (w.heap.size + 1) 3 (.int .u64 x3)) (fun k e => by have := Option.some.inj e; omega))
  have G4 := Lib.hid (grown_far_ (grown_trans_ G3.out hg) (p := ⟨w.heap.size + 1, 3, none⟩) (by simp) (.int .u64 x3))
  clear ht hg kc T3 KC3 K23 G3 f3 z3
  go_wp2_with fail
  refine (tcmd_at t s4 s5 rows _ T4.out HL.out).mono ?_
  rintro e w5 ⟨A1, c1, rfl, ho, ht, hg⟩
  have kc := KC4.out.grown hg (fun e => by have := Option.some.inj e; omega)
  have f5 := kc.free
  have z5 := kc.cell 4
  simp only [List.getElem?_toArray, List.getElem?_cons_zero, List.getElem?_cons_succ] at z5
  have hG4 := G4.out.size
  have KC5 := Lib.hid kc
  have KCE := Lib.hid (show Blk (w5.setCell ⟨w.heap.size + 1, 4, none⟩ (.slice A1 rows.length c1)) (w.heap.size + 1) 43 #[.int .u64 x0, .int .u64 x1, .int .u8 x2, .int .u64 x3, .slice A1 rows.length c1] from by have := kc.set_ 4 (.slice A1 rows.length c1); simpa using this)
  have K2E := Lib.hid ((K24.out.grown hg (fun e => by have := Option.some.inj e; omega)).far (p := ⟨w.heap.size + 1, 4, none⟩) (by simp) (.slice A1 rows.length c1))
  have HT := Lib.hid (ht.grown (grown_set_ w5 (w.heap.size + 1) 4 (.slice A1 rows.length c1)) (fun k e => by have := Option.some.inj e; omega))
  have HG := Lib.hid (grown_far_ (grown_trans_ G4.out hg) (p := ⟨w.heap.size + 1, 4, none⟩) (by simp) (.slice A1 rows.length c1))
  have HO := Lib.hid (show Ow w.heap.size (w5.setCell ⟨w.heap.size + 1, 4, none⟩ (.slice A1 rows.length c1)) 91 10 (.slice A1 rows.length c1) rows.length (rows.flatMap (fc stepK)) from (ho.le hG4).aside kc (by decide) 4 _)
  clear ht hg kc ho T4 KC4 K24 G4 f4 z4
  go_upto_region 7 with fail
  generalize w5.setCell ⟨w.heap.size + 1, 4, none⟩ (.slice A1 rows.length c1) = X at *
  clear f5 z5
  have kcx := KCE.out
  have k2x := K2E.out
  have fx := k2x.free
  have zc0 := kcx.cell 0
  have z20 := k2x.cell 0
  have zc1 := kcx.cell 1
  have z21 := k2x.cell 1
  have zc2 := kcx.cell 2
  have z22 := k2x.cell 2
  have zc3 := kcx.cell 3
  have z23 := k2x.cell 3
  have zc4 := kcx.cell 4
  have z24 := k2x.cell 4
  simp only [List.getElem?_toArray, List.getElem?_cons_zero, List.getElem?_cons_succ] at zc0 z20 zc1 z21 zc2 z22 zc3 z23 zc4 z24
  clear kcx k2x
  go_wp2
  have bf := (((((K2E.out.set_ 0 (.int .u64 x0)).set_ 1 (.int .u64 x1)).set_ 2 (.int .u8 x2)).set_ 3 (.int .u64 x3)).set_ 4 (.slice A1 rows.length c1))
  have yy0 := bf.cell 0
  have yy1 := bf.cell 1
  have yy2 := bf.cell 2
  have yy3 := bf.cell 3
  have yy4 := bf.cell 4
  simp at yy0 yy1 yy2 yy3 yy4
  refine bodyPost_ret (v := .agg #[.int .u64 x0, .int .u64 x1, .int .u8 x2, .int .u64 x3, .slice A1 rows.length c1]) (by simp [results, Tryz.results43, go_sem, yy0, yy1, yy2, yy3, yy4]) rfl ?_
  refine ⟨A1, c1, rfl, (Ow.aside (Ow.aside (Ow.aside (Ow.aside (Ow.aside HO.out K2E.out (by decide) 0 (.int .u64 x0)) (K2E.out.set_ 0 (.int .u64 x0)) (by decide) 1 (.int .u64 x1)) ((K2E.out.set_ 0 (.int .u64 x0)).set_ 1 (.int .u64 x1)) (by decide) 2 (.int .u8 x2)) (((K2E.out.set_ 0 (.int .u64 x0)).set_ 1 (.int .u64 x1)).set_ 2 (.int .u8 x2)) (by decide) 3 (.int .u64 x3)) ((((K2E.out.set_ 0 (.int .u64 x0)).set_ 1 (.int .u64 x1)).set_ 2 (.int .u8 x2)).set_ 3 (.int .u64 x3)) (by decide) 4 (.slice A1 rows.length c1)), (((((HT.out.grown (grown_set_ _ w.heap.size 0 (.int .u64 x0)) (fun k e => by have := Option.some.inj e; omega)).grown (grown_set_ _ w.heap.size 1 (.int .u64 x1)) (fun k e => by have := Option.some.inj e; omega)).grown (grown_set_ _ w.heap.size 2 (.int .u8 x2)) (fun k e => by have := Option.some.inj e; omega)).grown (grown_set_ _ w.heap.size 3 (.int .u64 x3)) (fun k e => by have := Option.some.inj e; omega)).grown (grown_set_ _ w.heap.size 4 (.slice A1 rows.length c1)) (fun k e => by have := Option.some.inj e; omega)), (grown_far_ (grown_far_ (grown_far_ (grown_far_ (grown_far_ HG.out (p := ⟨w.heap.size, 0, none⟩) (Nat.le_refl _) (.int .u64 x0)) (p := ⟨w.heap.size, 1, none⟩) (Nat.le_refl _) (.int .u64 x1)) (p := ⟨w.heap.size, 2, none⟩) (Nat.le_refl _) (.int .u8 x2)) (p := ⟨w.heap.size, 3, none⟩) (Nat.le_refl _) (.int .u64 x3)) (p := ⟨w.heap.size, 4, none⟩) (Nat.le_refl _) (.slice A1 rows.length c1))⟩
/-- The value u reads as this entry. -/
def entryV (a : List Int × List (List Int)) (w : World) (u : Value) : Prop := ∃ x0 x1 x2 x3 A c, a.1 = [x0, x1, x2, x3] ∧ u = .agg #[.int .u64 x0, .int .u64 x1, .int .u8 x2, .int .u64 x3, .slice A a.2.length c] ∧ Steps w (.slice A a.2.length c) a.2
set_option maxHeartbeats 4000000 in
set_option maxRecDepth 100000 in
theorem rget_entry (v : Value) (xs : List Int) (w : World) (h : Bs w v xs) (hby : ∀ c ∈ xs, byt c) (hl : xs.length ≤ 4611686018427387904) :
    Calls Tryz.prog 14 #[v] w (DPost (allP (entryP xs)) entryV (.agg #[.int .u64 0, .int .u64 0, .int .u8 0, .int .u64 0, .slice none 0 0]) w) := by
  have S := sim_all (P := entryP) ((sim_F entryK).bind (sim_L stepK 8)) xs
  obtain ⟨x0, s1, h1⟩ : ∃ a b, rd1 .u64 (.ok xs) = (a, b) := ⟨_, _, rfl⟩
  obtain ⟨x1, s2, h2⟩ : ∃ a b, rd1 .u64 s1 = (a, b) := ⟨_, _, rfl⟩
  obtain ⟨x2, s3, h3⟩ : ∃ a b, rd1 .u8 s2 = (a, b) := ⟨_, _, rfl⟩
  obtain ⟨x3, s4, h4⟩ : ∃ a b, rd1 .u64 s3 = (a, b) := ⟨_, _, rfl⟩
  obtain ⟨rows, s5, hL⟩ : ∃ a b, rdL stepK 8 s4 = (a, b) := ⟨_, _, rfl⟩
  have hF : rdF entryK (.ok xs) = ([x0, x1, x2, x3], s4) := by simp only [entryK, rdF, h1, h2, h3, h4]
  simp only [hF, hL] at S
  have H1 := Lib.hid h1
  have H2 := Lib.hid h2
  have H3 := Lib.hid h3
  have H4 := Lib.hid h4
  have HL := Lib.hid hL
  clear hL h1 h2 h3 h4 hF
  have k0 := (Blk.new w 43 #[.int .u64 0, .int .u64 0, .int .u8 0, .int .u64 0, .slice none 0 0]).alloc (.cells #[v, .int .i64 0] 79)
  have ts := Ts.new_ (h.below (below_alloc_ w (.cells #[.int .u64 0, .int .u64 0, .int .u8 0, .int .u64 0, .slice none 0 0] 43))) hby hl
  rw [World.size_alloc] at ts
  have b2 := below_alloc2_ w (.cells #[.int .u64 0, .int .u64 0, .int .u8 0, .int .u64 0, .slice none 0 0] 43) (.cells #[v, .int .i64 0] 79)
  have K0 := Lib.hid k0
  have T0 := Lib.hid ts
  have B2 := Lib.hid b2
  have SS := Lib.hid S
  obtain ⟨A, c0, rfl, -⟩ := id h
  clear h hby hl k0 ts b2 S
  go_enter Tryz.func14, Tryz.ntmps14
  go_wp2_with fail
  refine (tentry_at (w.heap.size + 1) (.ok xs) s1 s2 s3 s4 s5 x0 x1 x2 x3 rows _ T0.out H1.out H2.out H3.out H4.out HL.out).mono ?_
  rintro e w1 ⟨A1, c1, rfl, ho, ht, hg⟩
  have B1 := Lib.hid (B2.out.grown hg (by simp; omega) (fun k e => by have := Option.some.inj e; omega))
  have K1 := Lib.hid (K0.out.grown hg (fun e => by have := Option.some.inj e; omega))
  have ba := below_alloc_ w1 (.cells #[.int .u64 x0, .int .u64 x1, .int .u8 x2, .int .u64 x3, .slice A1 rows.length c1] 43)
  have TA := Lib.hid (ht.below ba)
  have BA := Lib.hid (B1.out.trans (ba.mono B1.out.size))
  have KA := Lib.hid (K1.out.below ba K1.out.lt)
  have KC := Lib.hid (Blk.new w1 43 #[.int .u64 x0, .int .u64 x1, .int .u8 x2, .int .u64 x3, .slice A1 rows.length c1])
  have OA := Lib.hid (ho.below ba)
  have hlt1 := K1.out.lt
  clear ht hg ba ho
  go_wp2_with fail
  refine (done_any _ _ _ TA.out).mono ?_
  rintro e w2 ⟨rfl, rfl⟩
  generalize w1.alloc (.cells #[.int .u64 x0, .int .u64 x1, .int .u8 x2, .int .u64 x3, .slice A1 rows.length c1] 43) = X at *
  have fz := KA.out.free
  have zz := KA.out.cell
  obtain ⟨d, hd⟩ : ∃ d, d = dn s5 := ⟨_, rfl⟩
  rw [← hd]
  have D := Lib.hid hd
  have z0 := KA.out.cell 0
  have c0_ := KC.out.cell 0
  have z1 := KA.out.cell 1
  have c1_ := KC.out.cell 1
  have z2 := KA.out.cell 2
  have c2_ := KC.out.cell 2
  have z3 := KA.out.cell 3
  have c3_ := KC.out.cell 3
  have z4 := KA.out.cell 4
  have c4_ := KC.out.cell 4
  simp only [List.getElem?_toArray, List.getElem?_cons_zero, List.getElem?_cons_succ] at z0 c0_ z1 c1_ z2 c2_ z3 c3_ z4 c4_
  clear hd zz
  by_cases hd0 : d = 0
  · have bd : (d != 0) = false := by rw [hd0]; rfl
    have HD0 := Lib.hid hd0
    clear hd0
    go_wp2
    have bf := (((((KA.out.set_ 0 (.int .u64 x0)).set_ 1 (.int .u64 x1)).set_ 2 (.int .u8 x2)).set_ 3 (.int .u64 x3)).set_ 4 (.slice A1 rows.length c1))
    have y0 := bf.cell 0
    have y1 := bf.cell 1
    have y2 := bf.cell 2
    have y3 := bf.cell 3
    have y4 := bf.cell 4
    simp at y0 y1 y2 y3 y4
    refine bodyPost_ret (v := .tuple #[.agg #[.int .u64 x0, .int .u64 x1, .int .u8 x2, .int .u64 x3, .slice A1 rows.length c1], .int .i64 0]) (by simp [results, Tryz.results14, go_sem, y0, y1, y2, y3, y4]) rfl ?_
    have S1 := SS.out
    rcases hq : allP (entryP xs) with q | a
    · rw [hq] at S1
      simp only at S1
      have e1 : dn s5 = q := by rw [← S1]
      have e2 := allP_bad cod_entry hq
      have e3 := D.out
      have e4 := HD0.out
      exfalso
      omega
    · rw [hq] at S1
      simp only at S1
      have e1 := S1.1
      rw [← hq]
      refine dpost_ok hq (((((BA.out.setCell (p := ⟨w.heap.size, 0, none⟩) (Nat.le_refl _) (.int .u64 x0)).setCell (p := ⟨w.heap.size, 1, none⟩) (Nat.le_refl _) (.int .u64 x1)).setCell (p := ⟨w.heap.size, 2, none⟩) (Nat.le_refl _) (.int .u8 x2)).setCell (p := ⟨w.heap.size, 3, none⟩) (Nat.le_refl _) (.int .u64 x3)).setCell (p := ⟨w.heap.size, 4, none⟩) (Nat.le_refl _) (.slice A1 rows.length c1)) ?_
      injection e1 with e1 e2
      subst e1
      exact ⟨x0, x1, x2, x3, A1, c1, rfl, rfl, (((((OA.out.far (p := ⟨w.heap.size, 0, none⟩) (by simp <;> omega) _).far (p := ⟨w.heap.size, 1, none⟩) (by simp <;> omega) _).far (p := ⟨w.heap.size, 2, none⟩) (by simp <;> omega) _).far (p := ⟨w.heap.size, 3, none⟩) (by simp <;> omega) _).far (p := ⟨w.heap.size, 4, none⟩) (by simp <;> omega) _).rd⟩
  · have bd : (d != 0) = true := by simpa using hd0
    have HD0 := Lib.hid hd0
    clear hd0
    go_wp2
    have bf := (((((KA.out.set_ 0 (.int .u64 0)).set_ 1 (.int .u64 0)).set_ 2 (.int .u8 0)).set_ 3 (.int .u64 0)).set_ 4 (.slice none 0 0))
    have y0 := bf.cell 0
    have y1 := bf.cell 1
    have y2 := bf.cell 2
    have y3 := bf.cell 3
    have y4 := bf.cell 4
    simp at y0 y1 y2 y3 y4
    refine bodyPost_ret (v := .tuple #[.agg #[.int .u64 0, .int .u64 0, .int .u8 0, .int .u64 0, .slice none 0 0], .int .i64 d]) (by simp [results, Tryz.results14, go_sem, y0, y1, y2, y3, y4]) rfl ?_
    have S1 := SS.out
    rcases hq : allP (entryP xs) with q | a
    · rw [hq] at S1
      simp only at S1
      have e1 : dn s5 = q := by rw [← S1]
      rw [← hq]
      exact dpost_bad hq (((((BA.out.setCell (p := ⟨w.heap.size, 0, none⟩) (Nat.le_refl _) (.int .u64 0)).setCell (p := ⟨w.heap.size, 1, none⟩) (Nat.le_refl _) (.int .u64 0)).setCell (p := ⟨w.heap.size, 2, none⟩) (Nat.le_refl _) (.int .u8 0)).setCell (p := ⟨w.heap.size, 3, none⟩) (Nat.le_refl _) (.int .u64 0)).setCell (p := ⟨w.heap.size, 4, none⟩) (Nat.le_refl _) (.slice none 0 0)) (D.out.trans e1)
    · rw [hq] at S1
      simp only at S1
      exfalso
      refine HD0.out ?_
      rw [D.out]
      exact S1.2
end Go.Proofs.YtielnocnnffdfaaGreat
