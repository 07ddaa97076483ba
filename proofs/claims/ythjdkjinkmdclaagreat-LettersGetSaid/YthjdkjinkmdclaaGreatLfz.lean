import Derived.Test.YthjdkjinkmdclaaGreatLhz
import Derived.Test.YthjdkjinkmdclaaGreatLgc
/- Letters: the document's Get, kind by kind. -/
namespace Go.Proofs.YthjdkjinkmdclaaGreat
open Go.RowKit

set_option maxHeartbeats 16000000 in
set_option maxRecDepth 100000 in
theorem rget_0 {w : World} {v : Value} {xs : List Int} (hb : Bs w v xs) (hby : ∀ c ∈ xs, byt c) (hl : xs.length ≤ 65536) (hk : pcs (rd1 .u8 (.ok xs)).1 = none) :
    Calls Tryz.prog 17 #[v] w fun e w' => RGet (getL xs) w e w' := by
  obtain ⟨x0, s0, h0⟩ : ∃ a b, rd1 .u8 (.ok xs) = (a, b) := ⟨_, _, rfl⟩
  obtain ⟨x1, s1, h1⟩ : ∃ a b, rd1 .u8 s0 = (a, b) := ⟨_, _, rfl⟩
  obtain ⟨x2, s2, h2⟩ : ∃ a b, rd1 .u8 s1 = (a, b) := ⟨_, _, rfl⟩
  obtain ⟨x3, s3, h3⟩ : ∃ a b, rd1 .u64 s2 = (a, b) := ⟨_, _, rfl⟩
  have ANS0 := Lib.hid (getL_none hk)
  rw [h0] at hk
  dsimp only at hk
  have hb0 : byt x0 := by have := rd8_byt (xs := xs) hby; rw [h0] at this; exact this
  obtain ⟨hx1, hx2, hx3, hx4, hx5, hx6, hx7⟩ : x0 ≠ 1 ∧ x0 ≠ 2 ∧ x0 ≠ 3 ∧ x0 ≠ 4 ∧ x0 ≠ 5 ∧ x0 ≠ 6 ∧ x0 ≠ 7 := by refine ⟨?_, ?_, ?_, ?_, ?_, ?_, ?_⟩ <;> (rintro rfl; revert hk; decide)
  have hwx : IntKind.i64.wrap x0 = x0 := by rw [IntKind.wrap_i64]; unfold byt at hb0; omega
  have hq1 : (x0 == 1) = false := beq_eq_false_iff_ne.2 hx1
  have hq2 : (x0 == 2) = false := beq_eq_false_iff_ne.2 hx2
  have hq3 : (x0 == 3) = false := beq_eq_false_iff_ne.2 hx3
  have hq4 : (x0 == 4) = false := beq_eq_false_iff_ne.2 hx4
  have hq5 : (x0 == 5) = false := beq_eq_false_iff_ne.2 hx5
  have hq6 : (x0 == 6) = false := beq_eq_false_iff_ne.2 hx6
  have hq7 : (x0 == 7) = false := beq_eq_false_iff_ne.2 hx7
  clear hb0 hx1 hx2 hx3 hx4 hx5 hx6 hx7
  have H0 := Lib.hid h0
  have H1 := Lib.hid h1
  have H2 := Lib.hid h2
  have H3 := Lib.hid h3
  clear hk h3 h2 h1 h0
  have kr := (Blk.new w 44 #[.int .i64 0, .int .u8 0, .int .u8 0, .int .u64 0, .int .u64 0, .int .u64 0, .int .u64 0, .bool false, .slice none 0 0, .slice none 0 0, .int .u8 0, .int .u64 0, .slice none 0 0, .int .i64 0, .int .i64 0, .int .i64 0, .slice none 0 0]).alloc (.cells #[v, .int .i64 0] 87)
  have ts := Ts.new_ (hb.below (below_alloc_ w (.cells #[.int .i64 0, .int .u8 0, .int .u8 0, .int .u64 0, .int .u64 0, .int .u64 0, .int .u64 0, .bool false, .slice none 0 0, .slice none 0 0, .int .u8 0, .int .u64 0, .slice none 0 0, .int .i64 0, .int .i64 0, .int .i64 0, .slice none 0 0] 44))) hby (by omega)
  rw [World.size_alloc] at ts
  have A0 := Lib.hid (show Hd w ((w.alloc (.cells #[.int .i64 0, .int .u8 0, .int .u8 0, .int .u64 0, .int .u64 0, .int .u64 0, .int .u64 0, .bool false, .slice none 0 0, .slice none 0 0, .int .u8 0, .int .u64 0, .slice none 0 0, .int .i64 0, .int .i64 0, .int .i64 0, .slice none 0 0] 44)).alloc (.cells #[v, .int .i64 0] 87)) (.ok xs) from ⟨ts, kr, below_alloc2_ w _ _⟩)
  obtain ⟨A, c, rfl, -⟩ := id hb
  clear kr ts hb hby hl
  go_enter Tryz.func17, Tryz.ntmps17
  go_wp2_with fail
  refine (rd_u8 (w.heap.size + 1) (.ok xs) s0 x0 _ A0.out.ts H0.out).mono ?_
  rintro e w1 ⟨rfl, ht, hg⟩
  have A1 := Lib.hid (A0.out.call ht hg)
  clear ht hg A0
  go_wp2_with fail
  refine (rd_u8 (w.heap.size + 1) s0 s1 x1 _ A1.out.ts H1.out).mono ?_
  rintro e w2 ⟨rfl, ht, hg⟩
  have A2 := Lib.hid (A1.out.call ht hg)
  clear ht hg A1
  go_wp2_with fail
  refine (rd_u8 (w.heap.size + 1) s1 s2 x2 _ A2.out.ts H2.out).mono ?_
  rintro e w3 ⟨rfl, ht, hg⟩
  have A3 := Lib.hid (A2.out.call ht hg)
  clear ht hg A2
  have G0 := Lib.hid (A3.out.new #[.int .i64 x0, .int .u8 x1, .int .u8 x2, .int .u64 0, .int .u64 0, .int .u64 0, .int .u64 0, .bool false, .slice none 0 0, .slice none 0 0, .int .u8 0, .int .u64 0, .slice none 0 0, .int .i64 0, .int .i64 0, .int .i64 0, .slice none 0 0])
  obtain ⟨p, hp⟩ : ∃ p, p = w3.heap.size := ⟨_, rfl⟩
  rw [← hp] at G0
  have HP := Lib.hid hp
  clear A3 hp
  go_wp2_with fail
  rw [← HP.out]
  refine (rd_u64 (w.heap.size + 1) s2 s3 x3 _ G0.out.ts H3.out).mono ?_
  rintro e w4 ⟨rfl, ht, hg⟩
  have g1 := G0.out.call ht hg
  have fl := g1.lt.free
  have c3 := g1.lt.cell 3
  have c0 := g1.lt.cell 0
  simp only [List.getElem?_toArray, List.getElem?_cons_zero, List.getElem?_cons_succ] at c3 c0
  have G1 := Lib.hid (g1.set 3 (.int .u64 x3) (cs' := #[.int .i64 x0, .int .u8 x1, .int .u8 x2, .int .u64 x3, .int .u64 0, .int .u64 0, .int .u64 0, .bool false, .slice none 0 0, .slice none 0 0, .int .u8 0, .int .u64 0, .slice none 0 0, .int .i64 0, .int .i64 0, .int .i64 0, .slice none 0 0]) (by simp))
  clear ht hg g1 G0
  go_upto_region 57 with fail
  obtain ⟨W, hW⟩ : ∃ W, W = w4.setCell ⟨p, 3, none⟩ (.int .u64 x3) := ⟨_, rfl⟩
  rw [← hW] at G1 ⊢
  have GE := Lib.hid G1.out
  clear fl c3 c0 hW G1
  have ANS := Lib.hid ANS0.out
  clear ANS0
  have TH := Lib.hid (GE.out.res.there_ (n := 17) rfl)
  have KF := Lib.hid (show Blk (W.setCells w.heap.size 0 [.int .i64 0, .int .u8 0, .int .u8 0, .int .u64 0, .int .u64 0, .int .u64 0, .int .u64 0, .bool false, .slice none 0 0, .slice none 0 0, .int .u8 0, .int .u64 0, .slice none 0 0, .int .i64 0, .int .i64 0, .int .i64 0, .slice none 0 0]) w.heap.size 44 #[.int .i64 0, .int .u8 0, .int .u8 0, .int .u64 0, .int .u64 0, .int .u64 0, .int .u64 0, .bool false, .slice none 0 0, .slice none 0 0, .int .u8 0, .int .u64 0, .slice none 0 0, .int .i64 0, .int .i64 0, .int .i64 0, .slice none 0 0] from setCells_blk_ [.int .i64 0, .int .u8 0, .int .u8 0, .int .u64 0, .int .u64 0, .int .u64 0, .int .u64 0, .bool false, .slice none 0 0, .slice none 0 0, .int .u8 0, .int .u64 0, .slice none 0 0, .int .i64 0, .int .i64 0, .int .i64 0, .slice none 0 0] [] [.int .i64 0, .int .u8 0, .int .u8 0, .int .u64 0, .int .u64 0, .int .u64 0, .int .u64 0, .bool false, .slice none 0 0, .slice none 0 0, .int .u8 0, .int .u64 0, .slice none 0 0, .int .i64 0, .int .i64 0, .int .i64 0, .slice none 0 0] _ rfl GE.out.res)
  have BF := Lib.hid (setCells_below_ (Nat.le_refl w.heap.size) [.int .i64 0, .int .u8 0, .int .u8 0, .int .u64 0, .int .u64 0, .int .u64 0, .int .u64 0, .bool false, .slice none 0 0, .slice none 0 0, .int .u8 0, .int .u64 0, .slice none 0 0, .int .i64 0, .int .i64 0, .int .i64 0, .slice none 0 0] 0 _ GE.out.bel)
  clear GE
  go_upto_region 58 with fail
  refine wp_region_lit ?_
  refine wpList_plain rfl fun K hK => ?_
  go_simp
  refine hK _ _ ?_
  go_wp2_with (refine wpList_store_mid rfl 44 _ _ rfl w.heap.size 0 #[.int .i64 0, .int .u8 0, .int .u8 0, .int .u64 0, .int .u64 0, .int .u64 0, .int .u64 0, .bool false, .slice none 0 0, .slice none 0 0, .int .u8 0, .int .u64 0, .slice none 0 0, .int .i64 0, .int .i64 0, .int .i64 0, .slice none 0 0] rfl rfl TH.out other_size (by simp [Value.oneCell']) ?_)
  refine bodyPost_ret (results_rget Tryz.results17 _ _ w.heap.size [.int .i64 0, .int .u8 0, .int .u8 0, .int .u64 0, .int .u64 0, .int .u64 0, .int .u64 0, .bool false, .slice none 0 0, .slice none 0 0, .int .u8 0, .int .u64 0, .slice none 0 0, .int .i64 0, .int .i64 0, .int .i64 0, .slice none 0 0] (.int .i64 4) rfl rfl (Blk.range_ KF.out) rfl) rfl ?_
  rw [ANS.out]
  exact ⟨BF.out, rfl⟩
end Go.Proofs.YthjdkjinkmdclaaGreat

/- Letters: the document's Get, kind by kind. -/
namespace Go.Proofs.YthjdkjinkmdclaaGreat
open Go.RowKit

set_option maxHeartbeats 16000000 in
set_option maxRecDepth 100000 in
theorem rget_3c {w : World} {v : Value} {xs : List Int} (hb : Bs w v xs) (hby : ∀ c ∈ xs, byt c) (hl : xs.length ≤ 65536) (hk : (rd1 .u8 (.ok xs)).1 = 3) (hB : 8 < (run numP 0 (rRun (heads ++ [.index, .mark, .commit]) (Rs.new xs)).2.1).1) :
    Calls Tryz.prog 17 #[v] w fun e w' => RGet (getL xs) w e w' := by
  obtain ⟨x0, s0, h0⟩ : ∃ a b, rd1 .u8 (.ok xs) = (a, b) := ⟨_, _, rfl⟩
  obtain ⟨x1, s1, h1⟩ : ∃ a b, rd1 .u8 s0 = (a, b) := ⟨_, _, rfl⟩
  obtain ⟨x2, s2, h2⟩ : ∃ a b, rd1 .u8 s1 = (a, b) := ⟨_, _, rfl⟩
  obtain ⟨x3, s3, h3⟩ : ∃ a b, rd1 .u64 s2 = (a, b) := ⟨_, _, rfl⟩
  obtain ⟨x4, s4, h4⟩ : ∃ a b, rd1 .u64 s3 = (a, b) := ⟨_, _, rfl⟩
  obtain ⟨x5, s5, h5⟩ : ∃ a b, rd1 .u64 s4 = (a, b) := ⟨_, _, rfl⟩
  obtain ⟨x6, s6, h6⟩ : ∃ a b, rd1 .u64 s5 = (a, b) := ⟨_, _, rfl⟩
  obtain rfl : x0 = 3 := by rw [h0] at hk; exact hk
  obtain ⟨n, sn, hn⟩ : ∃ a b, run numP 0 s6 = (a, b) := ⟨_, _, rfl⟩
  have hpk : pcs (rd1 .u8 (.ok xs)).1 = some [.index, .mark, .commit, .entries] := by rw [hk]; rfl
  have hr : rRun (heads ++ [.index, .mark, .commit]) (Rs.new xs) = ((⟨3, x1, x2, x3, x4, x5, x6, false, [], [], 0, 0, [], 0, 0, 0, []⟩ : Lt), s6, false) := by simp only [heads, List.cons_append, List.nil_append, rRun, rPc, Rs.new, h0, h1, h2, h3, h4, h5, h6, Lt.zero]
  have ANS0 := Lib.hid ((getL_ents hpk (mid_len hl)).trans (congrArg ansEnts hr))
  rw [hr] at hB
  simp only [hn] at hB
  clear hpk hr
  have H0 := Lib.hid h0
  have H1 := Lib.hid h1
  have H2 := Lib.hid h2
  have H3 := Lib.hid h3
  have H4 := Lib.hid h4
  have H5 := Lib.hid h5
  have H6 := Lib.hid h6
  have HN := Lib.hid hn
  clear hk hn h6 h5 h4 h3 h2 h1 h0
  have kr := (Blk.new w 44 #[.int .i64 0, .int .u8 0, .int .u8 0, .int .u64 0, .int .u64 0, .int .u64 0, .int .u64 0, .bool false, .slice none 0 0, .slice none 0 0, .int .u8 0, .int .u64 0, .slice none 0 0, .int .i64 0, .int .i64 0, .int .i64 0, .slice none 0 0]).alloc (.cells #[v, .int .i64 0] 87)
  have ts := Ts.new_ (hb.below (below_alloc_ w (.cells #[.int .i64 0, .int .u8 0, .int .u8 0, .int .u64 0, .int .u64 0, .int .u64 0, .int .u64 0, .bool false, .slice none 0 0, .slice none 0 0, .int .u8 0, .int .u64 0, .slice none 0 0, .int .i64 0, .int .i64 0, .int .i64 0, .slice none 0 0] 44))) hby (by omega)
  rw [World.size_alloc] at ts
  have A0 := Lib.hid (show Hd w ((w.alloc (.cells #[.int .i64 0, .int .u8 0, .int .u8 0, .int .u64 0, .int .u64 0, .int .u64 0, .int .u64 0, .bool false, .slice none 0 0, .slice none 0 0, .int .u8 0, .int .u64 0, .slice none 0 0, .int .i64 0, .int .i64 0, .int .i64 0, .slice none 0 0] 44)).alloc (.cells #[v, .int .i64 0] 87)) (.ok xs) from ⟨ts, kr, below_alloc2_ w _ _⟩)
  obtain ⟨A, c, rfl, -⟩ := id hb
  clear kr ts hb hby hl
  go_enter Tryz.func17, Tryz.ntmps17
  go_wp2_with fail
  refine (rd_u8 (w.heap.size + 1) (.ok xs) s0 3 _ A0.out.ts H0.out).mono ?_
  rintro e w1 ⟨rfl, ht, hg⟩
  have A1 := Lib.hid (A0.out.call ht hg)
  clear ht hg A0
  go_wp2_with fail
  refine (rd_u8 (w.heap.size + 1) s0 s1 x1 _ A1.out.ts H1.out).mono ?_
  rintro e w2 ⟨rfl, ht, hg⟩
  have A2 := Lib.hid (A1.out.call ht hg)
  clear ht hg A1
  go_wp2_with fail
  refine (rd_u8 (w.heap.size + 1) s1 s2 x2 _ A2.out.ts H2.out).mono ?_
  rintro e w3 ⟨rfl, ht, hg⟩
  have A3 := Lib.hid (A2.out.call ht hg)
  clear ht hg A2
  have G0 := Lib.hid (A3.out.new #[.int .i64 3, .int .u8 x1, .int .u8 x2, .int .u64 0, .int .u64 0, .int .u64 0, .int .u64 0, .bool false, .slice none 0 0, .slice none 0 0, .int .u8 0, .int .u64 0, .slice none 0 0, .int .i64 0, .int .i64 0, .int .i64 0, .slice none 0 0])
  obtain ⟨p, hp⟩ : ∃ p, p = w3.heap.size := ⟨_, rfl⟩
  rw [← hp] at G0
  have HP := Lib.hid hp
  clear A3 hp
  go_wp2_with fail
  rw [← HP.out]
  refine (rd_u64 (w.heap.size + 1) s2 s3 x3 _ G0.out.ts H3.out).mono ?_
  rintro e w4 ⟨rfl, ht, hg⟩
  have g1 := G0.out.call ht hg
  have fl := g1.lt.free
  have c3 := g1.lt.cell 3
  have c0 := g1.lt.cell 0
  simp only [List.getElem?_toArray, List.getElem?_cons_zero, List.getElem?_cons_succ] at c3 c0
  have G1 := Lib.hid (g1.set 3 (.int .u64 x3) (cs' := #[.int .i64 3, .int .u8 x1, .int .u8 x2, .int .u64 x3, .int .u64 0, .int .u64 0, .int .u64 0, .bool false, .slice none 0 0, .slice none 0 0, .int .u8 0, .int .u64 0, .slice none 0 0, .int .i64 0, .int .i64 0, .int .i64 0, .slice none 0 0]) (by simp))
  clear ht hg g1 G0
  go_wp2_with fail
  refine (rd_u64 (w.heap.size + 1) s3 s4 x4 _ G1.out.ts H4.out).mono ?_
  rintro e w5 ⟨rfl, ht, hg⟩
  clear fl c3 c0
  have g1 := G1.out.call ht hg
  have fl := g1.lt.free
  have c4 := g1.lt.cell 4
  simp only [List.getElem?_toArray, List.getElem?_cons_zero, List.getElem?_cons_succ] at c4
  have G2 := Lib.hid (g1.set 4 (.int .u64 x4) (cs' := #[.int .i64 3, .int .u8 x1, .int .u8 x2, .int .u64 x3, .int .u64 x4, .int .u64 0, .int .u64 0, .bool false, .slice none 0 0, .slice none 0 0, .int .u8 0, .int .u64 0, .slice none 0 0, .int .i64 0, .int .i64 0, .int .i64 0, .slice none 0 0]) (by simp))
  clear ht hg g1 G1
  go_wp2_with fail
  refine (rd_u64 (w.heap.size + 1) s4 s5 x5 _ G2.out.ts H5.out).mono ?_
  rintro e w6 ⟨rfl, ht, hg⟩
  clear fl c4
  have g1 := G2.out.call ht hg
  have fl := g1.lt.free
  have c5 := g1.lt.cell 5
  simp only [List.getElem?_toArray, List.getElem?_cons_zero, List.getElem?_cons_succ] at c5
  have G3 := Lib.hid (g1.set 5 (.int .u64 x5) (cs' := #[.int .i64 3, .int .u8 x1, .int .u8 x2, .int .u64 x3, .int .u64 x4, .int .u64 x5, .int .u64 0, .bool false, .slice none 0 0, .slice none 0 0, .int .u8 0, .int .u64 0, .slice none 0 0, .int .i64 0, .int .i64 0, .int .i64 0, .slice none 0 0]) (by simp))
  clear ht hg g1 G2
  go_wp2_with fail
  refine (rd_u64 (w.heap.size + 1) s5 s6 x6 _ G3.out.ts H6.out).mono ?_
  rintro e w7 ⟨rfl, ht, hg⟩
  clear fl c5
  have g1 := G3.out.call ht hg
  have fl := g1.lt.free
  have c6 := g1.lt.cell 6
  simp only [List.getElem?_toArray, List.getElem?_cons_zero, List.getElem?_cons_succ] at c6
  have G4 := Lib.hid (g1.set 6 (.int .u64 x6) (cs' := #[.int .i64 3, .int .u8 x1, .int .u8 x2, .int .u64 x3, .int .u64 x4, .int .u64 x5, .int .u64 x6, .bool false, .slice none 0 0, .slice none 0 0, .int .u8 0, .int .u64 0, .slice none 0 0, .int .i64 0, .int .i64 0, .int .i64 0, .slice none 0 0]) (by simp))
  clear ht hg g1 G3
  go_wp2_with fail
  refine (tnum_at (w.heap.size + 1) s6 sn n _ G4.out.ts HN.out).mono ?_
  rintro e w8 ⟨rfl, ht, hg⟩
  clear fl c6
  have GN := Lib.hid (G4.out.call ht hg)
  clear ht hg G4
  have hc : (8 : Int) < n := by omega
  have ANS := Lib.hid (ANS0.out.trans (ansEnts_c HN.out hB))
  clear ANS0 hB
  have GE := Lib.hid GN.out
  clear GN
  have TH := Lib.hid (GE.out.res.there_ (n := 17) rfl)
  have KF := Lib.hid (show Blk (w8.setCells w.heap.size 0 [.int .i64 0, .int .u8 0, .int .u8 0, .int .u64 0, .int .u64 0, .int .u64 0, .int .u64 0, .bool false, .slice none 0 0, .slice none 0 0, .int .u8 0, .int .u64 0, .slice none 0 0, .int .i64 0, .int .i64 0, .int .i64 0, .slice none 0 0]) w.heap.size 44 #[.int .i64 0, .int .u8 0, .int .u8 0, .int .u64 0, .int .u64 0, .int .u64 0, .int .u64 0, .bool false, .slice none 0 0, .slice none 0 0, .int .u8 0, .int .u64 0, .slice none 0 0, .int .i64 0, .int .i64 0, .int .i64 0, .slice none 0 0] from setCells_blk_ [.int .i64 0, .int .u8 0, .int .u8 0, .int .u64 0, .int .u64 0, .int .u64 0, .int .u64 0, .bool false, .slice none 0 0, .slice none 0 0, .int .u8 0, .int .u64 0, .slice none 0 0, .int .i64 0, .int .i64 0, .int .i64 0, .slice none 0 0] [] [.int .i64 0, .int .u8 0, .int .u8 0, .int .u64 0, .int .u64 0, .int .u64 0, .int .u64 0, .bool false, .slice none 0 0, .slice none 0 0, .int .u8 0, .int .u64 0, .slice none 0 0, .int .i64 0, .int .i64 0, .int .i64 0, .slice none 0 0] _ rfl GE.out.res)
  have BF := Lib.hid (setCells_below_ (Nat.le_refl w.heap.size) [.int .i64 0, .int .u8 0, .int .u8 0, .int .u64 0, .int .u64 0, .int .u64 0, .int .u64 0, .bool false, .slice none 0 0, .slice none 0 0, .int .u8 0, .int .u64 0, .slice none 0 0, .int .i64 0, .int .i64 0, .int .i64 0, .slice none 0 0] 0 _ GE.out.bel)
  clear GE
  go_upto_region 21 with fail
  refine wp_region_lit ?_
  refine wpList_plain rfl fun K hK => ?_
  go_simp
  refine hK _ _ ?_
  go_wp2_with (refine wpList_store_mid rfl 44 _ _ rfl w.heap.size 0 #[.int .i64 0, .int .u8 0, .int .u8 0, .int .u64 0, .int .u64 0, .int .u64 0, .int .u64 0, .bool false, .slice none 0 0, .slice none 0 0, .int .u8 0, .int .u64 0, .slice none 0 0, .int .i64 0, .int .i64 0, .int .i64 0, .slice none 0 0] rfl rfl TH.out other_size (by simp [Value.oneCell']) ?_)
  refine bodyPost_ret (results_rget Tryz.results17 _ _ w.heap.size [.int .i64 0, .int .u8 0, .int .u8 0, .int .u64 0, .int .u64 0, .int .u64 0, .int .u64 0, .bool false, .slice none 0 0, .slice none 0 0, .int .u8 0, .int .u64 0, .slice none 0 0, .int .i64 0, .int .i64 0, .int .i64 0, .slice none 0 0] (.int .i64 4) rfl rfl (Blk.range_ KF.out) rfl) rfl ?_
  rw [ANS.out]
  exact ⟨BF.out, rfl⟩
end Go.Proofs.YthjdkjinkmdclaaGreat

/- Letters: the document's Get, kind by kind. -/
namespace Go.Proofs.YthjdkjinkmdclaaGreat
open Go.RowKit

set_option maxHeartbeats 16000000 in
set_option maxRecDepth 100000 in
theorem rget_5c {w : World} {v : Value} {xs : List Int} (hb : Bs w v xs) (hby : ∀ c ∈ xs, byt c) (hl : xs.length ≤ 65536) (hk : (rd1 .u8 (.ok xs)).1 = 5) (hB : ∀ r, (run numP 0 (rRun (heads ++ [.index, .mark]) (Rs.new xs)).2.1).2 = .ok r → r.length < (run numP 0 (rRun (heads ++ [.index, .mark]) (Rs.new xs)).2.1).1 ∨ 65536 < (run numP 0 (rRun (heads ++ [.index, .mark]) (Rs.new xs)).2.1).1) :
    Calls Tryz.prog 17 #[v] w fun e w' => RGet (getL xs) w e w' := by
  obtain ⟨x0, s0, h0⟩ : ∃ a b, rd1 .u8 (.ok xs) = (a, b) := ⟨_, _, rfl⟩
  obtain ⟨x1, s1, h1⟩ : ∃ a b, rd1 .u8 s0 = (a, b) := ⟨_, _, rfl⟩
  obtain ⟨x2, s2, h2⟩ : ∃ a b, rd1 .u8 s1 = (a, b) := ⟨_, _, rfl⟩
  obtain ⟨x3, s3, h3⟩ : ∃ a b, rd1 .u64 s2 = (a, b) := ⟨_, _, rfl⟩
  obtain ⟨x4, s4, h4⟩ : ∃ a b, rd1 .u64 s3 = (a, b) := ⟨_, _, rfl⟩
  obtain ⟨x5, s5, h5⟩ : ∃ a b, rd1 .u64 s4 = (a, b) := ⟨_, _, rfl⟩
  obtain rfl : x0 = 5 := by rw [h0] at hk; exact hk
  obtain ⟨n, sn, hn⟩ : ∃ a b, run numP 0 s5 = (a, b) := ⟨_, _, rfl⟩
  have hpk : pcs (rd1 .u8 (.ok xs)).1 = some [.index, .mark, .data] := by rw [hk]; rfl
  have hr : rRun (heads ++ [.index, .mark]) (Rs.new xs) = ((⟨5, x1, x2, x3, x4, x5, 0, false, [], [], 0, 0, [], 0, 0, 0, []⟩ : Lt), s5, false) := by simp only [heads, List.cons_append, List.nil_append, rRun, rPc, Rs.new, h0, h1, h2, h3, h4, h5, Lt.zero]
  have ANS0 := Lib.hid ((getL_data hpk).trans (congrArg ansData hr))
  rw [hr] at hB
  simp only [hn] at hB
  clear hpk hr
  have H0 := Lib.hid h0
  have H1 := Lib.hid h1
  have H2 := Lib.hid h2
  have H3 := Lib.hid h3
  have H4 := Lib.hid h4
  have H5 := Lib.hid h5
  have HN := Lib.hid hn
  clear hk hn h5 h4 h3 h2 h1 h0
  have kr := (Blk.new w 44 #[.int .i64 0, .int .u8 0, .int .u8 0, .int .u64 0, .int .u64 0, .int .u64 0, .int .u64 0, .bool false, .slice none 0 0, .slice none 0 0, .int .u8 0, .int .u64 0, .slice none 0 0, .int .i64 0, .int .i64 0, .int .i64 0, .slice none 0 0]).alloc (.cells #[v, .int .i64 0] 87)
  have ts := Ts.new_ (hb.below (below_alloc_ w (.cells #[.int .i64 0, .int .u8 0, .int .u8 0, .int .u64 0, .int .u64 0, .int .u64 0, .int .u64 0, .bool false, .slice none 0 0, .slice none 0 0, .int .u8 0, .int .u64 0, .slice none 0 0, .int .i64 0, .int .i64 0, .int .i64 0, .slice none 0 0] 44))) hby (by omega)
  rw [World.size_alloc] at ts
  have A0 := Lib.hid (show Hd w ((w.alloc (.cells #[.int .i64 0, .int .u8 0, .int .u8 0, .int .u64 0, .int .u64 0, .int .u64 0, .int .u64 0, .bool false, .slice none 0 0, .slice none 0 0, .int .u8 0, .int .u64 0, .slice none 0 0, .int .i64 0, .int .i64 0, .int .i64 0, .slice none 0 0] 44)).alloc (.cells #[v, .int .i64 0] 87)) (.ok xs) from ⟨ts, kr, below_alloc2_ w _ _⟩)
  obtain ⟨A, c, rfl, -⟩ := id hb
  clear kr ts hb hby hl
  go_enter Tryz.func17, Tryz.ntmps17
  go_wp2_with fail
  refine (rd_u8 (w.heap.size + 1) (.ok xs) s0 5 _ A0.out.ts H0.out).mono ?_
  rintro e w1 ⟨rfl, ht, hg⟩
  have A1 := Lib.hid (A0.out.call ht hg)
  clear ht hg A0
  go_wp2_with fail
  refine (rd_u8 (w.heap.size + 1) s0 s1 x1 _ A1.out.ts H1.out).mono ?_
  rintro e w2 ⟨rfl, ht, hg⟩
  have A2 := Lib.hid (A1.out.call ht hg)
  clear ht hg A1
  go_wp2_with fail
  refine (rd_u8 (w.heap.size + 1) s1 s2 x2 _ A2.out.ts H2.out).mono ?_
  rintro e w3 ⟨rfl, ht, hg⟩
  have A3 := Lib.hid (A2.out.call ht hg)
  clear ht hg A2
  have G0 := Lib.hid (A3.out.new #[.int .i64 5, .int .u8 x1, .int .u8 x2, .int .u64 0, .int .u64 0, .int .u64 0, .int .u64 0, .bool false, .slice none 0 0, .slice none 0 0, .int .u8 0, .int .u64 0, .slice none 0 0, .int .i64 0, .int .i64 0, .int .i64 0, .slice none 0 0])
  obtain ⟨p, hp⟩ : ∃ p, p = w3.heap.size := ⟨_, rfl⟩
  rw [← hp] at G0
  have HP := Lib.hid hp
  clear A3 hp
  go_wp2_with fail
  rw [← HP.out]
  refine (rd_u64 (w.heap.size + 1) s2 s3 x3 _ G0.out.ts H3.out).mono ?_
  rintro e w4 ⟨rfl, ht, hg⟩
  have g1 := G0.out.call ht hg
  have fl := g1.lt.free
  have c3 := g1.lt.cell 3
  have c0 := g1.lt.cell 0
  simp only [List.getElem?_toArray, List.getElem?_cons_zero, List.getElem?_cons_succ] at c3 c0
  have G1 := Lib.hid (g1.set 3 (.int .u64 x3) (cs' := #[.int .i64 5, .int .u8 x1, .int .u8 x2, .int .u64 x3, .int .u64 0, .int .u64 0, .int .u64 0, .bool false, .slice none 0 0, .slice none 0 0, .int .u8 0, .int .u64 0, .slice none 0 0, .int .i64 0, .int .i64 0, .int .i64 0, .slice none 0 0]) (by simp))
  clear ht hg g1 G0
  go_wp2_with fail
  refine (rd_u64 (w.heap.size + 1) s3 s4 x4 _ G1.out.ts H4.out).mono ?_
  rintro e w5 ⟨rfl, ht, hg⟩
  clear fl c3 c0
  have g1 := G1.out.call ht hg
  have fl := g1.lt.free
  have c4 := g1.lt.cell 4
  simp only [List.getElem?_toArray, List.getElem?_cons_zero, List.getElem?_cons_succ] at c4
  have G2 := Lib.hid (g1.set 4 (.int .u64 x4) (cs' := #[.int .i64 5, .int .u8 x1, .int .u8 x2, .int .u64 x3, .int .u64 x4, .int .u64 0, .int .u64 0, .bool false, .slice none 0 0, .slice none 0 0, .int .u8 0, .int .u64 0, .slice none 0 0, .int .i64 0, .int .i64 0, .int .i64 0, .slice none 0 0]) (by simp))
  clear ht hg g1 G1
  go_wp2_with fail
  refine (rd_u64 (w.heap.size + 1) s4 s5 x5 _ G2.out.ts H5.out).mono ?_
  rintro e w6 ⟨rfl, ht, hg⟩
  clear fl c4
  have g1 := G2.out.call ht hg
  have fl := g1.lt.free
  have c5 := g1.lt.cell 5
  simp only [List.getElem?_toArray, List.getElem?_cons_zero, List.getElem?_cons_succ] at c5
  have G3 := Lib.hid (g1.set 5 (.int .u64 x5) (cs' := #[.int .i64 5, .int .u8 x1, .int .u8 x2, .int .u64 x3, .int .u64 x4, .int .u64 x5, .int .u64 0, .bool false, .slice none 0 0, .slice none 0 0, .int .u8 0, .int .u64 0, .slice none 0 0, .int .i64 0, .int .i64 0, .int .i64 0, .slice none 0 0]) (by simp))
  clear ht hg g1 G2
  go_wp2_with fail
  refine (tnum_at (w.heap.size + 1) s5 sn n _ G3.out.ts HN.out).mono ?_
  rintro e w7 ⟨rfl, ht, hg⟩
  clear fl c5
  have GN := Lib.hid (G3.out.call ht hg)
  clear ht hg G3
  go_upto_region 41 with fail
  have ANS := Lib.hid (ANS0.out.trans (ansData_c HN.out hB))
  clear ANS0
  go_cut [169] (fun s169 wx => s169 = .bool true ∧ Gd w wx p #[.int .i64 5, .int .u8 x1, .int .u8 x2, .int .u64 x3, .int .u64 x4, .int .u64 x5, .int .u64 0, .bool false, .slice none 0 0, .slice none 0 0, .int .u8 0, .int .u64 0, .slice none 0 0, .int .i64 0, .int .i64 0, .int .i64 0, .slice none 0 0] sn)
  case first =>
    rcases sn with k6 | r
    · obtain ⟨hk0, v6, hkb⟩ := id GN.out.ts
      have t1 := hkb.cell 1
      simp only [List.getElem?_toArray, List.getElem?_cons_zero, List.getElem?_cons_succ] at t1
      have hk1 : (k6 != 0) = true := by simpa using hk0
      clear hkb hk0 hB
      go_wp2
      go_meet
      exact ⟨rfl, GN.out⟩
    · skip
      obtain ⟨⟨v6, hkb, hvb, hvl⟩, hby6, hl6⟩ := id GN.out.ts
      obtain ⟨A6, c6, rfl, hc6, -⟩ := id hvb
      obtain ⟨m, hm⟩ : ∃ m, m = r.length := ⟨_, rfl⟩
      have t0 := hkb.cell 0
      have t1 := hkb.cell 1
      simp only [List.getElem?_toArray, List.getElem?_cons_zero, List.getElem?_cons_succ, ← hm] at t0 t1
      have hwl : IntKind.u64.wrap (m : Int) = m := IntWalk.u64_in _ (by omega)
      have hB' := hB r rfl
      rw [← hm] at hB'
      clear hkb hvb hvl hby6 hl6 hm hB
      by_cases hc : m < n
      · have hc' : (m : Int) < n := by omega
        clear hB'
        go_wp2
        go_meet
        exact ⟨rfl, GN.out⟩
      · have hc' : ¬ (m : Int) < n := by omega
        have hd' : (65536 : Int) < n := by omega
        clear hB'
        go_wp2
        go_meet
        exact ⟨rfl, GN.out⟩
  case rest =>
  obtain ⟨rfl, ge⟩ := hcut
  clear GN hB
  have GE := Lib.hid ge
  clear ge
  have TH := Lib.hid (GE.out.res.there_ (n := 17) rfl)
  have KF := Lib.hid (show Blk (wc.setCells w.heap.size 0 [.int .i64 0, .int .u8 0, .int .u8 0, .int .u64 0, .int .u64 0, .int .u64 0, .int .u64 0, .bool false, .slice none 0 0, .slice none 0 0, .int .u8 0, .int .u64 0, .slice none 0 0, .int .i64 0, .int .i64 0, .int .i64 0, .slice none 0 0]) w.heap.size 44 #[.int .i64 0, .int .u8 0, .int .u8 0, .int .u64 0, .int .u64 0, .int .u64 0, .int .u64 0, .bool false, .slice none 0 0, .slice none 0 0, .int .u8 0, .int .u64 0, .slice none 0 0, .int .i64 0, .int .i64 0, .int .i64 0, .slice none 0 0] from setCells_blk_ [.int .i64 0, .int .u8 0, .int .u8 0, .int .u64 0, .int .u64 0, .int .u64 0, .int .u64 0, .bool false, .slice none 0 0, .slice none 0 0, .int .u8 0, .int .u64 0, .slice none 0 0, .int .i64 0, .int .i64 0, .int .i64 0, .slice none 0 0] [] [.int .i64 0, .int .u8 0, .int .u8 0, .int .u64 0, .int .u64 0, .int .u64 0, .int .u64 0, .bool false, .slice none 0 0, .slice none 0 0, .int .u8 0, .int .u64 0, .slice none 0 0, .int .i64 0, .int .i64 0, .int .i64 0, .slice none 0 0] _ rfl GE.out.res)
  have BF := Lib.hid (setCells_below_ (Nat.le_refl w.heap.size) [.int .i64 0, .int .u8 0, .int .u8 0, .int .u64 0, .int .u64 0, .int .u64 0, .int .u64 0, .bool false, .slice none 0 0, .slice none 0 0, .int .u8 0, .int .u64 0, .slice none 0 0, .int .i64 0, .int .i64 0, .int .i64 0, .slice none 0 0] 0 _ GE.out.bel)
  clear GE
  go_upto_region 42 with fail
  refine wp_region_lit ?_
  refine wpList_plain rfl fun K hK => ?_
  go_simp
  refine hK _ _ ?_
  go_wp2_with (refine wpList_store_mid rfl 44 _ _ rfl w.heap.size 0 #[.int .i64 0, .int .u8 0, .int .u8 0, .int .u64 0, .int .u64 0, .int .u64 0, .int .u64 0, .bool false, .slice none 0 0, .slice none 0 0, .int .u8 0, .int .u64 0, .slice none 0 0, .int .i64 0, .int .i64 0, .int .i64 0, .slice none 0 0] rfl rfl TH.out other_size (by simp [Value.oneCell']) ?_)
  refine bodyPost_ret (results_rget Tryz.results17 _ _ w.heap.size [.int .i64 0, .int .u8 0, .int .u8 0, .int .u64 0, .int .u64 0, .int .u64 0, .int .u64 0, .bool false, .slice none 0 0, .slice none 0 0, .int .u8 0, .int .u64 0, .slice none 0 0, .int .i64 0, .int .i64 0, .int .i64 0, .slice none 0 0] (.int .i64 4) rfl rfl (Blk.range_ KF.out) rfl) rfl ?_
  rw [ANS.out]
  exact ⟨BF.out, rfl⟩
end Go.Proofs.YthjdkjinkmdclaaGreat
