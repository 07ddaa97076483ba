/- Letters: the document's Get, kind by kind. -/
import Derived.Test.YthjdkjinkmdclaaGreatLhz
namespace Go.Proofs.YthjdkjinkmdclaaGreat
open Go.RowKit

set_option maxHeartbeats 16000000 in
set_option maxRecDepth 100000 in
theorem rget_6a {w : World} {v : Value} {xs : List Int} (hb : Bs w v xs) (hby : ∀ c ∈ xs, byt c) (hl : xs.length ≤ 65536) (hk : (rd1 .u8 (.ok xs)).1 = 6) (hA : (getL xs).isSome = true) :
    Calls Tryz.prog 17 #[v] w fun e w' => RGet (getL xs) w e w' := by
  obtain ⟨x0, s0, h0⟩ : ∃ a b, rd1 .u8 (.ok xs) = (a, b) := ⟨_, _, rfl⟩
  obtain ⟨x1, s1, h1⟩ : ∃ a b, rd1 .u8 s0 = (a, b) := ⟨_, _, rfl⟩
  obtain ⟨x2, s2, h2⟩ : ∃ a b, rd1 .u8 s1 = (a, b) := ⟨_, _, rfl⟩
  obtain ⟨x3, s3, h3⟩ : ∃ a b, rd1 .u64 s2 = (a, b) := ⟨_, _, rfl⟩
  obtain ⟨x4, s4, h4⟩ : ∃ a b, rd1 .u8 s3 = (a, b) := ⟨_, _, rfl⟩
  obtain ⟨x5, s5, h5⟩ : ∃ a b, rd1 .u64 s4 = (a, b) := ⟨_, _, rfl⟩
  obtain ⟨rows, s6, h6⟩ : ∃ a b, rdL stepK 8 s5 = (a, b) := ⟨_, _, rfl⟩
  obtain rfl : x0 = 6 := by rw [h0] at hk; exact hk
  have hpk : pcs (rd1 .u8 (.ok xs)).1 = some [.client, .num, .command] := by rw [hk]; rfl
  have hr : rRun (heads ++ [.client, .num, .command]) (Rs.new xs) = ((⟨6, x1, x2, x3, 0, 0, 0, false, [], [], x4, x5, rows, 0, 0, 0, []⟩ : Lt), s6, false) := by simp only [heads, List.cons_append, List.nil_append, rRun, rPc, Rs.new, h0, h1, h2, h3, h4, h5, h6, Lt.zero]
  have ANS0 := Lib.hid ((getL_call hpk).trans (congrArg ans hr))
  clear hpk hr
  have H0 := Lib.hid h0
  have H1 := Lib.hid h1
  have H2 := Lib.hid h2
  have H3 := Lib.hid h3
  have H4 := Lib.hid h4
  have H5 := Lib.hid h5
  have H6 := Lib.hid h6
  clear hk h6 h5 h4 h3 h2 h1 h0
  have kr := (Blk.new w 44 #[.int .i64 0, .int .u8 0, .int .u8 0, .int .u64 0, .int .u64 0, .int .u64 0, .int .u64 0, .bool false, .slice none 0 0, .slice none 0 0, .int .u8 0, .int .u64 0, .slice none 0 0, .int .i64 0, .int .i64 0, .int .i64 0, .slice none 0 0]).alloc (.cells #[v, .int .i64 0] 87)
  have ts := Ts.new_ (hb.below (below_alloc_ w (.cells #[.int .i64 0, .int .u8 0, .int .u8 0, .int .u64 0, .int .u64 0, .int .u64 0, .int .u64 0, .bool false, .slice none 0 0, .slice none 0 0, .int .u8 0, .int .u64 0, .slice none 0 0, .int .i64 0, .int .i64 0, .int .i64 0, .slice none 0 0] 44))) hby (by omega)
  rw [World.size_alloc] at ts
  have A0 := Lib.hid (show Hd w ((w.alloc (.cells #[.int .i64 0, .int .u8 0, .int .u8 0, .int .u64 0, .int .u64 0, .int .u64 0, .int .u64 0, .bool false, .slice none 0 0, .slice none 0 0, .int .u8 0, .int .u64 0, .slice none 0 0, .int .i64 0, .int .i64 0, .int .i64 0, .slice none 0 0] 44)).alloc (.cells #[v, .int .i64 0] 87)) (.ok xs) from ⟨ts, kr, below_alloc2_ w _ _⟩)
  obtain ⟨A, c, rfl, -⟩ := id hb
  clear kr ts hb hby hl
  go_enter Tryz.func17, Tryz.ntmps17
  go_wp2_with fail
  refine (rd_u8 (w.heap.size + 1) (.ok xs) s0 6 _ A0.out.ts H0.out).mono ?_
  rintro e w1 ⟨rfl, ht, hg⟩
  have A1 := Lib.hid (A0.out.call ht hg)
  clear ht hg A0
  go_wp2_with fail
  refine (rd_u8 (w.heap.size + 1) s0 s1 x1 _ A1.out.ts H1.out).mono ?_
  rintro e w2 ⟨rfl, ht, hg⟩
  have A2 := Lib.hid (A1.out.call ht hg)
  clear ht hg A1
  go_wp2_with fail
  refine (rd_u8 (w.heap.size + 1) s1 s2 x2 _ A2.out.ts H2.out).mono ?_
  rintro e w3 ⟨rfl, ht, hg⟩
  have A3 := Lib.hid (A2.out.call ht hg)
  clear ht hg A2
  have G0 := Lib.hid (A3.out.new #[.int .i64 6, .int .u8 x1, .int .u8 x2, .int .u64 0, .int .u64 0, .int .u64 0, .int .u64 0, .bool false, .slice none 0 0, .slice none 0 0, .int .u8 0, .int .u64 0, .slice none 0 0, .int .i64 0, .int .i64 0, .int .i64 0, .slice none 0 0])
  obtain ⟨p, hp⟩ : ∃ p, p = w3.heap.size := ⟨_, rfl⟩
  rw [← hp] at G0
  have HP := Lib.hid hp
  clear A3 hp
  go_wp2_with fail
  rw [← HP.out]
  refine (rd_u64 (w.heap.size + 1) s2 s3 x3 _ G0.out.ts H3.out).mono ?_
  rintro e w4 ⟨rfl, ht, hg⟩
  have g1 := G0.out.call ht hg
  have fl := g1.lt.free
  have c3 := g1.lt.cell 3
  have c0 := g1.lt.cell 0
  simp only [List.getElem?_toArray, List.getElem?_cons_zero, List.getElem?_cons_succ] at c3 c0
  have G1 := Lib.hid (g1.set 3 (.int .u64 x3) (cs' := #[.int .i64 6, .int .u8 x1, .int .u8 x2, .int .u64 x3, .int .u64 0, .int .u64 0, .int .u64 0, .bool false, .slice none 0 0, .slice none 0 0, .int .u8 0, .int .u64 0, .slice none 0 0, .int .i64 0, .int .i64 0, .int .i64 0, .slice none 0 0]) (by simp))
  clear ht hg g1 G0
  go_wp2_with fail
  refine (rd_u8 (w.heap.size + 1) s3 s4 x4 _ G1.out.ts H4.out).mono ?_
  rintro e w5 ⟨rfl, ht, hg⟩
  clear fl c3 c0
  have g1 := G1.out.call ht hg
  have fl := g1.lt.free
  have c10 := g1.lt.cell 10
  simp only [List.getElem?_toArray, List.getElem?_cons_zero, List.getElem?_cons_succ] at c10
  have G2 := Lib.hid (g1.set 10 (.int .u8 x4) (cs' := #[.int .i64 6, .int .u8 x1, .int .u8 x2, .int .u64 x3, .int .u64 0, .int .u64 0, .int .u64 0, .bool false, .slice none 0 0, .slice none 0 0, .int .u8 x4, .int .u64 0, .slice none 0 0, .int .i64 0, .int .i64 0, .int .i64 0, .slice none 0 0]) (by simp))
  clear ht hg g1 G1
  go_wp2_with fail
  refine (rd_u64 (w.heap.size + 1) s4 s5 x5 _ G2.out.ts H5.out).mono ?_
  rintro e w6 ⟨rfl, ht, hg⟩
  clear fl c10
  have g1 := G2.out.call ht hg
  have fl := g1.lt.free
  have c11 := g1.lt.cell 11
  simp only [List.getElem?_toArray, List.getElem?_cons_zero, List.getElem?_cons_succ] at c11
  have G3 := Lib.hid (g1.set 11 (.int .u64 x5) (cs' := #[.int .i64 6, .int .u8 x1, .int .u8 x2, .int .u64 x3, .int .u64 0, .int .u64 0, .int .u64 0, .bool false, .slice none 0 0, .slice none 0 0, .int .u8 x4, .int .u64 x5, .slice none 0 0, .int .i64 0, .int .i64 0, .int .i64 0, .slice none 0 0]) (by simp))
  clear ht hg g1 G2
  go_wp2_with fail
  refine (tcmd_at (w.heap.size + 1) s5 s6 rows _ G3.out.ts H6.out).mono ?_
  rintro e w7 ⟨As, cs, rfl, ho, ht, hg⟩
  clear fl c11
  obtain ⟨nr, hnr⟩ : ∃ n, n = rows.length := ⟨_, rfl⟩
  rw [← hnr] at ho ⊢
  have NR := Lib.hid hnr
  clear hnr
  have g1 := G3.out.call ht hg
  have fl := g1.lt.free
  have c12 := g1.lt.cell 12
  simp only [List.getElem?_toArray, List.getElem?_cons_zero, List.getElem?_cons_succ] at c12
  have G4 := Lib.hid (g1.set 12 (.slice As nr cs) (cs' := #[.int .i64 6, .int .u8 x1, .int .u8 x2, .int .u64 x3, .int .u64 0, .int .u64 0, .int .u64 0, .bool false, .slice none 0 0, .slice none 0 0, .int .u8 x4, .int .u64 x5, .slice As nr cs, .int .i64 0, .int .i64 0, .int .i64 0, .slice none 0 0]) (by simp))
  have LO := Lib.hid (show LoO (w7.setCell ⟨p, 12, none⟩ (.slice As nr cs)) [] [] rows [] (.slice none 0 0) (.slice none 0 0) (.slice As nr cs) (.slice none 0 0) from LoO.steps_ (by rw [← NR.out]; exact ho.aside g1.lt (by decide) 12 (.slice As nr cs)))
  clear ht hg g1 ho G3
  go_upto_region 57 with fail
  obtain ⟨W, hW⟩ : ∃ W, W = w7.setCell ⟨p, 12, none⟩ (.slice As nr cs) := ⟨_, rfl⟩
  rw [← hW] at G4 LO ⊢
  have GE := Lib.hid G4.out
  clear fl c12 hW G4
  have hd0 : dn s6 = 0 := by
    by_cases h : dn s6 = 0
    · exact h
    · rw [ANS0.out.trans (if_neg (fun q => h q.2))] at hA; cases hA
  have ANS := Lib.hid (ANS0.out.trans (if_pos ⟨rfl, hd0⟩))
  have D := Lib.hid hd0
  clear hA hd0 ANS0
  go_wp2_with fail
  refine (done_any (w.heap.size + 1) s6 _ GE.out.ts).mono ?_
  rintro e wz ⟨rfl, hwz⟩
  subst hwz
  rw [D.out]
  have TH := Lib.hid (GE.out.res.there_ (n := 17) rfl)
  have RG := Lib.hid (Blk.range_ (cs := [.int .i64 6, .int .u8 x1, .int .u8 x2, .int .u64 x3, .int .u64 0, .int .u64 0, .int .u64 0, .bool false, .slice none 0 0, .slice none 0 0, .int .u8 x4, .int .u64 x5, .slice As nr cs, .int .i64 0, .int .i64 0, .int .i64 0, .slice none 0 0]) GE.out.lt)
  have KF := Lib.hid (show Blk (W.setCells w.heap.size 0 [.int .i64 6, .int .u8 x1, .int .u8 x2, .int .u64 x3, .int .u64 0, .int .u64 0, .int .u64 0, .bool false, .slice none 0 0, .slice none 0 0, .int .u8 x4, .int .u64 x5, .slice As nr cs, .int .i64 0, .int .i64 0, .int .i64 0, .slice none 0 0]) w.heap.size 44 #[.int .i64 6, .int .u8 x1, .int .u8 x2, .int .u64 x3, .int .u64 0, .int .u64 0, .int .u64 0, .bool false, .slice none 0 0, .slice none 0 0, .int .u8 x4, .int .u64 x5, .slice As nr cs, .int .i64 0, .int .i64 0, .int .i64 0, .slice none 0 0] from setCells_blk_ [.int .i64 6, .int .u8 x1, .int .u8 x2, .int .u64 x3, .int .u64 0, .int .u64 0, .int .u64 0, .bool false, .slice none 0 0, .slice none 0 0, .int .u8 x4, .int .u64 x5, .slice As nr cs, .int .i64 0, .int .i64 0, .int .i64 0, .slice none 0 0] [] [.int .i64 0, .int .u8 0, .int .u8 0, .int .u64 0, .int .u64 0, .int .u64 0, .int .u64 0, .bool false, .slice none 0 0, .slice none 0 0, .int .u8 0, .int .u64 0, .slice none 0 0, .int .i64 0, .int .i64 0, .int .i64 0, .slice none 0 0] _ rfl GE.out.res)
  have BF := Lib.hid (setCells_below_ (Nat.le_refl w.heap.size) [.int .i64 6, .int .u8 x1, .int .u8 x2, .int .u64 x3, .int .u64 0, .int .u64 0, .int .u64 0, .bool false, .slice none 0 0, .slice none 0 0, .int .u8 x4, .int .u64 x5, .slice As nr cs, .int .i64 0, .int .i64 0, .int .i64 0, .slice none 0 0] 0 _ GE.out.bel)
  have LF := Lib.hid (LO.out.setCells_ [.int .i64 6, .int .u8 x1, .int .u8 x2, .int .u64 x3, .int .u64 0, .int .u64 0, .int .u64 0, .bool false, .slice none 0 0, .slice none 0 0, .int .u8 x4, .int .u64 x5, .slice As nr cs, .int .i64 0, .int .i64 0, .int .i64 0, .slice none 0 0] 0 GE.out.res)
  clear GE
  go_upto_region 59 with fail
  refine wp_region_lit ?_
  refine wpList_load_mid rfl 44 _ rfl p 0 rfl [.int .i64 6, .int .u8 x1, .int .u8 x2, .int .u64 x3, .int .u64 0, .int .u64 0, .int .u64 0, .bool false, .slice none 0 0, .slice none 0 0, .int .u8 x4, .int .u64 x5, .slice As nr cs, .int .i64 0, .int .i64 0, .int .i64 0, .slice none 0 0] _ RG.out Tryz.underlying44 rfl other_size ?_
  go_wp2_with (refine wpList_store_mid rfl 44 _ _ rfl w.heap.size 0 #[.int .i64 6, .int .u8 x1, .int .u8 x2, .int .u64 x3, .int .u64 0, .int .u64 0, .int .u64 0, .bool false, .slice none 0 0, .slice none 0 0, .int .u8 x4, .int .u64 x5, .slice As nr cs, .int .i64 0, .int .i64 0, .int .i64 0, .slice none 0 0] rfl rfl TH.out other_size (by simp [Value.oneCell']) ?_)
  refine bodyPost_ret (results_rget Tryz.results17 _ _ w.heap.size [.int .i64 6, .int .u8 x1, .int .u8 x2, .int .u64 x3, .int .u64 0, .int .u64 0, .int .u64 0, .bool false, .slice none 0 0, .slice none 0 0, .int .u8 x4, .int .u64 x5, .slice As nr cs, .int .i64 0, .int .i64 0, .int .i64 0, .slice none 0 0] (.int .i64 0) rfl rfl (Blk.range_ KF.out) rfl) rfl ?_
  rw [ANS.out]
  exact ⟨BF.out, _, _, _, _, rfl, LF.out⟩
set_option maxHeartbeats 16000000 in
set_option maxRecDepth 100000 in
theorem rget_6b {w : World} {v : Value} {xs : List Int} (hb : Bs w v xs) (hby : ∀ c ∈ xs, byt c) (hl : xs.length ≤ 65536) (hk : (rd1 .u8 (.ok xs)).1 = 6) (hA : getL xs = none) :
    Calls Tryz.prog 17 #[v] w fun e w' => RGet (getL xs) w e w' := by
  obtain ⟨x0, s0, h0⟩ : ∃ a b, rd1 .u8 (.ok xs) = (a, b) := ⟨_, _, rfl⟩
  obtain ⟨x1, s1, h1⟩ : ∃ a b, rd1 .u8 s0 = (a, b) := ⟨_, _, rfl⟩
  obtain ⟨x2, s2, h2⟩ : ∃ a b, rd1 .u8 s1 = (a, b) := ⟨_, _, rfl⟩
  obtain ⟨x3, s3, h3⟩ : ∃ a b, rd1 .u64 s2 = (a, b) := ⟨_, _, rfl⟩
  obtain ⟨x4, s4, h4⟩ : ∃ a b, rd1 .u8 s3 = (a, b) := ⟨_, _, rfl⟩
  obtain ⟨x5, s5, h5⟩ : ∃ a b, rd1 .u64 s4 = (a, b) := ⟨_, _, rfl⟩
  obtain ⟨rows, s6, h6⟩ : ∃ a b, rdL stepK 8 s5 = (a, b) := ⟨_, _, rfl⟩
  obtain rfl : x0 = 6 := by rw [h0] at hk; exact hk
  have hpk : pcs (rd1 .u8 (.ok xs)).1 = some [.client, .num, .command] := by rw [hk]; rfl
  have hr : rRun (heads ++ [.client, .num, .command]) (Rs.new xs) = ((⟨6, x1, x2, x3, 0, 0, 0, false, [], [], x4, x5, rows, 0, 0, 0, []⟩ : Lt), s6, false) := by simp only [heads, List.cons_append, List.nil_append, rRun, rPc, Rs.new, h0, h1, h2, h3, h4, h5, h6, Lt.zero]
  have ANS0 := Lib.hid ((getL_call hpk).trans (congrArg ans hr))
  clear hpk hr
  have H0 := Lib.hid h0
  have H1 := Lib.hid h1
  have H2 := Lib.hid h2
  have H3 := Lib.hid h3
  have H4 := Lib.hid h4
  have H5 := Lib.hid h5
  have H6 := Lib.hid h6
  clear hk h6 h5 h4 h3 h2 h1 h0
  have kr := (Blk.new w 44 #[.int .i64 0, .int .u8 0, .int .u8 0, .int .u64 0, .int .u64 0, .int .u64 0, .int .u64 0, .bool false, .slice none 0 0, .slice none 0 0, .int .u8 0, .int .u64 0, .slice none 0 0, .int .i64 0, .int .i64 0, .int .i64 0, .slice none 0 0]).alloc (.cells #[v, .int .i64 0] 87)
  have ts := Ts.new_ (hb.below (below_alloc_ w (.cells #[.int .i64 0, .int .u8 0, .int .u8 0, .int .u64 0, .int .u64 0, .int .u64 0, .int .u64 0, .bool false, .slice none 0 0, .slice none 0 0, .int .u8 0, .int .u64 0, .slice none 0 0, .int .i64 0, .int .i64 0, .int .i64 0, .slice none 0 0] 44))) hby (by omega)
  rw [World.size_alloc] at ts
  have A0 := Lib.hid (show Hd w ((w.alloc (.cells #[.int .i64 0, .int .u8 0, .int .u8 0, .int .u64 0, .int .u64 0, .int .u64 0, .int .u64 0, .bool false, .slice none 0 0, .slice none 0 0, .int .u8 0, .int .u64 0, .slice none 0 0, .int .i64 0, .int .i64 0, .int .i64 0, .slice none 0 0] 44)).alloc (.cells #[v, .int .i64 0] 87)) (.ok xs) from ⟨ts, kr, below_alloc2_ w _ _⟩)
  obtain ⟨A, c, rfl, -⟩ := id hb
  clear kr ts hb hby hl
  go_enter Tryz.func17, Tryz.ntmps17
  go_wp2_with fail
  refine (rd_u8 (w.heap.size + 1) (.ok xs) s0 6 _ A0.out.ts H0.out).mono ?_
  rintro e w1 ⟨rfl, ht, hg⟩
  have A1 := Lib.hid (A0.out.call ht hg)
  clear ht hg A0
  go_wp2_with fail
  refine (rd_u8 (w.heap.size + 1) s0 s1 x1 _ A1.out.ts H1.out).mono ?_
  rintro e w2 ⟨rfl, ht, hg⟩
  have A2 := Lib.hid (A1.out.call ht hg)
  clear ht hg A1
  go_wp2_with fail
  refine (rd_u8 (w.heap.size + 1) s1 s2 x2 _ A2.out.ts H2.out).mono ?_
  rintro e w3 ⟨rfl, ht, hg⟩
  have A3 := Lib.hid (A2.out.call ht hg)
  clear ht hg A2
  have G0 := Lib.hid (A3.out.new #[.int .i64 6, .int .u8 x1, .int .u8 x2, .int .u64 0, .int .u64 0, .int .u64 0, .int .u64 0, .bool false, .slice none 0 0, .slice none 0 0, .int .u8 0, .int .u64 0, .slice none 0 0, .int .i64 0, .int .i64 0, .int .i64 0, .slice none 0 0])
  obtain ⟨p, hp⟩ : ∃ p, p = w3.heap.size := ⟨_, rfl⟩
  rw [← hp] at G0
  have HP := Lib.hid hp
  clear A3 hp
  go_wp2_with fail
  rw [← HP.out]
  refine (rd_u64 (w.heap.size + 1) s2 s3 x3 _ G0.out.ts H3.out).mono ?_
  rintro e w4 ⟨rfl, ht, hg⟩
  have g1 := G0.out.call ht hg
  have fl := g1.lt.free
  have c3 := g1.lt.cell 3
  have c0 := g1.lt.cell 0
  simp only [List.getElem?_toArray, List.getElem?_cons_zero, List.getElem?_cons_succ] at c3 c0
  have G1 := Lib.hid (g1.set 3 (.int .u64 x3) (cs' := #[.int .i64 6, .int .u8 x1, .int .u8 x2, .int .u64 x3, .int .u64 0, .int .u64 0, .int .u64 0, .bool false, .slice none 0 0, .slice none 0 0, .int .u8 0, .int .u64 0, .slice none 0 0, .int .i64 0, .int .i64 0, .int .i64 0, .slice none 0 0]) (by simp))
  clear ht hg g1 G0
  go_wp2_with fail
  refine (rd_u8 (w.heap.size + 1) s3 s4 x4 _ G1.out.ts H4.out).mono ?_
  rintro e w5 ⟨rfl, ht, hg⟩
  clear fl c3 c0
  have g1 := G1.out.call ht hg
  have fl := g1.lt.free
  have c10 := g1.lt.cell 10
  simp only [List.getElem?_toArray, List.getElem?_cons_zero, List.getElem?_cons_succ] at c10
  have G2 := Lib.hid (g1.set 10 (.int .u8 x4) (cs' := #[.int .i64 6, .int .u8 x1, .int .u8 x2, .int .u64 x3, .int .u64 0, .int .u64 0, .int .u64 0, .bool false, .slice none 0 0, .slice none 0 0, .int .u8 x4, .int .u64 0, .slice none 0 0, .int .i64 0, .int .i64 0, .int .i64 0, .slice none 0 0]) (by simp))
  clear ht hg g1 G1
  go_wp2_with fail
  refine (rd_u64 (w.heap.size + 1) s4 s5 x5 _ G2.out.ts H5.out).mono ?_
  rintro e w6 ⟨rfl, ht, hg⟩
  clear fl c10
  have g1 := G2.out.call ht hg
  have fl := g1.lt.free
  have c11 := g1.lt.cell 11
  simp only [List.getElem?_toArray, List.getElem?_cons_zero, List.getElem?_cons_succ] at c11
  have G3 := Lib.hid (g1.set 11 (.int .u64 x5) (cs' := #[.int .i64 6, .int .u8 x1, .int .u8 x2, .int .u64 x3, .int .u64 0, .int .u64 0, .int .u64 0, .bool false, .slice none 0 0, .slice none 0 0, .int .u8 x4, .int .u64 x5, .slice none 0 0, .int .i64 0, .int .i64 0, .int .i64 0, .slice none 0 0]) (by simp))
  clear ht hg g1 G2
  go_wp2_with fail
  refine (tcmd_at (w.heap.size + 1) s5 s6 rows _ G3.out.ts H6.out).mono ?_
  rintro e w7 ⟨As, cs, rfl, ho, ht, hg⟩
  clear fl c11
  obtain ⟨nr, hnr⟩ : ∃ n, n = rows.length := ⟨_, rfl⟩
  rw [← hnr] at ho ⊢
  have NR := Lib.hid hnr
  clear hnr
  have g1 := G3.out.call ht hg
  have fl := g1.lt.free
  have c12 := g1.lt.cell 12
  simp only [List.getElem?_toArray, List.getElem?_cons_zero, List.getElem?_cons_succ] at c12
  have G4 := Lib.hid (g1.set 12 (.slice As nr cs) (cs' := #[.int .i64 6, .int .u8 x1, .int .u8 x2, .int .u64 x3, .int .u64 0, .int .u64 0, .int .u64 0, .bool false, .slice none 0 0, .slice none 0 0, .int .u8 x4, .int .u64 x5, .slice As nr cs, .int .i64 0, .int .i64 0, .int .i64 0, .slice none 0 0]) (by simp))
  have LO := Lib.hid (show LoO (w7.setCell ⟨p, 12, none⟩ (.slice As nr cs)) [] [] rows [] (.slice none 0 0) (.slice none 0 0) (.slice As nr cs) (.slice none 0 0) from LoO.steps_ (by rw [← NR.out]; exact ho.aside g1.lt (by decide) 12 (.slice As nr cs)))
  clear ht hg g1 ho G3
  go_upto_region 57 with fail
  obtain ⟨W, hW⟩ : ∃ W, W = w7.setCell ⟨p, 12, none⟩ (.slice As nr cs) := ⟨_, rfl⟩
  rw [← hW] at G4 LO ⊢
  have GE := Lib.hid G4.out
  clear fl c12 hW G4
  have ANS := Lib.hid hA
  clear LO
  go_cut [230] (fun s230 wx => s230 = .bool true ∧ Gd w wx p #[.int .i64 6, .int .u8 x1, .int .u8 x2, .int .u64 x3, .int .u64 0, .int .u64 0, .int .u64 0, .bool false, .slice none 0 0, .slice none 0 0, .int .u8 x4, .int .u64 x5, .slice As nr cs, .int .i64 0, .int .i64 0, .int .i64 0, .slice none 0 0] s6)
  case first =>
    have hd0 : (dn s6 != 0) = true := by
      by_cases h : dn s6 = 0
      · have q := ANS0.out.trans (if_pos ⟨rfl, h⟩)
        rw [hA] at q; cases q
      · simpa using h
    clear hA ANS0
    go_wp2_with fail
    refine (done_any (w.heap.size + 1) s6 _ GE.out.ts).mono ?_
    rintro e wz ⟨rfl, hwz⟩
    subst hwz
    go_wp2
    go_meet
    exact ⟨rfl, GE.out⟩
  case rest =>
  obtain ⟨rfl, ge⟩ := hcut
  clear GE hA ANS0
  have GE := Lib.hid ge
  clear ge
  have TH := Lib.hid (GE.out.res.there_ (n := 17) rfl)
  have KF := Lib.hid (show Blk (wc.setCells w.heap.size 0 [.int .i64 0, .int .u8 0, .int .u8 0, .int .u64 0, .int .u64 0, .int .u64 0, .int .u64 0, .bool false, .slice none 0 0, .slice none 0 0, .int .u8 0, .int .u64 0, .slice none 0 0, .int .i64 0, .int .i64 0, .int .i64 0, .slice none 0 0]) w.heap.size 44 #[.int .i64 0, .int .u8 0, .int .u8 0, .int .u64 0, .int .u64 0, .int .u64 0, .int .u64 0, .bool false, .slice none 0 0, .slice none 0 0, .int .u8 0, .int .u64 0, .slice none 0 0, .int .i64 0, .int .i64 0, .int .i64 0, .slice none 0 0] from setCells_blk_ [.int .i64 0, .int .u8 0, .int .u8 0, .int .u64 0, .int .u64 0, .int .u64 0, .int .u64 0, .bool false, .slice none 0 0, .slice none 0 0, .int .u8 0, .int .u64 0, .slice none 0 0, .int .i64 0, .int .i64 0, .int .i64 0, .slice none 0 0] [] [.int .i64 0, .int .u8 0, .int .u8 0, .int .u64 0, .int .u64 0, .int .u64 0, .int .u64 0, .bool false, .slice none 0 0, .slice none 0 0, .int .u8 0, .int .u64 0, .slice none 0 0, .int .i64 0, .int .i64 0, .int .i64 0, .slice none 0 0] _ rfl GE.out.res)
  have BF := Lib.hid (setCells_below_ (Nat.le_refl w.heap.size) [.int .i64 0, .int .u8 0, .int .u8 0, .int .u64 0, .int .u64 0, .int .u64 0, .int .u64 0, .bool false, .slice none 0 0, .slice none 0 0, .int .u8 0, .int .u64 0, .slice none 0 0, .int .i64 0, .int .i64 0, .int .i64 0, .slice none 0 0] 0 _ GE.out.bel)
  clear GE
  go_upto_region 58 with fail
  refine wp_region_lit ?_
  refine wpList_plain rfl fun K hK => ?_
  go_simp
  refine hK _ _ ?_
  go_wp2_with (refine wpList_store_mid rfl 44 _ _ rfl w.heap.size 0 #[.int .i64 0, .int .u8 0, .int .u8 0, .int .u64 0, .int .u64 0, .int .u64 0, .int .u64 0, .bool false, .slice none 0 0, .slice none 0 0, .int .u8 0, .int .u64 0, .slice none 0 0, .int .i64 0, .int .i64 0, .int .i64 0, .slice none 0 0] rfl rfl TH.out other_size (by simp [Value.oneCell']) ?_)
  refine bodyPost_ret (results_rget Tryz.results17 _ _ w.heap.size [.int .i64 0, .int .u8 0, .int .u8 0, .int .u64 0, .int .u64 0, .int .u64 0, .int .u64 0, .bool false, .slice none 0 0, .slice none 0 0, .int .u8 0, .int .u64 0, .slice none 0 0, .int .i64 0, .int .i64 0, .int .i64 0, .slice none 0 0] (.int .i64 4) rfl rfl (Blk.range_ KF.out) rfl) rfl ?_
  rw [ANS.out]
  exact ⟨BF.out, rfl⟩
theorem rget_6 {w : World} {v : Value} {xs : List Int} (hb : Bs w v xs) (hby : ∀ c ∈ xs, byt c) (hl : xs.length ≤ 65536) (hk : (rd1 .u8 (.ok xs)).1 = 6) :
    Calls Tryz.prog 17 #[v] w fun e w' => RGet (getL xs) w e w' := by
  rcases hg : getL xs with - | L
  · rw [← hg]; exact rget_6b hb hby hl hk hg
  · rw [← hg]; exact rget_6a hb hby hl hk (by rw [hg]; rfl)
end Go.Proofs.YthjdkjinkmdclaaGreat
