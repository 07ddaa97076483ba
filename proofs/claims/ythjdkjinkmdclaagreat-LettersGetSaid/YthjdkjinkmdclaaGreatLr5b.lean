/- Letters: the document's Get, kind by kind. -/
import Derived.Test.YthjdkjinkmdclaaGreatLhz
import Derived.Test.YthjdkjinkmdclaaGreatLgc
namespace Go.Proofs.YthjdkjinkmdclaaGreat
open Go.RowKit

set_option maxHeartbeats 16000000 in
set_option maxRecDepth 100000 in
theorem rget_5b {w : World} {v : Value} {xs : List Int} (hb : Bs w v xs) (hby : ∀ c ∈ xs, byt c) (hl : xs.length ≤ 65536) (hk : (rd1 .u8 (.ok xs)).1 = 5) (hB : ∃ r, (run numP 0 (rRun (heads ++ [.index, .mark]) (Rs.new xs)).2.1).2 = .ok r ∧ ¬ (r.length < (run numP 0 (rRun (heads ++ [.index, .mark]) (Rs.new xs)).2.1).1 ∨ 65536 < (run numP 0 (rRun (heads ++ [.index, .mark]) (Rs.new xs)).2.1).1)) (hA : getL xs = none) :
    Calls Tryz.prog 17 #[v] w fun e w' => RGet (getL xs) w e w' := by
  obtain ⟨x0, s0, h0⟩ : ∃ a b, rd1 .u8 (.ok xs) = (a, b) := ⟨_, _, rfl⟩
  obtain ⟨x1, s1, h1⟩ : ∃ a b, rd1 .u8 s0 = (a, b) := ⟨_, _, rfl⟩
  obtain ⟨x2, s2, h2⟩ : ∃ a b, rd1 .u8 s1 = (a, b) := ⟨_, _, rfl⟩
  obtain ⟨x3, s3, h3⟩ : ∃ a b, rd1 .u64 s2 = (a, b) := ⟨_, _, rfl⟩
  obtain ⟨x4, s4, h4⟩ : ∃ a b, rd1 .u64 s3 = (a, b) := ⟨_, _, rfl⟩
  obtain ⟨x5, s5, h5⟩ : ∃ a b, rd1 .u64 s4 = (a, b) := ⟨_, _, rfl⟩
  obtain rfl : x0 = 5 := by rw [h0] at hk; exact hk
  obtain ⟨n, sn, hn⟩ : ∃ a b, run numP 0 s5 = (a, b) := ⟨_, _, rfl⟩
  have hpk : pcs (rd1 .u8 (.ok xs)).1 = some [.index, .mark, .data] := by rw [hk]; rfl
  have hr : rRun (heads ++ [.index, .mark]) (Rs.new xs) = ((⟨5, x1, x2, x3, x4, x5, 0, false, [], [], 0, 0, [], 0, 0, 0, []⟩ : Lt), s5, false) := by simp only [heads, List.cons_append, List.nil_append, rRun, rPc, Rs.new, h0, h1, h2, h3, h4, h5, Lt.zero]
  have ANS0 := Lib.hid ((getL_data hpk).trans (congrArg ansData hr))
  rw [hr] at hB
  simp only [hn] at hB
  clear hpk hr
  have H0 := Lib.hid h0
  have H1 := Lib.hid h1
  have H2 := Lib.hid h2
  have H3 := Lib.hid h3
  have H4 := Lib.hid h4
  have H5 := Lib.hid h5
  have HN := Lib.hid hn
  clear hk hn h5 h4 h3 h2 h1 h0
  have kr := (Blk.new w 44 #[.int .i64 0, .int .u8 0, .int .u8 0, .int .u64 0, .int .u64 0, .int .u64 0, .int .u64 0, .bool false, .slice none 0 0, .slice none 0 0, .int .u8 0, .int .u64 0, .slice none 0 0, .int .i64 0, .int .i64 0, .int .i64 0, .slice none 0 0]).alloc (.cells #[v, .int .i64 0] 87)
  have ts := Ts.new_ (hb.below (below_alloc_ w (.cells #[.int .i64 0, .int .u8 0, .int .u8 0, .int .u64 0, .int .u64 0, .int .u64 0, .int .u64 0, .bool false, .slice none 0 0, .slice none 0 0, .int .u8 0, .int .u64 0, .slice none 0 0, .int .i64 0, .int .i64 0, .int .i64 0, .slice none 0 0] 44))) hby (by omega)
  rw [World.size_alloc] at ts
  have A0 := Lib.hid (show Hd w ((w.alloc (.cells #[.int .i64 0, .int .u8 0, .int .u8 0, .int .u64 0, .int .u64 0, .int .u64 0, .int .u64 0, .bool false, .slice none 0 0, .slice none 0 0, .int .u8 0, .int .u64 0, .slice none 0 0, .int .i64 0, .int .i64 0, .int .i64 0, .slice none 0 0] 44)).alloc (.cells #[v, .int .i64 0] 87)) (.ok xs) from ⟨ts, kr, below_alloc2_ w _ _⟩)
  obtain ⟨A, c, rfl, -⟩ := id hb
  clear kr ts hb hby hl
  go_enter Tryz.func17, Tryz.ntmps17
  go_wp2_with fail
  refine (rd_u8 (w.heap.size + 1) (.ok xs) s0 5 _ A0.out.ts H0.out).mono ?_
  rintro e w1 ⟨rfl, ht, hg⟩
  have A1 := Lib.hid (A0.out.call ht hg)
  clear ht hg A0
  go_wp2_with fail
  refine (rd_u8 (w.heap.size + 1) s0 s1 x1 _ A1.out.ts H1.out).mono ?_
  rintro e w2 ⟨rfl, ht, hg⟩
  have A2 := Lib.hid (A1.out.call ht hg)
  clear ht hg A1
  go_wp2_with fail
  refine (rd_u8 (w.heap.size + 1) s1 s2 x2 _ A2.out.ts H2.out).mono ?_
  rintro e w3 ⟨rfl, ht, hg⟩
  have A3 := Lib.hid (A2.out.call ht hg)
  clear ht hg A2
  have G0 := Lib.hid (A3.out.new #[.int .i64 5, .int .u8 x1, .int .u8 x2, .int .u64 0, .int .u64 0, .int .u64 0, .int .u64 0, .bool false, .slice none 0 0, .slice none 0 0, .int .u8 0, .int .u64 0, .slice none 0 0, .int .i64 0, .int .i64 0, .int .i64 0, .slice none 0 0])
  obtain ⟨p, hp⟩ : ∃ p, p = w3.heap.size := ⟨_, rfl⟩
  rw [← hp] at G0
  have HP := Lib.hid hp
  clear A3 hp
  go_wp2_with fail
  rw [← HP.out]
  refine (rd_u64 (w.heap.size + 1) s2 s3 x3 _ G0.out.ts H3.out).mono ?_
  rintro e w4 ⟨rfl, ht, hg⟩
  have g1 := G0.out.call ht hg
  have fl := g1.lt.free
  have c3 := g1.lt.cell 3
  have c0 := g1.lt.cell 0
  simp only [List.getElem?_toArray, List.getElem?_cons_zero, List.getElem?_cons_succ] at c3 c0
  have G1 := Lib.hid (g1.set 3 (.int .u64 x3) (cs' := #[.int .i64 5, .int .u8 x1, .int .u8 x2, .int .u64 x3, .int .u64 0, .int .u64 0, .int .u64 0, .bool false, .slice none 0 0, .slice none 0 0, .int .u8 0, .int .u64 0, .slice none 0 0, .int .i64 0, .int .i64 0, .int .i64 0, .slice none 0 0]) (by simp))
  clear ht hg g1 G0
  go_wp2_with fail
  refine (rd_u64 (w.heap.size + 1) s3 s4 x4 _ G1.out.ts H4.out).mono ?_
  rintro e w5 ⟨rfl, ht, hg⟩
  clear fl c3 c0
  have g1 := G1.out.call ht hg
  have fl := g1.lt.free
  have c4 := g1.lt.cell 4
  simp only [List.getElem?_toArray, List.getElem?_cons_zero, List.getElem?_cons_succ] at c4
  have G2 := Lib.hid (g1.set 4 (.int .u64 x4) (cs' := #[.int .i64 5, .int .u8 x1, .int .u8 x2, .int .u64 x3, .int .u64 x4, .int .u64 0, .int .u64 0, .bool false, .slice none 0 0, .slice none 0 0, .int .u8 0, .int .u64 0, .slice none 0 0, .int .i64 0, .int .i64 0, .int .i64 0, .slice none 0 0]) (by simp))
  clear ht hg g1 G1
  go_wp2_with fail
  refine (rd_u64 (w.heap.size + 1) s4 s5 x5 _ G2.out.ts H5.out).mono ?_
  rintro e w6 ⟨rfl, ht, hg⟩
  clear fl c4
  have g1 := G2.out.call ht hg
  have fl := g1.lt.free
  have c5 := g1.lt.cell 5
  simp only [List.getElem?_toArray, List.getElem?_cons_zero, List.getElem?_cons_succ] at c5
  have G3 := Lib.hid (g1.set 5 (.int .u64 x5) (cs' := #[.int .i64 5, .int .u8 x1, .int .u8 x2, .int .u64 x3, .int .u64 x4, .int .u64 x5, .int .u64 0, .bool false, .slice none 0 0, .slice none 0 0, .int .u8 0, .int .u64 0, .slice none 0 0, .int .i64 0, .int .i64 0, .int .i64 0, .slice none 0 0]) (by simp))
  clear ht hg g1 G2
  go_wp2_with fail
  refine (tnum_at (w.heap.size + 1) s5 sn n _ G3.out.ts HN.out).mono ?_
  rintro e w7 ⟨rfl, ht, hg⟩
  clear fl c5
  have GN := Lib.hid (G3.out.call ht hg)
  clear ht hg G3
  go_upto_region 41 with fail
  obtain ⟨r, rfl, hB2⟩ := hB
  have ANS1 := Lib.hid (ANS0.out.trans (ansData_ok HN.out hB2))
  clear ANS0
  go_cut [169] (fun s169 wx => s169 = .bool false ∧ Gd w wx p #[.int .i64 5, .int .u8 x1, .int .u8 x2, .int .u64 x3, .int .u64 x4, .int .u64 x5, .int .u64 0, .bool false, .slice none 0 0, .slice none 0 0, .int .u8 0, .int .u64 0, .slice none 0 0, .int .i64 0, .int .i64 0, .int .i64 0, .slice none 0 0] (.ok r))
  case first =>
    obtain ⟨⟨v6, hkb, hvb, hvl⟩, hby6, hl6⟩ := id GN.out.ts
    obtain ⟨A6, c6, rfl, hc6, -⟩ := id hvb
    obtain ⟨m, hm⟩ : ∃ m, m = r.length := ⟨_, rfl⟩
    have t0 := hkb.cell 0
    have t1 := hkb.cell 1
    simp only [List.getElem?_toArray, List.getElem?_cons_zero, List.getElem?_cons_succ, ← hm] at t0 t1
    have hwl : IntKind.u64.wrap (m : Int) = m := IntWalk.u64_in _ (by omega)
    have hc' : ¬ (m : Int) < n := by omega
    have hd' : ¬ (65536 : Int) < n := by omega
    clear hkb hvb hvl hby6 hl6 hm hB2 hA
    go_wp2
    go_meet
    exact ⟨rfl, GN.out⟩
  case rest =>
  obtain ⟨rfl, ge⟩ := hcut
  clear GN
  have GN := Lib.hid ge
  clear ge
  go_upto_region 43 with fail
  go_cut [] (fun wx => ∃ Ad cd, Gd w wx p #[.int .i64 5, .int .u8 x1, .int .u8 x2, .int .u64 x3, .int .u64 x4, .int .u64 x5, .int .u64 0, .bool false, .slice none 0 0, .slice Ad n cd, .int .u8 0, .int .u64 0, .slice none 0 0, .int .i64 0, .int .i64 0, .int .i64 0, .slice none 0 0] (.ok r) ∧ Ow w.heap.size wx 5 1 (.slice Ad n cd) n (bc (r.take n)))
  case first =>
    obtain ⟨⟨v6, hkb, hvb, hvl⟩, hby6, hl6⟩ := id GN.out.ts
    obtain ⟨A6, c6, rfl, hc6, -⟩ := id hvb
    obtain ⟨m, hm⟩ : ∃ m, m = r.length := ⟨_, rfl⟩
    have t0 := hkb.cell 0
    have t1 := hkb.cell 1
    simp only [List.getElem?_toArray, List.getElem?_cons_zero, List.getElem?_cons_succ, ← hm] at t0 t1
    have hwl : IntKind.u64.wrap (m : Int) = m := IntWalk.u64_in _ (by omega)
    have hnm : n ≤ m := by omega
    have hn6 : n ≤ 65536 := by omega
    have hnc : n ≤ c6 := by omega
    have hn1 : (0 : Int) ≤ n := by omega
    have hn2 : (n : Int) ≤ m := by omega
    have hn3 : (n : Int) ≤ c6 := by omega
    have hmc : (m : Int) ≤ c6 := by omega
    have HV := Lib.hid (show Rd wc 1 (.slice A6 n c6) n (bc (r.take n)) from by
      have q := hvb.front n c6 (by omega) hnc
      have q2 : (r.take n).length = n := by rw [List.length_take]; omega
      unfold Bs at q
      rw [q2] at q
      exact q)
    have H1 := Lib.hid (bc_one (r.take n))
    have hsz := Lib.hid (show w.heap.size ≤ wc.heap.size from GN.out.bel.size)
    obtain ⟨cs, hcs⟩ : ∃ cs, cs = bc (r.take n) := ⟨_, rfl⟩
    rw [← hcs] at HV H1
    have CS := Lib.hid hcs
    clear hkb hvb hvl hby6 hl6 hm hB2 hA hcs hc6
    go_wp2_with (at_builtin; go_must (refine wpList_ow_rows (n := 0) (m := n) rfl _ _ 25 5 (.int .u8 0) 1 1 rfl Tryz.underlying25 byt_info rfl (by decide) rfl (show Ow w.heap.size wc 5 1 (.slice none 0 0) 0 [] from .inl ⟨rfl, rfl, rfl⟩) hsz.out HV.out H1.out rfl (by omega) (by unfold maxLen; omega) ?_); intro v7 w7 ho7 hg7; rw [Nat.zero_add, List.nil_append] at ho7; obtain ⟨A7, c7, rfl⟩ := ho7.sl_; have g7 := GN.out.below (below_of_grown_ hg7.1); have fl := g7.lt.free; have d9 := g7.lt.cell 9; simp only [List.getElem?_toArray, List.getElem?_cons_zero, List.getElem?_cons_succ] at d9; have O7 := Lib.hid (ho7.aside g7.lt (by decide) 9 (.slice A7 n c7)); have G7 := Lib.hid (g7.set 9 (.slice A7 n c7) (cs' := #[.int .i64 5, .int .u8 x1, .int .u8 x2, .int .u64 x3, .int .u64 x4, .int .u64 x5, .int .u64 0, .bool false, .slice none 0 0, .slice A7 n c7, .int .u8 0, .int .u64 0, .slice none 0 0, .int .i64 0, .int .i64 0, .int .i64 0, .slice none 0 0]) (by simp)); clear ho7 hg7 g7)
    go_meet
    exact ⟨A7, c7, G7.out, by rw [← CS.out]; exact O7.out⟩
  case rest =>
  obtain ⟨Ad, cd, ge, oe⟩ := hcut
  clear GN
  have GN := Lib.hid ge
  have OD := Lib.hid oe
  clear ge oe
  go_upto_region 44 with fail
  obtain ⟨⟨v6, hkb, hvb, hvl⟩, hby6, hl6⟩ := id GN.out.ts
  obtain ⟨A6, c6, rfl, hc6, -⟩ := id hvb
  obtain ⟨m, hm⟩ : ∃ m, m = r.length := ⟨_, rfl⟩
  have t0 := hkb.cell 0
  have t1 := hkb.cell 1
  simp only [List.getElem?_toArray, List.getElem?_cons_zero, List.getElem?_cons_succ, ← hm] at t0 t1
  have hwl : IntKind.u64.wrap (m : Int) = m := IntWalk.u64_in _ (by omega)
  have hnm : n ≤ m := by omega
  have hn1 : (0 : Int) ≤ n := by omega
  have hn2 : (n : Int) ≤ m := by omega
  have hn3 : (n : Int) ≤ c6 := by omega
  have hmc : (m : Int) ≤ c6 := by omega
  have hnz : m ≤ 4611686018427387904 := by omega
  have fz := hkb.free
  have FIN := Lib.hid (show ∀ u, Bs wc u (r.drop n) → ((r.drop n).length = 0 ∨ ∀ k, u.ownBlock = some k → k < w.heap.size + 1) → Gd w (wc.setCell ⟨w.heap.size + 1, 0, none⟩ u) p #[.int .i64 5, .int .u8 x1, .int .u8 x2, .int .u64 x3, .int .u64 x4, .int .u64 x5, .int .u64 0, .bool false, .slice none 0 0, .slice Ad n cd, .int .u8 0, .int .u64 0, .slice none 0 0, .int .i64 0, .int .i64 0, .int .i64 0, .slice none 0 0] (.ok (r.drop n)) ∧ Ow w.heap.size (wc.setCell ⟨w.heap.size + 1, 0, none⟩ u) 5 1 (.slice Ad n cd) n (bc (r.take n)) from fun u hu hl =>
    ⟨⟨Ts.store hkb hu (fun c hc => hby6 c (List.mem_of_mem_drop hc)) (by rw [List.length_drop]; omega) hl, GN.out.res.far (p := ⟨w.heap.size + 1, 0, none⟩) (by simp) u, GN.out.lt.far (p := ⟨w.heap.size + 1, 0, none⟩) (by have := GN.out.hp; simp; omega) u, GN.out.hp, GN.out.bel.setCell (p := ⟨w.heap.size + 1, 0, none⟩) (by simp) u⟩, OD.out.aside hkb (by decide) 0 u⟩)
  obtain ⟨u, hu⟩ : ∃ u, u = Value.slice (if c6 = n then A6 else Option.map (fun x => x.add n) A6) (m - n) (c6 - n) := ⟨_, rfl⟩
  have hbu : Bs wc u (r.drop n) := by
    have hrest := hvb.rest n (by omega)
    rw [← hm] at hrest
    rcases hrest with ⟨q1, q2⟩ | ⟨q1, g, o, rfl, q2⟩
    · rw [hu, show m - n = 0 by omega]
      exact q2 _ _
    · rw [hu, if_neg (by omega), Option.map_some, Addr.add_lit]
      exact q2
  have hou : (r.drop n).length = 0 ∨ ∀ k, u.ownBlock = some k → k < w.heap.size + 1 := by
    have hrest := hvb.rest n (by omega)
    rw [← hm] at hrest
    rcases hrest with ⟨q1, q2⟩ | ⟨q1, g, o, rfl, q2⟩
    · left; rw [List.length_drop]; omega
    · right
      intro k hk
      rcases hvl with h | h
      · omega
      · exact h k (by rw [hu, if_neg (by omega), Option.map_some, Addr.add_lit] at hk; simpa [Value.ownBlock] using hk)
  have F := FIN.out u hbu hou
  have U := Lib.hid hu
  clear GN OD hkb hvb hby6 hl6 hm hvl hbu hou hu FIN
  go_upto_region 57 with fail
  rw [← U.out]
  obtain ⟨W, hW⟩ : ∃ W, W = wc.setCell ⟨w.heap.size + 1, 0, none⟩ u := ⟨_, rfl⟩
  rw [← hW] at F ⊢
  have GE := Lib.hid F.1
  have LO := Lib.hid (LoO.data_ (bs := r.take n) (by rw [List.length_take]; omega) F.2)
  clear F hW U t0 t1 hwl hnm hn1 hn2 hn3 hmc hnz fz hc6 hB2
  have ANS0 := Lib.hid ANS1.out
  clear ANS1
  have ANS := Lib.hid hA
  clear LO
  go_cut [230] (fun s230 wx => s230 = .bool true ∧ Gd w wx p #[.int .i64 5, .int .u8 x1, .int .u8 x2, .int .u64 x3, .int .u64 x4, .int .u64 x5, .int .u64 0, .bool false, .slice none 0 0, .slice Ad n cd, .int .u8 0, .int .u64 0, .slice none 0 0, .int .i64 0, .int .i64 0, .int .i64 0, .slice none 0 0] (.ok (r.drop n)))
  case first =>
    have hd0 : (dn (.ok (r.drop n)) != 0) = true := by
      by_cases h : dn (.ok (r.drop n)) = 0
      · have q := ANS0.out.trans (if_pos ⟨rfl, h⟩)
        rw [hA] at q; cases q
      · simpa using h
    clear hA ANS0
    go_wp2_with fail
    refine (done_any (w.heap.size + 1) (.ok (r.drop n)) _ GE.out.ts).mono ?_
    rintro e wz ⟨rfl, hwz⟩
    subst hwz
    go_wp2
    go_meet
    exact ⟨rfl, GE.out⟩
  case rest =>
  obtain ⟨rfl, ge⟩ := hcut
  clear GE hA ANS0
  have GE := Lib.hid ge
  clear ge
  have TH := Lib.hid (GE.out.res.there_ (n := 17) rfl)
  have KF := Lib.hid (show Blk (wc.setCells w.heap.size 0 [.int .i64 0, .int .u8 0, .int .u8 0, .int .u64 0, .int .u64 0, .int .u64 0, .int .u64 0, .bool false, .slice none 0 0, .slice none 0 0, .int .u8 0, .int .u64 0, .slice none 0 0, .int .i64 0, .int .i64 0, .int .i64 0, .slice none 0 0]) w.heap.size 44 #[.int .i64 0, .int .u8 0, .int .u8 0, .int .u64 0, .int .u64 0, .int .u64 0, .int .u64 0, .bool false, .slice none 0 0, .slice none 0 0, .int .u8 0, .int .u64 0, .slice none 0 0, .int .i64 0, .int .i64 0, .int .i64 0, .slice none 0 0] from setCells_blk_ [.int .i64 0, .int .u8 0, .int .u8 0, .int .u64 0, .int .u64 0, .int .u64 0, .int .u64 0, .bool false, .slice none 0 0, .slice none 0 0, .int .u8 0, .int .u64 0, .slice none 0 0, .int .i64 0, .int .i64 0, .int .i64 0, .slice none 0 0] [] [.int .i64 0, .int .u8 0, .int .u8 0, .int .u64 0, .int .u64 0, .int .u64 0, .int .u64 0, .bool false, .slice none 0 0, .slice none 0 0, .int .u8 0, .int .u64 0, .slice none 0 0, .int .i64 0, .int .i64 0, .int .i64 0, .slice none 0 0] _ rfl GE.out.res)
  have BF := Lib.hid (setCells_below_ (Nat.le_refl w.heap.size) [.int .i64 0, .int .u8 0, .int .u8 0, .int .u64 0, .int .u64 0, .int .u64 0, .int .u64 0, .bool false, .slice none 0 0, .slice none 0 0, .int .u8 0, .int .u64 0, .slice none 0 0, .int .i64 0, .int .i64 0, .int .i64 0, .slice none 0 0] 0 _ GE.out.bel)
  clear GE
  go_upto_region 58 with fail
  refine wp_region_lit ?_
  refine wpList_plain rfl fun K hK => ?_
  go_simp
  refine hK _ _ ?_
  go_wp2_with (refine wpList_store_mid rfl 44 _ _ rfl w.heap.size 0 #[.int .i64 0, .int .u8 0, .int .u8 0, .int .u64 0, .int .u64 0, .int .u64 0, .int .u64 0, .bool false, .slice none 0 0, .slice none 0 0, .int .u8 0, .int .u64 0, .slice none 0 0, .int .i64 0, .int .i64 0, .int .i64 0, .slice none 0 0] rfl rfl TH.out other_size (by simp [Value.oneCell']) ?_)
  refine bodyPost_ret (results_rget Tryz.results17 _ _ w.heap.size [.int .i64 0, .int .u8 0, .int .u8 0, .int .u64 0, .int .u64 0, .int .u64 0, .int .u64 0, .bool false, .slice none 0 0, .slice none 0 0, .int .u8 0, .int .u64 0, .slice none 0 0, .int .i64 0, .int .i64 0, .int .i64 0, .slice none 0 0] (.int .i64 4) rfl rfl (Blk.range_ KF.out) rfl) rfl ?_
  rw [ANS.out]
  exact ⟨BF.out, rfl⟩
end Go.Proofs.YthjdkjinkmdclaaGreat
