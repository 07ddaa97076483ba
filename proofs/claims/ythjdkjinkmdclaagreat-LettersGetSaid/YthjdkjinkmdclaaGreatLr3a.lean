/- Letters: the document's Get, kind by kind. -/
import Derived.Test.YthjdkjinkmdclaaGreatLhz
import Derived.Test.YthjdkjinkmdclaaGreatLgc
namespace Go.Proofs.YthjdkjinkmdclaaGreat
open Go.RowKit

set_option maxHeartbeats 16000000 in
set_option maxRecDepth 100000 in
theorem rget_3a {w : World} {v : Value} {xs : List Int} (hb : Bs w v xs) (hby : ∀ c ∈ xs, byt c) (hl : xs.length ≤ 65536) (hk : (rd1 .u8 (.ok xs)).1 = 3) (hB : ¬ 8 < (run numP 0 (rRun (heads ++ [.index, .mark, .commit]) (Rs.new xs)).2.1).1) (hE : (rEnts (run numP 0 (rRun (heads ++ [.index, .mark, .commit]) (Rs.new xs)).2.1).1 [] (run numP 0 (rRun (heads ++ [.index, .mark, .commit]) (Rs.new xs)).2.1).2 false).isSome = true) (hA : (getL xs).isSome = true) :
    Calls Tryz.prog 17 #[v] w fun e w' => RGet (getL xs) w e w' := by
  obtain ⟨x0, s0, h0⟩ : ∃ a b, rd1 .u8 (.ok xs) = (a, b) := ⟨_, _, rfl⟩
  obtain ⟨x1, s1, h1⟩ : ∃ a b, rd1 .u8 s0 = (a, b) := ⟨_, _, rfl⟩
  obtain ⟨x2, s2, h2⟩ : ∃ a b, rd1 .u8 s1 = (a, b) := ⟨_, _, rfl⟩
  obtain ⟨x3, s3, h3⟩ : ∃ a b, rd1 .u64 s2 = (a, b) := ⟨_, _, rfl⟩
  obtain ⟨x4, s4, h4⟩ : ∃ a b, rd1 .u64 s3 = (a, b) := ⟨_, _, rfl⟩
  obtain ⟨x5, s5, h5⟩ : ∃ a b, rd1 .u64 s4 = (a, b) := ⟨_, _, rfl⟩
  obtain ⟨x6, s6, h6⟩ : ∃ a b, rd1 .u64 s5 = (a, b) := ⟨_, _, rfl⟩
  obtain rfl : x0 = 3 := by rw [h0] at hk; exact hk
  obtain ⟨n, sn, hn⟩ : ∃ a b, run numP 0 s6 = (a, b) := ⟨_, _, rfl⟩
  have hpk : pcs (rd1 .u8 (.ok xs)).1 = some [.index, .mark, .commit, .entries] := by rw [hk]; rfl
  have hr : rRun (heads ++ [.index, .mark, .commit]) (Rs.new xs) = ((⟨3, x1, x2, x3, x4, x5, x6, false, [], [], 0, 0, [], 0, 0, 0, []⟩ : Lt), s6, false) := by simp only [heads, List.cons_append, List.nil_append, rRun, rPc, Rs.new, h0, h1, h2, h3, h4, h5, h6, Lt.zero]
  have ANS0 := Lib.hid ((getL_ents hpk (mid_len hl)).trans (congrArg ansEnts hr))
  rw [hr] at hB hE
  simp only [hn] at hB hE
  clear hpk hr
  have H0 := Lib.hid h0
  have H1 := Lib.hid h1
  have H2 := Lib.hid h2
  have H3 := Lib.hid h3
  have H4 := Lib.hid h4
  have H5 := Lib.hid h5
  have H6 := Lib.hid h6
  have HN := Lib.hid hn
  clear hk hn h6 h5 h4 h3 h2 h1 h0
  have kr := (Blk.new w 44 #[.int .i64 0, .int .u8 0, .int .u8 0, .int .u64 0, .int .u64 0, .int .u64 0, .int .u64 0, .bool false, .slice none 0 0, .slice none 0 0, .int .u8 0, .int .u64 0, .slice none 0 0, .int .i64 0, .int .i64 0, .int .i64 0, .slice none 0 0]).alloc (.cells #[v, .int .i64 0] 87)
  have ts := Ts.new_ (hb.below (below_alloc_ w (.cells #[.int .i64 0, .int .u8 0, .int .u8 0, .int .u64 0, .int .u64 0, .int .u64 0, .int .u64 0, .bool false, .slice none 0 0, .slice none 0 0, .int .u8 0, .int .u64 0, .slice none 0 0, .int .i64 0, .int .i64 0, .int .i64 0, .slice none 0 0] 44))) hby (by omega)
  rw [World.size_alloc] at ts
  have A0 := Lib.hid (show Hd w ((w.alloc (.cells #[.int .i64 0, .int .u8 0, .int .u8 0, .int .u64 0, .int .u64 0, .int .u64 0, .int .u64 0, .bool false, .slice none 0 0, .slice none 0 0, .int .u8 0, .int .u64 0, .slice none 0 0, .int .i64 0, .int .i64 0, .int .i64 0, .slice none 0 0] 44)).alloc (.cells #[v, .int .i64 0] 87)) (.ok xs) from ⟨ts, kr, below_alloc2_ w _ _⟩)
  obtain ⟨A, c, rfl, -⟩ := id hb
  clear kr ts hb hby hl
  go_enter Tryz.func17, Tryz.ntmps17
  go_wp2_with fail
  refine (rd_u8 (w.heap.size + 1) (.ok xs) s0 3 _ A0.out.ts H0.out).mono ?_
  rintro e w1 ⟨rfl, ht, hg⟩
  have A1 := Lib.hid (A0.out.call ht hg)
  clear ht hg A0
  go_wp2_with fail
  refine (rd_u8 (w.heap.size + 1) s0 s1 x1 _ A1.out.ts H1.out).mono ?_
  rintro e w2 ⟨rfl, ht, hg⟩
  have A2 := Lib.hid (A1.out.call ht hg)
  clear ht hg A1
  go_wp2_with fail
  refine (rd_u8 (w.heap.size + 1) s1 s2 x2 _ A2.out.ts H2.out).mono ?_
  rintro e w3 ⟨rfl, ht, hg⟩
  have A3 := Lib.hid (A2.out.call ht hg)
  clear ht hg A2
  have G0 := Lib.hid (A3.out.new #[.int .i64 3, .int .u8 x1, .int .u8 x2, .int .u64 0, .int .u64 0, .int .u64 0, .int .u64 0, .bool false, .slice none 0 0, .slice none 0 0, .int .u8 0, .int .u64 0, .slice none 0 0, .int .i64 0, .int .i64 0, .int .i64 0, .slice none 0 0])
  obtain ⟨p, hp⟩ : ∃ p, p = w3.heap.size := ⟨_, rfl⟩
  rw [← hp] at G0
  have HP := Lib.hid hp
  clear A3 hp
  go_wp2_with fail
  rw [← HP.out]
  refine (rd_u64 (w.heap.size + 1) s2 s3 x3 _ G0.out.ts H3.out).mono ?_
  rintro e w4 ⟨rfl, ht, hg⟩
  have g1 := G0.out.call ht hg
  have fl := g1.lt.free
  have c3 := g1.lt.cell 3
  have c0 := g1.lt.cell 0
  simp only [List.getElem?_toArray, List.getElem?_cons_zero, List.getElem?_cons_succ] at c3 c0
  have G1 := Lib.hid (g1.set 3 (.int .u64 x3) (cs' := #[.int .i64 3, .int .u8 x1, .int .u8 x2, .int .u64 x3, .int .u64 0, .int .u64 0, .int .u64 0, .bool false, .slice none 0 0, .slice none 0 0, .int .u8 0, .int .u64 0, .slice none 0 0, .int .i64 0, .int .i64 0, .int .i64 0, .slice none 0 0]) (by simp))
  clear ht hg g1 G0
  go_wp2_with fail
  refine (rd_u64 (w.heap.size + 1) s3 s4 x4 _ G1.out.ts H4.out).mono ?_
  rintro e w5 ⟨rfl, ht, hg⟩
  clear fl c3 c0
  have g1 := G1.out.call ht hg
  have fl := g1.lt.free
  have c4 := g1.lt.cell 4
  simp only [List.getElem?_toArray, List.getElem?_cons_zero, List.getElem?_cons_succ] at c4
  have G2 := Lib.hid (g1.set 4 (.int .u64 x4) (cs' := #[.int .i64 3, .int .u8 x1, .int .u8 x2, .int .u64 x3, .int .u64 x4, .int .u64 0, .int .u64 0, .bool false, .slice none 0 0, .slice none 0 0, .int .u8 0, .int .u64 0, .slice none 0 0, .int .i64 0, .int .i64 0, .int .i64 0, .slice none 0 0]) (by simp))
  clear ht hg g1 G1
  go_wp2_with fail
  refine (rd_u64 (w.heap.size + 1) s4 s5 x5 _ G2.out.ts H5.out).mono ?_
  rintro e w6 ⟨rfl, ht, hg⟩
  clear fl c4
  have g1 := G2.out.call ht hg
  have fl := g1.lt.free
  have c5 := g1.lt.cell 5
  simp only [List.getElem?_toArray, List.getElem?_cons_zero, List.getElem?_cons_succ] at c5
  have G3 := Lib.hid (g1.set 5 (.int .u64 x5) (cs' := #[.int .i64 3, .int .u8 x1, .int .u8 x2, .int .u64 x3, .int .u64 x4, .int .u64 x5, .int .u64 0, .bool false, .slice none 0 0, .slice none 0 0, .int .u8 0, .int .u64 0, .slice none 0 0, .int .i64 0, .int .i64 0, .int .i64 0, .slice none 0 0]) (by simp))
  clear ht hg g1 G2
  go_wp2_with fail
  refine (rd_u64 (w.heap.size + 1) s5 s6 x6 _ G3.out.ts H6.out).mono ?_
  rintro e w7 ⟨rfl, ht, hg⟩
  clear fl c5
  have g1 := G3.out.call ht hg
  have fl := g1.lt.free
  have c6 := g1.lt.cell 6
  simp only [List.getElem?_toArray, List.getElem?_cons_zero, List.getElem?_cons_succ] at c6
  have G4 := Lib.hid (g1.set 6 (.int .u64 x6) (cs' := #[.int .i64 3, .int .u8 x1, .int .u8 x2, .int .u64 x3, .int .u64 x4, .int .u64 x5, .int .u64 x6, .bool false, .slice none 0 0, .slice none 0 0, .int .u8 0, .int .u64 0, .slice none 0 0, .int .i64 0, .int .i64 0, .int .i64 0, .slice none 0 0]) (by simp))
  clear ht hg g1 G3
  go_wp2_with fail
  refine (tnum_at (w.heap.size + 1) s6 sn n _ G4.out.ts HN.out).mono ?_
  rintro e w8 ⟨rfl, ht, hg⟩
  clear fl c6
  have GN := Lib.hid (G4.out.call ht hg)
  clear ht hg G4
  have hn8 : n ≤ 8 := by omega
  have hc : ¬ (8 : Int) < n := by omega
  obtain ⟨⟨es', sq, yb⟩, hE'⟩ := Option.isSome_iff_exists.1 hE
  have ANS0 := Lib.hid (ANS0.out.trans (ansEnts_ok HN.out hB hE'))
  have RE := Lib.hid hE'
  have HA := Lib.hid hA
  clear hE hE' hB hA
  go_wp2_with fail
  go_loopg [5, 9, 10, 11, 12] n (fun g c5 c9 c10 c11 c12 wr => ∃ (j : Nat) (b : Bool) (s : TS) (es : List Ent) (Ae : Option Addr) (ce : Nat), j ≤ n ∧ g = n - j ∧ c5 = .bool b ∧ c9 = .int .u64 j ∧ Gd w wr p #[.int .i64 3, .int .u8 x1, .int .u8 x2, .int .u64 x3, .int .u64 x4, .int .u64 x5, .int .u64 x6, .bool false, .slice Ae j ce, .slice none 0 0, .int .u8 0, .int .u64 0, .slice none 0 0, .int .i64 0, .int .i64 0, .int .i64 0, .slice none 0 0] s ∧ EsO wr es (.slice Ae j ce) ∧ es.length = j ∧ (∀ k, (Value.slice Ae j ce).ownBlock = some k → w.heap.size + 1 < k) ∧ rEnts n [] sn false = rEnts (n - j) es s b)
  case atStart => exact ⟨0, false, sn, [], none, 0, Nat.zero_le _, by omega, rfl, rfl, GN.out, EsO.nil_ _, rfl, fun k hk => by simp [Value.ownBlock] at hk, rfl⟩
  case round =>
    obtain ⟨j, b, s, es, Ae, ce, hj, hg, rfl, rfl, gd, he, hel, hob, hre⟩ := hrel
    have G := Lib.hid hg
    have GD := Lib.hid gd
    have ES := Lib.hid he
    have EL := Lib.hid hel
    have OB := Lib.hid hob
    have RR := Lib.hid hre
    obtain ⟨t, ht⟩ : ∃ t : Bool, t = (decide (0 < n - j) && s.okb && !b) := ⟨_, rfl⟩
    have T := Lib.hid ht
    clear hg gd he hel hob hre GN ht
    go_upto_region 23 with fail
    go_cut [81] (fun s81 wx => s81 = .bool t ∧ wx = wr)
    case first =>
      obtain ⟨k1, hk1, hk2, hk3⟩ := GD.out.ts.errno
      by_cases hjn : j < n
      · have hjn' : (j : Int) < n := by omega
        rcases s with q | r
        · have hkz : (k1 == 0) = false := beq_eq_false_iff_ne.2 (hk3 q rfl).2
          have ht2 : t = false := by rw [T.out]; simp [TS.okb]
          subst ht2
          clear hk2 hk3
          go_wp2
          go_meet
          exact ⟨rfl, rfl⟩
        · obtain rfl := hk2 r rfl
          clear hk2 hk3
          cases b
          · have ht2 : t = true := by rw [T.out]; simp [TS.okb]; omega
            subst ht2
            go_wp2
            go_meet
            exact ⟨rfl, rfl⟩
          · have ht2 : t = false := by rw [T.out]; simp
            subst ht2
            go_wp2
            go_meet
            exact ⟨rfl, rfl⟩
      · have hjn' : ¬ (j : Int) < n := by omega
        have ht2 : t = false := by
          rw [T.out, decide_eq_false (by omega)]
          rfl
        subst ht2
        clear hk2 hk3
        go_wp2
        go_meet
        exact ⟨rfl, rfl⟩
    case rest =>
    obtain ⟨rfl, hww⟩ := hcut
    have hww := hww.symm
    subst hww
    cases t
    · have hend : rEnts (n - j) es s b = some (es, s, b) := rEnts_end T.out.symm
      have hq := RE.out.symm.trans (RR.out.trans hend)
      obtain ⟨rfl, rfl, rfl⟩ : es' = es ∧ sq = s ∧ yb = b := by injection hq with hq; injection hq with q1 q2; injection q2 with q2 q3; exact ⟨q1, q2, q3⟩
      clear hq hend
      have GE := Lib.hid GD.out
      have LO := Lib.hid (LoO.es_ (ES.out))
      have hA := HA.out
      clear GD ES RE RR T OB HA
      go_upto_region 57 with fail
      have hyb : yb = false := by
        cases yb
        · rfl
        · rw [ANS0.out.trans (ans_bad (.inl rfl))] at hA; cases hA
      subst hyb
      have hd0 : dn sq = 0 := by
        by_cases h : dn sq = 0
        · exact h
        · rw [ANS0.out.trans (if_neg (fun q => h q.2))] at hA; cases hA
      have ANS := Lib.hid (ANS0.out.trans (if_pos ⟨rfl, hd0⟩))
      have D := Lib.hid hd0
      clear hA hd0 ANS0
      go_wp2_with fail
      refine (done_any (w.heap.size + 1) sq _ GE.out.ts).mono ?_
      rintro e wz ⟨rfl, hwz⟩
      subst hwz
      rw [D.out]
      have TH := Lib.hid (GE.out.res.there_ (n := 17) rfl)
      have RG := Lib.hid (Blk.range_ (cs := [.int .i64 3, .int .u8 x1, .int .u8 x2, .int .u64 x3, .int .u64 x4, .int .u64 x5, .int .u64 x6, .bool false, .slice Ae j ce, .slice none 0 0, .int .u8 0, .int .u64 0, .slice none 0 0, .int .i64 0, .int .i64 0, .int .i64 0, .slice none 0 0]) GE.out.lt)
      have KF := Lib.hid (show Blk (wr.setCells w.heap.size 0 [.int .i64 3, .int .u8 x1, .int .u8 x2, .int .u64 x3, .int .u64 x4, .int .u64 x5, .int .u64 x6, .bool false, .slice Ae j ce, .slice none 0 0, .int .u8 0, .int .u64 0, .slice none 0 0, .int .i64 0, .int .i64 0, .int .i64 0, .slice none 0 0]) w.heap.size 44 #[.int .i64 3, .int .u8 x1, .int .u8 x2, .int .u64 x3, .int .u64 x4, .int .u64 x5, .int .u64 x6, .bool false, .slice Ae j ce, .slice none 0 0, .int .u8 0, .int .u64 0, .slice none 0 0, .int .i64 0, .int .i64 0, .int .i64 0, .slice none 0 0] from setCells_blk_ [.int .i64 3, .int .u8 x1, .int .u8 x2, .int .u64 x3, .int .u64 x4, .int .u64 x5, .int .u64 x6, .bool false, .slice Ae j ce, .slice none 0 0, .int .u8 0, .int .u64 0, .slice none 0 0, .int .i64 0, .int .i64 0, .int .i64 0, .slice none 0 0] [] [.int .i64 0, .int .u8 0, .int .u8 0, .int .u64 0, .int .u64 0, .int .u64 0, .int .u64 0, .bool false, .slice none 0 0, .slice none 0 0, .int .u8 0, .int .u64 0, .slice none 0 0, .int .i64 0, .int .i64 0, .int .i64 0, .slice none 0 0] _ rfl GE.out.res)
      have BF := Lib.hid (setCells_below_ (Nat.le_refl w.heap.size) [.int .i64 3, .int .u8 x1, .int .u8 x2, .int .u64 x3, .int .u64 x4, .int .u64 x5, .int .u64 x6, .bool false, .slice Ae j ce, .slice none 0 0, .int .u8 0, .int .u64 0, .slice none 0 0, .int .i64 0, .int .i64 0, .int .i64 0, .slice none 0 0] 0 _ GE.out.bel)
      have LF := Lib.hid (LO.out.setCells_ [.int .i64 3, .int .u8 x1, .int .u8 x2, .int .u64 x3, .int .u64 x4, .int .u64 x5, .int .u64 x6, .bool false, .slice Ae j ce, .slice none 0 0, .int .u8 0, .int .u64 0, .slice none 0 0, .int .i64 0, .int .i64 0, .int .i64 0, .slice none 0 0] 0 GE.out.res)
      clear GE
      go_upto_region 59 with fail
      refine wp_region_lit ?_
      refine wpList_load_mid rfl 44 _ rfl p 0 rfl [.int .i64 3, .int .u8 x1, .int .u8 x2, .int .u64 x3, .int .u64 x4, .int .u64 x5, .int .u64 x6, .bool false, .slice Ae j ce, .slice none 0 0, .int .u8 0, .int .u64 0, .slice none 0 0, .int .i64 0, .int .i64 0, .int .i64 0, .slice none 0 0] _ RG.out Tryz.underlying44 rfl other_size ?_
      go_wp2_with (refine wpList_store_mid rfl 44 _ _ rfl w.heap.size 0 #[.int .i64 3, .int .u8 x1, .int .u8 x2, .int .u64 x3, .int .u64 x4, .int .u64 x5, .int .u64 x6, .bool false, .slice Ae j ce, .slice none 0 0, .int .u8 0, .int .u64 0, .slice none 0 0, .int .i64 0, .int .i64 0, .int .i64 0, .slice none 0 0] rfl rfl TH.out other_size (by simp [Value.oneCell']) ?_)
      refine bodyPost_ret (results_rget Tryz.results17 _ _ w.heap.size [.int .i64 3, .int .u8 x1, .int .u8 x2, .int .u64 x3, .int .u64 x4, .int .u64 x5, .int .u64 x6, .bool false, .slice Ae j ce, .slice none 0 0, .int .u8 0, .int .u64 0, .slice none 0 0, .int .i64 0, .int .i64 0, .int .i64 0, .slice none 0 0] (.int .i64 0) rfl rfl (Blk.range_ KF.out) rfl) rfl ?_
      rw [ANS.out]
      exact ⟨BF.out, _, _, _, _, rfl, LF.out⟩
    · obtain ⟨hjn, r, rfl, rfl⟩ : j < n ∧ ∃ r, s = .ok r ∧ b = false := by
        have q := T.out.symm
        simp only [Bool.and_eq_true, decide_eq_true_eq, Bool.not_eq_true'] at q
        obtain ⟨⟨q1, q2⟩, q3⟩ := q
        cases s with
        | error k => cases q2
        | ok r => exact ⟨by omega, r, rfl, q3⟩
      have hk : n - j = (n - (j + 1)) + 1 := by omega
      obtain ⟨m, s', hm⟩ : ∃ a b, run numP 0 (.ok r) = (a, b) := ⟨_, _, rfl⟩
      have HM := Lib.hid hm
      have hjn' : (j : Int) < n := by omega
      by_cases hgood : ∃ r', s' = .ok r' ∧ ¬ r'.length < m
      · obtain ⟨r', rfl, hlm⟩ := hgood
        have RN := Lib.hid (RR.out.trans ((congrArg (fun q => rEnts q es (.ok r) false) hk).trans (rEnts_go hm hlm)))
        clear hk hm RR T HA
        go_wp2_with fail
        refine (tnum_at (w.heap.size + 1) (.ok r) (.ok r') m _ GD.out.ts HM.out).mono ?_
        rintro e w20 ⟨rfl, ht4, hg4⟩
        have GX := Lib.hid (GD.out.call ht4 hg4)
        obtain ⟨ct, hct⟩ := GD.out.ts.blk
        have EX := Lib.hid (ES.out.call hg4 hct)
        clear ht4 hg4 hct GD ES
        go_upto_region 26 with fail
        go_cut [100] (fun s100 wx => s100 = .bool false ∧ wx = w20)
        case first =>
          obtain ⟨⟨v6, hkb, hvb, hvl⟩, hby6, hl6⟩ := id GX.out.ts
          obtain ⟨A6, c6, rfl, hc6, -⟩ := id hvb
          obtain ⟨m6, hm6⟩ : ∃ m, m = r'.length := ⟨_, rfl⟩
          have t0 := hkb.cell 0
          have t1 := hkb.cell 1
          simp only [List.getElem?_toArray, List.getElem?_cons_zero, List.getElem?_cons_succ, ← hm6] at t0 t1
          rw [← hm6] at hlm
          have hwl : IntKind.u64.wrap (m6 : Int) = m6 := IntWalk.u64_in _ (by omega)
          have hc' : ¬ (m6 : Int) < m := by omega
          clear hkb hvb hvl hby6 hl6 hm6 hlm
          go_wp2
          go_meet
          exact ⟨rfl, rfl⟩
        case rest =>
        obtain ⟨rfl, hww⟩ := hcut
        have hww := hww.symm
        subst hww
        go_upto_region 28 with fail
        go_cut [11, 12] (fun s11 s12 wx => ∃ (q : Nat) (z0 z1 z2 z3 : Int) (rows : List (List Int)) (Ax : Option Addr) (cx : Nat) (k : Int), s11 = .pointer (some ⟨q, 0, none⟩) ∧ s12 = .int .i64 k ∧ (getE (r'.take m)).1 = ([z0, z1, z2, z3], rows) ∧ (k != 0) = (getE (r'.take m)).2 ∧ Blk wx q 63 #[.int .u64 z0, .int .u64 z1, .int .u8 z2, .int .u64 z3, .slice Ax rows.length cx] ∧ Ow 0 wx 104 10 (.slice Ax rows.length cx) rows.length (rows.flatMap (fc stepK)) ∧ Below w20.heap.size w20 wx)
        case first =>
          obtain ⟨⟨v6, hkb, hvb, hvl⟩, hby6, hl6⟩ := id GX.out.ts
          obtain ⟨A6, c6, rfl, hc6, -⟩ := id hvb
          obtain ⟨m6, hm6⟩ : ∃ m, m = r'.length := ⟨_, rfl⟩
          have t0 := hkb.cell 0
          have t1 := hkb.cell 1
          simp only [List.getElem?_toArray, List.getElem?_cons_zero, List.getElem?_cons_succ, ← hm6] at t0 t1
          rw [← hm6] at hlm
          have hwl : IntKind.u64.wrap (m6 : Int) = m6 := IntWalk.u64_in _ (by omega)
          have hnm : m ≤ m6 := by omega
          have hnc : m ≤ c6 := by omega
          have hn1 : (0 : Int) ≤ m := by omega
          have hn2 : (m : Int) ≤ m6 := by omega
          have hn3 : (m : Int) ≤ c6 := by omega
          have hmc : (m6 : Int) ≤ c6 := by omega
          have CC := Lib.hid (rget_entryG (hvb.front m c6 (by omega) hnc) (fun c hc => hby6 c (List.mem_of_mem_take hc)) (by rw [List.length_take]; omega))
          clear hkb hvb hvl hby6 hl6 hm6 hc6 hlm
          go_wp2_with fail
          refine CC.out.mono ?_
          rintro e w21 ⟨z0, z1, z2, z3, rows, Ax, cx, k, hx, rfl, hkk, ho5, hb5⟩
          obtain ⟨nr, hnr⟩ : ∃ n, n = rows.length := ⟨_, rfl⟩
          have ba := below_alloc_ w21 (.cells #[.int .u64 z0, .int .u64 z1, .int .u8 z2, .int .u64 z3, .slice Ax nr cx] 63)
          have KQ := Lib.hid (Blk.new w21 63 #[.int .u64 z0, .int .u64 z1, .int .u8 z2, .int .u64 z3, .slice Ax nr cx])
          have OQ := Lib.hid (ho5.below ba)
          have BQ := Lib.hid (hb5.trans (ba.mono hb5.size))
          have HX := Lib.hid hx
          have HK := Lib.hid hkk
          simp only [← hnr] at OQ ⊢
          have NR := Lib.hid hnr
          clear ho5 hb5 ba hx hkk hnr t0 t1
          go_wp2
          go_meet
          exact ⟨_, z0, z1, z2, z3, rows, Ax, cx, k, rfl, rfl, HX.out, HK.out, by rw [← NR.out]; exact KQ.out, by rw [← NR.out]; exact OQ.out, BQ.out⟩
        case rest =>
        obtain ⟨q, z0, z1, z2, z3, rows, Ax, cx, k, rfl, rfl, hx, hkk, kq, oq, b5⟩ := hcut
        have GY := Lib.hid (GX.out.below b5)
        have EY := Lib.hid (EX.out.below b5)
        have KQ := Lib.hid kq
        have OQ := Lib.hid oq
        obtain ⟨bq, hbq⟩ : ∃ bq : Bool, bq = (getE (r'.take m)).2 := ⟨_, rfl⟩
        rw [← hbq] at hkk RN
        rw [hx] at RN
        clear GX EX kq oq b5 hbq hx
        have GX := Lib.hid GY.out
        clear GY
        go_upto_region 30 with fail
        go_cut [] (fun wx => Gd w wx p #[.int .i64 3, .int .u8 x1, .int .u8 x2, .int .u64 x3, .int .u64 x4, .int .u64 x5, .int .u64 x6, .bool false, .slice Ae j ce, .slice none 0 0, .int .u8 0, .int .u64 0, .slice none 0 0, .int .i64 0, .int .i64 0, .int .i64 0, .slice none 0 0] (.ok (r'.drop m)) ∧ EsO wx es (.slice Ae j ce) ∧ Blk wx q 63 #[.int .u64 z0, .int .u64 z1, .int .u8 z2, .int .u64 z3, .slice Ax rows.length cx] ∧ Ow 0 wx 104 10 (.slice Ax rows.length cx) rows.length (rows.flatMap (fc stepK)))
        case first =>
          obtain ⟨⟨v6, hkb, hvb, hvl⟩, hby6, hl6⟩ := id GX.out.ts
          obtain ⟨A6, c6, rfl, hc6, -⟩ := id hvb
          obtain ⟨m6, hm6⟩ : ∃ m, m = r'.length := ⟨_, rfl⟩
          have t0 := hkb.cell 0
          have t1 := hkb.cell 1
          simp only [List.getElem?_toArray, List.getElem?_cons_zero, List.getElem?_cons_succ, ← hm6] at t0 t1
          rw [← hm6] at hlm
          have hwl : IntKind.u64.wrap (m6 : Int) = m6 := IntWalk.u64_in _ (by omega)
          have hnm : m ≤ m6 := by omega
          have hnc : m ≤ c6 := by omega
          have hn1 : (0 : Int) ≤ m := by omega
          have hn2 : (m : Int) ≤ m6 := by omega
          have hn3 : (m : Int) ≤ c6 := by omega
          have hmc : (m6 : Int) ≤ c6 := by omega
          have hnz : m6 ≤ 4611686018427387904 := by omega
          have fz := hkb.free
          obtain ⟨u, hu⟩ : ∃ u, u = Value.slice (if c6 = m then A6 else Option.map (fun x => x.add m) A6) (m6 - m) (c6 - m) := ⟨_, rfl⟩
          have hbu : Bs wc u (r'.drop m) := by
            have hrest := hvb.rest m (by omega)
            rw [← hm6] at hrest
            rcases hrest with ⟨q1, q2⟩ | ⟨q1, g, o, rfl, q2⟩
            · rw [hu, show m6 - m = 0 by omega]
              exact q2 _ _
            · rw [hu, if_neg (by omega), Option.map_some, Addr.add_lit]
              exact q2
          have hou : (r'.drop m).length = 0 ∨ ∀ k, u.ownBlock = some k → k < w.heap.size + 1 := by
            have hrest := hvb.rest m (by omega)
            rw [← hm6] at hrest
            rcases hrest with ⟨q1, q2⟩ | ⟨q1, g, o, rfl, q2⟩
            · left; rw [List.length_drop]; omega
            · right
              intro k hk
              rcases hvl with h | h
              · omega
              · exact h k (by rw [hu, if_neg (by omega), Option.map_some, Addr.add_lit] at hk; simpa [Value.ownBlock] using hk)
          have F := Lib.hid (show Gd w (wc.setCell ⟨w.heap.size + 1, 0, none⟩ u) p #[.int .i64 3, .int .u8 x1, .int .u8 x2, .int .u64 x3, .int .u64 x4, .int .u64 x5, .int .u64 x6, .bool false, .slice Ae j ce, .slice none 0 0, .int .u8 0, .int .u64 0, .slice none 0 0, .int .i64 0, .int .i64 0, .int .i64 0, .slice none 0 0] (.ok (r'.drop m)) ∧ EsO (wc.setCell ⟨w.heap.size + 1, 0, none⟩ u) es (.slice Ae j ce) ∧ Blk (wc.setCell ⟨w.heap.size + 1, 0, none⟩ u) q 63 #[.int .u64 z0, .int .u64 z1, .int .u8 z2, .int .u64 z3, .slice Ax rows.length cx] ∧ Ow 0 (wc.setCell ⟨w.heap.size + 1, 0, none⟩ u) 104 10 (.slice Ax rows.length cx) rows.length (rows.flatMap (fc stepK)) from
            ⟨⟨Ts.store hkb hbu (fun c hc => hby6 c (List.mem_of_mem_drop hc)) (by rw [List.length_drop]; omega) hou, GX.out.res.far (p := ⟨w.heap.size + 1, 0, none⟩) (by simp) u, GX.out.lt.far (p := ⟨w.heap.size + 1, 0, none⟩) (by have := GX.out.hp; simp; omega) u, GX.out.hp, GX.out.bel.setCell (p := ⟨w.heap.size + 1, 0, none⟩) (by simp) u⟩,
              EY.out.aside hkb (by decide) (by decide) 0 u, KQ.out.far (p := ⟨w.heap.size + 1, 0, none⟩) (by have := KQ.out.ne_ hkb (by decide); simpa using this) u, OQ.out.aside hkb (by decide) 0 u⟩)
          have U := Lib.hid hu
          clear hkb hvb hvl hby6 hl6 hm6 hc6 hlm hbu hou hu GX EY KQ OQ
          by_cases hcm : c6 = m
          · have U2 := Lib.hid (show u = .slice A6 (m6 - m) 0 from by rw [U.out, if_pos hcm, hcm, Nat.sub_self])
            go_upto_region 31 with fail
            go_meet
            rw [← U2.out]
            exact F.out
          · have U2 := Lib.hid (show u = .slice (Option.map (fun x => x.add m) A6) (m6 - m) (c6 - m) from by rw [U.out, if_neg hcm])
            go_upto_region 31 with fail
            go_meet
            rw [← U2.out]
            exact F.out
        case rest =>
        obtain ⟨gx, ey, kq, oq⟩ := hcut
        clear GX EY KQ OQ
        have d0 := kq.cell 0
        have d1 := kq.cell 1
        have d2 := kq.cell 2
        have d3 := kq.cell 3
        have d4 := kq.cell 4
        have d8 := gx.lt.cell 8
        obtain ⟨nr, hnr⟩ : ∃ n, n = rows.length := ⟨_, rfl⟩
        simp only [List.getElem?_toArray, List.getElem?_cons_zero, List.getElem?_cons_succ, ← hnr] at d0 d1 d2 d3 d4 d8
        have NR := Lib.hid hnr
        rw [← hnr] at oq
        obtain ⟨ss, q1, q2, q3⟩ := id ey
        have ba := below_alloc_ wc (.cells #[.int .u64 z0, .int .u64 z1, .int .u8 z2, .int .u64 z3, .slice Ax nr cx] 63)
        rw [EL.out] at q1 q2
        have QO := Lib.hid (q2.below ba)
        have Q1 := Lib.hid q1
        have Q3 := Lib.hid (fun (i : Nat) (a : i < es.length) (b : i < ss.length) => (q3 i a b).below ba)
        have OQ := Lib.hid (oq.below ba)
        have GZ := Lib.hid (gx.below ba)
        have hj8 : j ≤ 8 := by omega
        have hwj : IntKind.u64.wrap ((j : Int) + 1) = (j : Int) + 1 := IntWalk.u64_in _ (by omega)
        clear gx ey kq oq q1 q2 q3 ba hnr
        go_wp2_with (at_builtin; go_must (refine wpList_ow_rows (n := j) (m := 1) rfl _ _ 24 63 _ 5 56 rfl Tryz.underlying24 entry_nf rfl (by decide) rfl QO.out (Nat.zero_le _) (Rd.lits wc 63 5 1 [.int .u64 z0, .int .u64 z1, .int .u8 z2, .int .u64 z3, .slice Ax nr cx] rfl) (by simp [Value.oneCell']) rfl (by omega) (by unfold maxLen; omega) ?_); intro v9 w9 ho9 hg9; obtain ⟨A9, c9, rfl⟩ := ho9.sl_; have g9 := GZ.out.grew QO.out hg9 (by decide) (by decide) (.inr OB.out); have fl := g9.lt.free; have e8 := g9.lt.cell 8; simp only [List.getElem?_toArray, List.getElem?_cons_zero, List.getElem?_cons_succ] at e8; have HG := Lib.hid hg9; have HO := Lib.hid ho9; have G9 := Lib.hid g9; clear ho9 hg9 g9 d0 d1 d2 d3 d4 d8)
        go_roundg (n - (j + 1))
        case measure => have := G.out; omega
        case rel =>
          refine ⟨j + 1, bq, .ok (r'.drop m), es ++ [([z0, z1, z2, z3], rows)], A9, c9, by omega, rfl, rfl, by go_num, G9.out.set 8 (.slice A9 (j + 1) c9) (by simp), ?_, by simp [EL.out], ?_, RN.out⟩
          · refine EsO.aside ?_ G9.out.lt (by decide) (by decide) 8 _
            refine EsO.snoc (ss := ss) (s := .slice Ax nr cx) (by rw [EL.out]; exact Q1.out) (by rw [EL.out]; exact QO.out) Q3.out HG.out (by rw [EL.out]; exact HO.out) ?_
            show Ow 0 _ 104 10 _ rows.length _
            rw [← NR.out]
            exact OQ.out
          · intro k0 hk0
            rcases HG.out.2 with h | h
            · exact OB.out k0 (h ▸ hk0)
            · have h1 := h k0 hk0
              have h2 := GZ.out.ts.lt
              have h3 := GZ.out.hp
              have h4 := GZ.out.lt.lt
              omega
      · have hno := RR.out.trans ((congrArg (fun q => rEnts q es (.ok r) false) hk).trans (rEnts_no hm hgood))
        rw [RE.out] at hno
        cases hno
end Go.Proofs.YthjdkjinkmdclaaGreat
