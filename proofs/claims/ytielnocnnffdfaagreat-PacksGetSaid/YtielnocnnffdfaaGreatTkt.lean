/- The document's taker: a state. -/
import Derived.Test.YtielnocnnffdfaaGreatTkc
import Derived.Test.YtielnocnnffdfaaGreatJpc
import Derived.Deep.RegionLaw
namespace Go.Proofs.YtielnocnnffdfaaGreat
open Go.RowKit

set_option maxHeartbeats 16000000 in
set_option maxRecDepth 100000 in
theorem tstate_at (t : Nat) (s s1 s2 s3 s4 : TS) (r0 r1 r2 : List (List Int)) (x3 : Int) (w : World) (h : Ts w t s) (h1 : rdL partyK 16 s = (r0, s1)) (h2 : rdL lineK 64 s1 = (r1, s2)) (h3 : rdL offerK 32 s2 = (r2, s3)) (h4 : rd1 .u64 s3 = (x3, s4)) :
    Calls Tryz.prog 46 #[.pointer (some ⟨t, 0, none⟩)] w fun e w' => ∃ E0 d0 E1 d1 E2 d2, e = .returned (.agg #[.slice E0 r0.length d0, .slice E1 r1.length d1, .slice E2 r2.length d2, .int .u64 x3]) ∧ (Ow w.heap.size w' 86 1 (.slice E0 r0.length d0) r0.length (r0.flatMap (fc partyK)) ∧ Ow w.heap.size w' 120 5 (.slice E1 r1.length d1) r1.length (r1.flatMap (fc lineK)) ∧ Ow w.heap.size w' 124 7 (.slice E2 r2.length d2) r2.length (r2.flatMap (fc offerK))) ∧ Ts w' t s4 ∧ w.grownBy w' (some t) := by
  have hlt := h.lt
  have b2 := below_alloc2_ w (.cells #[.slice none 0 0, .slice none 0 0, .slice none 0 0, .int .u64 0] 53) (.cells #[.slice none 0 0, .slice none 0 0, .slice none 0 0, .int .u64 0] 53)
  have k0 := (Blk.new w 53 #[.slice none 0 0, .slice none 0 0, .slice none 0 0, .int .u64 0]).alloc (.cells #[.slice none 0 0, .slice none 0 0, .slice none 0 0, .int .u64 0] 53)
  have k1 := Blk.new (w.alloc (.cells #[.slice none 0 0, .slice none 0 0, .slice none 0 0, .int .u64 0] 53)) 53 #[.slice none 0 0, .slice none 0 0, .slice none 0 0, .int .u64 0]
  rw [World.size_alloc] at k1
  have T0 := Lib.hid (h.below b2)
  have KC0 := Lib.hid k1
  have K20 := Lib.hid k0
  have G0 := Lib.hid (grown_below_ b2 (some t))
  obtain ⟨na, qa, hM0⟩ : ∃ n s3, rdM 16 s = (n, s3) := ⟨_, _, rfl⟩
  have hn0 := rdM_le 16 s
  rw [hM0] at hn0
  simp only at hn0
  have hL0 : rdN partyK na qa = (r0, s1) := by rw [← h1]; unfold rdL; rw [hM0]
  have HL0 := Lib.hid hL0
  have HM0 := Lib.hid hM0
  have hn0' : (na : Int) ≤ 16 := by omega
  obtain ⟨nb, qb, hM1⟩ : ∃ n s3, rdM 64 s1 = (n, s3) := ⟨_, _, rfl⟩
  have hn1 := rdM_le 64 s1
  rw [hM1] at hn1
  simp only at hn1
  have hL1 : rdN lineK nb qb = (r1, s2) := by rw [← h2]; unfold rdL; rw [hM1]
  have HL1 := Lib.hid hL1
  have HM1 := Lib.hid hM1
  have hn1' : (nb : Int) ≤ 64 := by omega
  obtain ⟨nc, qc, hM2⟩ : ∃ n s3, rdM 32 s2 = (n, s3) := ⟨_, _, rfl⟩
  have hn2 := rdM_le 32 s2
  rw [hM2] at hn2
  simp only at hn2
  have hL2 : rdN offerK nc qc = (r2, s3) := by rw [← h3]; unfold rdL; rw [hM2]
  have HL2 := Lib.hid hL2
  have HM2 := Lib.hid hM2
  have hn2' : (nc : Int) ≤ 32 := by omega
  have H4 := Lib.hid h4
  clear h b2 k0 k1 h1 h2 h3 h4 hM0 hM1 hM2 hL0 hL1 hL2
  go_enter Tryz.func46, Tryz.ntmps46
  go_wp2_with fail
  refine (many_at t 16 s qa na _ T0.out (by decide) HM0.out).mono ?_
  rintro e w1a ⟨rfl, ht, hg⟩
  have Ta := Lib.hid ht
  have KCa := Lib.hid (KC0.out.grown hg (fun e => by have := Option.some.inj e; omega))
  have K2a := Lib.hid (K20.out.grown hg (fun e => by have := Option.some.inj e; omega))
  have Ga := Lib.hid (grown_trans_ G0.out hg)
  clear ht hg T0 KC0 K20 G0
  go_wp2_with fail
  go_loopg [5] na (fun q ci wr => ∃ (j : Nat) (done : List (List Int)) (sj : TS) (v : Value), j ≤ na ∧ q = na - j ∧ ci = .int .i64 j ∧ done.length = j ∧ rdN partyK na qa = (done ++ (rdN partyK (na - j) sj).1, (rdN partyK (na - j) sj).2) ∧ Ts wr t sj ∧ Blk wr (w.heap.size + 1) 53 #[v, .slice none 0 0, .slice none 0 0, .int .u64 0] ∧ Blk wr w.heap.size 53 #[.slice none 0 0, .slice none 0 0, .slice none 0 0, .int .u64 0] ∧ Ow w.heap.size wr 86 1 v j (done.flatMap (fc partyK)) ∧ w.grownBy wr (some t))
  case atStart => exact ⟨0, [], qa, .slice none 0 0, Nat.zero_le _, rfl, rfl, rfl, by simp, Ta.out, KCa.out, K2a.out, .inl ⟨rfl, rfl, rfl⟩, Ga.out⟩
  case round =>
    obtain ⟨j, done, sj, v, hj, hq, rfl, hdl, hrep, hT, hKC, hK2, hO, hG⟩ := hrel
    have HQ := Lib.hid hq
    have DL := Lib.hid hdl
    have RP := Lib.hid hrep
    have HT := Lib.hid hT
    have HKC := Lib.hid hKC
    have HK2 := Lib.hid hK2
    have HO := Lib.hid hO
    have HG := Lib.hid hG
    obtain ⟨ee, hee, he0, he1⟩ := hT.errno
    obtain ⟨Av, cv, rfl⟩ := hO.sl_
    have HE0 := Lib.hid he0
    have HE1 := Lib.hid he1
    have hwr : w.heap.size ≤ wr.heap.size := hG.size
    clear hq hdl hrep hT hKC hK2 hO hG he0 he1
    go_upto_region 4 with fail
    go_cut [21] (fun sb wx => sb = .bool (decide (j < na ∧ ee = 0)) ∧ wx = wr)
    case first =>
      by_cases hjn : j < na
      · have hjn' : (j : Int) < na := by omega
        by_cases hek : ee = 0
        · have b1 : (ee == 0) = true := by rw [hek]; rfl
          have HEK := Lib.hid hek
          clear hek
          go_wp2
          go_meet
          exact ⟨by simp [hjn, HEK.out], rfl⟩
        · have b1 : (ee == 0) = false := beq_eq_false_iff_ne.2 hek
          have HEK := Lib.hid hek
          clear hek
          go_wp2
          go_meet
          exact ⟨by simp [HEK.out], rfl⟩
      · have hjn' : ¬ (j : Int) < na := by omega
        go_wp2
        go_meet
        exact ⟨by simp [hjn], rfl⟩
    case rest =>
    obtain ⟨rfl, rfl⟩ := hcut
    by_cases hgo : j < na ∧ ee = 0
    · rw [decide_eq_true hgo]
      obtain ⟨hjn, hek⟩ := hgo
      have hjn' : (j : Int) < na := by omega
      obtain ⟨xs, rfl⟩ : ∃ xs, sj = .ok xs := by
        match sj, HE1 with
        | .ok xs, _ => exact ⟨xs, rfl⟩
        | .error q, HE1 => exact absurd hek (HE1.out q rfl).2
      have SP := Lib.hid (show rdN partyK (na - j) (.ok xs) = ((rdF partyK (.ok xs)).1 :: (rdN partyK (na - (j + 1)) (rdF partyK (.ok xs)).2).1, (rdN partyK (na - (j + 1)) (rdF partyK (.ok xs)).2).2) by rw [show na - j = na - (j + 1) + 1 from by omega]; rfl)
      clear hek hee
      obtain ⟨x0, sa_1, hr0⟩ : ∃ a b, rd1 .u8 (.ok xs) = (a, b) := ⟨_, _, rfl⟩
      have R0 := Lib.hid hr0
      have RF := Lib.hid (show rdF partyK (.ok xs) = ([x0], sa_1) by simp only [partyK, rdF, hr0])
      clear hr0
      have KS : ∀ X, wc.grownBy X (some t) → X.cell? ⟨w.heap.size + 1, 0, none⟩ = some (.slice Av j cv) := fun X hg => ((HKC.out.grown hg (fun e => by have := Option.some.inj e; omega)).cell 0).trans rfl
      have HKS := Lib.hid KS
      clear KS
      go_upto_region 6 with fail
      have GD := Lib.hid (show wc.grownBy wc.drew (some t) from grown_below_ (Below.refl wc.heap.size wc).drew _)
      have TD := Lib.hid (show Ts wc.drew t (.ok xs) from HT.out)
      have zw := (HKC.out.cell 0)
      simp only [List.getElem?_toArray, List.getElem?_cons_zero, List.getElem?_cons_succ] at zw
      go_region_law (first
         | (refine step_ow_rows (n := j) (m := 1) rfl _ _ 46 86 (.int .u8 0) 1 1 rfl Tryz.underlying46 party_info rfl (by decide) rfl (OX.out.below (below_alloc_ X (.cells #[.int .u8 x0] 86))) hXA (Rd.lits X 86 1 1 [.int .u8 x0] rfl) (by simp [Value.oneCell']) rfl (by omega) (by unfold maxLen; omega) ?_; intro v3 w30 hO3 hg3; obtain ⟨A3, c3, rfl⟩ := hO3.sl_; have kc3 := (KCX.out.alloc (.cells #[.int .u8 x0] 86)).grown hg3.1 (fun e => Ow.notat OX.out KCX.out (by decide) e.symm); have f30 := kc3.free; have z30 := kc3.cell 0; simp only [List.getElem?_toArray, List.getElem?_cons_zero, List.getElem?_cons_succ] at z30; have KC3 := Lib.hid kc3; have O3 := Lib.hid hO3; have G3 := Lib.hid hg3; clear kc3 hO3 hg3)
         | (go_simp; go_at_call 58; refine (rd_u8 t (.ok xs) sa_1 x0 _ TD.out R0.out).mono ?_; rintro e X ⟨rfl, ht, hg⟩; have TX := Lib.hid ht; have GX := Lib.hid (grown_trans_ GD.out hg); have GA := Lib.hid (grown_trans_ GX.out (grown_below_ (below_alloc_ X (.cells #[.int .u8 x0] 86)) (some t))); have KCX := Lib.hid (HKC.out.grown GX.out (fun e => by have := Option.some.inj e; omega)); have K2X := Lib.hid (HK2.out.grown GX.out (fun e => by have := Option.some.inj e; omega)); have OX := Lib.hid (ow_grown_ HO.out GX.out (fun k e => by have := Option.some.inj e; omega)); have hXA : w.heap.size ≤ (X.alloc (.cells #[.int .u8 x0] 86)).heap.size := (by have := GX.out.size; simp; omega); have zX := KCX.out.cell 0; have zA := (KCX.out.alloc (.cells #[.int .u8 x0] 86)).cell 0; simp only [List.getElem?_toArray, List.getElem?_cons_zero, List.getElem?_cons_succ] at zX zA; clear ht hg))
      all_goals
        go_simp
        go_wp2
        go_roundg (na - (j + 1))
        case measure => have := HQ.out; omega
        case rel =>
          refine ⟨j + 1, done ++ [[x0]], sa_1, .slice A3 (j + 1) c3, by omega, rfl, by go_num, by simp [DL.out], ?_, ?_, ?_, ?_, ?_, ?_⟩
          · rw [RP.out, SP.out, RF.out]
            simp
          · exact ((TX.out.below (below_alloc_ X (.cells #[.int .u8 x0] 86))).grown G3.out.1 (fun k e => by have := Ow.blk_lt OX.out k e; omega)).grown (grown_set_ _ (w.heap.size + 1) 0 _) (fun k e => by have := Option.some.inj e; omega)
          · have := KC3.out.set_ 0 (.slice A3 (j + 1) c3)
            simpa using this
          · exact ((K2X.out.alloc (.cells #[.int .u8 x0] 86)).grown G3.out.1 (fun e => Ow.notat OX.out K2X.out (by decide) e.symm)).far (p := ⟨w.heap.size + 1, 0, none⟩) (by simp) _
          · have := Ow.aside O3.out KC3.out (by decide) 0 (.slice A3 (j + 1) c3)
            rw [List.flatMap_append]
            simpa [partyK, fc] using this
          · exact grown_far_ (grown_grew (grown_trans_ HG.out GA.out) (OX.out.below (below_alloc_ X (.cells #[.int .u8 x0] 86))) G3.out (Nat.le_refl _)) (p := ⟨w.heap.size + 1, 0, none⟩) (by simp) _
    · rw [decide_eq_false hgo]
      have hend : rdN partyK (na - j) sj = ([], sj) := by
        match sj, HE0 with
        | .error q, _ => exact rdN_err _ _ _
        | .ok xs, HE0 =>
          have h0 := HE0.out xs rfl
          rw [show na - j = 0 from by omega]
          rfl
      have RN := Lib.hid (show rdN partyK na qa = (done, sj) by rw [RP.out, hend]; simp)
      clear hend hgo hee
      have hrows : done = r0 ∧ sj = s1 := by
        have h1 := RN.out
        rw [HL0.out] at h1
        injection h1 with h1 h2
        exact ⟨h1.symm, h2.symm⟩
      have hdl := DL.out
      obtain ⟨E0, d0, hO0, hC0⟩ : ∃ E0 d0, Ow w.heap.size wc 86 1 (.slice E0 r0.length d0) r0.length (r0.flatMap (fc partyK)) ∧ Blk wc (w.heap.size + 1) 53 #[.slice E0 r0.length d0, .slice none 0 0, .slice none 0 0, .int .u64 0] := by
        refine ⟨Av, cv, ?_, ?_⟩
        · rw [← hrows.1, hdl]; exact HO.out
        · rw [← hrows.1, hdl]; exact HKC.out
      have O0x := Lib.hid hO0
      have KCx := Lib.hid hC0
      have K2x := Lib.hid HK2.out
      have Gx := Lib.hid HG.out
      have Tx := Lib.hid (show Ts wc t s1 from hrows.2 ▸ HT.out)
      clear hO0 hC0 hrows hdl HQ DL RP HT HKC HK2 HO HG HE0 HE1 RN Ta KCa K2a Ga
      go_wp2_with fail
      refine (many_at t 64 s1 qb nb _ Tx.out (by decide) HM1.out).mono ?_
      rintro e w1b ⟨rfl, ht, hg⟩
      have Tb := Lib.hid ht
      have KCb := Lib.hid (KCx.out.grown hg (fun e => by have := Option.some.inj e; omega))
      have K2b := Lib.hid (K2x.out.grown hg (fun e => by have := Option.some.inj e; omega))
      have Gb := Lib.hid (grown_trans_ Gx.out hg)
      have O0b := Lib.hid (ow_grown_ O0x.out hg (fun k e => by have := Option.some.inj e; omega))
      clear ht hg Tx KCx K2x Gx
      go_wp2_with fail
      go_loopg [6] nb (fun q ci wr => ∃ (j : Nat) (done : List (List Int)) (sj : TS) (v : Value), j ≤ nb ∧ q = nb - j ∧ ci = .int .i64 j ∧ done.length = j ∧ rdN lineK nb qb = (done ++ (rdN lineK (nb - j) sj).1, (rdN lineK (nb - j) sj).2) ∧ Ts wr t sj ∧ Blk wr (w.heap.size + 1) 53 #[.slice E0 r0.length d0, v, .slice none 0 0, .int .u64 0] ∧ Blk wr w.heap.size 53 #[.slice none 0 0, .slice none 0 0, .slice none 0 0, .int .u64 0] ∧ Ow w.heap.size wr 120 5 v j (done.flatMap (fc lineK)) ∧ w.grownBy wr (some t) ∧ Ow w.heap.size wr 86 1 (.slice E0 r0.length d0) r0.length (r0.flatMap (fc partyK)))
      case atStart => exact ⟨0, [], qb, .slice none 0 0, Nat.zero_le _, rfl, rfl, rfl, by simp, Tb.out, KCb.out, K2b.out, .inl ⟨rfl, rfl, rfl⟩, Gb.out, O0b.out⟩
      case round =>
        obtain ⟨j, done, sj, v, hj, hq, rfl, hdl, hrep, hT, hKC, hK2, hO, hG, hO0⟩ := hrel
        have HQ := Lib.hid hq
        have DL := Lib.hid hdl
        have RP := Lib.hid hrep
        have HT := Lib.hid hT
        have HKC := Lib.hid hKC
        have HK2 := Lib.hid hK2
        have HO := Lib.hid hO
        have HG := Lib.hid hG
        have HO0 := Lib.hid hO0
        obtain ⟨ee, hee, he0, he1⟩ := hT.errno
        obtain ⟨Av, cv, rfl⟩ := hO.sl_
        have HE0 := Lib.hid he0
        have HE1 := Lib.hid he1
        have hwr : w.heap.size ≤ wr.heap.size := hG.size
        clear hq hdl hrep hT hKC hK2 hO hG he0 he1 hO0
        go_upto_region 9 with fail
        go_cut [42] (fun sb wx => sb = .bool (decide (j < nb ∧ ee = 0)) ∧ wx = wr)
        case first =>
          by_cases hjn : j < nb
          · have hjn' : (j : Int) < nb := by omega
            by_cases hek : ee = 0
            · have b1 : (ee == 0) = true := by rw [hek]; rfl
              have HEK := Lib.hid hek
              clear hek
              go_wp2
              go_meet
              exact ⟨by simp [hjn, HEK.out], rfl⟩
            · have b1 : (ee == 0) = false := beq_eq_false_iff_ne.2 hek
              have HEK := Lib.hid hek
              clear hek
              go_wp2
              go_meet
              exact ⟨by simp [HEK.out], rfl⟩
          · have hjn' : ¬ (j : Int) < nb := by omega
            go_wp2
            go_meet
            exact ⟨by simp [hjn], rfl⟩
        case rest =>
        obtain ⟨rfl, rfl⟩ := hcut
        by_cases hgo : j < nb ∧ ee = 0
        · rw [decide_eq_true hgo]
          obtain ⟨hjn, hek⟩ := hgo
          have hjn' : (j : Int) < nb := by omega
          obtain ⟨xs, rfl⟩ : ∃ xs, sj = .ok xs := by
            match sj, HE1 with
            | .ok xs, _ => exact ⟨xs, rfl⟩
            | .error q, HE1 => exact absurd hek (HE1.out q rfl).2
          have SP := Lib.hid (show rdN lineK (nb - j) (.ok xs) = ((rdF lineK (.ok xs)).1 :: (rdN lineK (nb - (j + 1)) (rdF lineK (.ok xs)).2).1, (rdN lineK (nb - (j + 1)) (rdF lineK (.ok xs)).2).2) by rw [show nb - j = nb - (j + 1) + 1 from by omega]; rfl)
          clear hek hee
          obtain ⟨x0, sb_1, hr0⟩ : ∃ a b, rd1 .u8 (.ok xs) = (a, b) := ⟨_, _, rfl⟩
          have R0 := Lib.hid hr0
          obtain ⟨x1, sb_2, hr1⟩ : ∃ a b, rd1 .u8 sb_1 = (a, b) := ⟨_, _, rfl⟩
          have R1 := Lib.hid hr1
          obtain ⟨x2, sb_3, hr2⟩ : ∃ a b, rd1 .u8 sb_2 = (a, b) := ⟨_, _, rfl⟩
          have R2 := Lib.hid hr2
          obtain ⟨x3, sb_4, hr3⟩ : ∃ a b, rd1 .i64 sb_3 = (a, b) := ⟨_, _, rfl⟩
          have R3 := Lib.hid hr3
          obtain ⟨x4, sb_5, hr4⟩ : ∃ a b, rd1 .i64 sb_4 = (a, b) := ⟨_, _, rfl⟩
          have R4 := Lib.hid hr4
          have RF := Lib.hid (show rdF lineK (.ok xs) = ([x0, x1, x2, x3, x4], sb_5) by simp only [lineK, rdF, hr0, hr1, hr2, hr3, hr4])
          clear hr0 hr1 hr2 hr3 hr4
          have bk := Blk.new wc 120 #[.int .u8 0, .int .u8 0, .int .u8 0, .int .i64 0, .int .i64 0]
          have B0 := Lib.hid bk
          have TT0 := Lib.hid (HT.out.below (below_alloc_ wc (.cells #[.int .u8 0, .int .u8 0, .int .u8 0, .int .i64 0, .int .i64 0] 120)))
          have GG0 := Lib.hid (grown_below_ (below_alloc_ wc (.cells #[.int .u8 0, .int .u8 0, .int .u8 0, .int .i64 0, .int .i64 0] 120)) (some t))
          have htl : t < wc.heap.size := HT.out.lt
          clear bk
          go_wp2_with fail
          refine (rd_u8 t (.ok xs) sb_1 x0 _ TT0.out R0.out).mono ?_
          rintro e w1 ⟨rfl, ht, hg⟩
          have bk := B0.out.grown hg (fun e => by have := Option.some.inj e; omega)
          have f1 := bk.free
          have z1 := bk.cell 0
          simp only [List.getElem?_toArray, List.getElem?_cons_zero, List.getElem?_cons_succ] at z1
          have B1 := Lib.hid (show Blk (w1.setCell ⟨wc.heap.size, 0, none⟩ (.int .u8 x0)) wc.heap.size 120 #[.int .u8 x0, .int .u8 0, .int .u8 0, .int .i64 0, .int .i64 0] from by have := bk.set_ 0 (.int .u8 x0); simpa using this)
          have TT1 := Lib.hid (ht.grown (grown_set_ w1 wc.heap.size 0 (.int .u8 x0)) (fun k e => by have := Option.some.inj e; omega))
          have GG1 := Lib.hid (grown_far_ (grown_trans_ GG0.out hg) (p := ⟨wc.heap.size, 0, none⟩) (Nat.le_refl _) (.int .u8 x0))
          clear ht hg bk
          go_wp2_with fail
          refine (rd_u8 t sb_1 sb_2 x1 _ TT1.out R1.out).mono ?_
          rintro e w2 ⟨rfl, ht, hg⟩
          have bk := B1.out.grown hg (fun e => by have := Option.some.inj e; omega)
          have f2 := bk.free
          have z2 := bk.cell 1
          simp only [List.getElem?_toArray, List.getElem?_cons_zero, List.getElem?_cons_succ] at z2
          have B2 := Lib.hid (show Blk (w2.setCell ⟨wc.heap.size, 1, none⟩ (.int .u8 x1)) wc.heap.size 120 #[.int .u8 x0, .int .u8 x1, .int .u8 0, .int .i64 0, .int .i64 0] from by have := bk.set_ 1 (.int .u8 x1); simpa using this)
          have TT2 := Lib.hid (ht.grown (grown_set_ w2 wc.heap.size 1 (.int .u8 x1)) (fun k e => by have := Option.some.inj e; omega))
          have GG2 := Lib.hid (grown_far_ (grown_trans_ GG1.out hg) (p := ⟨wc.heap.size, 1, none⟩) (Nat.le_refl _) (.int .u8 x1))
          clear ht hg bk
          clear f1 z1
          go_wp2_with fail
          refine (rd_u8 t sb_2 sb_3 x2 _ TT2.out R2.out).mono ?_
          rintro e w3 ⟨rfl, ht, hg⟩
          have bk := B2.out.grown hg (fun e => by have := Option.some.inj e; omega)
          have f3 := bk.free
          have z3 := bk.cell 2
          simp only [List.getElem?_toArray, List.getElem?_cons_zero, List.getElem?_cons_succ] at z3
          have B3 := Lib.hid (show Blk (w3.setCell ⟨wc.heap.size, 2, none⟩ (.int .u8 x2)) wc.heap.size 120 #[.int .u8 x0, .int .u8 x1, .int .u8 x2, .int .i64 0, .int .i64 0] from by have := bk.set_ 2 (.int .u8 x2); simpa using this)
          have TT3 := Lib.hid (ht.grown (grown_set_ w3 wc.heap.size 2 (.int .u8 x2)) (fun k e => by have := Option.some.inj e; omega))
          have GG3 := Lib.hid (grown_far_ (grown_trans_ GG2.out hg) (p := ⟨wc.heap.size, 2, none⟩) (Nat.le_refl _) (.int .u8 x2))
          clear ht hg bk
          clear f2 z2
          go_wp2_with fail
          refine (rd_i64 t sb_3 sb_4 x3 _ TT3.out R3.out).mono ?_
          rintro e w4 ⟨rfl, ht, hg⟩
          have bk := B3.out.grown hg (fun e => by have := Option.some.inj e; omega)
          have f4 := bk.free
          have z4 := bk.cell 3
          simp only [List.getElem?_toArray, List.getElem?_cons_zero, List.getElem?_cons_succ] at z4
          have B4 := Lib.hid (show Blk (w4.setCell ⟨wc.heap.size, 3, none⟩ (.int .i64 x3)) wc.heap.size 120 #[.int .u8 x0, .int .u8 x1, .int .u8 x2, .int .i64 x3, .int .i64 0] from by have := bk.set_ 3 (.int .i64 x3); simpa using this)
          have TT4 := Lib.hid (ht.grown (grown_set_ w4 wc.heap.size 3 (.int .i64 x3)) (fun k e => by have := Option.some.inj e; omega))
          have GG4 := Lib.hid (grown_far_ (grown_trans_ GG3.out hg) (p := ⟨wc.heap.size, 3, none⟩) (Nat.le_refl _) (.int .i64 x3))
          clear ht hg bk
          clear f3 z3
          go_wp2_with fail
          refine (rd_i64 t sb_4 sb_5 x4 _ TT4.out R4.out).mono ?_
          rintro e w5 ⟨rfl, ht, hg⟩
          have bk := B4.out.grown hg (fun e => by have := Option.some.inj e; omega)
          have f5 := bk.free
          have z5 := bk.cell 4
          simp only [List.getElem?_toArray, List.getElem?_cons_zero, List.getElem?_cons_succ] at z5
          have B5 := Lib.hid (show Blk (w5.setCell ⟨wc.heap.size, 4, none⟩ (.int .i64 x4)) wc.heap.size 120 #[.int .u8 x0, .int .u8 x1, .int .u8 x2, .int .i64 x3, .int .i64 x4] from by have := bk.set_ 4 (.int .i64 x4); simpa using this)
          have TT5 := Lib.hid (ht.grown (grown_set_ w5 wc.heap.size 4 (.int .i64 x4)) (fun k e => by have := Option.some.inj e; omega))
          have GG5 := Lib.hid (grown_far_ (grown_trans_ GG4.out hg) (p := ⟨wc.heap.size, 4, none⟩) (Nat.le_refl _) (.int .i64 x4))
          clear ht hg bk
          clear f4 z4
          go_upto_region 17 with fail
          clear f5 z5
          obtain ⟨X, hX⟩ : ∃ X, X = (w5.setCell ⟨wc.heap.size, 4, none⟩ (.int .i64 x4)) := ⟨_, rfl⟩
          rw [← hX] at B5 TT5 GG5
          rw [← hX]
          clear hX
          have BX := Lib.hid B5.out
          have TX := Lib.hid TT5.out
          have GX := Lib.hid GG5.out
          clear B5 TT5 GG5
          have bx := BX.out
          have y0 := bx.cell 0
          have y1 := bx.cell 1
          have y2 := bx.cell 2
          have y3 := bx.cell 3
          have y4 := bx.cell 4
          simp only [List.getElem?_toArray, List.getElem?_cons_zero, List.getElem?_cons_succ] at y0 y1 y2 y3 y4
          have kcx := HKC.out.grown GX.out (fun e => by have := Option.some.inj e; omega)
          have fx := kcx.free
          have zx := kcx.cell 1
          simp only [List.getElem?_toArray, List.getElem?_cons_zero, List.getElem?_cons_succ] at zx
          have KCX := Lib.hid kcx
          have K2X := Lib.hid (HK2.out.grown GX.out (fun e => by have := Option.some.inj e; omega))
          have OX := Lib.hid (ow_grown_ HO.out GX.out (fun k e => by have := Option.some.inj e; omega))
          clear kcx
          have O0X := Lib.hid (ow_grown_ HO0.out GX.out (fun k e => by have := Option.some.inj e; omega))
          have hWX : w.heap.size ≤ X.heap.size := Nat.le_trans hwr GX.out.size
          go_wp2_with (at_builtin; go_must (refine wpList_ow rfl _ _ 47 120 (.agg #[.int .u8 0, .int .u8 0, .int .u8 0, .int .i64 0, .int .i64 0]) 5 24 rfl Tryz.underlying47 line_info rfl (by decide) rfl #[.int .u8 x0, .int .u8 x1, .int .u8 x2, .int .i64 x3, .int .i64 x4] OX.out hWX rfl (by simp [Value.oneCell']) rfl (by omega) (by unfold maxLen; omega) ?_); intro v3 w30 hO3 hg3; obtain ⟨A3, c3, rfl⟩ := hO3.sl_; have kc3 := KCX.out.grown hg3.1 (fun e => Ow.notat OX.out KCX.out (by decide) e.symm); have f30 := kc3.free; have z30 := kc3.cell 1; simp only [List.getElem?_toArray, List.getElem?_cons_zero, List.getElem?_cons_succ] at z30; have KC3 := Lib.hid kc3; have O3 := Lib.hid hO3; have G3 := Lib.hid hg3; clear kc3 hO3 hg3)
          go_roundg (nb - (j + 1))
          case measure => have := HQ.out; omega
          case rel =>
            refine ⟨j + 1, done ++ [[x0, x1, x2, x3, x4]], sb_5, .slice A3 (j + 1) c3, by omega, rfl, by go_num, by simp [DL.out], ?_, ?_, ?_, ?_, ?_, ?_, ?_⟩
            · rw [RP.out, SP.out, RF.out]
              simp
            · exact (TX.out.grown G3.out.1 (fun k e => by have := Ow.blk_lt OX.out k e; omega)).grown (grown_set_ _ ((w.heap.size + 1)) 1 _) (fun k e => by have := Option.some.inj e; omega)
            · have := KC3.out.set_ 1 (.slice A3 (j + 1) c3)
              simpa using this
            · exact (K2X.out.grown G3.out.1 (fun e => Ow.notat OX.out K2X.out (by decide) e.symm)).far (p := ⟨(w.heap.size + 1), 1, none⟩) (by simp) _
            · have := Ow.aside O3.out KC3.out (by decide) 1 (.slice A3 (j + 1) c3)
              rw [List.flatMap_append]
              simpa [lineK, fc] using this
            · exact grown_far_ (grown_grew (grown_trans_ HG.out GX.out) OX.out G3.out (Nat.le_refl _)) (p := ⟨(w.heap.size + 1), 1, none⟩) (by simp) _
            · exact (ow_apart_ O0X.out OX.out (by decide) G3.out.1).aside KC3.out (by decide) 1 _
        · rw [decide_eq_false hgo]
          have hend : rdN lineK (nb - j) sj = ([], sj) := by
            match sj, HE0 with
            | .error q, _ => exact rdN_err _ _ _
            | .ok xs, HE0 =>
              have h0 := HE0.out xs rfl
              rw [show nb - j = 0 from by omega]
              rfl
          have RN := Lib.hid (show rdN lineK nb qb = (done, sj) by rw [RP.out, hend]; simp)
          clear hend hgo hee
          have hrows : done = r1 ∧ sj = s2 := by
            have h1 := RN.out
            rw [HL1.out] at h1
            injection h1 with h1 h2
            exact ⟨h1.symm, h2.symm⟩
          have hdl := DL.out
          obtain ⟨E1, d1, hO1, hC1⟩ : ∃ E1 d1, Ow w.heap.size wc 120 5 (.slice E1 r1.length d1) r1.length (r1.flatMap (fc lineK)) ∧ Blk wc (w.heap.size + 1) 53 #[.slice E0 r0.length d0, .slice E1 r1.length d1, .slice none 0 0, .int .u64 0] := by
            refine ⟨Av, cv, ?_, ?_⟩
            · rw [← hrows.1, hdl]; exact HO.out
            · rw [← hrows.1, hdl]; exact HKC.out
          have O1y := Lib.hid hO1
          have KCy := Lib.hid hC1
          have K2y := Lib.hid HK2.out
          have Gy := Lib.hid HG.out
          have Ty := Lib.hid (show Ts wc t s2 from hrows.2 ▸ HT.out)
          have O0y := Lib.hid HO0.out
          clear hO1 hC1 hrows hdl HQ DL RP HT HKC HK2 HO HG HE0 HE1 RN Tb KCb K2b Gb
          go_wp2_with fail
          refine (many_at t 32 s2 qc nc _ Ty.out (by decide) HM2.out).mono ?_
          rintro e w1c ⟨rfl, ht, hg⟩
          have Tc := Lib.hid ht
          have KCc := Lib.hid (KCy.out.grown hg (fun e => by have := Option.some.inj e; omega))
          have K2c := Lib.hid (K2y.out.grown hg (fun e => by have := Option.some.inj e; omega))
          have Gc := Lib.hid (grown_trans_ Gy.out hg)
          have O0c := Lib.hid (ow_grown_ O0y.out hg (fun k e => by have := Option.some.inj e; omega))
          have O1c := Lib.hid (ow_grown_ O1y.out hg (fun k e => by have := Option.some.inj e; omega))
          clear ht hg Ty KCy K2y Gy
          go_wp2_with fail
          go_loopg [8] nc (fun q ci wr => ∃ (j : Nat) (done : List (List Int)) (sj : TS) (v : Value), j ≤ nc ∧ q = nc - j ∧ ci = .int .i64 j ∧ done.length = j ∧ rdN offerK nc qc = (done ++ (rdN offerK (nc - j) sj).1, (rdN offerK (nc - j) sj).2) ∧ Ts wr t sj ∧ Blk wr (w.heap.size + 1) 53 #[.slice E0 r0.length d0, .slice E1 r1.length d1, v, .int .u64 0] ∧ Blk wr w.heap.size 53 #[.slice none 0 0, .slice none 0 0, .slice none 0 0, .int .u64 0] ∧ Ow w.heap.size wr 124 7 v j (done.flatMap (fc offerK)) ∧ w.grownBy wr (some t) ∧ Ow w.heap.size wr 86 1 (.slice E0 r0.length d0) r0.length (r0.flatMap (fc partyK)) ∧ Ow w.heap.size wr 120 5 (.slice E1 r1.length d1) r1.length (r1.flatMap (fc lineK)))
          case atStart => exact ⟨0, [], qc, .slice none 0 0, Nat.zero_le _, rfl, rfl, rfl, by simp, Tc.out, KCc.out, K2c.out, .inl ⟨rfl, rfl, rfl⟩, Gc.out, O0c.out, O1c.out⟩
          case round =>
            obtain ⟨j, done, sj, v, hj, hq, rfl, hdl, hrep, hT, hKC, hK2, hO, hG, hO0, hO1⟩ := hrel
            have HQ := Lib.hid hq
            have DL := Lib.hid hdl
            have RP := Lib.hid hrep
            have HT := Lib.hid hT
            have HKC := Lib.hid hKC
            have HK2 := Lib.hid hK2
            have HO := Lib.hid hO
            have HG := Lib.hid hG
            have HO0 := Lib.hid hO0
            have HO1 := Lib.hid hO1
            obtain ⟨ee, hee, he0, he1⟩ := hT.errno
            obtain ⟨Av, cv, rfl⟩ := hO.sl_
            have HE0 := Lib.hid he0
            have HE1 := Lib.hid he1
            have hwr : w.heap.size ≤ wr.heap.size := hG.size
            clear hq hdl hrep hT hKC hK2 hO hG he0 he1 hO0 hO1
            go_upto_region 20 with fail
            go_cut [77] (fun sb wx => sb = .bool (decide (j < nc ∧ ee = 0)) ∧ wx = wr)
            case first =>
              by_cases hjn : j < nc
              · have hjn' : (j : Int) < nc := by omega
                by_cases hek : ee = 0
                · have b1 : (ee == 0) = true := by rw [hek]; rfl
                  have HEK := Lib.hid hek
                  clear hek
                  go_wp2
                  go_meet
                  exact ⟨by simp [hjn, HEK.out], rfl⟩
                · have b1 : (ee == 0) = false := beq_eq_false_iff_ne.2 hek
                  have HEK := Lib.hid hek
                  clear hek
                  go_wp2
                  go_meet
                  exact ⟨by simp [HEK.out], rfl⟩
              · have hjn' : ¬ (j : Int) < nc := by omega
                go_wp2
                go_meet
                exact ⟨by simp [hjn], rfl⟩
            case rest =>
            obtain ⟨rfl, rfl⟩ := hcut
            by_cases hgo : j < nc ∧ ee = 0
            · rw [decide_eq_true hgo]
              obtain ⟨hjn, hek⟩ := hgo
              have hjn' : (j : Int) < nc := by omega
              obtain ⟨xs, rfl⟩ : ∃ xs, sj = .ok xs := by
                match sj, HE1 with
                | .ok xs, _ => exact ⟨xs, rfl⟩
                | .error q, HE1 => exact absurd hek (HE1.out q rfl).2
              have SP := Lib.hid (show rdN offerK (nc - j) (.ok xs) = ((rdF offerK (.ok xs)).1 :: (rdN offerK (nc - (j + 1)) (rdF offerK (.ok xs)).2).1, (rdN offerK (nc - (j + 1)) (rdF offerK (.ok xs)).2).2) by rw [show nc - j = nc - (j + 1) + 1 from by omega]; rfl)
              clear hek hee
              obtain ⟨x0, sc_1, hr0⟩ : ∃ a b, rd1 .u64 (.ok xs) = (a, b) := ⟨_, _, rfl⟩
              have R0 := Lib.hid hr0
              obtain ⟨x1, sc_2, hr1⟩ : ∃ a b, rd1 .u8 sc_1 = (a, b) := ⟨_, _, rfl⟩
              have R1 := Lib.hid hr1
              obtain ⟨x2, sc_3, hr2⟩ : ∃ a b, rd1 .u8 sc_2 = (a, b) := ⟨_, _, rfl⟩
              have R2 := Lib.hid hr2
              obtain ⟨x3, sc_4, hr3⟩ : ∃ a b, rd1 .u8 sc_3 = (a, b) := ⟨_, _, rfl⟩
              have R3 := Lib.hid hr3
              obtain ⟨x4, sc_5, hr4⟩ : ∃ a b, rd1 .i64 sc_4 = (a, b) := ⟨_, _, rfl⟩
              have R4 := Lib.hid hr4
              obtain ⟨x5, sc_6, hr5⟩ : ∃ a b, rd1 .i64 sc_5 = (a, b) := ⟨_, _, rfl⟩
              have R5 := Lib.hid hr5
              obtain ⟨x6, sc_7, hr6⟩ : ∃ a b, rd1 .i64 sc_6 = (a, b) := ⟨_, _, rfl⟩
              have R6 := Lib.hid hr6
              have RF := Lib.hid (show rdF offerK (.ok xs) = ([x0, x1, x2, x3, x4, x5, x6], sc_7) by simp only [offerK, rdF, hr0, hr1, hr2, hr3, hr4, hr5, hr6])
              clear hr0 hr1 hr2 hr3 hr4 hr5 hr6
              have bk := Blk.new wc 124 #[.int .u64 0, .int .u8 0, .int .u8 0, .int .u8 0, .int .i64 0, .int .i64 0, .int .i64 0]
              have B0 := Lib.hid bk
              have TT0 := Lib.hid (HT.out.below (below_alloc_ wc (.cells #[.int .u64 0, .int .u8 0, .int .u8 0, .int .u8 0, .int .i64 0, .int .i64 0, .int .i64 0] 124)))
              have GG0 := Lib.hid (grown_below_ (below_alloc_ wc (.cells #[.int .u64 0, .int .u8 0, .int .u8 0, .int .u8 0, .int .i64 0, .int .i64 0, .int .i64 0] 124)) (some t))
              have htl : t < wc.heap.size := HT.out.lt
              clear bk
              go_wp2_with fail
              refine (rd_u64 t (.ok xs) sc_1 x0 _ TT0.out R0.out).mono ?_
              rintro e w1 ⟨rfl, ht, hg⟩
              have bk := B0.out.grown hg (fun e => by have := Option.some.inj e; omega)
              have f1 := bk.free
              have z1 := bk.cell 0
              simp only [List.getElem?_toArray, List.getElem?_cons_zero, List.getElem?_cons_succ] at z1
              have B1 := Lib.hid (show Blk (w1.setCell ⟨wc.heap.size, 0, none⟩ (.int .u64 x0)) wc.heap.size 124 #[.int .u64 x0, .int .u8 0, .int .u8 0, .int .u8 0, .int .i64 0, .int .i64 0, .int .i64 0] from by have := bk.set_ 0 (.int .u64 x0); simpa using this)
              have TT1 := Lib.hid (ht.grown (grown_set_ w1 wc.heap.size 0 (.int .u64 x0)) (fun k e => by have := Option.some.inj e; omega))
              have GG1 := Lib.hid (grown_far_ (grown_trans_ GG0.out hg) (p := ⟨wc.heap.size, 0, none⟩) (Nat.le_refl _) (.int .u64 x0))
              clear ht hg bk
              go_wp2_with fail
              refine (rd_u8 t sc_1 sc_2 x1 _ TT1.out R1.out).mono ?_
              rintro e w2 ⟨rfl, ht, hg⟩
              have bk := B1.out.grown hg (fun e => by have := Option.some.inj e; omega)
              have f2 := bk.free
              have z2 := bk.cell 1
              simp only [List.getElem?_toArray, List.getElem?_cons_zero, List.getElem?_cons_succ] at z2
              have B2 := Lib.hid (show Blk (w2.setCell ⟨wc.heap.size, 1, none⟩ (.int .u8 x1)) wc.heap.size 124 #[.int .u64 x0, .int .u8 x1, .int .u8 0, .int .u8 0, .int .i64 0, .int .i64 0, .int .i64 0] from by have := bk.set_ 1 (.int .u8 x1); simpa using this)
              have TT2 := Lib.hid (ht.grown (grown_set_ w2 wc.heap.size 1 (.int .u8 x1)) (fun k e => by have := Option.some.inj e; omega))
              have GG2 := Lib.hid (grown_far_ (grown_trans_ GG1.out hg) (p := ⟨wc.heap.size, 1, none⟩) (Nat.le_refl _) (.int .u8 x1))
              clear ht hg bk
              clear f1 z1
              go_wp2_with fail
              refine (rd_u8 t sc_2 sc_3 x2 _ TT2.out R2.out).mono ?_
              rintro e w3 ⟨rfl, ht, hg⟩
              have bk := B2.out.grown hg (fun e => by have := Option.some.inj e; omega)
              have f3 := bk.free
              have z3 := bk.cell 2
              simp only [List.getElem?_toArray, List.getElem?_cons_zero, List.getElem?_cons_succ] at z3
              have B3 := Lib.hid (show Blk (w3.setCell ⟨wc.heap.size, 2, none⟩ (.int .u8 x2)) wc.heap.size 124 #[.int .u64 x0, .int .u8 x1, .int .u8 x2, .int .u8 0, .int .i64 0, .int .i64 0, .int .i64 0] from by have := bk.set_ 2 (.int .u8 x2); simpa using this)
              have TT3 := Lib.hid (ht.grown (grown_set_ w3 wc.heap.size 2 (.int .u8 x2)) (fun k e => by have := Option.some.inj e; omega))
              have GG3 := Lib.hid (grown_far_ (grown_trans_ GG2.out hg) (p := ⟨wc.heap.size, 2, none⟩) (Nat.le_refl _) (.int .u8 x2))
              clear ht hg bk
              clear f2 z2
              go_wp2_with fail
              refine (rd_u8 t sc_3 sc_4 x3 _ TT3.out R3.out).mono ?_
              rintro e w4 ⟨rfl, ht, hg⟩
              have bk := B3.out.grown hg (fun e => by have := Option.some.inj e; omega)
              have f4 := bk.free
              have z4 := bk.cell 3
              simp only [List.getElem?_toArray, List.getElem?_cons_zero, List.getElem?_cons_succ] at z4
              have B4 := Lib.hid (show Blk (w4.setCell ⟨wc.heap.size, 3, none⟩ (.int .u8 x3)) wc.heap.size 124 #[.int .u64 x0, .int .u8 x1, .int .u8 x2, .int .u8 x3, .int .i64 0, .int .i64 0, .int .i64 0] from by have := bk.set_ 3 (.int .u8 x3); simpa using this)
              have TT4 := Lib.hid (ht.grown (grown_set_ w4 wc.heap.size 3 (.int .u8 x3)) (fun k e => by have := Option.some.inj e; omega))
              have GG4 := Lib.hid (grown_far_ (grown_trans_ GG3.out hg) (p := ⟨wc.heap.size, 3, none⟩) (Nat.le_refl _) (.int .u8 x3))
              clear ht hg bk
              clear f3 z3
              go_wp2_with fail
              refine (rd_i64 t sc_4 sc_5 x4 _ TT4.out R4.out).mono ?_
              rintro e w5 ⟨rfl, ht, hg⟩
              have bk := B4.out.grown hg (fun e => by have := Option.some.inj e; omega)
              have f5 := bk.free
              have z5 := bk.cell 4
              simp only [List.getElem?_toArray, List.getElem?_cons_zero, List.getElem?_cons_succ] at z5
              have B5 := Lib.hid (show Blk (w5.setCell ⟨wc.heap.size, 4, none⟩ (.int .i64 x4)) wc.heap.size 124 #[.int .u64 x0, .int .u8 x1, .int .u8 x2, .int .u8 x3, .int .i64 x4, .int .i64 0, .int .i64 0] from by have := bk.set_ 4 (.int .i64 x4); simpa using this)
              have TT5 := Lib.hid (ht.grown (grown_set_ w5 wc.heap.size 4 (.int .i64 x4)) (fun k e => by have := Option.some.inj e; omega))
              have GG5 := Lib.hid (grown_far_ (grown_trans_ GG4.out hg) (p := ⟨wc.heap.size, 4, none⟩) (Nat.le_refl _) (.int .i64 x4))
              clear ht hg bk
              clear f4 z4
              go_wp2_with fail
              refine (rd_i64 t sc_5 sc_6 x5 _ TT5.out R5.out).mono ?_
              rintro e w6 ⟨rfl, ht, hg⟩
              have bk := B5.out.grown hg (fun e => by have := Option.some.inj e; omega)
              have f6 := bk.free
              have z6 := bk.cell 5
              simp only [List.getElem?_toArray, List.getElem?_cons_zero, List.getElem?_cons_succ] at z6
              have B6 := Lib.hid (show Blk (w6.setCell ⟨wc.heap.size, 5, none⟩ (.int .i64 x5)) wc.heap.size 124 #[.int .u64 x0, .int .u8 x1, .int .u8 x2, .int .u8 x3, .int .i64 x4, .int .i64 x5, .int .i64 0] from by have := bk.set_ 5 (.int .i64 x5); simpa using this)
              have TT6 := Lib.hid (ht.grown (grown_set_ w6 wc.heap.size 5 (.int .i64 x5)) (fun k e => by have := Option.some.inj e; omega))
              have GG6 := Lib.hid (grown_far_ (grown_trans_ GG5.out hg) (p := ⟨wc.heap.size, 5, none⟩) (Nat.le_refl _) (.int .i64 x5))
              clear ht hg bk
              clear f5 z5
              go_wp2_with fail
              refine (rd_i64 t sc_6 sc_7 x6 _ TT6.out R6.out).mono ?_
              rintro e w7 ⟨rfl, ht, hg⟩
              have bk := B6.out.grown hg (fun e => by have := Option.some.inj e; omega)
              have f7 := bk.free
              have z7 := bk.cell 6
              simp only [List.getElem?_toArray, List.getElem?_cons_zero, List.getElem?_cons_succ] at z7
              have B7 := Lib.hid (show Blk (w7.setCell ⟨wc.heap.size, 6, none⟩ (.int .i64 x6)) wc.heap.size 124 #[.int .u64 x0, .int .u8 x1, .int .u8 x2, .int .u8 x3, .int .i64 x4, .int .i64 x5, .int .i64 x6] from by have := bk.set_ 6 (.int .i64 x6); simpa using this)
              have TT7 := Lib.hid (ht.grown (grown_set_ w7 wc.heap.size 6 (.int .i64 x6)) (fun k e => by have := Option.some.inj e; omega))
              have GG7 := Lib.hid (grown_far_ (grown_trans_ GG6.out hg) (p := ⟨wc.heap.size, 6, none⟩) (Nat.le_refl _) (.int .i64 x6))
              clear ht hg bk
              clear f6 z6
              go_upto_region 30 with fail
              clear f7 z7
              obtain ⟨X, hX⟩ : ∃ X, X = (w7.setCell ⟨wc.heap.size, 6, none⟩ (.int .i64 x6)) := ⟨_, rfl⟩
              rw [← hX] at B7 TT7 GG7
              rw [← hX]
              clear hX
              have BX := Lib.hid B7.out
              have TX := Lib.hid TT7.out
              have GX := Lib.hid GG7.out
              clear B7 TT7 GG7
              have bx := BX.out
              have y0 := bx.cell 0
              have y1 := bx.cell 1
              have y2 := bx.cell 2
              have y3 := bx.cell 3
              have y4 := bx.cell 4
              have y5 := bx.cell 5
              have y6 := bx.cell 6
              simp only [List.getElem?_toArray, List.getElem?_cons_zero, List.getElem?_cons_succ] at y0 y1 y2 y3 y4 y5 y6
              have kcx := HKC.out.grown GX.out (fun e => by have := Option.some.inj e; omega)
              have fx := kcx.free
              have zx := kcx.cell 2
              simp only [List.getElem?_toArray, List.getElem?_cons_zero, List.getElem?_cons_succ] at zx
              have KCX := Lib.hid kcx
              have K2X := Lib.hid (HK2.out.grown GX.out (fun e => by have := Option.some.inj e; omega))
              have OX := Lib.hid (ow_grown_ HO.out GX.out (fun k e => by have := Option.some.inj e; omega))
              clear kcx
              have O0X := Lib.hid (ow_grown_ HO0.out GX.out (fun k e => by have := Option.some.inj e; omega))
              have O1X := Lib.hid (ow_grown_ HO1.out GX.out (fun k e => by have := Option.some.inj e; omega))
              have hWX : w.heap.size ≤ X.heap.size := Nat.le_trans hwr GX.out.size
              go_wp2_with (at_builtin; go_must (refine wpList_ow rfl _ _ 48 124 (.agg #[.int .u64 0, .int .u8 0, .int .u8 0, .int .u8 0, .int .i64 0, .int .i64 0, .int .i64 0]) 7 40 rfl Tryz.underlying48 offer_info rfl (by decide) rfl #[.int .u64 x0, .int .u8 x1, .int .u8 x2, .int .u8 x3, .int .i64 x4, .int .i64 x5, .int .i64 x6] OX.out hWX rfl (by simp [Value.oneCell']) rfl (by omega) (by unfold maxLen; omega) ?_); intro v3 w30 hO3 hg3; obtain ⟨A3, c3, rfl⟩ := hO3.sl_; have kc3 := KCX.out.grown hg3.1 (fun e => Ow.notat OX.out KCX.out (by decide) e.symm); have f30 := kc3.free; have z30 := kc3.cell 2; simp only [List.getElem?_toArray, List.getElem?_cons_zero, List.getElem?_cons_succ] at z30; have KC3 := Lib.hid kc3; have O3 := Lib.hid hO3; have G3 := Lib.hid hg3; clear kc3 hO3 hg3)
              go_roundg (nc - (j + 1))
              case measure => have := HQ.out; omega
              case rel =>
                refine ⟨j + 1, done ++ [[x0, x1, x2, x3, x4, x5, x6]], sc_7, .slice A3 (j + 1) c3, by omega, rfl, by go_num, by simp [DL.out], ?_, ?_, ?_, ?_, ?_, ?_, ?_, ?_⟩
                · rw [RP.out, SP.out, RF.out]
                  simp
                · exact (TX.out.grown G3.out.1 (fun k e => by have := Ow.blk_lt OX.out k e; omega)).grown (grown_set_ _ ((w.heap.size + 1)) 2 _) (fun k e => by have := Option.some.inj e; omega)
                · have := KC3.out.set_ 2 (.slice A3 (j + 1) c3)
                  simpa using this
                · exact (K2X.out.grown G3.out.1 (fun e => Ow.notat OX.out K2X.out (by decide) e.symm)).far (p := ⟨(w.heap.size + 1), 2, none⟩) (by simp) _
                · have := Ow.aside O3.out KC3.out (by decide) 2 (.slice A3 (j + 1) c3)
                  rw [List.flatMap_append]
                  simpa [offerK, fc] using this
                · exact grown_far_ (grown_grew (grown_trans_ HG.out GX.out) OX.out G3.out (Nat.le_refl _)) (p := ⟨(w.heap.size + 1), 2, none⟩) (by simp) _
                · exact (ow_apart_ O0X.out OX.out (by decide) G3.out.1).aside KC3.out (by decide) 2 _
                · exact (ow_apart_ O1X.out OX.out (by decide) G3.out.1).aside KC3.out (by decide) 2 _
            · rw [decide_eq_false hgo]
              have hend : rdN offerK (nc - j) sj = ([], sj) := by
                match sj, HE0 with
                | .error q, _ => exact rdN_err _ _ _
                | .ok xs, HE0 =>
                  have h0 := HE0.out xs rfl
                  rw [show nc - j = 0 from by omega]
                  rfl
              have RN := Lib.hid (show rdN offerK nc qc = (done, sj) by rw [RP.out, hend]; simp)
              clear hend hgo hee
              have hrows : done = r2 ∧ sj = s3 := by
                have h1 := RN.out
                rw [HL2.out] at h1
                injection h1 with h1 h2
                exact ⟨h1.symm, h2.symm⟩
              have hdl := DL.out
              obtain ⟨E2, d2, hO2, hC2⟩ : ∃ E2 d2, Ow w.heap.size wc 124 7 (.slice E2 r2.length d2) r2.length (r2.flatMap (fc offerK)) ∧ Blk wc (w.heap.size + 1) 53 #[.slice E0 r0.length d0, .slice E1 r1.length d1, .slice E2 r2.length d2, .int .u64 0] := by
                refine ⟨Av, cv, ?_, ?_⟩
                · rw [← hrows.1, hdl]; exact HO.out
                · rw [← hrows.1, hdl]; exact HKC.out
              have O2z := Lib.hid hO2
              have KCz := Lib.hid hC2
              have K2z := Lib.hid HK2.out
              have Gz := Lib.hid HG.out
              have Tz := Lib.hid (show Ts wc t s3 from hrows.2 ▸ HT.out)
              have O0z := Lib.hid HO0.out
              have O1z := Lib.hid HO1.out
              clear hO2 hC2 hrows hdl HQ DL RP HT HKC HK2 HO HG HE0 HE1 RN Tc KCc K2c Gc
              go_wp2_with fail
              refine (rd_u64 t s3 s4 x3 _ Tz.out H4.out).mono ?_
              rintro e w9 ⟨rfl, ht, hg⟩
              have kc := KCz.out.grown hg (fun e => by have := Option.some.inj e; omega)
              have f9 := kc.free
              have z9 := kc.cell 3
              simp only [List.getElem?_toArray, List.getElem?_cons_zero, List.getElem?_cons_succ] at z9
              have KCE := Lib.hid (show Blk (w9.setCell ⟨w.heap.size + 1, 3, none⟩ (.int .u64 x3)) (w.heap.size + 1) 53 #[.slice E0 r0.length d0, .slice E1 r1.length d1, .slice E2 r2.length d2, .int .u64 x3] from by have := kc.set_ 3 (.int .u64 x3); simpa using this)
              have K2E := Lib.hid ((K2z.out.grown hg (fun e => by have := Option.some.inj e; omega)).far (p := ⟨w.heap.size + 1, 3, none⟩) (by simp) (.int .u64 x3))
              have HT := Lib.hid (ht.grown (grown_set_ w9 (w.heap.size + 1) 3 (.int .u64 x3)) (fun k e => by have := Option.some.inj e; omega))
              have HG := Lib.hid (grown_far_ (grown_trans_ Gz.out hg) (p := ⟨w.heap.size + 1, 3, none⟩) (by simp) (.int .u64 x3))
              have P0 := Lib.hid ((ow_grown_ O0z.out hg (fun k e => by have := Option.some.inj e; omega)).aside kc (by decide) 3 (.int .u64 x3))
              have P1 := Lib.hid ((ow_grown_ O1z.out hg (fun k e => by have := Option.some.inj e; omega)).aside kc (by decide) 3 (.int .u64 x3))
              have P2 := Lib.hid ((ow_grown_ O2z.out hg (fun k e => by have := Option.some.inj e; omega)).aside kc (by decide) 3 (.int .u64 x3))
              clear ht hg kc Tz KCz K2z Gz O0z O1z O2z
              go_upto_region 32 with fail
              generalize w9.setCell ⟨w.heap.size + 1, 3, none⟩ (.int .u64 x3) = X at *
              clear f9 z9
              have kcx := KCE.out
              have k2x := K2E.out
              have fx := k2x.free
              have zc0 := kcx.cell 0
              have z20 := k2x.cell 0
              have zc1 := kcx.cell 1
              have z21 := k2x.cell 1
              have zc2 := kcx.cell 2
              have z22 := k2x.cell 2
              have zc3 := kcx.cell 3
              have z23 := k2x.cell 3
              simp only [List.getElem?_toArray, List.getElem?_cons_zero, List.getElem?_cons_succ] at zc0 z20 zc1 z21 zc2 z22 zc3 z23
              clear kcx k2x
              go_wp2
              have bf := ((((K2E.out.set_ 0 (.slice E0 r0.length d0)).set_ 1 (.slice E1 r1.length d1)).set_ 2 (.slice E2 r2.length d2)).set_ 3 (.int .u64 x3))
              have yy0 := bf.cell 0
              have yy1 := bf.cell 1
              have yy2 := bf.cell 2
              have yy3 := bf.cell 3
              simp at yy0 yy1 yy2 yy3
              refine bodyPost_ret (v := .agg #[.slice E0 r0.length d0, .slice E1 r1.length d1, .slice E2 r2.length d2, .int .u64 x3]) (by simp [results, Tryz.results46, go_sem, yy0, yy1, yy2, yy3]) rfl ?_
              refine ⟨E0, d0, E1, d1, E2, d2, rfl, ⟨(Ow.aside (Ow.aside (Ow.aside (Ow.aside P0.out K2E.out (by decide) 0 (.slice E0 r0.length d0)) (K2E.out.set_ 0 (.slice E0 r0.length d0)) (by decide) 1 (.slice E1 r1.length d1)) ((K2E.out.set_ 0 (.slice E0 r0.length d0)).set_ 1 (.slice E1 r1.length d1)) (by decide) 2 (.slice E2 r2.length d2)) (((K2E.out.set_ 0 (.slice E0 r0.length d0)).set_ 1 (.slice E1 r1.length d1)).set_ 2 (.slice E2 r2.length d2)) (by decide) 3 (.int .u64 x3)), (Ow.aside (Ow.aside (Ow.aside (Ow.aside P1.out K2E.out (by decide) 0 (.slice E0 r0.length d0)) (K2E.out.set_ 0 (.slice E0 r0.length d0)) (by decide) 1 (.slice E1 r1.length d1)) ((K2E.out.set_ 0 (.slice E0 r0.length d0)).set_ 1 (.slice E1 r1.length d1)) (by decide) 2 (.slice E2 r2.length d2)) (((K2E.out.set_ 0 (.slice E0 r0.length d0)).set_ 1 (.slice E1 r1.length d1)).set_ 2 (.slice E2 r2.length d2)) (by decide) 3 (.int .u64 x3)), (Ow.aside (Ow.aside (Ow.aside (Ow.aside P2.out K2E.out (by decide) 0 (.slice E0 r0.length d0)) (K2E.out.set_ 0 (.slice E0 r0.length d0)) (by decide) 1 (.slice E1 r1.length d1)) ((K2E.out.set_ 0 (.slice E0 r0.length d0)).set_ 1 (.slice E1 r1.length d1)) (by decide) 2 (.slice E2 r2.length d2)) (((K2E.out.set_ 0 (.slice E0 r0.length d0)).set_ 1 (.slice E1 r1.length d1)).set_ 2 (.slice E2 r2.length d2)) (by decide) 3 (.int .u64 x3))⟩, ((((HT.out.grown (grown_set_ _ w.heap.size 0 (.slice E0 r0.length d0)) (fun k e => by have := Option.some.inj e; omega)).grown (grown_set_ _ w.heap.size 1 (.slice E1 r1.length d1)) (fun k e => by have := Option.some.inj e; omega)).grown (grown_set_ _ w.heap.size 2 (.slice E2 r2.length d2)) (fun k e => by have := Option.some.inj e; omega)).grown (grown_set_ _ w.heap.size 3 (.int .u64 x3)) (fun k e => by have := Option.some.inj e; omega)), (grown_far_ (grown_far_ (grown_far_ (grown_far_ HG.out (p := ⟨w.heap.size, 0, none⟩) (Nat.le_refl _) (.slice E0 r0.length d0)) (p := ⟨w.heap.size, 1, none⟩) (Nat.le_refl _) (.slice E1 r1.length d1)) (p := ⟨w.heap.size, 2, none⟩) (Nat.le_refl _) (.slice E2 r2.length d2)) (p := ⟨w.heap.size, 3, none⟩) (Nat.le_refl _) (.int .u64 x3))⟩
/-- The value u reads as this state. -/
def stateV (a : List (List Int) × List (List Int) × List (List Int) × List Int) (w : World) (u : Value) : Prop := ∃ E0 d0 E1 d1 E2 d2 x3, a.2.2.2 = [x3] ∧ u = .agg #[.slice E0 a.1.length d0, .slice E1 a.2.1.length d1, .slice E2 a.2.2.1.length d2, .int .u64 x3] ∧ Partys w (.slice E0 a.1.length d0) a.1 ∧ Lines w (.slice E1 a.2.1.length d1) a.2.1 ∧ Offers w (.slice E2 a.2.2.1.length d2) a.2.2.1
set_option maxHeartbeats 4000000 in
set_option maxRecDepth 100000 in
theorem rget_state (v : Value) (xs : List Int) (w : World) (h : Bs w v xs) (hby : ∀ c ∈ xs, byt c) (hl : xs.length ≤ 4611686018427387904) :
    Calls Tryz.prog 16 #[v] w (DPost (allP (stateP xs)) stateV (.agg #[.slice none 0 0, .slice none 0 0, .slice none 0 0, .int .u64 0]) w) := by
  have S := sim_all (P := stateP) ((sim_L partyK 16).bind ((sim_L lineK 64).bind ((sim_L offerK 32).bind (sim_F [.u64])))) xs
  obtain ⟨r0, s1, h1⟩ : ∃ a b, rdL partyK 16 (.ok xs) = (a, b) := ⟨_, _, rfl⟩
  obtain ⟨r1, s2, h2⟩ : ∃ a b, rdL lineK 64 s1 = (a, b) := ⟨_, _, rfl⟩
  obtain ⟨r2, s3, h3⟩ : ∃ a b, rdL offerK 32 s2 = (a, b) := ⟨_, _, rfl⟩
  obtain ⟨x3, s4, h4⟩ : ∃ a b, rd1 .u64 s3 = (a, b) := ⟨_, _, rfl⟩
  have hF : rdF [.u64] s3 = ([x3], s4) := by simp only [rdF, h4]
  simp only [h1, h2, h3, hF] at S
  have H1 := Lib.hid h1
  have H2 := Lib.hid h2
  have H3 := Lib.hid h3
  have H4 := Lib.hid h4
  clear h1 h2 h3 h4 hF
  have k0 := (Blk.new w 53 #[.slice none 0 0, .slice none 0 0, .slice none 0 0, .int .u64 0]).alloc (.cells #[v, .int .i64 0] 79)
  have ts := Ts.new_ (h.below (below_alloc_ w (.cells #[.slice none 0 0, .slice none 0 0, .slice none 0 0, .int .u64 0] 53))) hby hl
  rw [World.size_alloc] at ts
  have b2 := below_alloc2_ w (.cells #[.slice none 0 0, .slice none 0 0, .slice none 0 0, .int .u64 0] 53) (.cells #[v, .int .i64 0] 79)
  have K0 := Lib.hid k0
  have T0 := Lib.hid ts
  have B2 := Lib.hid b2
  have SS := Lib.hid S
  obtain ⟨A, c0, rfl, -⟩ := id h
  clear h hby hl k0 ts b2 S
  go_enter Tryz.func16, Tryz.ntmps16
  go_wp2_with fail
  refine (tstate_at (w.heap.size + 1) (.ok xs) s1 s2 s3 s4 r0 r1 r2 x3 _ T0.out H1.out H2.out H3.out H4.out).mono ?_
  rintro e w1 ⟨E0, d0, E1, d1, E2, d2, rfl, ⟨ho0, ho1, ho2⟩, ht, hg⟩
  have B1 := Lib.hid (B2.out.grown hg (by simp; omega) (fun k e => by have := Option.some.inj e; omega))
  have K1 := Lib.hid (K0.out.grown hg (fun e => by have := Option.some.inj e; omega))
  have ba := below_alloc_ w1 (.cells #[.slice E0 r0.length d0, .slice E1 r1.length d1, .slice E2 r2.length d2, .int .u64 x3] 53)
  have TA := Lib.hid (ht.below ba)
  have BA := Lib.hid (B1.out.trans (ba.mono B1.out.size))
  have KA := Lib.hid (K1.out.below ba K1.out.lt)
  have KC := Lib.hid (Blk.new w1 53 #[.slice E0 r0.length d0, .slice E1 r1.length d1, .slice E2 r2.length d2, .int .u64 x3])
  have OA0 := Lib.hid (ho0.below ba)
  have OA1 := Lib.hid (ho1.below ba)
  have OA2 := Lib.hid (ho2.below ba)
  have hlt1 := K1.out.lt
  clear ht hg ba ho0 ho1 ho2
  go_wp2_with fail
  refine (done_any _ _ _ TA.out).mono ?_
  rintro e w2 ⟨rfl, rfl⟩
  generalize w1.alloc (.cells #[.slice E0 r0.length d0, .slice E1 r1.length d1, .slice E2 r2.length d2, .int .u64 x3] 53) = X at *
  have fz := KA.out.free
  have zz := KA.out.cell
  obtain ⟨d, hd⟩ : ∃ d, d = dn s4 := ⟨_, rfl⟩
  rw [← hd]
  have D := Lib.hid hd
  have z0 := KA.out.cell 0
  have c0_ := KC.out.cell 0
  have z1 := KA.out.cell 1
  have c1_ := KC.out.cell 1
  have z2 := KA.out.cell 2
  have c2_ := KC.out.cell 2
  have z3 := KA.out.cell 3
  have c3_ := KC.out.cell 3
  simp only [List.getElem?_toArray, List.getElem?_cons_zero, List.getElem?_cons_succ] at z0 c0_ z1 c1_ z2 c2_ z3 c3_
  clear hd zz
  by_cases hd0 : d = 0
  · have bd : (d != 0) = false := by rw [hd0]; rfl
    have HD0 := Lib.hid hd0
    clear hd0
    go_wp2
    have bf := ((((KA.out.set_ 0 (.slice E0 r0.length d0)).set_ 1 (.slice E1 r1.length d1)).set_ 2 (.slice E2 r2.length d2)).set_ 3 (.int .u64 x3))
    have y0 := bf.cell 0
    have y1 := bf.cell 1
    have y2 := bf.cell 2
    have y3 := bf.cell 3
    simp at y0 y1 y2 y3
    refine bodyPost_ret (v := .tuple #[.agg #[.slice E0 r0.length d0, .slice E1 r1.length d1, .slice E2 r2.length d2, .int .u64 x3], .int .i64 0]) (by simp [results, Tryz.results16, go_sem, y0, y1, y2, y3]) rfl ?_
    have S1 := SS.out
    rcases hq : allP (stateP xs) with q | a
    · rw [hq] at S1
      simp only at S1
      have e1 : dn s4 = q := by rw [← S1]
      have e2 := allP_bad cod_state hq
      have e3 := D.out
      have e4 := HD0.out
      exfalso
      omega
    · rw [hq] at S1
      simp only at S1
      have e1 := S1.1
      rw [← hq]
      refine dpost_ok hq ((((BA.out.setCell (p := ⟨w.heap.size, 0, none⟩) (Nat.le_refl _) (.slice E0 r0.length d0)).setCell (p := ⟨w.heap.size, 1, none⟩) (Nat.le_refl _) (.slice E1 r1.length d1)).setCell (p := ⟨w.heap.size, 2, none⟩) (Nat.le_refl _) (.slice E2 r2.length d2)).setCell (p := ⟨w.heap.size, 3, none⟩) (Nat.le_refl _) (.int .u64 x3)) ?_
      injection e1 with e1 e2
      subst e1
      exact ⟨E0, d0, E1, d1, E2, d2, x3, rfl, rfl, ((((OA0.out.far (p := ⟨w.heap.size, 0, none⟩) (by simp <;> omega) _).far (p := ⟨w.heap.size, 1, none⟩) (by simp <;> omega) _).far (p := ⟨w.heap.size, 2, none⟩) (by simp <;> omega) _).far (p := ⟨w.heap.size, 3, none⟩) (by simp <;> omega) _).rd, ((((OA1.out.far (p := ⟨w.heap.size, 0, none⟩) (by simp <;> omega) _).far (p := ⟨w.heap.size, 1, none⟩) (by simp <;> omega) _).far (p := ⟨w.heap.size, 2, none⟩) (by simp <;> omega) _).far (p := ⟨w.heap.size, 3, none⟩) (by simp <;> omega) _).rd, ((((OA2.out.far (p := ⟨w.heap.size, 0, none⟩) (by simp <;> omega) _).far (p := ⟨w.heap.size, 1, none⟩) (by simp <;> omega) _).far (p := ⟨w.heap.size, 2, none⟩) (by simp <;> omega) _).far (p := ⟨w.heap.size, 3, none⟩) (by simp <;> omega) _).rd⟩
  · have bd : (d != 0) = true := by simpa using hd0
    have HD0 := Lib.hid hd0
    clear hd0
    go_wp2
    have bf := ((((KA.out.set_ 0 (.slice none 0 0)).set_ 1 (.slice none 0 0)).set_ 2 (.slice none 0 0)).set_ 3 (.int .u64 0))
    have y0 := bf.cell 0
    have y1 := bf.cell 1
    have y2 := bf.cell 2
    have y3 := bf.cell 3
    simp at y0 y1 y2 y3
    refine bodyPost_ret (v := .tuple #[.agg #[.slice none 0 0, .slice none 0 0, .slice none 0 0, .int .u64 0], .int .i64 d]) (by simp [results, Tryz.results16, go_sem, y0, y1, y2, y3]) rfl ?_
    have S1 := SS.out
    rcases hq : allP (stateP xs) with q | a
    · rw [hq] at S1
      simp only at S1
      have e1 : dn s4 = q := by rw [← S1]
      rw [← hq]
      exact dpost_bad hq ((((BA.out.setCell (p := ⟨w.heap.size, 0, none⟩) (Nat.le_refl _) (.slice none 0 0)).setCell (p := ⟨w.heap.size, 1, none⟩) (Nat.le_refl _) (.slice none 0 0)).setCell (p := ⟨w.heap.size, 2, none⟩) (Nat.le_refl _) (.slice none 0 0)).setCell (p := ⟨w.heap.size, 3, none⟩) (Nat.le_refl _) (.int .u64 0)) (D.out.trans e1)
    · rw [hq] at S1
      simp only at S1
      exfalso
      refine HD0.out ?_
      rw [D.out]
      exact S1.2
end Go.Proofs.YtielnocnnffdfaaGreat
