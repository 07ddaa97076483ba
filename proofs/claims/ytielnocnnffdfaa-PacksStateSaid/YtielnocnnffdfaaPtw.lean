/- PacksState: the walk. -/
import Derived.Test.YtielnocnnffdfaaPtk
import Derived.Test.YtielnocnnffdfaaRst
import Derived.Test.YtielnocnnffdfaaPws
import Derived.Test.YtielnocnnffdfaaPlv
import Derived.Test.YtielnocnnffdfaaAll
namespace Go.Proofs.Ytielnocnnffdfaa
open Go.RowKit

theorem stateR_cases (a : List (List Int) × List (List Int) × List (List Int) × List Int) : ∃ bs k, stateR a = (bs, k) ∧ ((k = 0 ∧ bs = stateB a ∧ a.1.length ≤ 16 ∧ a.2.1.length ≤ 64 ∧ a.2.2.1.length ≤ 32) ∨ (k ≠ 0 ∧ bs = [])) := by
  unfold stateR
  split
  · rename_i h; exact ⟨_, _, rfl, .inl ⟨rfl, rfl, h⟩⟩
  · exact ⟨_, _, rfl, .inr ⟨by decide, rfl⟩⟩
theorem Twin_party_at (W : World) {w : World} {v : Value} {r : List (List Int)} (hv : Partys W v r) (hn : r.length ≤ 1000000) (hb : Below W.heap.size W w) :
    Calls Try.prog 43 #[v] w fun e w' => ∃ A c, e = .returned (.slice A r.length c) ∧ Tw W.heap.size w' 146 1 (.slice A r.length c) r.length (r.flatMap (fc partyK)) [.int .u8 195, .int .u8 195] ∧ Below W.heap.size W w' ∧ Below w.heap.size w w' :=
  (Twin_party v r w (show Partys w v r from Rd.below hv hb) hn).mono fun _ _ ⟨A, c, he, ht, hb'⟩ => ⟨A, c, he, ht.le_ hb.size, hb.trans (hb'.mono hb.size), hb'⟩
theorem Twin_line_at (W : World) {w : World} {v : Value} {r : List (List Int)} (hv : Lines W v r) (hn : r.length ≤ 1000000) (hb : Below W.heap.size W w) :
    Calls Try.prog 44 #[v] w fun e w' => ∃ A c, e = .returned (.slice A r.length c) ∧ Tw W.heap.size w' 150 5 (.slice A r.length c) r.length (r.flatMap (fc lineK)) [.int .u8 0, .int .u8 0, .int .u8 0, .int .i64 (-77), .int .i64 0, .int .u8 0, .int .u8 0, .int .u8 0, .int .i64 (-77), .int .i64 0] ∧ Below W.heap.size W w' ∧ Below w.heap.size w w' :=
  (Twin_line v r w (show Lines w v r from Rd.below hv hb) hn).mono fun _ _ ⟨A, c, he, ht, hb'⟩ => ⟨A, c, he, ht.le_ hb.size, hb.trans (hb'.mono hb.size), hb'⟩
theorem Twin_offer_at (W : World) {w : World} {v : Value} {r : List (List Int)} (hv : Offers W v r) (hn : r.length ≤ 1000000) (hb : Below W.heap.size W w) :
    Calls Try.prog 45 #[v] w fun e w' => ∃ A c, e = .returned (.slice A r.length c) ∧ Tw W.heap.size w' 155 7 (.slice A r.length c) r.length (r.flatMap (fc offerK)) [.int .u64 0, .int .u8 0, .int .u8 0, .int .u8 0, .int .i64 (-77), .int .i64 0, .int .i64 0, .int .u64 0, .int .u8 0, .int .u8 0, .int .u8 0, .int .i64 (-77), .int .i64 0, .int .i64 0] ∧ Below W.heap.size W w' ∧ Below w.heap.size w w' :=
  (Twin_offer v r w (show Offers w v r from Rd.below hv hb) hn).mono fun _ _ ⟨A, c, he, ht, hb'⟩ => ⟨A, c, he, ht.le_ hb.size, hb.trans (hb'.mono hb.size), hb'⟩
set_option maxHeartbeats 8000000 in
set_option maxRecDepth 100000 in
theorem pstate_walk (A0 A1 A2 : Option Addr) (q0 q1 q2 : Nat) (r0 r1 r2 : List (List Int)) (x3 : Int) (hin0 : ∀ q ∈ r0, fok partyK q) (hin1 : ∀ q ∈ r1, fok lineK q) (hin2 : ∀ q ∈ r2, fok offerK q) (h3 : fok1 .u64 x3) (w : World)
    (hv0 : Partys w (.slice A0 r0.length q0) r0) (hv1 : Lines w (.slice A1 r1.length q1) r1) (hv2 : Offers w (.slice A2 r2.length q2) r2) :
    Calls Try.prog 8 #[.agg #[.slice A0 r0.length q0, .slice A1 r1.length q1, .slice A2 r2.length q2, .int .u64 x3]] w fun e w' => e = .returned (.bool true) ∧ Below w.heap.size w w' := by
  have k0 := Blk.new w 93 #[.slice A0 r0.length q0, .slice A1 r1.length q1, .slice A2 r2.length q2, .int .u64 x3]
  have bw := below_alloc_ w (.cells #[.slice A0 r0.length q0, .slice A1 r1.length q1, .slice A2 r2.length q2, .int .u64 x3] 93)
  have c0 := k0.cell 0
  have c1 := k0.cell 1
  have c2 := k0.cell 2
  have c3 := k0.cell 3
  simp only [List.getElem?_toArray, List.getElem?_cons_zero, List.getElem?_cons_succ] at c0 c1 c2 c3
  have K := Lib.hid k0
  have V0 := Lib.hid (show Partys _ _ r0 from Rd.below hv0 bw)
  have V1 := Lib.hid (show Lines _ _ r1 from Rd.below hv1 bw)
  have V2 := Lib.hid (show Offers _ _ r2 from Rd.below hv2 bw)
  have I0 := Lib.hid hin0
  have I1 := Lib.hid hin1
  have I2 := Lib.hid hin2
  have H3 := Lib.hid h3
  have BW := Lib.hid bw
  have hs : w.heap.size < (w.alloc (.cells #[.slice A0 r0.length q0, .slice A1 r1.length q1, .slice A2 r2.length q2, .int .u64 x3] 93)).heap.size := by simp
  clear k0 bw hv0 hv1 hv2 hin0 hin1 hin2 h3
  by_cases hgr : 100 < r0.length ∨ 200 < r1.length ∨ 200 < r2.length
  · have D := Lib.hid (decide_eq_true hgr)
    go_enter Try.func8, Try.ntmps8
    go_wp2_with fail
    refine (great_any A0 A1 A2 r0.length r1.length r2.length q0 q1 q2 x3 _).mono ?_
    rintro e w1 ⟨rfl, hb⟩
    rw [D.out]
    have B1 := Lib.hid (BW.out.trans (hb.mono BW.out.size))
    clear hb
    go_wp2_with fail
    refine (plives _).mono ?_
    rintro e w2 ⟨rfl, hb⟩
    have B2 := Lib.hid (B1.out.trans (hb.mono B1.out.size))
    clear hb
    go_wp2
    go_ret
    exact ⟨rfl, B2.out⟩
  have D := Lib.hid (decide_eq_false hgr)
  have l0 : r0.length ≤ 100 := by omega
  have l1 : r1.length ≤ 200 := by omega
  have l2 : r2.length ≤ 200 := by omega
  clear hgr
  go_enter Try.func8, Try.ntmps8
  go_wp2_with fail
  refine (great_any A0 A1 A2 r0.length r1.length r2.length q0 q1 q2 x3 _).mono ?_
  rintro e w1 ⟨rfl, hb1⟩
  rw [D.out]
  have B1 := Lib.hid hb1
  clear hb1 c0 c1 c2 c3 D
  generalize w.alloc (.cells #[.slice A0 r0.length q0, .slice A1 r1.length q1, .slice A2 r2.length q2, .int .u64 x3] 93) = W at *
  have KS : ∀ X, Below W.heap.size W X → X.cell? ⟨w.heap.size, 0, none⟩ = some (.slice A0 r0.length q0) ∧ X.cell? ⟨w.heap.size, 1, none⟩ = some (.slice A1 r1.length q1) ∧ X.cell? ⟨w.heap.size, 2, none⟩ = some (.slice A2 r2.length q2) ∧ X.cell? ⟨w.heap.size, 3, none⟩ = some (.int .u64 x3) :=
    fun X hb => ⟨((K.out.below hb hs).cell 0).trans rfl, ((K.out.below hb hs).cell 1).trans rfl, ((K.out.below hb hs).cell 2).trans rfl, ((K.out.below hb hs).cell 3).trans rfl⟩
  have HKS := Lib.hid KS
  clear KS
  go_upto_region 3 with fail
  go_cut [3] (fun s3 wx => ∃ g F0 F1 F2 d0 d1 d2, s3 = .pointer (some ⟨g, 0, none⟩) ∧ W.heap.size ≤ g ∧ Blk wx g 93 #[.slice F0 r0.length d0, .slice F1 r1.length d1, .slice F2 r2.length d2, .int .u64 x3] ∧
    Tw W.heap.size wx 146 1 (.slice F0 r0.length d0) r0.length (r0.flatMap (fc partyK)) [.int .u8 195, .int .u8 195] ∧
    Tw W.heap.size wx 150 5 (.slice F1 r1.length d1) r1.length (r1.flatMap (fc lineK)) [.int .u8 0, .int .u8 0, .int .u8 0, .int .i64 (-77), .int .i64 0, .int .u8 0, .int .u8 0, .int .u8 0, .int .i64 (-77), .int .i64 0] ∧
    Tw W.heap.size wx 155 7 (.slice F2 r2.length d2) r2.length (r2.flatMap (fc offerK)) [.int .u64 0, .int .u8 0, .int .u8 0, .int .u8 0, .int .i64 (-77), .int .i64 0, .int .i64 0, .int .u64 0, .int .u8 0, .int .u8 0, .int .u8 0, .int .i64 (-77), .int .i64 0, .int .i64 0] ∧ Below W.heap.size W wx)
  case first =>
    go_region_held3 (fun w' => w'.cell? ⟨w.heap.size, 0, none⟩ = some (.slice A0 r0.length q0) ∧ w'.cell? ⟨w.heap.size, 1, none⟩ = some (.slice A1 r1.length q1) ∧ w'.cell? ⟨w.heap.size, 2, none⟩ = some (.slice A2 r2.length q2) ∧ w'.cell? ⟨w.heap.size, 3, none⟩ = some (.int .u64 x3)) (first
       | (with_reducible exact HKS.out _ (((((X3.out.alloc X3.out.size _).setCell X3.out.size _).setCell X3.out.size _).setCell X3.out.size _).setCell X3.out.size _))
       | (with_reducible exact HKS.out _ ((((X3.out.setCell B1.out.size _).setCell B1.out.size _).setCell B1.out.size _).setCell B1.out.size _))
       | (with_reducible exact HKS.out _ ((((X3.out.setCell X1.out.size _).setCell X1.out.size _).setCell X1.out.size _).setCell X1.out.size _))
       | (with_reducible exact HKS.out _ ((((X3.out.setCell X2.out.size _).setCell X2.out.size _).setCell X2.out.size _).setCell X2.out.size _))
       | (with_reducible exact HKS.out _ (X3.out.alloc X3.out.size _))
       | (with_reducible exact HKS.out _ X3.out)
       | (with_reducible exact HKS.out _ (X2.out.alloc X2.out.size _))
       | (with_reducible exact HKS.out _ X2.out)
       | (with_reducible exact HKS.out _ (X1.out.alloc X1.out.size _))
       | (with_reducible exact HKS.out _ X1.out)
       | (with_reducible exact HKS.out _ (B1.out.alloc B1.out.size _).drew)
       | (with_reducible exact HKS.out _ B1.out.drew)
       | fail)
      (first
       | (go_at_call 45; refine (Twin_offer_at W V2.out (by omega) (by first | exact X2.out | exact X2.out.alloc X2.out.size _)).mono ?_; rintro e wc ⟨F2, d2, rfl, hT2, hX3, hbc⟩; have X3 := Lib.hid hX3; have T2 := Lib.hid hT2; have U0 := Lib.hid (by first | exact P0.out.below hbc | exact (P0.out.below (below_alloc_ _ _)).below hbc); have U1 := Lib.hid (by first | exact P1.out.below hbc | exact (P1.out.below (below_alloc_ _ _)).below hbc); (first | (have KZ3 := Lib.hid (KZ2.out.below hbc KZ2.out.lt)) | (have KZ3 := Lib.hid ((Blk.new wb 93 #[.slice none 0 0, .slice none 0 0, .slice none 0 0, .int .u64 0]).below hbc (by simp))) | skip); clear hT2 hX3 hbc; (try (have fz3 := KZ3.out.free; have z0 := KZ3.out.cell 0; have z1 := KZ3.out.cell 1; have z2 := KZ3.out.cell 2; have z3 := KZ3.out.cell 3; simp only [List.getElem?_toArray, List.getElem?_cons_zero, List.getElem?_cons_succ] at z0 z1 z2 z3)))
       | (go_at_call 44; refine (Twin_line_at W V1.out (by omega) (by first | exact X1.out | exact X1.out.alloc X1.out.size _)).mono ?_; rintro e wb ⟨F1, d1, rfl, hT1, hX2, hbb⟩; have X2 := Lib.hid hX2; have P1 := Lib.hid hT1; have P0 := Lib.hid (by first | exact T0.out.below hbb | exact (T0.out.below (below_alloc_ _ _)).below hbb); (first | (have KZ2 := Lib.hid (KZ1.out.below hbb KZ1.out.lt)) | (have KZ2 := Lib.hid ((Blk.new wa 93 #[.slice none 0 0, .slice none 0 0, .slice none 0 0, .int .u64 0]).below hbb (by simp))) | skip); clear hT1 hX2 hbb)
       | (go_at_call 43; refine (Twin_party_at W V0.out (by omega) (by first | exact B1.out.drew | exact (B1.out.alloc B1.out.size _).drew)).mono ?_; rintro e wa ⟨F0, d0, rfl, hT0, hX1, hba⟩; have X1 := Lib.hid hX1; have T0 := Lib.hid hT0; (first | (have KZ1 := Lib.hid ((Blk.drew (Blk.new w1 93 #[.slice none 0 0, .slice none 0 0, .slice none 0 0, .int .u64 0])).below hba (by simp))) | skip); clear hT0 hX1 hba))
    all_goals
      go_simp
      first | go_meet | (go_wp2; go_meet)
      first
        | exact ⟨_, _, _, _, _, _, _, rfl, X3.out.size, Blk.new _ _ _, U0.out.below (below_alloc_ _ _), U1.out.below (below_alloc_ _ _), T2.out.below (below_alloc_ _ _), X3.out.alloc X3.out.size _⟩
        | exact ⟨_, _, _, _, _, _, _, rfl, B1.out.size, four_blk KZ3.out _ _ _ _, four_tw KZ3.out _ _ _ _ U0.out (by decide), four_tw KZ3.out _ _ _ _ U1.out (by decide), four_tw KZ3.out _ _ _ _ T2.out (by decide), four_bel X3.out B1.out.size _ _ _ _⟩
        | exact ⟨_, _, _, _, _, _, _, rfl, X1.out.size, four_blk KZ3.out _ _ _ _, four_tw KZ3.out _ _ _ _ U0.out (by decide), four_tw KZ3.out _ _ _ _ U1.out (by decide), four_tw KZ3.out _ _ _ _ T2.out (by decide), four_bel X3.out X1.out.size _ _ _ _⟩
        | exact ⟨_, _, _, _, _, _, _, rfl, X2.out.size, four_blk KZ3.out _ _ _ _, four_tw KZ3.out _ _ _ _ U0.out (by decide), four_tw KZ3.out _ _ _ _ U1.out (by decide), four_tw KZ3.out _ _ _ _ T2.out (by decide), four_bel X3.out X2.out.size _ _ _ _⟩
  case rest =>
  obtain ⟨g, F0, F1, F2, d0, d1, d2, rfl, hgW, hkg, ht0, ht1, ht2, hbw⟩ := hcut
  have G := Lib.hid hkg
  have T0 := Lib.hid ht0
  have T1 := Lib.hid ht1
  have T2 := Lib.hid ht2
  have BC := Lib.hid hbw
  have g0 := hkg.cell 0
  have g1 := hkg.cell 1
  have g2 := hkg.cell 2
  have g3 := hkg.cell 3
  simp only [List.getElem?_toArray, List.getElem?_cons_zero, List.getElem?_cons_succ] at g0 g1 g2 g3
  obtain ⟨bs, k, hR, hk⟩ := stateR_cases (r0, r1, r2, [x3])
  have HR := Lib.hid hR
  have HK := Lib.hid hk
  clear hkg ht0 ht1 ht2 hbw hR hk B1
  go_wp2_with fail
  refine (Put_state_any _ r0 _ r1 _ r2 x3 I0.out I1.out I2.out H3.out _ (show Partys _ _ r0 from T0.out.rd) (by omega) (show Lines _ _ r1 from T1.out.rd) (by omega) (show Offers _ _ r2 from T2.out.rd) (by omega)).mono ?_
  rintro e w4 ⟨v4, rfl, ho4, hb4⟩
  rw [HR.out] at ho4 ⊢
  simp only at ho4 ⊢
  obtain ⟨A4, c4, rfl, hc4, -⟩ := ho4.clip
  have O4 := Lib.hid ho4
  have B4 := Lib.hid (BC.out.trans (hb4.mono BC.out.size))
  have G4 := Lib.hid (G.out.below hb4 G.out.lt)
  have T04 := Lib.hid (T0.out.below hb4)
  have T14 := Lib.hid (T1.out.below hb4)
  have T24 := Lib.hid (T2.out.below hb4)
  obtain ⟨s0, s1, s2, s3⟩ := HKS.out _ B4.out
  clear ho4 hb4 g0 g1 g2 g3 T0 T1 T2 G BC
  go_wp2_with fail
  refine (state_any A0 A1 A2 r0.length r1.length r2.length q0 q1 q2 x3 _).mono ?_
  rintro e w5 ⟨rfl, hb5⟩
  have B5 := Lib.hid (B4.out.trans (hb5.mono B4.out.size))
  have Y5 := Lib.hid hb5
  clear hb5 s0 s1 s2 s3
  go_wp2_with fail
  refine (rput_any _ _ _ r0 r1 r2 x3 I0.out I1.out I2.out H3.out _ (show Partys _ _ r0 from Rd.below V0.out B5.out) (show Lines _ _ r1 from Rd.below V1.out B5.out) (show Offers _ _ r2 from Rd.below V2.out B5.out) (by omega) (by omega) (by omega)).mono ?_
  rintro e w6 ⟨v6, rfl, ho6, hb6⟩
  rw [HR.out] at ho6 ⊢
  simp only at ho6 ⊢
  have hb46 := Y5.out.trans (hb6.mono Y5.out.size)
  have B6 := Lib.hid (B4.out.trans (hb46.mono B4.out.size))
  have O46 := Lib.hid (O4.out.below hb46)
  have O6 := Lib.hid ho6
  have G6 := Lib.hid (G4.out.below hb46 G4.out.lt)
  have T06 := Lib.hid (T04.out.below hb46)
  have T16 := Lib.hid (T14.out.below hb46)
  have T26 := Lib.hid (T24.out.below hb46)
  obtain ⟨A6, c6, rfl, hc6, -⟩ := ho6.clip
  clear ho6 hb6 hb46 O4 G4 T04 T14 T24 B5 Y5
  have hkk : (k != k) = false := by simp
  have HBL := Lib.hid (show bs.length ≤ 1000000 from by
    rcases HK.out with ⟨_, rfl, t0, t1, t2⟩ | ⟨_, rfl⟩
    · exact Nat.le_trans (stateLen t0 t1 t2 I0.out I1.out I2.out H3.out) (by decide)
    · simp)
  have HX0 := Lib.hid (fun q (hq : q ∈ r0) => (fok_len _ _ (I0.out q hq) : q.length = 1))
  have HX1 := Lib.hid (fun q (hq : q ∈ r1) => (fok_len _ _ (I1.out q hq) : q.length = 5))
  have HX2 := Lib.hid (fun q (hq : q ∈ r2) => (fok_len _ _ (I2.out q hq) : q.length = 7))
  go_wp2_with fail
  refine (sameb_any bs bs _ _ _ O46.out.bs O6.out.bs (by have := HBL.out; omega)).mono ?_
  rintro e w7 ⟨rfl, m7, rfl⟩
  rw [show decide (bs = bs) = true from decide_eq_true rfl]
  have b7 := below_drewN_ w6.heap.size w6 m7
  have B7 := Lib.hid (B6.out.trans (b7.mono B6.out.size))
  have G7 := Lib.hid (G6.out.below b7 G6.out.lt)
  have T07 := Lib.hid (T06.out.below b7)
  have T17 := Lib.hid (T16.out.below b7)
  have T27 := Lib.hid (T26.out.below b7)
  have O47 := Lib.hid (O46.out.below b7)
  obtain ⟨s0, s1, s2, s3⟩ := HKS.out _ B7.out
  have g0 := G7.out.cell 0
  have g1 := G7.out.cell 1
  have g2 := G7.out.cell 2
  simp only [List.getElem?_toArray, List.getElem?_cons_zero, List.getElem?_cons_succ] at g0 g1 g2
  clear b7 B6 G6 T06 T16 T26 O46 O6 hkk
  go_wp2_with fail
  refine (Left_party W.heap.size _ _ r0 HX0.out _ T07.out (show Partys _ _ r0 from Rd.below V0.out B7.out) (by omega)).mono ?_
  rintro e w8 ⟨rfl, b8⟩
  have B8 := Lib.hid (B7.out.trans (b8.mono B7.out.size))
  have G8 := Lib.hid (G7.out.below b8 G7.out.lt)
  have T18 := Lib.hid (T17.out.below b8)
  have T28 := Lib.hid (T27.out.below b8)
  have O48 := Lib.hid (O47.out.below b8)
  clear b8 B7 G7 T07 T17 T27 O47 s0 s1 s2 s3 g0 g1 g2
  obtain ⟨s0, s1, s2, s3⟩ := HKS.out _ B8.out
  have g1 := G8.out.cell 1
  have g2 := G8.out.cell 2
  simp only [List.getElem?_toArray, List.getElem?_cons_zero, List.getElem?_cons_succ] at g1 g2
  go_wp2_with fail
  refine (Left_line W.heap.size _ _ r1 HX1.out _ T18.out (show Lines _ _ r1 from Rd.below V1.out B8.out) (by omega)).mono ?_
  rintro e w9 ⟨rfl, b9⟩
  have B9 := Lib.hid (B8.out.trans (b9.mono B8.out.size))
  have G9 := Lib.hid (G8.out.below b9 G8.out.lt)
  have T29 := Lib.hid (T28.out.below b9)
  have O49 := Lib.hid (O48.out.below b9)
  clear b9 B8 G8 T18 T28 O48 s0 s1 s2 s3 g1 g2
  obtain ⟨s0, s1, s2, s3⟩ := HKS.out _ B9.out
  have g2 := G9.out.cell 2
  simp only [List.getElem?_toArray, List.getElem?_cons_zero, List.getElem?_cons_succ] at g2
  go_wp2_with fail
  refine (Left_offer W.heap.size _ _ r2 HX2.out _ T29.out (show Offers _ _ r2 from Rd.below V2.out B9.out) (by omega)).mono ?_
  rintro e w10 ⟨rfl, b10⟩
  have B10 := Lib.hid (B9.out.trans (b10.mono B9.out.size))
  have O410 := Lib.hid (O49.out.below b10)
  clear b10 B9 G9 T29 O49 s0 s1 s2 s3 g2
  rcases HK.out with ⟨rfl, hbs, t0, t1, t2⟩ | ⟨hk0, rfl⟩
  rotate_left
  · have hkb : (k != 0) = true := by simpa using hk0
    clear HK HR
    go_wp2_with fail
    refine (plives _).mono ?_
    rintro e w11 ⟨rfl, b11⟩
    have B11 := Lib.hid (BW.out.trans ((B10.out.trans (b11.mono B10.out.size)).mono BW.out.size))
    clear b11
    go_wp2
    go_ret
    exact ⟨rfl, B11.out⟩
  subst hbs
  have OK := Lib.hid (show stateOk (r0, r1, r2, [x3]) from ⟨⟨t0, I0.out⟩, ⟨t1, I1.out⟩, ⟨t2, I2.out⟩, H3.out, rfl⟩)
  have AG := Lib.hid (all_get cod_state OK.out)
  have BY := Lib.hid (cod_state.byt (r0, r1, r2, [x3]) OK.out)
  clear HK HR
  go_wp2_with fail
  refine (Get_state_any _ (stateB (r0, r1, r2, [x3])) _ O410.out.bs BY.out (by have := HBL.out; omega)).mono ?_
  intro e w11 hp
  unfold GPost at hp
  rw [AG.out] at hp
  obtain ⟨v11, rfl, ⟨E0, E1, E2, rfl, ho0, ho1, ho2⟩, b11⟩ := hp
  have B11 := Lib.hid (B10.out.trans (b11.mono B10.out.size))
  have bY := below_alloc_ w11 (.cells #[.slice E0 r0.length r0.length, .slice E1 r1.length r1.length, .slice E2 r2.length r2.length, .int .u64 x3] 93)
  have KY := Lib.hid (Blk.new w11 93 #[.slice E0 r0.length r0.length, .slice E1 r1.length r1.length, .slice E2 r2.length r2.length, .int .u64 x3])
  have BY0 := Lib.hid (B11.out.trans (bY.mono B11.out.size))
  have Q0 := Lib.hid (show Partys _ _ r0 from Rd.below ho0.rd bY)
  have Q1 := Lib.hid (show Lines _ _ r1 from Rd.below ho1.rd bY)
  have Q2 := Lib.hid (show Offers _ _ r2 from Rd.below ho2.rd bY)
  clear b11 bY ho0 ho1 ho2 O410 AG BY B10 HBL
  have hlt := KY.out.lt
  go_upto_region 11 with fail
  obtain ⟨Y, hY⟩ : ∃ Y, Y = w11.alloc (.cells #[.slice E0 r0.length r0.length, .slice E1 r1.length r1.length, .slice E2 r2.length r2.length, .int .u64 x3] 93) := ⟨_, rfl⟩
  rw [← hY] at KY BY0 Q0 Q1 Q2 hlt ⊢
  clear hY
  have KS : ∀ X, Below Y.heap.size Y X → (X.cell? ⟨w.heap.size, 0, none⟩ = some (.slice A0 r0.length q0) ∧ X.cell? ⟨w.heap.size, 1, none⟩ = some (.slice A1 r1.length q1) ∧ X.cell? ⟨w.heap.size, 2, none⟩ = some (.slice A2 r2.length q2) ∧ X.cell? ⟨w.heap.size, 3, none⟩ = some (.int .u64 x3)) ∧ X.cell? ⟨w11.heap.size, 0, none⟩ = some (.slice E0 r0.length r0.length) ∧ X.cell? ⟨w11.heap.size, 1, none⟩ = some (.slice E1 r1.length r1.length) ∧ X.cell? ⟨w11.heap.size, 2, none⟩ = some (.slice E2 r2.length r2.length) ∧ X.cell? ⟨w11.heap.size, 3, none⟩ = some (.int .u64 x3) :=
    fun X hb => ⟨HKS.out _ (BY0.out.trans (hb.mono BY0.out.size)), ((KY.out.below hb hlt).cell 0).trans rfl, ((KY.out.below hb hlt).cell 1).trans rfl, ((KY.out.below hb hlt).cell 2).trans rfl, ((KY.out.below hb hlt).cell 3).trans rfl⟩
  have HKY := Lib.hid (fun X hb => let h := KS X hb; ((⟨h.1.1, h.1.2.1, h.1.2.2.1, h.1.2.2.2, h.2⟩ : _ ∧ _ ∧ _ ∧ _ ∧ _)))
  clear KS
  have Y0 := Lib.hid (Below.refl Y.heap.size Y).drew
  go_region_held3 (fun w' => w'.cell? ⟨w.heap.size, 0, none⟩ = some (.slice A0 r0.length q0) ∧ w'.cell? ⟨w.heap.size, 1, none⟩ = some (.slice A1 r1.length q1) ∧ w'.cell? ⟨w.heap.size, 2, none⟩ = some (.slice A2 r2.length q2) ∧ w'.cell? ⟨w.heap.size, 3, none⟩ = some (.int .u64 x3) ∧ w'.cell? ⟨w11.heap.size, 0, none⟩ = some (.slice E0 r0.length r0.length) ∧ w'.cell? ⟨w11.heap.size, 1, none⟩ = some (.slice E1 r1.length r1.length) ∧ w'.cell? ⟨w11.heap.size, 2, none⟩ = some (.slice E2 r2.length r2.length) ∧ w'.cell? ⟨w11.heap.size, 3, none⟩ = some (.int .u64 x3)) (first
      | (with_reducible exact HKY.out _ Y3.out)
      | (with_reducible exact HKY.out _ Y2.out)
      | (with_reducible exact HKY.out _ Y1.out)
      | (with_reducible exact HKY.out _ Y0.out)
      | fail)
    (first
      | (go_at_call 27; refine (plives _).mono ?_; rintro e wz ⟨rfl, bz⟩; have Y3 := Lib.hid (Y2.out.trans (bz.mono Y2.out.size)); clear bz)
      | (go_at_call 53; refine (ss_any _ _ _ r0 r1 r2 _ _ _ x3 HX0.out HX1.out HX2.out _ (show Partys _ _ r0 from Rd.below Q0.out Y1.out) (show Lines _ _ r1 from Rd.below Q1.out Y1.out) (show Offers _ _ r2 from Rd.below Q2.out Y1.out) (show Partys _ _ r0 from Rd.below V0.out (BY0.out.trans (Y1.out.mono BY0.out.size))) (show Lines _ _ r1 from Rd.below V1.out (BY0.out.trans (Y1.out.mono BY0.out.size))) (show Offers _ _ r2 from Rd.below V2.out (BY0.out.trans (Y1.out.mono BY0.out.size))) (by omega) (by omega) (by omega)).mono ?_; rintro e wy ⟨rfl, by_⟩; have Y2 := Lib.hid (Y1.out.trans (by_.mono Y1.out.size)); clear by_)
      | (go_at_call 48; refine (state_any A0 A1 A2 r0.length r1.length r2.length q0 q1 q2 x3 _).mono ?_; rintro e wx ⟨rfl, bx⟩; have Y1 := Lib.hid (Y0.out.trans (bx.mono Y0.out.size)); clear bx))
  have BE := Lib.hid (BW.out.trans ((BY0.out.trans (Y3.out.mono BY0.out.size)).mono BW.out.size))
  go_wp2
  go_ret
  exact ⟨rfl, BE.out⟩
end Go.Proofs.Ytielnocnnffdfaa
