/- The document's bytes of a state. -/
import Derived.Test.YtielnocnnffdfaaPqs
import Derived.Test.YtielnocnnffdfaaRnm
import Derived.Test.YtielnocnnffdfaaMmc
import Derived.Deep.RegionHeldLaw
namespace Go.Proofs.Ytielnocnnffdfaa
open Go.RowKit

theorem Bf.drew {B : Nat} {W0 w : World} {v : Value} {xs : List Int} (h : Bf B W0 w v xs) : Bf B W0 w.drew v xs := ⟨h.own, h.bel.drew, h.le⟩
theorem Bf.next {B : Nat} {W0 w w' : World} {v v' : Value} {xs ys : List Int} (h : Bf B W0 w v xs) (ho : Bo w.heap.size w' v' ys) (hb : Below w.heap.size w w') : Bf B W0 w' v' ys :=
  ⟨ho.le h.le, h.bel.trans (hb.mono h.le), Nat.le_trans h.le hb.size⟩

set_option maxHeartbeats 8000000 in
set_option maxRecDepth 100000 in
theorem rstate_any (u v0 v1 v2 : Value) (xs : List Int) (r0 r1 r2 : List (List Int)) (x3 : Int) (hin0 : ∀ q ∈ r0, fok partyK q) (hin1 : ∀ q ∈ r1, fok lineK q) (hin2 : ∀ q ∈ r2, fok offerK q) (h3 : fok1 .u64 x3) (w : World) (hu : Bs w u xs) (hv0 : Partys w v0 r0) (hv1 : Lines w v1 r1) (hv2 : Offers w v2 r2)
    (hg0 : r0.length ≤ 1000000) (hg1 : r1.length ≤ 1000000) (hg2 : r2.length ≤ 1000000) (hl : xs.length + (stateB (r0, r1, r2, [x3])).length ≤ 70368744177664) :
    Calls Try.prog 88 #[u, .agg #[v0, v1, v2, .int .u64 x3]] w fun e w' => ∃ v', e = .returned v' ∧ Bo w.heap.size w' v' (xs ++ stateB (r0, r1, r2, [x3])) ∧ Below w.heap.size w w' := by
  obtain ⟨m3, rfl⟩ : ∃ m : Nat, x3 = (m : Int) := ⟨x3.toNat, by have := h3.1; omega⟩
  have k0 := Blk.new w 100 #[v0, v1, v2, .int .u64 m3]
  have bw := below_alloc_ w (.cells #[v0, v1, v2, .int .u64 m3] 100)
  have K := Lib.hid k0
  have HU := Lib.hid (Bs.below hu bw)
  have V0 := Lib.hid (show Partys _ v0 r0 from Rd.below hv0 bw)
  have V1 := Lib.hid (show Lines _ v1 r1 from Rd.below hv1 bw)
  have V2 := Lib.hid (show Offers _ v2 r2 from Rd.below hv2 bw)
  have I0 := Lib.hid hin0
  have I1 := Lib.hid hin1
  have I2 := Lib.hid hin2
  have HX3 := Lib.hid (show m3 < 18446744073709551616 by have := h3.2; omega)
  have BW := Lib.hid bw
  simp only [Int.toNat_natCast, stateB, partysB, linesB, offersB, listB, fB, fb1, List.headD_cons, List.tail_cons, List.length_append, List.length_nil, List.length_cons, List.append_nil] at hl
  have HL := Lib.hid hl
  obtain ⟨A0, q0, rfl, -⟩ := id hv0
  obtain ⟨A1, q1, rfl, -⟩ := id hv1
  obtain ⟨A2, q2, rfl, -⟩ := id hv2
  have i0 : (r0.length : Int) ≤ 1000000 := by omega
  have i1 : (r1.length : Int) ≤ 1000000 := by omega
  have i2 : (r2.length : Int) ≤ 1000000 := by omega
  have hW1 : w.heap.size < (w.alloc (.cells #[.slice A0 r0.length q0, .slice A1 r1.length q1, .slice A2 r2.length q2, .int .u64 m3] 100)).heap.size := by simp
  clear k0 bw hu hv0 hv1 hv2 hin0 hin1 hin2 h3 hl
  go_enter Try.func88, Try.ntmps88
  go_wp2_with fail
  refine (rnum_any u xs r0.length _ HU.out (by omega) (by have := HL.out; omega)).mono ?_
  rintro e w1 ⟨u1, rfl, ho, hb⟩
  have F1 := Lib.hid (show Bf _ _ w1 u1 (xs ++ nb r0.length) from ⟨ho, hb, hb.size⟩)
  clear ho hb
  generalize w.alloc (.cells #[.slice A0 r0.length q0, .slice A1 r1.length q1, .slice A2 r2.length q2, .int .u64 m3] 100) = W at *
  go_wp2_with fail
  go_loopg [0, 5] r0.length (fun g c0 c5 wr => ∃ k : Nat, k ≤ r0.length ∧ g = r0.length - k ∧ c5 = .int .i64 k ∧ Bf W.heap.size W wr c0 (xs ++ nb r0.length ++ (r0.take k).flatMap (fB partyK)))
  case atStart => exact ⟨0, Nat.zero_le _, by omega, rfl, by simpa using F1.out⟩
  case round =>
    obtain ⟨k, hk, hgk, rfl, hF⟩ := hrel
    have GK := Lib.hid hgk
    have HF := Lib.hid hF
    have k1 := K.out.below hF.bel K.out.lt
    have d0 := k1.cell 0
    have d1 := k1.cell 1
    simp at d0 d1
    clear hgk hF k1
    by_cases hkn : k < r0.length
    · obtain ⟨g, o, c', hA, hc', hgl, hcell⟩ := Rd.at_ fcparty_len (Rd.below V0.out (HF.out.bel.mono (Nat.le_refl _))) (by omega)
      obtain ⟨y0, hq, o0⟩ := party_fok (I0.out _ (List.getElem_mem hkn))
      have x0' : wr.cell? ⟨g, o + k, none⟩ = some (.int .u8 y0) := by have := hcell k hkn 0 (.int .u8 y0) (by omega) (by rw [hq]; rfl); simpa using this
      injection hA with e1 e2 e3
      subst e1; subst e3
      have Q := Lib.hid hq
      have OK0 := Lib.hid o0
      clear hcell e2 hq o0
      have hb : (xs ++ nb r0.length ++ (r0.take k).flatMap (fB partyK)).length + (fB partyK [y0]).length ≤ 70368744177664 := by
        have h1 := HL.out
        have h2 := flat_len_le (fB partyK) r0 (k + 1)
        rw [flat_snoc (fB partyK) r0 k hkn, Q.out] at h2
        simp only [List.length_append] at h1 h2 ⊢
        omega
      have hfl : fB partyK [y0] = ([y0] ++ []) := rfl
      rw [hfl] at hb
      have HFL := Lib.hid hfl
      clear hfl
      simp only [List.length_append, List.length_nil, List.length_cons] at hb
      have HB := Lib.hid hb
      clear hb
      go_wp2_with (at_builtin; go_must (refine wpList_bf_byte rfl _ _ 52 rfl Try.underlying52 rfl HF.out rfl (by have := HB.out; simp only [List.length_append]; omega) ?_); intro v2 w2 hB2)
      have FE := Lib.hid hB2
      clear hB2
      go_wp2
      go_roundg (r0.length - (k + 1))
      case measure => have := GK.out; omega
      case rel =>
        refine ⟨k + 1, by omega, rfl, by go_num, ?_⟩
        rw [flat_snoc (fB partyK) r0 k hkn, Q.out, HFL.out]
        have := FE.out
        simpa only [List.append_nil, List.append_assoc, List.cons_append, List.nil_append] using this
    · obtain rfl : k = r0.length := by omega
      have HE := Lib.hid (show Bf W.heap.size W wr _ (xs ++ nb r0.length ++ r0.flatMap (fB partyK)) from by have := HF.out; rwa [List.take_length] at this)
      clear HF
      go_wp2_with fail
      refine (rnum_any _ (xs ++ nb r0.length ++ r0.flatMap (fB partyK)) r1.length _ HE.out.own.bs (by omega) (by have := HL.out; simp only [List.length_append] at this ⊢; omega)).mono ?_
      rintro e w10 ⟨u10, rfl, ho, hb⟩
      have F3 := Lib.hid (HE.out.next ho hb)
      clear ho hb HE d0 d1
      go_wp2_with fail
      go_loopg [0, 6] r1.length (fun g c0 c6 wr => ∃ k : Nat, k ≤ r1.length ∧ g = r1.length - k ∧ c6 = .int .i64 k ∧ Bf W.heap.size W wr c0 (xs ++ nb r0.length ++ r0.flatMap (fB partyK) ++ nb r1.length ++ (r1.take k).flatMap (fB lineK)))
      case atStart => exact ⟨0, Nat.zero_le _, by omega, rfl, by simpa using F3.out⟩
      case round =>
        obtain ⟨k, hk, hgk, rfl, hF⟩ := hrel
        have GK := Lib.hid hgk
        have HF := Lib.hid hF
        have k1 := K.out.below hF.bel K.out.lt
        have d1 := k1.cell 1
        have d2 := k1.cell 2
        simp at d1 d2
        clear hgk hF k1
        by_cases hkn : k < r1.length
        · obtain ⟨g, o, c', hA, hc', hgl, hcell⟩ := Rd.at_ fcline_len (Rd.below V1.out (HF.out.bel.mono (Nat.le_refl _))) (by omega)
          obtain ⟨y0, y1, y2, y3, y4, hq, o0, o1, o2, o3, o4⟩ := line_fok (I1.out _ (List.getElem_mem hkn))
          have x0' : wr.cell? ⟨g, o + k * 5, none⟩ = some (.int .u8 y0) := by have := hcell k hkn 0 (.int .u8 y0) (by omega) (by rw [hq]; rfl); simpa using this
          have x1' : wr.cell? ⟨g, o + k * 5 + 1, none⟩ = some (.int .u8 y1) := by have := hcell k hkn 1 (.int .u8 y1) (by omega) (by rw [hq]; rfl); simpa using this
          have x2' : wr.cell? ⟨g, o + k * 5 + 2, none⟩ = some (.int .u8 y2) := by have := hcell k hkn 2 (.int .u8 y2) (by omega) (by rw [hq]; rfl); simpa using this
          have x3' : wr.cell? ⟨g, o + k * 5 + 3, none⟩ = some (.int .i64 y3) := by have := hcell k hkn 3 (.int .i64 y3) (by omega) (by rw [hq]; rfl); simpa using this
          have x4' : wr.cell? ⟨g, o + k * 5 + 4, none⟩ = some (.int .i64 y4) := by have := hcell k hkn 4 (.int .i64 y4) (by omega) (by rw [hq]; rfl); simpa using this
          injection hA with e1 e2 e3
          subst e1; subst e3
          have Q := Lib.hid hq
          have OK0 := Lib.hid o0
          have OK1 := Lib.hid o1
          have OK2 := Lib.hid o2
          have OK3 := Lib.hid o3
          have OK4 := Lib.hid o4
          clear hcell e2 hq o0 o1 o2 o3 o4
          have hb : (xs ++ nb r0.length ++ r0.flatMap (fB partyK) ++ nb r1.length ++ (r1.take k).flatMap (fB lineK)).length + (fB lineK [y0, y1, y2, y3, y4]).length ≤ 70368744177664 := by
            have h1 := HL.out
            have h2 := flat_len_le (fB lineK) r1 (k + 1)
            rw [flat_snoc (fB lineK) r1 k hkn, Q.out] at h2
            simp only [List.length_append] at h1 h2 ⊢
            omega
          have hfl : fB lineK [y0, y1, y2, y3, y4] = ([y0] ++ ([y1] ++ ([y2] ++ (sb y3 ++ (sb y4 ++ []))))) := rfl
          rw [hfl] at hb
          have HFL := Lib.hid hfl
          clear hfl
          simp only [List.length_append, List.length_nil, List.length_cons] at hb
          have HB := Lib.hid hb
          clear hb
          have nk := Blk.new wr 150 #[.int .u8 y0, .int .u8 y1, .int .u8 y2, .int .i64 y3, .int .i64 y4]
          have NK := Lib.hid nk
          have n0 := nk.cell 0
          have n1 := nk.cell 1
          have n2 := nk.cell 2
          have n3 := nk.cell 3
          have n4 := nk.cell 4
          simp at n0 n1 n2 n3 n4
          have WF := Lib.hid (HF.out.alloc (.cells #[.int .u8 y0, .int .u8 y1, .int .u8 y2, .int .i64 y3, .int .i64 y4] 150))
          clear nk
          have hlit : Bs ((wr.alloc (.cells #[.int .u8 y0, .int .u8 y1, .int .u8 y2, .int .i64 y3, .int .i64 y4] 150)).alloc (.cells #[.int .u8 y0, .int .u8 y1, .int .u8 y2] 5)) (.slice (some ⟨wr.heap.size + 1, 0, none⟩) 3 3) [y0, y1, y2] := by have := Bs.lits (wr.alloc (.cells #[.int .u8 y0, .int .u8 y1, .int .u8 y2, .int .i64 y3, .int .i64 y4] 150)) [y0, y1, y2]; rwa [World.size_alloc] at this
          have HLIT := Lib.hid hlit
          clear hlit
          go_wp2_with (at_builtin; go_must (refine wpList_bf_bytesK rfl _ _ 52 rfl Try.underlying52 rfl (WF.out.alloc (.cells #[.int .u8 y0, .int .u8 y1, .int .u8 y2] 5)) HLIT.out rfl (by have := HB.out; simp only [List.length_append, List.length_cons, List.length_nil] at this ⊢; omega) ?_); intro v2 w2 hB2 hK2)
          have N2 := Lib.hid ((NK.out.alloc (.cells #[.int .u8 y0, .int .u8 y1, .int .u8 y2] 5)).grown hK2.1 (fun e => Ow.notat (WF.out.alloc (.cells #[.int .u8 y0, .int .u8 y1, .int .u8 y2] 5)).own (NK.out.alloc (.cells #[.int .u8 y0, .int .u8 y1, .int .u8 y2] 5)) (by decide) e.symm))
          have F2 := Lib.hid hB2
          clear hB2 hK2 n0 n1 n2 n3 n4
          have hs2 : wr.heap.size < w2.heap.size := N2.out.lt
          have KS : ∀ X, Below w2.heap.size w2 X → X.cell? ⟨wr.heap.size, 3, none⟩ = some (.int .i64 y3) ∧ X.cell? ⟨wr.heap.size, 4, none⟩ = some (.int .i64 y4) := fun X hb => ⟨((N2.out.below hb hs2).cell 3).trans rfl, ((N2.out.below hb hs2).cell 4).trans rfl⟩
          have K0 := Lib.hid (KS _ (Below.refl w2.heap.size w2).drew)
          have K1 := Lib.hid (fun X (hb : Below w2.drew.heap.size w2.drew X) => KS X ((Below.refl w2.heap.size w2).drew.trans hb))
          have K2 := Lib.hid (fun X Y (hb : Below w2.drew.heap.size w2.drew X) (hb2 : Below X.heap.size X Y) => KS Y (((Below.refl w2.heap.size w2).drew.trans hb).trans (hb2.mono hb.size)))
          clear KS
          go_wp2_with fail
          go_region_held3 (fun w' => w'.cell? ⟨wr.heap.size, 3, none⟩ = some (.int .i64 y3) ∧ w'.cell? ⟨wr.heap.size, 4, none⟩ = some (.int .i64 y4)) (first
             | (with_reducible exact K2.out _ _ hby hbz)
             | (with_reducible exact K1.out _ hby)
             | (with_reducible exact K0.out)
             | fail)
            (first
             | (go_at_call 111; refine (rsign_any z1 _ y4 _ (by exact hoy.bs) OK4.out.1 OK4.out.2 (by have := HB.out; simp only [List.length_append, List.length_cons, List.length_nil] at this ⊢; omega)).mono ?_; rintro e wz ⟨z2, rfl, hoz, hbz⟩)
             | (go_at_call 111; refine (rsign_any v2 (xs ++ nb r0.length ++ r0.flatMap (fB partyK) ++ nb r1.length ++ (r1.take k).flatMap (fB lineK) ++ [y0, y1, y2]) y3 _ (by exact F2.out.own.bs) OK3.out.1 OK3.out.2 (by have := HB.out; simp only [List.length_append, List.length_cons, List.length_nil] at this ⊢; omega)).mono ?_; rintro e wy ⟨z1, rfl, hoy, hby⟩))
          have FE := Lib.hid ((Bf.next F2.out.drew hoy hby).next hoz hbz)
          clear hoy hby hoz hbz K0 K1 K2
          go_wp2
          go_roundg (r1.length - (k + 1))
          case measure => have := GK.out; omega
          case rel =>
            refine ⟨k + 1, by omega, rfl, by go_num, ?_⟩
            rw [flat_snoc (fB lineK) r1 k hkn, Q.out, HFL.out]
            have := FE.out
            simpa only [List.append_nil, List.append_assoc, List.cons_append, List.nil_append] using this
        · obtain rfl : k = r1.length := by omega
          have HE := Lib.hid (show Bf W.heap.size W wr _ (xs ++ nb r0.length ++ r0.flatMap (fB partyK) ++ nb r1.length ++ r1.flatMap (fB lineK)) from by have := HF.out; rwa [List.take_length] at this)
          clear HF
          go_wp2_with fail
          refine (rnum_any _ (xs ++ nb r0.length ++ r0.flatMap (fB partyK) ++ nb r1.length ++ r1.flatMap (fB lineK)) r2.length _ HE.out.own.bs (by omega) (by have := HL.out; simp only [List.length_append] at this ⊢; omega)).mono ?_
          rintro e w11 ⟨u11, rfl, ho, hb⟩
          have F5 := Lib.hid (HE.out.next ho hb)
          clear ho hb HE d1 d2
          go_wp2_with fail
          go_loopg [0, 8] r2.length (fun g c0 c8 wr => ∃ k : Nat, k ≤ r2.length ∧ g = r2.length - k ∧ c8 = .int .i64 k ∧ Bf W.heap.size W wr c0 (xs ++ nb r0.length ++ r0.flatMap (fB partyK) ++ nb r1.length ++ r1.flatMap (fB lineK) ++ nb r2.length ++ (r2.take k).flatMap (fB offerK)))
          case atStart => exact ⟨0, Nat.zero_le _, by omega, rfl, by simpa using F5.out⟩
          case round =>
            obtain ⟨k, hk, hgk, rfl, hF⟩ := hrel
            have GK := Lib.hid hgk
            have HF := Lib.hid hF
            have k1 := K.out.below hF.bel K.out.lt
            have d2 := k1.cell 2
            have d3 := k1.cell 3
            simp at d2 d3
            clear hgk hF k1
            by_cases hkn : k < r2.length
            · obtain ⟨g, o, c', hA, hc', hgl, hcell⟩ := Rd.at_ fcoffer_len (Rd.below V2.out (HF.out.bel.mono (Nat.le_refl _))) (by omega)
              obtain ⟨y0, y1, y2, y3, y4, y5, y6, hq, o0, o1, o2, o3, o4, o5, o6⟩ := offer_fok (I2.out _ (List.getElem_mem hkn))
              have x0' : wr.cell? ⟨g, o + k * 7, none⟩ = some (.int .u64 y0) := by have := hcell k hkn 0 (.int .u64 y0) (by omega) (by rw [hq]; rfl); simpa using this
              have x1' : wr.cell? ⟨g, o + k * 7 + 1, none⟩ = some (.int .u8 y1) := by have := hcell k hkn 1 (.int .u8 y1) (by omega) (by rw [hq]; rfl); simpa using this
              have x2' : wr.cell? ⟨g, o + k * 7 + 2, none⟩ = some (.int .u8 y2) := by have := hcell k hkn 2 (.int .u8 y2) (by omega) (by rw [hq]; rfl); simpa using this
              have x3' : wr.cell? ⟨g, o + k * 7 + 3, none⟩ = some (.int .u8 y3) := by have := hcell k hkn 3 (.int .u8 y3) (by omega) (by rw [hq]; rfl); simpa using this
              have x4' : wr.cell? ⟨g, o + k * 7 + 4, none⟩ = some (.int .i64 y4) := by have := hcell k hkn 4 (.int .i64 y4) (by omega) (by rw [hq]; rfl); simpa using this
              have x5' : wr.cell? ⟨g, o + k * 7 + 5, none⟩ = some (.int .i64 y5) := by have := hcell k hkn 5 (.int .i64 y5) (by omega) (by rw [hq]; rfl); simpa using this
              have x6' : wr.cell? ⟨g, o + k * 7 + 6, none⟩ = some (.int .i64 y6) := by have := hcell k hkn 6 (.int .i64 y6) (by omega) (by rw [hq]; rfl); simpa using this
              injection hA with e1 e2 e3
              subst e1; subst e3
              have Q := Lib.hid hq
              have OK0 := Lib.hid o0
              have OK1 := Lib.hid o1
              have OK2 := Lib.hid o2
              have OK3 := Lib.hid o3
              have OK4 := Lib.hid o4
              have OK5 := Lib.hid o5
              have OK6 := Lib.hid o6
              clear hcell e2 hq o0 o1 o2 o3 o4 o5 o6
              have hb : (xs ++ nb r0.length ++ r0.flatMap (fB partyK) ++ nb r1.length ++ r1.flatMap (fB lineK) ++ nb r2.length ++ (r2.take k).flatMap (fB offerK)).length + (fB offerK [y0, y1, y2, y3, y4, y5, y6]).length ≤ 70368744177664 := by
                have h1 := HL.out
                have h2 := flat_len_le (fB offerK) r2 (k + 1)
                rw [flat_snoc (fB offerK) r2 k hkn, Q.out] at h2
                simp only [List.length_append] at h1 h2 ⊢
                omega
              have hfl : fB offerK [y0, y1, y2, y3, y4, y5, y6] = (nb y0.toNat ++ ([y1] ++ ([y2] ++ ([y3] ++ (sb y4 ++ (sb y5 ++ (sb y6 ++ []))))))) := rfl
              rw [hfl] at hb
              have HFL := Lib.hid hfl
              clear hfl
              simp only [List.length_append, List.length_nil, List.length_cons] at hb
              have HB := Lib.hid hb
              clear hb
              have nk := Blk.new wr 155 #[.int .u64 y0, .int .u8 y1, .int .u8 y2, .int .u8 y3, .int .i64 y4, .int .i64 y5, .int .i64 y6]
              have NK := Lib.hid nk
              have n0 := nk.cell 0
              have n1 := nk.cell 1
              have n2 := nk.cell 2
              have n3 := nk.cell 3
              have n4 := nk.cell 4
              have n5 := nk.cell 5
              have n6 := nk.cell 6
              simp at n0 n1 n2 n3 n4 n5 n6
              have WF := Lib.hid (HF.out.alloc (.cells #[.int .u64 y0, .int .u8 y1, .int .u8 y2, .int .u8 y3, .int .i64 y4, .int .i64 y5, .int .i64 y6] 155))
              clear nk
              have hlit : Bs ((wr.alloc (.cells #[.int .u64 y0, .int .u8 y1, .int .u8 y2, .int .u8 y3, .int .i64 y4, .int .i64 y5, .int .i64 y6] 155)).alloc (.cells #[.int .u8 y1, .int .u8 y2, .int .u8 y3] 5)) (.slice (some ⟨wr.heap.size + 1, 0, none⟩) 3 3) [y1, y2, y3] := by have := Bs.lits (wr.alloc (.cells #[.int .u64 y0, .int .u8 y1, .int .u8 y2, .int .u8 y3, .int .i64 y4, .int .i64 y5, .int .i64 y6] 155)) [y1, y2, y3]; rwa [World.size_alloc] at this
              have HLIT := Lib.hid hlit
              clear hlit
              have e0 : y0 = ((y0.toNat : Nat) : Int) := by have := OK0.out.1; omega
              have HY0 := Lib.hid (show y0.toNat < 18446744073709551616 by have := OK0.out.2; omega)
              obtain ⟨m0, hm0⟩ : ∃ m, m = y0.toNat := ⟨_, rfl⟩
              rw [← hm0] at HY0 HFL HB e0
              subst e0
              clear hm0 OK0
              have hs2 : wr.heap.size < (wr.alloc (.cells #[.int .u64 m0, .int .u8 y1, .int .u8 y2, .int .u8 y3, .int .i64 y4, .int .i64 y5, .int .i64 y6] 155)).heap.size := NK.out.lt
              have KS : ∀ X, Below (wr.alloc (.cells #[.int .u64 m0, .int .u8 y1, .int .u8 y2, .int .u8 y3, .int .i64 y4, .int .i64 y5, .int .i64 y6] 155)).heap.size (wr.alloc (.cells #[.int .u64 m0, .int .u8 y1, .int .u8 y2, .int .u8 y3, .int .i64 y4, .int .i64 y5, .int .i64 y6] 155)) X → X.cell? ⟨wr.heap.size, 0, none⟩ = some (.int .u64 m0) ∧ X.cell? ⟨wr.heap.size, 1, none⟩ = some (.int .u8 y1) ∧ X.cell? ⟨wr.heap.size, 2, none⟩ = some (.int .u8 y2) ∧ X.cell? ⟨wr.heap.size, 3, none⟩ = some (.int .u8 y3) := fun X hb => ⟨((NK.out.below hb hs2).cell 0).trans rfl, ((NK.out.below hb hs2).cell 1).trans rfl, ((NK.out.below hb hs2).cell 2).trans rfl, ((NK.out.below hb hs2).cell 3).trans rfl⟩
              have HKS := Lib.hid KS
              clear KS
              go_upto_region 18 with fail
              go_cut [0] (fun s0 wx => Bf (wr.alloc (.cells #[.int .u64 m0, .int .u8 y1, .int .u8 y2, .int .u8 y3, .int .i64 y4, .int .i64 y5, .int .i64 y6] 155)).heap.size (wr.alloc (.cells #[.int .u64 m0, .int .u8 y1, .int .u8 y2, .int .u8 y3, .int .i64 y4, .int .i64 y5, .int .i64 y6] 155)) wx s0 (xs ++ nb r0.length ++ r0.flatMap (fB partyK) ++ nb r1.length ++ r1.flatMap (fB lineK) ++ nb r2.length ++ (r2.take k).flatMap (fB offerK) ++ nb m0 ++ [y1, y2, y3]))
              case first =>
                clear n0 n1 n2 n3 n4 n5 n6 x0' x1' x2' x3' x4' x5' x6'
                obtain ⟨X, hX⟩ : ∃ X, X = wr.alloc (.cells #[.int .u64 m0, .int .u8 y1, .int .u8 y2, .int .u8 y3, .int .i64 y4, .int .i64 y5, .int .i64 y6] 155) := ⟨_, rfl⟩
                have hXs : X.heap.size = wr.heap.size + 1 := by rw [hX]; simp
                rw [← hX] at HKS NK WF HLIT hs2 ⊢
                have HXS := Lib.hid hXs
                have HXE := Lib.hid hX
                clear hX hXs
                go_region_held_law (fun w' => w'.cell? ⟨wr.heap.size, 0, none⟩ = some (.int .u64 m0) ∧ w'.cell? ⟨wr.heap.size, 1, none⟩ = some (.int .u8 y1) ∧ w'.cell? ⟨wr.heap.size, 2, none⟩ = some (.int .u8 y2) ∧ w'.cell? ⟨wr.heap.size, 3, none⟩ = some (.int .u8 y3)) (first
                   | (with_reducible exact HKS.out _ G4.out.bel)
                   | (with_reducible exact HKS.out _ (G3.out.bel.alloc G3.out.le _))
                   | (with_reducible exact HKS.out _ G3.out.bel)
                   | (with_reducible exact HKS.out _ ((Below.refl X.heap.size X).alloc (Nat.le_refl _) _).drew)
                   | (with_reducible exact HKS.out _ (Below.refl X.heap.size X).drew)
                   | fail)
                  (first
                   | (refine step_bf_bytes rfl _ _ 52 rfl Try.underlying52 rfl (G3.out.alloc (.cells #[.int .u8 y1, .int .u8 y2, .int .u8 y3] 5)) (Bs.lits _ [y1, y2, y3]) rfl (by have := HB.out; simp only [List.length_append, List.length_cons, List.length_nil] at this ⊢; omega) ?_; intro v2 w2 hB2 _; have G4 := Lib.hid hB2; clear hB2)
                   | (refine step_bf_bytes rfl _ _ 52 rfl Try.underlying52 rfl G3.out (Bs.below (show Bs (X.alloc (.cells #[.int .u8 y1, .int .u8 y2, .int .u8 y3] 5)).drew _ [y1, y2, y3] from Bs.lits X [y1, y2, y3]) Y3.out) rfl (by have := HB.out; simp only [List.length_append, List.length_cons, List.length_nil] at this ⊢; omega) ?_; intro v2 w2 hB2 _; have G4 := Lib.hid hB2; clear hB2)
                   | (go_simp; go_at_call 64; refine (rnum_any _ (xs ++ nb r0.length ++ r0.flatMap (fB partyK) ++ nb r1.length ++ r1.flatMap (fB lineK) ++ nb r2.length ++ (r2.take k).flatMap (fB offerK)) m0 _ (by exact WF.out.own.bs) HY0.out (by have := HB.out; simp only [List.length_append, List.length_cons, List.length_nil] at this ⊢; omega)).mono ?_; rintro e w3 ⟨u3, rfl, ho3, hb3⟩; have G3 := Lib.hid (show Bf X.heap.size X w3 u3 _ from ⟨ho3, (Below.refl _ X).drew.trans hb3, hb3.size⟩); have Y3 := Lib.hid hb3; clear ho3 hb3)
                   | (go_simp; go_at_call 64; refine (rnum_any _ (xs ++ nb r0.length ++ r0.flatMap (fB partyK) ++ nb r1.length ++ r1.flatMap (fB lineK) ++ nb r2.length ++ (r2.take k).flatMap (fB offerK)) m0 _ (by exact (WF.out.alloc (.cells #[.int .u8 y1, .int .u8 y2, .int .u8 y3] 5)).own.bs) HY0.out (by have := HB.out; simp only [List.length_append, List.length_cons, List.length_nil] at this ⊢; omega)).mono ?_; rintro e w3 ⟨u3, rfl, ho3, hb3⟩; have G3 := Lib.hid (show Bf X.heap.size X w3 u3 _ from ⟨ho3.le (by simp), ((Below.refl X.heap.size X).alloc (Nat.le_refl _) _).drew.trans (hb3.mono (by simp)), Nat.le_trans (by simp) hb3.size⟩); have Y3 := Lib.hid hb3; clear ho3 hb3))
                all_goals
                  go_simp
                  first | go_meet | (go_wp2; go_meet)
                  rw [← HXE.out]
                  exact G4.out
              case rest =>
              have G4 := Lib.hid hcut
              clear hcut n0 n1 n2 n3 n4 n5 n6 x0' x1' x2' x3' x4' x5' x6' HKS
              have N2 := NK.out.below G4.out.bel NK.out.lt
              have p4 := N2.cell 4
              simp only [List.getElem?_toArray, List.getElem?_cons_zero, List.getElem?_cons_succ] at p4
              have FW := Lib.hid (WF.out.next G4.out.own G4.out.bel)
              have NN := Lib.hid N2
              clear N2 G4
              go_wp2_with fail
              refine (rsign_any _ (xs ++ nb r0.length ++ r0.flatMap (fB partyK) ++ nb r1.length ++ r1.flatMap (fB lineK) ++ nb r2.length ++ (r2.take k).flatMap (fB offerK) ++ nb m0 ++ [y1, y2, y3]) y4 _ (by exact FW.out.own.bs) OK4.out.1 OK4.out.2 (by have := HB.out; simp only [List.length_append, List.length_cons, List.length_nil] at this ⊢; omega)).mono ?_
              rintro e w5 ⟨z5, rfl, ho5, hb5⟩
              have FX := Lib.hid (FW.out.next ho5 hb5)
              have N5 := Lib.hid (NN.out.below hb5 NN.out.lt)
              have hs5 : wr.heap.size < w5.heap.size := N5.out.lt
              clear ho5 hb5 p4
              have KS : ∀ X, Below w5.heap.size w5 X → X.cell? ⟨wr.heap.size, 5, none⟩ = some (.int .i64 y5) ∧ X.cell? ⟨wr.heap.size, 6, none⟩ = some (.int .i64 y6) := fun X hb => ⟨((N5.out.below hb hs5).cell 5).trans rfl, ((N5.out.below hb hs5).cell 6).trans rfl⟩
              have K0 := Lib.hid (KS _ (Below.refl w5.heap.size w5).drew)
              have K1 := Lib.hid (fun X (hb : Below w5.drew.heap.size w5.drew X) => KS X ((Below.refl w5.heap.size w5).drew.trans hb))
              have K2 := Lib.hid (fun X Y (hb : Below w5.drew.heap.size w5.drew X) (hb2 : Below X.heap.size X Y) => KS Y (((Below.refl w5.heap.size w5).drew.trans hb).trans (hb2.mono hb.size)))
              clear KS
              go_wp2_with fail
              go_region_held3 (fun w' => w'.cell? ⟨wr.heap.size, 5, none⟩ = some (.int .i64 y5) ∧ w'.cell? ⟨wr.heap.size, 6, none⟩ = some (.int .i64 y6)) (first
                 | (with_reducible exact K2.out _ _ hby hbz)
                 | (with_reducible exact K1.out _ hby)
                 | (with_reducible exact K0.out)
                 | fail)
                (first
                 | (go_at_call 111; refine (rsign_any z1 _ y6 _ (by exact hoy.bs) OK6.out.1 OK6.out.2 (by have := HB.out; simp only [List.length_append, List.length_cons, List.length_nil] at this ⊢; omega)).mono ?_; rintro e wz ⟨z2, rfl, hoz, hbz⟩)
                 | (go_at_call 111; refine (rsign_any z5 (xs ++ nb r0.length ++ r0.flatMap (fB partyK) ++ nb r1.length ++ r1.flatMap (fB lineK) ++ nb r2.length ++ (r2.take k).flatMap (fB offerK) ++ nb m0 ++ [y1, y2, y3] ++ sb y4) y5 _ (by exact FX.out.own.bs) OK5.out.1 OK5.out.2 (by have := HB.out; simp only [List.length_append, List.length_cons, List.length_nil] at this ⊢; omega)).mono ?_; rintro e wy ⟨z1, rfl, hoy, hby⟩))
              have FE := Lib.hid ((Bf.next FX.out.drew hoy hby).next hoz hbz)
              clear hoy hby hoz hbz K0 K1 K2
              go_wp2
              go_roundg (r2.length - (k + 1))
              case measure => have := GK.out; omega
              case rel =>
                refine ⟨k + 1, by omega, rfl, by go_num, ?_⟩
                rw [flat_snoc (fB offerK) r2 k hkn, Q.out, HFL.out]
                have := FE.out
                simpa only [List.append_nil, List.append_assoc, List.cons_append, List.nil_append] using this
            · obtain rfl : k = r2.length := by omega
              have HE := Lib.hid (show Bf W.heap.size W wr _ (xs ++ nb r0.length ++ r0.flatMap (fB partyK) ++ nb r1.length ++ r1.flatMap (fB lineK) ++ nb r2.length ++ r2.flatMap (fB offerK)) from by have := HF.out; rwa [List.take_length] at this)
              clear HF
              go_wp2_with fail
              refine (rnum_any _ (xs ++ nb r0.length ++ r0.flatMap (fB partyK) ++ nb r1.length ++ r1.flatMap (fB lineK) ++ nb r2.length ++ r2.flatMap (fB offerK)) m3 _ HE.out.own.bs HX3.out (by have := HL.out; simp only [List.length_append] at this ⊢; omega)).mono ?_
              rintro e w12 ⟨u12, rfl, ho, hb⟩
              have F7 := Lib.hid (HE.out.next ho hb)
              clear ho hb HE d2 d3
              go_wp2
              go_ret
              refine ⟨u12, rfl, ?_, BW.out.trans (F7.out.bel.mono (by omega))⟩
              have := F7.out.own.le (B' := w.heap.size) (by omega)
              simpa only [Int.toNat_natCast, stateB, partysB, linesB, offersB, listB, fB, fb1, List.headD_cons, List.tail_cons, List.append_nil, List.append_assoc] using this
set_option maxHeartbeats 4000000 in
theorem rput_any (v0 v1 v2 : Value) (r0 r1 r2 : List (List Int)) (x3 : Int) (hin0 : ∀ q ∈ r0, fok partyK q) (hin1 : ∀ q ∈ r1, fok lineK q) (hin2 : ∀ q ∈ r2, fok offerK q) (h3 : fok1 .u64 x3) (w : World) (hv0 : Partys w v0 r0) (hv1 : Lines w v1 r1) (hv2 : Offers w v2 r2) (hg0 : r0.length ≤ 1000000) (hg1 : r1.length ≤ 1000000) (hg2 : r2.length ≤ 1000000) :
    Calls Try.prog 47 #[.agg #[v0, v1, v2, .int .u64 x3]] w fun e w' => ∃ v', e = .returned (.tuple #[v', .int .i64 (stateR (r0, r1, r2, [x3])).2]) ∧ Bo w.heap.size w' v' (stateR (r0, r1, r2, [x3])).1 ∧ Below w.heap.size w w' := by
  have Q3 := Lib.hid h3
  have HI0 := Lib.hid hin0
  have HI1 := Lib.hid hin1
  have HI2 := Lib.hid hin2
  have HV0 := Lib.hid (show Partys _ v0 r0 from Rd.alloc hv0 (.cells #[v0, v1, v2, .int .u64 x3] 100))
  have HV1 := Lib.hid (show Lines _ v1 r1 from Rd.alloc hv1 (.cells #[v0, v1, v2, .int .u64 x3] 100))
  have HV2 := Lib.hid (show Offers _ v2 r2 from Rd.alloc hv2 (.cells #[v0, v1, v2, .int .u64 x3] 100))
  obtain ⟨E0, q0, rfl, -⟩ := id hv0
  obtain ⟨E1, q1, rfl, -⟩ := id hv1
  obtain ⟨E2, q2, rfl, -⟩ := id hv2
  clear hin0 hin1 hin2 hv0 hv1 hv2 h3
  by_cases t0 : r0.length ≤ 16
  rotate_left
  · have t0' : (16 : Int) < (r0.length : Int) := by omega
    have HR := Lib.hid (show stateR (r0, r1, r2, [x3]) = ([], 3) from if_neg (by (try simp only); omega))
    rw [HR.out]
    go_enter Try.func47, Try.ntmps47
    go_wp2
    refine bodyPost_ret (results_tmp2 rfl _ _ _) rfl ?_
    exact ⟨_, rfl, Bo.nil_ _ _, below_alloc_ _ _⟩
  have t0' : ¬ (16 : Int) < (r0.length : Int) := by omega
  by_cases t1 : r1.length ≤ 64
  rotate_left
  · have t1' : (64 : Int) < (r1.length : Int) := by omega
    have HR := Lib.hid (show stateR (r0, r1, r2, [x3]) = ([], 3) from if_neg (by (try simp only); omega))
    rw [HR.out]
    go_enter Try.func47, Try.ntmps47
    go_wp2
    refine bodyPost_ret (results_tmp2 rfl _ _ _) rfl ?_
    exact ⟨_, rfl, Bo.nil_ _ _, below_alloc_ _ _⟩
  have t1' : ¬ (64 : Int) < (r1.length : Int) := by omega
  by_cases t2 : r2.length ≤ 32
  rotate_left
  · have t2' : (32 : Int) < (r2.length : Int) := by omega
    have HR := Lib.hid (show stateR (r0, r1, r2, [x3]) = ([], 3) from if_neg (by (try simp only); omega))
    rw [HR.out]
    go_enter Try.func47, Try.ntmps47
    go_wp2
    refine bodyPost_ret (results_tmp2 rfl _ _ _) rfl ?_
    exact ⟨_, rfl, Bo.nil_ _ _, below_alloc_ _ _⟩
  have t2' : ¬ (32 : Int) < (r2.length : Int) := by omega
  have hl : ([] : List Int).length + (stateB (r0, r1, r2, [x3])).length ≤ 70368744177664 := by
    have := stateLen t0 t1 t2 HI0.out HI1.out HI2.out Q3.out
    simp only [List.length_nil]
    omega
  have HL := Lib.hid hl
  have HR := Lib.hid (show stateR (r0, r1, r2, [x3]) = (stateB (r0, r1, r2, [x3]), 0) from if_pos ⟨t0, t1, t2⟩)
  rw [HR.out]
  clear hl
  go_enter Try.func47, Try.ntmps47
  go_wp2_with fail
  refine (rstate_any _ _ _ _ [] r0 r1 r2 x3 HI0.out HI1.out HI2.out Q3.out _ (Bs.nils _ _ _) HV0.out HV1.out HV2.out (by omega) (by omega) (by omega) HL.out).mono ?_
  rintro e w1 ⟨v1, rfl, ho, hb⟩
  have HO := Lib.hid ho
  have HB := Lib.hid hb
  clear ho hb
  go_wp2
  refine bodyPost_ret (results_tmp2 rfl _ _ _) rfl ?_
  exact ⟨_, rfl, HO.out.le (by simp), (below_alloc_ _ _).trans (HB.out.mono (by simp))⟩
end Go.Proofs.Ytielnocnnffdfaa
