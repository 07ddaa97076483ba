/- The document's bytes of a command. -/
import Derived.Test.YtielnocnnffdfaaPqc
import Derived.Test.YtielnocnnffdfaaRnm
import Derived.Test.YtielnocnnffdfaaBfn
import Derived.Test.YtielnocnnffdfaaMmc
namespace Go.Proofs.Ytielnocnnffdfaa
open Go.RowKit

set_option maxHeartbeats 8000000 in
set_option maxRecDepth 100000 in
theorem rcmd_any (u v : Value) (xs : List Int) (r : List (List Int)) (hin : ∀ q ∈ r, fok stepK q) (w : World) (hu : Bs w u xs) (hv : Steps w v r) (hg : r.length ≤ 1000000) (hl : xs.length + (cmdB r).length ≤ 70368744177664) :
    Calls Try.prog 73 #[u, .agg #[v]] w fun e w' => ∃ v', e = .returned v' ∧ Bo w.heap.size w' v' (xs ++ cmdB r) ∧ Below w.heap.size w w' := by
  have k0 := Blk.new w 67 #[v]
  have bw := below_alloc_ w (.cells #[v] 67)
  have K := Lib.hid k0
  have HU := Lib.hid (Bs.below hu bw)
  have V := Lib.hid (show Steps _ v r from Rd.below hv bw)
  have I := Lib.hid hin
  have BW := Lib.hid bw
  simp only [stepsB, listB, List.length_append] at hl
  have HL := Lib.hid hl
  obtain ⟨A0, q0, rfl, -⟩ := id hv
  have i0 : (r.length : Int) ≤ 1000000 := by omega
  have hW1 : w.heap.size < (w.alloc (.cells #[.slice A0 r.length q0] 67)).heap.size := by simp
  clear k0 bw hu hv hin hl
  go_enter Try.func73, Try.ntmps73
  go_wp2_with fail
  refine (rnum_any u xs r.length _ HU.out (by omega) (by have := HL.out; omega)).mono ?_
  rintro e w1 ⟨u1, rfl, ho, hb⟩
  have F1 := Lib.hid (show Bf _ _ w1 u1 (xs ++ nb r.length) from ⟨ho, hb, hb.size⟩)
  clear ho hb
  generalize w.alloc (.cells #[.slice A0 r.length q0] 67) = W at *
  go_wp2_with fail
  go_loopg [0, 5] r.length (fun g c0 c5 wr => ∃ k : Nat, k ≤ r.length ∧ g = r.length - k ∧ c5 = .int .i64 k ∧ Bf W.heap.size W wr c0 (xs ++ nb r.length ++ (r.take k).flatMap (fB stepK)))
  case atStart => exact ⟨0, Nat.zero_le _, by omega, rfl, by simpa using F1.out⟩
  case round =>
    obtain ⟨k, hk, hgk, rfl, hF⟩ := hrel
    have GK := Lib.hid hgk
    have HF := Lib.hid hF
    have k1 := K.out.below hF.bel K.out.lt
    have d0 := k1.cell 0
    simp at d0
    clear hgk hF k1
    by_cases hkn : k < r.length
    · skip
      obtain ⟨g, o, c', hA, hc', hgl, hcell⟩ := Rd.at_ fcstep_len (Rd.below V.out (HF.out.bel.mono (Nat.le_refl _))) (by omega)
      obtain ⟨y0, y1, y2, y3, y4, y5, y6, y7, y8, y9, hq, o0, o1, o2, o3, o4, o5, o6, o7, o8, o9⟩ := step_fok (I.out _ (List.getElem_mem hkn))
      have x0' : wr.cell? ⟨g, o + k * 10, none⟩ = some (.int .u8 y0) := by have := hcell k hkn 0 (.int .u8 y0) (by omega) (by rw [hq]; rfl); simpa using this
      have x1' : wr.cell? ⟨g, o + k * 10 + 1, none⟩ = some (.int .u8 y1) := by have := hcell k hkn 1 (.int .u8 y1) (by omega) (by rw [hq]; rfl); simpa using this
      have x2' : wr.cell? ⟨g, o + k * 10 + 2, none⟩ = some (.int .u8 y2) := by have := hcell k hkn 2 (.int .u8 y2) (by omega) (by rw [hq]; rfl); simpa using this
      have x3' : wr.cell? ⟨g, o + k * 10 + 3, none⟩ = some (.int .u8 y3) := by have := hcell k hkn 3 (.int .u8 y3) (by omega) (by rw [hq]; rfl); simpa using this
      have x4' : wr.cell? ⟨g, o + k * 10 + 4, none⟩ = some (.int .u8 y4) := by have := hcell k hkn 4 (.int .u8 y4) (by omega) (by rw [hq]; rfl); simpa using this
      have x5' : wr.cell? ⟨g, o + k * 10 + 5, none⟩ = some (.int .i64 y5) := by have := hcell k hkn 5 (.int .i64 y5) (by omega) (by rw [hq]; rfl); simpa using this
      have x6' : wr.cell? ⟨g, o + k * 10 + 6, none⟩ = some (.int .i64 y6) := by have := hcell k hkn 6 (.int .i64 y6) (by omega) (by rw [hq]; rfl); simpa using this
      have x7' : wr.cell? ⟨g, o + k * 10 + 7, none⟩ = some (.int .i64 y7) := by have := hcell k hkn 7 (.int .i64 y7) (by omega) (by rw [hq]; rfl); simpa using this
      have x8' : wr.cell? ⟨g, o + k * 10 + 8, none⟩ = some (.int .i64 y8) := by have := hcell k hkn 8 (.int .i64 y8) (by omega) (by rw [hq]; rfl); simpa using this
      have x9' : wr.cell? ⟨g, o + k * 10 + 9, none⟩ = some (.int .u64 y9) := by have := hcell k hkn 9 (.int .u64 y9) (by omega) (by rw [hq]; rfl); simpa using this
      injection hA with e1 e2 e3
      subst e1; subst e3
      have Q := Lib.hid hq
      have OK0 := Lib.hid o0
      have OK1 := Lib.hid o1
      have OK2 := Lib.hid o2
      have OK3 := Lib.hid o3
      have OK4 := Lib.hid o4
      have OK5 := Lib.hid o5
      have OK6 := Lib.hid o6
      have OK7 := Lib.hid o7
      have OK8 := Lib.hid o8
      have OK9 := Lib.hid o9
      clear hcell e2 hq o0 o1 o2 o3 o4 o5 o6 o7 o8 o9
      have hb : (xs ++ nb r.length ++ (r.take k).flatMap (fB stepK)).length + (fB stepK [y0, y1, y2, y3, y4, y5, y6, y7, y8, y9]).length ≤ 70368744177664 := by
        have h1 := HL.out
        have h2 := flat_len_le (fB stepK) r (k + 1)
        rw [flat_snoc (fB stepK) r k hkn, Q.out] at h2
        simp only [List.length_append] at h1 h2 ⊢
        omega
      have hfl : fB stepK [y0, y1, y2, y3, y4, y5, y6, y7, y8, y9] = ([y0] ++ ([y1] ++ ([y2] ++ ([y3] ++ ([y4] ++ (sb y5 ++ (sb y6 ++ (sb y7 ++ (sb y8 ++ (nb y9.toNat ++ [])))))))))) := rfl
      rw [hfl] at hb
      have HFL := Lib.hid hfl
      clear hfl
      simp only [List.length_append, List.length_nil, List.length_cons] at hb
      have HB := Lib.hid hb
      clear hb
      have e9 : y9 = ((y9.toNat : Nat) : Int) := by have := OK9.out.1; omega
      have HY9 := Lib.hid (show y9.toNat < 18446744073709551616 by have := OK9.out.2; omega)
      obtain ⟨m9, hm9⟩ : ∃ m, m = y9.toNat := ⟨_, rfl⟩
      rw [← hm9] at HY9 HFL HB e9
      subst e9
      clear hm9 OK9
      have nk := Blk.new wr 178 #[.int .u8 y0, .int .u8 y1, .int .u8 y2, .int .u8 y3, .int .u8 y4, .int .i64 y5, .int .i64 y6, .int .i64 y7, .int .i64 y8, .int .u64 m9]
      have NK := Lib.hid nk
      have n0 := nk.cell 0
      have n1 := nk.cell 1
      have n2 := nk.cell 2
      have n3 := nk.cell 3
      have n4 := nk.cell 4
      have n5 := nk.cell 5
      have n6 := nk.cell 6
      have n7 := nk.cell 7
      have n8 := nk.cell 8
      have n9 := nk.cell 9
      simp at n0 n1 n2 n3 n4 n5 n6 n7 n8 n9
      have WF := Lib.hid (HF.out.alloc (.cells #[.int .u8 y0, .int .u8 y1, .int .u8 y2, .int .u8 y3, .int .u8 y4, .int .i64 y5, .int .i64 y6, .int .i64 y7, .int .i64 y8, .int .u64 m9] 178))
      clear nk
      have hlit : Bs ((wr.alloc (.cells #[.int .u8 y0, .int .u8 y1, .int .u8 y2, .int .u8 y3, .int .u8 y4, .int .i64 y5, .int .i64 y6, .int .i64 y7, .int .i64 y8, .int .u64 m9] 178)).alloc (.cells #[.int .u8 y0, .int .u8 y1, .int .u8 y2, .int .u8 y3, .int .u8 y4] 5)) (.slice (some ⟨wr.heap.size + 1, 0, none⟩) 5 5) [y0, y1, y2, y3, y4] := by have := Bs.lits (wr.alloc (.cells #[.int .u8 y0, .int .u8 y1, .int .u8 y2, .int .u8 y3, .int .u8 y4, .int .i64 y5, .int .i64 y6, .int .i64 y7, .int .i64 y8, .int .u64 m9] 178)) [y0, y1, y2, y3, y4]; rwa [World.size_alloc] at this
      have HLIT := Lib.hid hlit
      clear hlit
      go_wp2_with (at_builtin; go_must (refine wpList_bf_bytesK rfl _ _ 52 rfl Try.underlying52 rfl (WF.out.alloc (.cells #[.int .u8 y0, .int .u8 y1, .int .u8 y2, .int .u8 y3, .int .u8 y4] 5)) HLIT.out rfl (by have := HB.out; (try simp only [List.length_append, List.length_cons, List.length_nil] at this); (try simp only [List.length_append, List.length_cons, List.length_nil]); omega) ?_); intro v2 w2 hB2 hK2)
      have N2 := Lib.hid ((NK.out.alloc (.cells #[.int .u8 y0, .int .u8 y1, .int .u8 y2, .int .u8 y3, .int .u8 y4] 5)).grown hK2.1 (fun e => Ow.notat (WF.out.alloc (.cells #[.int .u8 y0, .int .u8 y1, .int .u8 y2, .int .u8 y3, .int .u8 y4] 5)).own (NK.out.alloc (.cells #[.int .u8 y0, .int .u8 y1, .int .u8 y2, .int .u8 y3, .int .u8 y4] 5)) (by decide) e.symm))
      have F2 := Lib.hid hB2
      clear hB2 hK2 n0 n1 n2 n3 n4 n5 n6 n7 n8 n9 x0' x1' x2' x3' x4' x5' x6' x7' x8' x9'
      have hsa : wr.heap.size < w2.heap.size := N2.out.lt
      have KS : ∀ X, Below w2.heap.size w2 X → X.cell? ⟨wr.heap.size, 5, none⟩ = some (.int .i64 y5) ∧ X.cell? ⟨wr.heap.size, 6, none⟩ = some (.int .i64 y6) := fun X hb => ⟨((N2.out.below hb hsa).cell 5).trans rfl, ((N2.out.below hb hsa).cell 6).trans rfl⟩
      have K0 := Lib.hid (KS _ (Below.refl w2.heap.size w2).drew)
      have K1 := Lib.hid (fun X (hb : Below w2.drew.heap.size w2.drew X) => KS X ((Below.refl w2.heap.size w2).drew.trans hb))
      have K2 := Lib.hid (fun X Y (hb : Below w2.drew.heap.size w2.drew X) (hb2 : Below X.heap.size X Y) => KS Y (((Below.refl w2.heap.size w2).drew.trans hb).trans (hb2.mono hb.size)))
      clear KS
      go_wp2_with fail
      go_region_held3 (fun w' => w'.cell? ⟨wr.heap.size, 5, none⟩ = some (.int .i64 y5) ∧ w'.cell? ⟨wr.heap.size, 6, none⟩ = some (.int .i64 y6)) (first
         | (with_reducible exact K2.out _ _ hbya hbza)
         | (with_reducible exact K1.out _ hbya)
         | (with_reducible exact K0.out)
         | fail)
        (first
         | (go_at_call 111; refine (rsign_any z1a _ y6 _ (by exact hoya.bs) OK6.out.1 OK6.out.2 (by have := HB.out; (try simp only [List.length_append, List.length_cons, List.length_nil] at this); (try simp only [List.length_append, List.length_cons, List.length_nil]); omega)).mono ?_; rintro e wza ⟨z2a, rfl, hoza, hbza⟩)
         | (go_at_call 111; refine (rsign_any v2 (xs ++ nb r.length ++ (r.take k).flatMap (fB stepK) ++ [y0, y1, y2, y3, y4]) y5 _ (by exact F2.out.own.bs) OK5.out.1 OK5.out.2 (by have := HB.out; (try simp only [List.length_append, List.length_cons, List.length_nil] at this); (try simp only [List.length_append, List.length_cons, List.length_nil]); omega)).mono ?_; rintro e wya ⟨z1a, rfl, hoya, hbya⟩))
      have FEa := Lib.hid ((Bf.next F2.out.drew hoya hbya).next hoza hbza)
      have bba : Below w2.heap.size w2 wza := ((Below.refl w2.heap.size w2).drew.trans hbya).trans (hbza.mono hbya.size)
      have N3 := Lib.hid (N2.out.below bba hsa)
      clear hoya hbya hoza hbza K0 K1 K2 bba
      have hsb : wr.heap.size < wza.heap.size := N3.out.lt
      have KS : ∀ X, Below wza.heap.size wza X → X.cell? ⟨wr.heap.size, 7, none⟩ = some (.int .i64 y7) ∧ X.cell? ⟨wr.heap.size, 8, none⟩ = some (.int .i64 y8) := fun X hb => ⟨((N3.out.below hb hsb).cell 7).trans rfl, ((N3.out.below hb hsb).cell 8).trans rfl⟩
      have K0 := Lib.hid (KS _ (Below.refl wza.heap.size wza).drew)
      have K1 := Lib.hid (fun X (hb : Below wza.drew.heap.size wza.drew X) => KS X ((Below.refl wza.heap.size wza).drew.trans hb))
      have K2 := Lib.hid (fun X Y (hb : Below wza.drew.heap.size wza.drew X) (hb2 : Below X.heap.size X Y) => KS Y (((Below.refl wza.heap.size wza).drew.trans hb).trans (hb2.mono hb.size)))
      clear KS
      go_wp2_with fail
      go_region_held3 (fun w' => w'.cell? ⟨wr.heap.size, 7, none⟩ = some (.int .i64 y7) ∧ w'.cell? ⟨wr.heap.size, 8, none⟩ = some (.int .i64 y8)) (first
         | (with_reducible exact K2.out _ _ hbyb hbzb)
         | (with_reducible exact K1.out _ hbyb)
         | (with_reducible exact K0.out)
         | fail)
        (first
         | (go_at_call 111; refine (rsign_any z1b _ y8 _ (by exact hoyb.bs) OK8.out.1 OK8.out.2 (by have := HB.out; (try simp only [List.length_append, List.length_cons, List.length_nil] at this); (try simp only [List.length_append, List.length_cons, List.length_nil]); omega)).mono ?_; rintro e wzb ⟨z2b, rfl, hozb, hbzb⟩)
         | (go_at_call 111; refine (rsign_any z2a (xs ++ nb r.length ++ (r.take k).flatMap (fB stepK) ++ [y0, y1, y2, y3, y4] ++ sb y5 ++ sb y6) y7 _ (by exact FEa.out.own.bs) OK7.out.1 OK7.out.2 (by have := HB.out; (try simp only [List.length_append, List.length_cons, List.length_nil] at this); (try simp only [List.length_append, List.length_cons, List.length_nil]); omega)).mono ?_; rintro e wyb ⟨z1b, rfl, hoyb, hbyb⟩))
      have FEb := Lib.hid ((Bf.next FEa.out.drew hoyb hbyb).next hozb hbzb)
      have bbb : Below wza.heap.size wza wzb := ((Below.refl wza.heap.size wza).drew.trans hbyb).trans (hbzb.mono hbyb.size)
      have N4 := N3.out.below bbb hsb
      have p9 := N4.cell 9
      simp only [List.getElem?_toArray, List.getElem?_cons_zero, List.getElem?_cons_succ] at p9
      clear hoyb hbyb hozb hbzb K0 K1 K2 bbb N4
      go_wp2_with fail
      refine (rnum_any z2b (xs ++ nb r.length ++ (r.take k).flatMap (fB stepK) ++ [y0, y1, y2, y3, y4] ++ sb y5 ++ sb y6 ++ sb y7 ++ sb y8) m9 _ FEb.out.own.bs HY9.out (by have := HB.out; (try simp only [List.length_append, List.length_cons, List.length_nil] at this); (try simp only [List.length_append, List.length_cons, List.length_nil]); omega)).mono ?_
      rintro e w9 ⟨u9, rfl, ho, hb⟩
      have FE := Lib.hid (FEb.out.next ho hb)
      clear ho hb p9
      go_wp2
      go_roundg (r.length - (k + 1))
      case measure => have := GK.out; omega
      case rel =>
        refine ⟨k + 1, by omega, rfl, by go_num, ?_⟩
        rw [flat_snoc (fB stepK) r k hkn, Q.out, HFL.out]
        have := FE.out
        simpa only [List.append_nil, List.append_assoc, List.cons_append, List.nil_append] using this
    · obtain rfl : k = r.length := by omega
      have HE := Lib.hid (show Bf W.heap.size W wr _ (xs ++ nb r.length ++ r.flatMap (fB stepK)) from by have := HF.out; rwa [List.take_length] at this)
      clear HF
      go_wp2
      go_ret
      refine ⟨_, rfl, ?_, BW.out.trans (HE.out.bel.mono (by omega))⟩
      have := HE.out.own.le (B' := w.heap.size) (by omega)
      simp only [List.append_assoc] at this
      exact this
set_option maxHeartbeats 4000000 in
theorem rputcmd_any (v : Value) (r : List (List Int)) (hin : ∀ q ∈ r, fok stepK q) (w : World) (hv : Steps w v r) (hg : r.length ≤ 1000000) :
    Calls Try.prog 34 #[.agg #[v]] w fun e w' => ∃ v', e = .returned (.tuple #[v', .int .i64 (cmdR r).2]) ∧ Bo w.heap.size w' v' (cmdR r).1 ∧ Below w.heap.size w w' := by
  have HI := Lib.hid hin
  have HV := Lib.hid (show Steps _ v r from Rd.alloc hv (.cells #[v] 67))
  obtain ⟨E0, q0, rfl, -⟩ := id hv
  clear hin hv
  by_cases t0 : r.length ≤ 8
  rotate_left
  · have t0' : (8 : Int) < (r.length : Int) := by omega
    have HR := Lib.hid (show cmdR r = ([], 3) from if_neg t0)
    rw [HR.out]
    go_enter Try.func34, Try.ntmps34
    go_wp2
    refine bodyPost_ret (results_tmp2 rfl _ _ _) rfl ?_
    exact ⟨_, rfl, Bo.nil_ _ _, below_alloc_ _ _⟩
  have t0' : ¬ (8 : Int) < (r.length : Int) := by omega
  have hl : ([] : List Int).length + (cmdB r).length ≤ 70368744177664 := by
    have := list_len stepK r 10 rfl t0 (by decide) HI.out
    simp only [List.length_nil, cmdB, stepsB] at this ⊢
    omega
  have HL := Lib.hid hl
  have HR := Lib.hid (show cmdR r = (cmdB r, 0) from if_pos t0)
  rw [HR.out]
  clear hl
  go_enter Try.func34, Try.ntmps34
  go_wp2_with fail
  refine (rcmd_any _ _ [] r HI.out _ (Bs.nils _ _ _) HV.out (by omega) HL.out).mono ?_
  rintro e w1 ⟨v1, rfl, ho, hb⟩
  have HO := Lib.hid ho
  have HB := Lib.hid hb
  clear ho hb
  go_wp2
  refine bodyPost_ret (results_tmp2 rfl _ _ _) rfl ?_
  exact ⟨_, rfl, HO.out.le (by simp), (below_alloc_ _ _).trans (HB.out.mono (by simp))⟩
end Go.Proofs.Ytielnocnnffdfaa
