/- Letters: through a letter, putting it. -/
import Derived.Test.YthjdkjinkmdclaaGreatLpt
namespace Go.Proofs.YthjdkjinkmdclaaGreat
open Go.RowKit

theorem fm_len {α : Type} (f : α → List Int) (B : Nat) (h : ∀ x, (f x).length ≤ B) : ∀ l : List α, (l.flatMap f).length ≤ l.length * B
  | [] => by simp
  | x :: l => by
    have := fm_len f B h l
    have h2 := h x
    rw [List.flatMap_cons, List.length_append, List.length_cons, Nat.succ_mul]
    omega
set_option maxHeartbeats 8000000 in
set_option maxRecDepth 100000 in
theorem through_put {W0 w : World} {p l : Nat} {L : Lt} {ve vd vs vg : Value} {xs : List Int} {bad : Bool} (h : Lp W0 w p l (letC L ve vd vs vg) xs bad) (hw : Lw W0 L ve vd vs vg) (hl : xs.length ≤ 1000) :
    Calls Tryz.prog 24 #[.iface 65 (.pointer (some ⟨p, 0, none⟩)), .pointer (some ⟨l, 0, none⟩)] w fun e w' => e = .returned (.bool (pcs L.kind).isSome) ∧
      Lp W0 w' p l (letC L ve vd vs vg) (xs ++ (heads ++ (pcs L.kind).getD []).flatMap fun q => (putPc L q).1) (bad || (heads ++ (pcs L.kind).getD []).any fun q => (putPc L q).2) ∧ Ks w w' p := by
  have hm1 := pm_one p
  have hn1 := pn_one p
  have hm2 := pm_num p
  have hn2 := pn_num p
  have HW := Lib.hid hw
  have H := Lib.hid h
  obtain ⟨ht1, ht2⟩ := toNat_u64 hw.ok.term
  have T1 := Lib.hid ht1
  have T2 := Lib.hid ht2
  clear h hw ht1 ht2
  go_enter Tryz.func24, Tryz.ntmps24
  go_upto_region 1 with fail
  go_cut [] (fun wx => Lp W0 wx p l (letC L ve vd vs vg) (xs ++ [L.kind]) bad ∧ Ks w wx p)
  case first =>
    have CN := Lib.hid (lone_any H.out.drew l 0 _ (show w.drew.cell? ⟨l, 0, none⟩ = some (.int .u8 L.kind) by rw [H.out.drew.lb.cell]; rfl) (by omega))
    go_region_law (go_simp; go_at_call 89; refine CN.out.mono ?_; rintro e w' ⟨rfl, h1, k1⟩)
    all_goals
      go_wp2
      go_meet
      exact ⟨h1, (Ks.drew w p).trans k1⟩
  case rest =>
    obtain ⟨h1, k1⟩ := hcut
    have H1 := Lib.hid h1
    have K1 := Lib.hid k1
    clear h1 k1
    go_upto_region 2 with fail
    go_cut [] (fun wx => Lp W0 wx p l (letC L ve vd vs vg) (xs ++ [L.kind] ++ [L.src]) bad ∧ Ks w wx p)
    case first =>
      have CN := Lib.hid (lone_any H1.out.drew l 1 _ (show wc.drew.cell? ⟨l, 1, none⟩ = some (.int .u8 L.src) by rw [H1.out.drew.lb.cell]; rfl) (by simp; omega))
      go_region_law (go_simp; go_at_call 89; refine CN.out.mono ?_; rintro e w' ⟨rfl, h1, k1⟩)
      all_goals
        go_wp2
        go_meet
        exact ⟨h1, (K1.out.trans (Ks.drew wc p)).trans k1⟩
    case rest =>
      obtain ⟨h1, k1⟩ := hcut
      have H2 := Lib.hid h1
      have K2 := Lib.hid k1
      clear h1 k1 H1 K1
      go_upto_region 3 with fail
      go_cut [] (fun wx => Lp W0 wx p l (letC L ve vd vs vg) (xs ++ [L.kind] ++ [L.src] ++ [L.dst]) bad ∧ Ks w wx p)
      case first =>
        have CN := Lib.hid (lone_any H2.out.drew l 2 _ (show wc.drew.cell? ⟨l, 2, none⟩ = some (.int .u8 L.dst) by rw [H2.out.drew.lb.cell]; rfl) (by simp; omega))
        go_region_law (go_simp; go_at_call 89; refine CN.out.mono ?_; rintro e w' ⟨rfl, h1, k1⟩)
        all_goals
          go_wp2
          go_meet
          exact ⟨h1, (K2.out.trans (Ks.drew wc p)).trans k1⟩
      case rest =>
        obtain ⟨h1, k1⟩ := hcut
        have H3 := Lib.hid h1
        have K3 := Lib.hid k1
        clear h1 k1 H2 K2
        go_upto_region 4 with fail
        go_cut [] (fun wx => Lp W0 wx p l (letC L ve vd vs vg) (xs ++ [L.kind] ++ [L.src] ++ [L.dst] ++ nb L.term.toNat) bad ∧ Ks w wx p)
        case first =>
          have CN := Lib.hid (lnum_any H3.out.drew l 3 L.term.toNat (show wc.drew.cell? ⟨l, 3, none⟩ = some (.int .u64 (L.term.toNat : Int)) by rw [H3.out.drew.lb.cell, T2.out]; rfl) T1.out (by simp; omega))
          go_region_law (go_simp; go_at_call 88; refine CN.out.mono ?_; rintro e w' ⟨rfl, h1, k1⟩)
          all_goals
            go_wp2
            go_meet
            exact ⟨h1, (K3.out.trans (Ks.drew wc p)).trans k1⟩
        case rest =>
          obtain ⟨h1, k1⟩ := hcut
          have H4 := Lib.hid h1
          have K4 := Lib.hid k1
          clear h1 k1 H3 K3
          go_upto_region 5 with fail
          go_cut [5, 6] (fun s5 s6 wx => Lp W0 wx p l (letC L ve vd vs vg) (xs ++ [L.kind] ++ [L.src] ++ [L.dst] ++ nb L.term.toNat) bad ∧ Ks w wx p ∧ s6 = .bool (pcs L.kind).isSome ∧
            ((pcs L.kind = none ∧ s5 = .slice none 0 0) ∨ ∃ ps, pcs L.kind = some ps ∧ PVs wx s5 (ps.map fnP)))
          case first =>
            have HD := Lib.hid H4.out.drew
            have KD := Lib.hid (K4.out.trans (Ks.drew wc p))
            have c0 : wc.drew.cell? ⟨l, 0, none⟩ = some (.int .u8 L.kind) := by rw [H4.out.drew.lb.cell]; rfl
            have hll : l < wc.drew.heap.size := H4.out.drew.lb.lt
            rcases hps : pcs L.kind with - | ps
            · have HN := Lib.hid (table_none hps)
              have HP := Lib.hid hps
              clear hps
              go_region_law (go_simp; go_at_call 46; refine (parts_any _).mono ?_; rintro e w' ⟨m, rfl, hM⟩; have c1 := (hM.bel.cell hll).trans c0; have hlk := hM.look0 L.kind HN.out; have MM := Lib.hid hM; clear hM)
              all_goals
                go_wp2
                go_meet
                exact ⟨HD.out.below MM.out.bel, KD.out.trans (Ks.below MM.out.bel p), by rw [HP.out]; rfl, .inl ⟨HP.out, rfl⟩⟩
            · obtain ⟨n, hn, ha1, ha2, ha3⟩ := table_at hps
              have HP := Lib.hid hps
              have A2 := Lib.hid ha2
              have LK := Lib.hid (fun (w0 w' : World) (m : Nat) (h : Mi w0 w' m table) => h.look L.kind n hn ha1 ha3)
              clear hps ha1 ha2 ha3
              go_region_law (go_simp; go_at_call 46; refine (parts_any _).mono ?_; rintro e w' ⟨m, rfl, hM⟩; have c1 := (hM.bel.cell hll).trans c0; obtain ⟨v, hv, hlk⟩ := LK.out _ _ _ hM; have MM := Lib.hid hM; have VV := Lib.hid hv; clear hM hv)
              all_goals
                go_wp2
                go_meet
                exact ⟨HD.out.below MM.out.bel, KD.out.trans (Ks.below MM.out.bel p), by rw [HP.out]; rfl, .inr ⟨ps, HP.out, by rw [← A2.out]; exact VV.out⟩⟩
          case rest =>
            obtain ⟨h1, k1, rfl, hx⟩ := hcut
            obtain ⟨Y, hY⟩ : ∃ Y, Y = xs ++ [L.kind] ++ [L.src] ++ [L.dst] ++ nb L.term.toNat := ⟨_, rfl⟩
            rw [← hY] at h1
            have hYl : Y.length ≤ 1020 := by
              rw [hY]
              have := nb_ten T1.out
              simp only [List.length_append, List.length_cons, List.length_nil]
              omega
            have EY := Lib.hid (show ∀ qs : List Pc, xs ++ ((heads ++ qs).flatMap fun q => (putPc L q).1) = Y ++ (qs.flatMap fun q => (putPc L q).1) from fun qs => by rw [hY]; simp [heads, putPc, List.append_assoc])
            have EB := Lib.hid (show ∀ qs : List Pc, (bad || (heads ++ qs).any fun q => (putPc L q).2) = (bad || qs.any fun q => (putPc L q).2) from fun qs => by simp [heads, putPc])
            have H5 := Lib.hid h1
            have K5 := Lib.hid k1
            clear h1 k1 hY H4 K4
            rcases hx with ⟨hps, rfl⟩ | ⟨ps, hps, b, rfl, hb⟩
            · have HP := Lib.hid hps
              clear hps
              go_wp2_with fail
              go_loopg [52] 0 (fun q c52 wr => c52 = .int .i64 0 ∧ wr = wc)
              case atStart => exact ⟨rfl, rfl⟩
              case round =>
                obtain ⟨rfl, rfl⟩ := hrel
                go_wp2
                go_ret
                refine ⟨rfl, ?_, K5.out⟩
                rw [HP.out, EY.out, EB.out]
                simpa using H5.out
            · have HP := Lib.hid hps
              have hn5 := pcs_len hps
              have hnh := (pcs_some hps).2.2.2
              have HNH := Lib.hid hnh
              have KB := Lib.hid hb
              obtain ⟨n, hn⟩ : ∃ n, n = ps.length := ⟨_, rfl⟩
              have hn' : (ps.map fnP).length = n := by rw [List.length_map, hn]
              have N := Lib.hid hn
              rw [hn']
              rw [← hn] at hn5
              obtain ⟨v, hkp, -⟩ := H5.out.ex
              have hbp : b ≠ p := hb.ne_ hkp (by decide)
              clear hps hnh hb hn hn' hkp
              go_wp2_with fail
              go_loopg [52] n (fun q c52 wr => ∃ j : Nat, j ≤ n ∧ q = n - j ∧ c52 = .int .i64 j ∧ Lp W0 wr p l (letC L ve vd vs vg) (Y ++ (ps.take j).flatMap fun q => (putPc L q).1) (bad || (ps.take j).any fun q => (putPc L q).2) ∧ Ks w wr p ∧ Blk wr b 124 ((ps.map fnP).map fnV).toArray)
              case atStart => exact ⟨0, Nat.zero_le _, by omega, rfl, by simpa using H5.out, K5.out, KB.out⟩
              case round =>
                obtain ⟨j, hj, hq, rfl, h6, k6, b6⟩ := hrel
                have Q := Lib.hid hq
                have H6 := Lib.hid h6
                have K6 := Lib.hid k6
                have B6 := Lib.hid b6
                clear hq h6 k6 b6 H5 K5 KB
                by_cases hjn : j < n
                · have hjl : j < ps.length := by have := N.out; omega
                  have hjn' : (j : Int) < n := by omega
                  have c1 : wr.cell? ⟨b, j, none⟩ = some (.func (.func (fnP ps[j])) #[] #[]) := by
                    rw [B6.out.cell]
                    simp [fnV, hjl]
                  have hS : ((ps.take (j + 1)).flatMap fun q => (putPc L q).1) = ((ps.take j).flatMap fun q => (putPc L q).1) ++ (putPc L ps[j]).1 := by
                    rw [List.take_succ_eq_append_getElem hjl, List.flatMap_append]; simp
                  have hA : ((ps.take (j + 1)).any fun q => (putPc L q).2) = (((ps.take j).any fun q => (putPc L q).2) || (putPc L ps[j]).2) := by
                    rw [List.take_succ_eq_append_getElem hjl, List.any_append]; simp
                  have hlen : (Y ++ (ps.take j).flatMap fun q => (putPc L q).1).length ≤ 1000000000 := by
                    have h1 := fm_len (fun q => (putPc L q).1) 80000000 (putPc_len HW.out) (ps.take j)
                    have h2 : (ps.take j).length ≤ 5 := by rw [List.length_take]; omega
                    have h3 : (ps.take j).length * 80000000 ≤ 5 * 80000000 := Nat.mul_le_mul_right _ h2
                    rw [List.length_append]; omega
                  have hpc := HNH.out _ (List.getElem_mem hjl)
                  obtain ⟨pc, hpe⟩ : ∃ pc, pc = ps[j] := ⟨_, rfl⟩
                  rw [← hpe] at c1 hS hA hpc
                  obtain ⟨f, hf⟩ : ∃ f, f = fnP pc := ⟨_, rfl⟩
                  have eg := fnP_enters pc hpc
                  have CN := Lib.hid (pp_any pc hpc H6.out HW.out hlen)
                  rw [← hf] at c1 eg CN
                  have HS := Lib.hid hS
                  have HA := Lib.hid hA
                  clear hS hA hlen hpe hpc hf
                  go_wp2_with fail
                  refine CN.out.mono ?_
                  rintro e w7 ⟨rfl, h7, k7⟩
                  have H7 := Lib.hid h7
                  have K7 := Lib.hid (K6.out.trans k7)
                  have B7 := Lib.hid (k7.2 _ _ _ hbp (by decide) B6.out)
                  clear h7 k7 c1 eg
                  go_wp2
                  go_roundg (n - (j + 1))
                  case measure => have := Q.out; omega
                  case rel =>
                    refine ⟨j + 1, by omega, rfl, by go_num, ?_, K7.out, B7.out⟩
                    rw [HS.out, HA.out, ← List.append_assoc, ← Bool.or_assoc]
                    exact H7.out
                · obtain rfl : j = n := by omega
                  go_wp2
                  go_ret
                  refine ⟨by rw [HP.out]; rfl, ?_, K6.out⟩
                  rw [HP.out, EY.out, EB.out]
                  have := H6.out
                  rw [N.out, List.take_length] at this
                  exact this
end Go.Proofs.YthjdkjinkmdclaaGreat
