/- Letters: through a letter, getting it. -/
import Derived.Test.YthjdkjinkmdclaaLgq
import Derived.Test.YthjdkjinkmdclaaLpt
namespace Go.Proofs.Ythjdkjinkmdclaa
open Go.RowKit

/-- What a part answers: the letter goes on; its entries alone may have turned. -/
theorem gp_any (pc : Pc) (hpc : pc ∉ heads) {W0 w : World} {p l : Nat} {L : Lt} {ve vd vs vg : Value} {s : Gs} (h : Lg W0 w p l L ve vd vs vg s) (he : pc = .entries → L.es = [] ∧ ve = .slice none 0 0) :
    Calls Try.prog (fnP pc) #[.iface 54 (.pointer (some ⟨p, 0, none⟩)), .pointer (some ⟨l, 0, none⟩)] w fun e w' => e = .returned (.tuple #[]) ∧ (∃ ve' vd' vs' vg', Lg W0 w' p l (gPc L s pc).1 ve' vd' vs' vg' (gPc L s pc).2 ∧ (pc ≠ .entries → ve' = ve)) ∧ Kq w w' p l := by
  cases pc
  case kind => exact absurd (by decide) hpc
  case src => exact absurd (by decide) hpc
  case dst => exact absurd (by decide) hpc
  case term => exact absurd (by decide) hpc
  case index => exact (gp_index h).mono fun _ _ ⟨a, b, c⟩ => ⟨a, ⟨_, _, _, _, b, fun _ => rfl⟩, c⟩
  case mark => exact (gp_mark h).mono fun _ _ ⟨a, b, c⟩ => ⟨a, ⟨_, _, _, _, b, fun _ => rfl⟩, c⟩
  case commit => exact (gp_commit h).mono fun _ _ ⟨a, b, c⟩ => ⟨a, ⟨_, _, _, _, b, fun _ => rfl⟩, c⟩
  case yes => exact (gp_yes h).mono fun _ _ ⟨a, b, c⟩ => ⟨a, ⟨_, _, _, _, b, fun _ => rfl⟩, c⟩
  case entries => exact (gp_entries h (he rfl).1 (he rfl).2).mono fun _ _ ⟨a, ⟨_, b⟩, c⟩ => ⟨a, ⟨_, _, _, _, b, fun h => absurd rfl h⟩, c⟩
  case data => exact (gp_data h).mono fun _ _ ⟨a, ⟨_, b⟩, c⟩ => ⟨a, ⟨_, _, _, _, b, fun _ => rfl⟩, c⟩
  case client => exact (gp_client h).mono fun _ _ ⟨a, b, c⟩ => ⟨a, ⟨_, _, _, _, b, fun _ => rfl⟩, c⟩
  case num => exact (gp_num h).mono fun _ _ ⟨a, b, c⟩ => ⟨a, ⟨_, _, _, _, b, fun _ => rfl⟩, c⟩
  case command => exact (gp_command h).mono fun _ _ ⟨a, ⟨_, b⟩, c⟩ => ⟨a, ⟨_, _, _, _, b, fun _ => rfl⟩, c⟩
  case wrong => exact (gp_wrong h).mono fun _ _ ⟨a, b, c⟩ => ⟨a, ⟨_, _, _, _, b, fun _ => rfl⟩, c⟩
  case reply => exact (gp_reply h).mono fun _ _ ⟨a, ⟨_, b⟩, c⟩ => ⟨a, ⟨_, _, _, _, b, fun _ => rfl⟩, c⟩
theorem gRun_es : ∀ (ps : List Pc) (x : Lt × Gs), .entries ∉ ps → (gRun ps x).1.es = x.1.es
  | [], _, _ => rfl
  | q :: ps, x, h => by
    rw [gRun, gRun_es ps _ (fun h' => h (List.mem_cons_of_mem _ h')), gPc_es _ _ _ (fun e => h (by rw [e]; exact List.mem_cons_self ..))]
theorem Lg.head {W0 w w' : World} {p l : Nat} {L : Lt} {ve vd vs vg : Value} {s : Gs} (h : Lg W0 w p l L ve vd vs vg s) (q : Pc) (hq : q ∈ heads) {cs : Array Value} (g : Gl W0 w' p (gPc L s q).2) (b : Blk w' l 36 cs) (k : Kq w w' p l) (hc : cs = letC (gPc L s q).1 ve vd vs vg) : Lg W0 w' p l (gPc L s q).1 ve vd vs vg (gPc L s q).2 := by
  refine h.upd g b k hc ?_ ?_ ?_ ?_ <;> (simp only [heads, List.mem_cons, List.not_mem_nil, or_false] at hq; rcases hq with rfl | rfl | rfl | rfl <;> rfl)
set_option maxHeartbeats 8000000 in
set_option maxRecDepth 100000 in
theorem through_get {W0 w : World} {p l : Nat} {L : Lt} {vd vs vg : Value} {s : Gs} (h : Lg W0 w p l L (.slice none 0 0) vd vs vg s) (hes : L.es = []) :
    Calls Try.prog 9 #[.iface 54 (.pointer (some ⟨p, 0, none⟩)), .pointer (some ⟨l, 0, none⟩)] w fun e w' => e = .returned (.bool (pcs (gRun heads (L, s)).1.kind).isSome) ∧
      (∃ ve' vd' vs' vg', Lg W0 w' p l (gRun ((pcs (gRun heads (L, s)).1.kind).getD []) (gRun heads (L, s))).1 ve' vd' vs' vg' (gRun ((pcs (gRun heads (L, s)).1.kind).getD []) (gRun heads (L, s))).2) ∧ Kq w w' p l := by
  have hm1 := qm_one p
  have hn1 := qn_one p
  have hm2 := qm_num p
  have hn2 := qn_num p
  have H := Lib.hid h
  have hG : gRun heads (L, s) = gPc (gPc (gPc (gPc L s .kind).1 (gPc L s .kind).2 .src).1 (gPc (gPc L s .kind).1 (gPc L s .kind).2 .src).2 .dst).1 (gPc (gPc (gPc L s .kind).1 (gPc L s .kind).2 .src).1 (gPc (gPc L s .kind).1 (gPc L s .kind).2 .src).2 .dst).2 .term := rfl
  have hE := gRun_es heads (L, s) (by decide)
  rw [show (L, s).1.es = [] from hes] at hE
  obtain ⟨x1, hx1⟩ : ∃ x, x = gPc L s .kind := ⟨_, rfl⟩
  rw [← hx1] at hG
  obtain ⟨x2, hx2⟩ : ∃ x, x = gPc x1.1 x1.2 .src := ⟨_, rfl⟩
  rw [← hx2] at hG
  obtain ⟨x3, hx3⟩ : ∃ x, x = gPc x2.1 x2.2 .dst := ⟨_, rfl⟩
  rw [← hx3] at hG
  obtain ⟨x4, hx4⟩ : ∃ x, x = gPc x3.1 x3.2 .term := ⟨_, rfl⟩
  rw [← hx4] at hG
  rw [hG] at hE ⊢
  have X1 := Lib.hid hx1
  have X2 := Lib.hid hx2
  have X3 := Lib.hid hx3
  have X4 := Lib.hid hx4
  have HE := Lib.hid hE
  clear h hes hG hx1 hx2 hx3 hx4 hE
  obtain ⟨v0, hv0⟩ : ∃ v : Value, v = .slice none 0 0 := ⟨_, rfl⟩
  rw [← hv0] at H
  go_enter Try.func9, Try.ntmps9
  go_upto_region 1 with fail
  go_cut [] (fun wx => Lg W0 wx p l x1.1 v0 vd vs vg x1.2 ∧ Kq w wx p l)
  case first =>
    have CN := Lib.hid (hone_any (o := 0) H.out.drew.gl H.out.drew.lb (by decide) H.out.l0 L.kind rfl)
    go_region_law (go_simp; go_at_call 69; refine CN.out.mono ?_; rintro e w' ⟨rfl, h1, k1, q1⟩)
    all_goals
      go_wp2
      go_meet
      rw [X1.out]
      exact ⟨H.out.drew.head .kind (by decide) h1 k1 q1 (by simp [letC, gPc]), (Kq.drew w p l).trans q1⟩
  case rest =>
    obtain ⟨h1, k1⟩ := hcut
    have H1 := Lib.hid h1
    have K1 := Lib.hid k1
    clear h1 k1
    go_upto_region 2 with fail
    go_cut [] (fun wx => Lg W0 wx p l x2.1 v0 vd vs vg x2.2 ∧ Kq w wx p l)
    case first =>
      have CN := Lib.hid (hone_any (o := 1) H1.out.drew.gl H1.out.drew.lb (by decide) H1.out.l0 x1.1.src rfl)
      go_region_law (go_simp; go_at_call 69; refine CN.out.mono ?_; rintro e w' ⟨rfl, h1, k1, q1⟩)
      all_goals
        go_wp2
        go_meet
        rw [X2.out]
        exact ⟨H1.out.drew.head .src (by decide) h1 k1 q1 (by simp [letC, gPc]), (K1.out.trans (Kq.drew wc p l)).trans q1⟩
    case rest =>
      obtain ⟨h1, k1⟩ := hcut
      have H2 := Lib.hid h1
      have K2 := Lib.hid k1
      clear h1 k1 H1 K1
      go_upto_region 3 with fail
      go_cut [] (fun wx => Lg W0 wx p l x3.1 v0 vd vs vg x3.2 ∧ Kq w wx p l)
      case first =>
        have CN := Lib.hid (hone_any (o := 2) H2.out.drew.gl H2.out.drew.lb (by decide) H2.out.l0 x2.1.dst rfl)
        go_region_law (go_simp; go_at_call 69; refine CN.out.mono ?_; rintro e w' ⟨rfl, h1, k1, q1⟩)
        all_goals
          go_wp2
          go_meet
          rw [X3.out]
          exact ⟨H2.out.drew.head .dst (by decide) h1 k1 q1 (by simp [letC, gPc]), (K2.out.trans (Kq.drew wc p l)).trans q1⟩
      case rest =>
        obtain ⟨h1, k1⟩ := hcut
        have H3 := Lib.hid h1
        have K3 := Lib.hid k1
        clear h1 k1 H2 K2
        go_upto_region 4 with fail
        go_cut [] (fun wx => Lg W0 wx p l x4.1 v0 vd vs vg x4.2 ∧ Kq w wx p l)
        case first =>
          have CN := Lib.hid (hnum_any (o := 3) H3.out.drew.gl H3.out.drew.lb (by decide) H3.out.l0 (show 3 < 17 by decide))
          go_region_law (go_simp; go_at_call 68; refine CN.out.mono ?_; rintro e w' ⟨rfl, h1, k1, q1⟩)
          all_goals
            go_wp2
            go_meet
            rw [X4.out]
            exact ⟨H3.out.drew.head .term (by decide) h1 k1 q1 (by simp [letC, gPc]), (K3.out.trans (Kq.drew wc p l)).trans q1⟩
        case rest =>
          obtain ⟨h1, k1⟩ := hcut
          have H4 := Lib.hid h1
          have K4 := Lib.hid k1
          clear h1 k1 H3 K3
          go_upto_region 5 with fail
          go_cut [5, 6] (fun s5 s6 wx => Lg W0 wx p l x4.1 v0 vd vs vg x4.2 ∧ Kq w wx p l ∧ s6 = .bool (pcs x4.1.kind).isSome ∧
            ((pcs x4.1.kind = none ∧ s5 = .slice none 0 0) ∨ ∃ ps, pcs x4.1.kind = some ps ∧ PVs wx s5 (ps.map fnP)))
          case first =>
            have HD := Lib.hid H4.out.drew
            have KD := Lib.hid (K4.out.trans (Kq.drew wc p l))
            have c0 : wc.drew.cell? ⟨l, 0, none⟩ = some (.int .u8 x4.1.kind) := by rw [H4.out.drew.lb.cell]; rfl
            have hll : l < wc.drew.heap.size := H4.out.drew.lb.lt
            rcases hps : pcs x4.1.kind with - | ps
            · have HN := Lib.hid (table_none hps)
              have HP := Lib.hid hps
              clear hps
              go_region_law (go_simp; go_at_call 11; refine (parts_any _).mono ?_; rintro e w' ⟨m, rfl, hM⟩; have c1 := (hM.bel.cell hll).trans c0; have hlk := hM.look0 x4.1.kind HN.out; have MM := Lib.hid hM; clear hM)
              all_goals
                go_wp2
                go_meet
                exact ⟨HD.out.below MM.out.bel, KD.out.trans (Kq.below MM.out.bel p l), by rw [HP.out]; rfl, .inl ⟨HP.out, rfl⟩⟩
            · obtain ⟨n, hn, ha1, ha2, ha3⟩ := table_at hps
              have HP := Lib.hid hps
              have A2 := Lib.hid ha2
              have LK := Lib.hid (fun (w0 w' : World) (m : Nat) (h : Mi w0 w' m table) => h.look x4.1.kind n hn ha1 ha3)
              clear hps ha1 ha2 ha3
              go_region_law (go_simp; go_at_call 11; refine (parts_any _).mono ?_; rintro e w' ⟨m, rfl, hM⟩; have c1 := (hM.bel.cell hll).trans c0; obtain ⟨v, hv, hlk⟩ := LK.out _ _ _ hM; have MM := Lib.hid hM; have VV := Lib.hid hv; clear hM hv)
              all_goals
                go_wp2
                go_meet
                exact ⟨HD.out.below MM.out.bel, KD.out.trans (Kq.below MM.out.bel p l), by rw [HP.out]; rfl, .inr ⟨ps, HP.out, by rw [← A2.out]; exact VV.out⟩⟩
          case rest =>
            obtain ⟨h1, k1, rfl, hx⟩ := hcut
            have H5 := Lib.hid h1
            have K5 := Lib.hid k1
            clear h1 k1 H4 K4
            rcases hx with ⟨hps, rfl⟩ | ⟨ps, hps, b, rfl, hb⟩
            · have HP := Lib.hid hps
              clear hps
              go_wp2_with fail
              go_loopg [52] 0 (fun q c52 wr => c52 = .int .i64 0 ∧ wr = wc)
              case atStart => exact ⟨rfl, rfl⟩
              case round =>
                obtain ⟨rfl, rfl⟩ := hrel
                go_wp2
                go_ret
                refine ⟨rfl, ⟨v0, vd, vs, vg, ?_⟩, K5.out⟩
                rw [HP.out]
                exact H5.out
            · have HP := Lib.hid hps
              have hnh := (pcs_some hps).2.2.2
              have hnd := (pcs_some hps).2.2.1
              have HNH := Lib.hid hnh
              have HND := Lib.hid hnd
              have KB := Lib.hid hb
              have hn5 := pcs_len hps
              obtain ⟨n, hn⟩ : ∃ n, n = ps.length := ⟨_, rfl⟩
              have hn' : (ps.map fnP).length = n := by rw [List.length_map, hn]
              have N := Lib.hid hn
              rw [hn']
              rw [← hn] at hn5
              obtain ⟨A0, c0, hkp, -⟩ := H5.out.gl.ex
              have hbp : b ≠ p := hb.ne_ hkp (by decide)
              have hbl : b ≠ l := hb.ne_ H5.out.lb (by decide)
              clear hps hnh hnd hb hn hn' hkp
              go_wp2_with fail
              go_loopg [52] n (fun q c52 wr => ∃ j : Nat, j ≤ n ∧ q = n - j ∧ c52 = .int .i64 j ∧ (∃ ve' vd' vs' vg', Lg W0 wr p l (gRun (ps.take j) x4).1 ve' vd' vs' vg' (gRun (ps.take j) x4).2 ∧ (.entries ∉ ps.take j → ve' = v0)) ∧ Kq w wr p l ∧ Blk wr b 68 ((ps.map fnP).map fnV).toArray)
              case atStart => exact ⟨0, Nat.zero_le _, by omega, rfl, ⟨_, _, _, _, H5.out, fun _ => rfl⟩, K5.out, KB.out⟩
              case round =>
                obtain ⟨j, hj, hq, rfl, ⟨ve', vd', vs', vg', h6, hv6⟩, k6, b6⟩ := hrel
                have Q := Lib.hid hq
                have H6 := Lib.hid h6
                have V6 := Lib.hid hv6
                have K6 := Lib.hid k6
                have B6 := Lib.hid b6
                clear hq h6 k6 b6 hv6 H5 K5 KB
                by_cases hjn : j < n
                · have hjl : j < ps.length := by have := N.out; omega
                  have hjn' : (j : Int) < n := by omega
                  have c1 : wr.cell? ⟨b, j, none⟩ = some (.func (.func (fnP ps[j])) #[] #[]) := by
                    rw [B6.out.cell]
                    simp [fnV, hjl]
                  have hT : ps.take (j + 1) = ps.take j ++ [ps[j]] := List.take_succ_eq_append_getElem hjl
                  have hS : gRun (ps.take (j + 1)) x4 = gPc (gRun (ps.take j) x4).1 (gRun (ps.take j) x4).2 ps[j] := by
                    rw [hT, gRun_append]; rfl
                  have hpc := HNH.out _ (List.getElem_mem hjl)
                  have hnot : ps[j] ∉ ps.take j := by
                    intro hm
                    obtain ⟨i, hi, he⟩ := List.mem_take_iff_getElem.1 hm
                    have := (List.getElem_inj HND.out).1 he
                    omega
                  have hen : ps[j] = .entries → (gRun (ps.take j) x4).1.es = [] ∧ ve' = .slice none 0 0 := by
                    intro he
                    rw [he] at hnot
                    exact ⟨by rw [gRun_es _ _ hnot]; exact HE.out, by rw [V6.out hnot, hv0]⟩
                  have hE2 : ∀ ve2, (ps[j] ≠ .entries → ve2 = ve') → .entries ∉ ps.take (j + 1) → ve2 = v0 := by
                    intro ve2 h1 h2
                    rw [hT] at h2
                    rw [h1 (fun e => h2 (by rw [e]; simp)), V6.out (fun e => h2 (List.mem_append_left _ e))]
                  obtain ⟨pc, hpe⟩ : ∃ pc, pc = ps[j] := ⟨_, rfl⟩
                  rw [← hpe] at c1 hS hpc hen hE2
                  obtain ⟨f, hf⟩ : ∃ f, f = fnP pc := ⟨_, rfl⟩
                  have eg := fnP_enters pc hpc
                  have CN := Lib.hid (gp_any pc hpc H6.out hen)
                  rw [← hf] at c1 eg CN
                  have HS := Lib.hid hS
                  have HE2 := Lib.hid hE2
                  clear hS hpe hpc hf hT hnot hen hE2
                  go_wp2_with fail
                  refine CN.out.mono ?_
                  rintro e w7 ⟨rfl, ⟨ve2, vd2, vs2, vg2, h7, hv7⟩, k7⟩
                  have H7 := Lib.hid h7
                  have V7 := Lib.hid hv7
                  have K7 := Lib.hid (K6.out.trans k7)
                  have B7 := Lib.hid (k7.2 _ _ _ hbp hbl B6.out)
                  clear h7 hv7 k7 c1 eg
                  go_wp2
                  go_roundg (n - (j + 1))
                  case measure => have := Q.out; omega
                  case rel =>
                    refine ⟨j + 1, by omega, rfl, by go_num, ⟨ve2, vd2, vs2, vg2, ?_, HE2.out ve2 V7.out⟩, K7.out, B7.out⟩
                    rw [HS.out]
                    exact H7.out
                · obtain rfl : j = n := by omega
                  go_wp2
                  go_ret
                  refine ⟨by rw [HP.out]; rfl, ⟨ve', vd', vs', vg', ?_⟩, K6.out⟩
                  rw [HP.out]
                  have := H6.out
                  rw [N.out, List.take_length] at this
                  exact this
end Go.Proofs.Ythjdkjinkmdclaa
