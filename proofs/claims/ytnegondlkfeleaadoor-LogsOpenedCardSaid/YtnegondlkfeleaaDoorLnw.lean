/- LogsOpened: the law's walk. -/
import Derived.Test.YtnegondlkfeleaaDoorLmy
import Derived.Deep.CutBlock
namespace Go.Proofs.YtnegondlkfeleaaDoor
open Go.RowKit

set_option maxHeartbeats 8000000 in
set_option maxRecDepth 100000 in
theorem lopened_walk (ts : List Int) (At : Option Addr) (ct : Nat) (many to_ : Int) (w : World) (T : Tab w) (h : Bs w (.slice At ts.length ct) ts) (hby : ∀ c ∈ ts, byt c) (hm : byt many) (ht : byt to_) (hl : ts.length ≤ 9223372036854775807) :
    Calls Tryd.prog 4 #[.int .u8 many, .int .u8 to_, .slice At ts.length ct] w fun e w' => e = .returned (.bool true) ∧ Below w.heap.size w w' := by
  have TT := Lib.hid T
  have HTS := Lib.hid h
  have HBY := Lib.hid hby
  have h0 := Lib.hid (block_lt_of_cell (T 0 (by decide)))
  have hZ := Lib.hid logB0_len
  have HM := Lib.hid hm
  have HT := Lib.hid ht
  obtain ⟨nt, hnt⟩ : ∃ nt, nt = ts.length := ⟨_, rfl⟩
  rw [← hnt] at hl ⊢
  have NT := Lib.hid hnt
  have hl' : (nt : Int) ≤ 9223372036854775807 := by omega
  have hm0 : 0 ≤ many := hm.1
  have hm1 : many ≤ 255 := hm.2
  have ht0 : 0 ≤ to_ := ht.1
  have ht1 : to_ ≤ 255 := ht.2
  obtain ⟨n, hn, hn2⟩ : ∃ n : Nat, many % 200 = (n : Int) ∧ n ≤ 199 := ⟨(many % 200).toNat, by omega, by omega⟩
  have hn3 : (n : Int) ≤ 199 := by omega
  clear T h hby hm ht hnt
  go_enter Tryd.func4, Tryd.ntmps4
  go_wp2_with fail
  refine (on_new nmL w).mono ?_
  rintro e w1 ⟨rfl, h1⟩
  have H1 := Lib.hid h1
  clear h1
  go_wp2_with fail
  refine (lopen_new H1.out rfl h0.out TT.out (does_free _ _ (by have := hZ.out; omega) true (.inl rfl))).mono ?_
  rintro e w2 ⟨p, rfl, h2, hp⟩
  have L2 := Lib.hid (Lg.fresh h2 (Nat.le_trans H1.out.le hp) (by simp))
  obtain ⟨d, hd⟩ : ∃ d, d = w.heap.size + 1 := ⟨_, rfl⟩
  rw [← hd] at L2 ⊢
  clear h2 hp hd H1
  have J0 := Lib.hid (BuI.nil w2)
  go_upto_block 0 with fail
  simp only [hn]
  clear hn
  go_cut [11, 12] from 13 to 57 (fun s11 s12 wx => ∃ (tm : Nat) (nl : List Lit), nl.length = n ∧ tm ≤ 1000 ∧ RowT nl tm ∧ BuI w2.heap.size w2 nl s12 wx)
  case first =>
    go_wp2_with fail
    go_loopw [11, 12, 13] (fun s11 s12 s13 wr => ∃ (k tm : Nat) (nl : List Lit), s13 = .int .u64 (k : Int) ∧ s11 = .int .u64 (tm : Int) ∧ k ≤ n ∧ tm ≤ 2 * k ∧ nl.length = k ∧ RowT nl tm ∧ BuI w2.heap.size w2 nl s12 wr) (fun _ _ s13 _ => n - (intOf s13).toNat)
    case atStart => exact ⟨0, 0, [], rfl, rfl, Nat.zero_le _, Nat.zero_le _, rfl, RowT.nil 0, J0.out⟩
    case round =>
      obtain ⟨k, tm, nl, rfl, rfl, hk, htm, hnl, hR, hJ⟩ := hrel
      have JJ := Lib.hid hJ
      have RT := Lib.hid hR
      obtain ⟨Ab, cb, hsb⟩ := hJ.sl
      rw [hnl] at hsb
      subst hsb
      have HNL := Lib.hid hnl
      have TM := Lib.hid htm
      have htm2 : (tm : Int) ≤ 400 := by omega
      clear hJ hR hnl
      by_cases hkn : k < n
      · have hkn' : (k : Int) < (n : Int) := by omega
        have KN := Lib.hid hkn
        have hk2 : (k : Int) ≤ 199 := by omega
        obtain ⟨ix, hix⟩ : ∃ ix, ix = k + 1 := ⟨_, rfl⟩
        have u2 : (k : Int) + 1 = (ix : Int) := by omega
        have IX := Lib.hid hix
        clear hk htm hix hkn
        by_cases hkt : k < nt
        · have hkt' : (k : Int) < (nt : Int) := by omega
          have hkt2 : decide ((k : Int) < (nt : Int)) = true := decide_eq_true hkt'
          have hil : k < ts.length := by have := NT.out; omega
          obtain ⟨g, o, rfl⟩ : ∃ g o, At = some ⟨g, o, none⟩ := HTS.out.some_ (by omega)
          obtain ⟨A', c', hv', hc', -, hcl⟩ := id HTS.out
          have d0 : wr.cell? ⟨g, o + k, none⟩ = some (.int .u8 ts[k]) := by
            injection hv' with v1 v2 v3
            subst v1
            rcases hcl with hz | ⟨g', o', e1, hg, hc⟩
            · omega
            · injection e1 with e1; injection e1 with e1 e2; subst e1 e2
              exact ((L2.out.bel.trans (JJ.out.bel.mono L2.out.le)).cell hg).trans (hc k _ (by simp [bc]))
          have hbb := HBY.out _ (List.getElem_mem hil)
          obtain ⟨b, hbe⟩ : ∃ b, b = ts[k] := ⟨_, rfl⟩
          rw [← hbe] at d0 hbb
          have hb0 : 0 ≤ b := hbb.1
          have hb1 : b ≤ 255 := hbb.2
          have hcn : (nt : Int) ≤ ct := by injection hv' with _ _ v3; rw [v3]; have := NT.out; omega
          obtain ⟨b3, hb3, hb4⟩ : ∃ b3 : Nat, b % 3 = (b3 : Int) ∧ b3 ≤ 2 := ⟨(b % 3).toNat, by omega, by omega⟩
          obtain ⟨t2, ht2⟩ : ∃ t2, t2 = tm + b3 := ⟨_, rfl⟩
          have u3 : (tm : Int) + (b3 : Int) = (t2 : Int) := by omega
          have u4 : (t2 : Int) ≤ 402 := by omega
          have T2 := Lib.hid (show tm ≤ t2 ∧ t2 ≤ tm + 2 by omega)
          have EN := Lib.hid (lentry_any (ix : Int) (t2 : Int) (k : Int) wr)
          clear hil hbb hbe hv' hc' hcl hkt ht2 hb4
          go_wp2_with fail
          refine EN.out.mono ?_
          rintro e5 w5 ⟨g5, rfl, h5, k5, b5⟩
          have B5 := Lib.hid b5
          have K5 := Lib.hid (And.intro h5 k5)
          obtain ⟨Y5, o5, s5, y5⟩ := JJ.out.ex
          have o5' := o5.below b5
          rw [HNL.out] at o5'
          have O5 := Lib.hid o5'
          clear h5 k5 b5 o5 o5' s5 y5 d0
          go_wp2_with (at_builtin; refine wpList_ow rfl _ _ 22 59 _ 5 56 rfl Tryd.underlying22 es_info rfl (by decide) rfl #[.int .u64 ix, .int .u64 t2, .int .u8 1, .int .u64 ix, .slice (some ⟨g5, 0, none⟩) 1 1] O5.out (Nat.le_trans JJ.out.le B5.out.size) rfl (fun u hu => news_one (by simpa using hu)) rfl (by have := KN.out; omega) (by unfold maxLen; have := KN.out; omega) ?_; intro v6 w8 hB6 hG6; have B8 := Lib.hid hB6; have G8 := Lib.hid hG6; obtain ⟨A6, c6, rfl, -, -⟩ := hB6.clip; clear hB6 hG6)
          go_roundw
          case rel => exact ⟨k + 1, t2, nl ++ [(((ix : Int), (t2 : Int), (k : Int)), g5)], by go_num, rfl, KN.out, by have := T2.out.2; have := TM.out; omega, by rw [List.length_append, HNL.out]; rfl, by have := RT.out.snoc (t' := t2) (g := g5) (i := (ix : Int)) T2.out.1 (by rw [HNL.out, IX.out]); rwa [HNL.out] at this, BuI.step (x := (((ix : Int), (t2 : Int), (k : Int)), g5)) JJ.out B5.out K5.out.1 K5.out.2 (by rw [HNL.out]; exact B8.out) G8.out ⟨_, _, by rw [HNL.out]⟩⟩
          case measure => have := KN.out; simp [intOf]; omega
        · have hkt' : ¬ (k : Int) < (nt : Int) := by omega
          have hkt2 : decide ((k : Int) < (nt : Int)) = false := decide_eq_false hkt'
          obtain ⟨t2, ht2⟩ : ∃ t2, t2 = tm := ⟨_, rfl⟩
          have T2 := Lib.hid (show tm ≤ t2 ∧ t2 ≤ tm + 2 by omega)
          have EN := Lib.hid (lentry_any (ix : Int) (tm : Int) (k : Int) wr)
          rw [← ht2] at EN
          have T2E := Lib.hid ht2
          clear hkt ht2
          go_wp2_with fail
          rw [← T2E.out]
          refine EN.out.mono ?_
          rintro e5 w5 ⟨g5, rfl, h5, k5, b5⟩
          have B5 := Lib.hid b5
          have K5 := Lib.hid (And.intro h5 k5)
          obtain ⟨Y5, o5, s5, y5⟩ := JJ.out.ex
          have o5' := o5.below b5
          rw [HNL.out] at o5'
          have O5 := Lib.hid o5'
          clear h5 k5 b5 o5 o5' s5 y5
          go_wp2_with (at_builtin; refine wpList_ow rfl _ _ 22 59 _ 5 56 rfl Tryd.underlying22 es_info rfl (by decide) rfl #[.int .u64 ix, .int .u64 t2, .int .u8 1, .int .u64 ix, .slice (some ⟨g5, 0, none⟩) 1 1] O5.out (Nat.le_trans JJ.out.le B5.out.size) rfl (fun u hu => news_one (by simpa using hu)) rfl (by have := KN.out; omega) (by unfold maxLen; have := KN.out; omega) ?_; intro v6 w8 hB6 hG6; have B8 := Lib.hid hB6; have G8 := Lib.hid hG6; obtain ⟨A6, c6, rfl, -, -⟩ := hB6.clip; clear hB6 hG6)
          go_roundw
          case rel => exact ⟨k + 1, t2, nl ++ [(((ix : Int), (t2 : Int), (k : Int)), g5)], by go_num, rfl, KN.out, by have := T2.out.2; have := TM.out; omega, by rw [List.length_append, HNL.out]; rfl, by have := RT.out.snoc (t' := t2) (g := g5) (i := (ix : Int)) T2.out.1 (by rw [HNL.out, IX.out]); rwa [HNL.out] at this, BuI.step (x := (((ix : Int), (t2 : Int), (k : Int)), g5)) JJ.out B5.out K5.out.1 K5.out.2 (by rw [HNL.out]; exact B8.out) G8.out ⟨_, _, by rw [HNL.out]⟩⟩
          case measure => have := KN.out; simp [intOf]; omega
      · obtain rfl : k = n := by omega
        go_wp2
        go_meet
        exact ⟨tm, nl, HNL.out, by omega, RT.out, JJ.out⟩
  case rest =>
    obtain ⟨tm, nl, hnl, htm, hR, hJ⟩ := hcut
    obtain ⟨Aw, cw, hs12⟩ := hJ.sl
    rw [hnl] at hs12
    subst hs12
    have hrow := hR.row htm (by omega)
    obtain ⟨Y, yv, ys, yb⟩ := hJ.end_
    have hL := L2.out.addNew hJ.bel yb
    have R1 := Lib.hid hrow
    have NL := Lib.hid hnl
    have YV := Lib.hid (fun (w' : World) (hw : Has w' (Y ++ [])) => yv w' fun q hq => hw q (List.mem_append_left _ hq))
    have YS := Lib.hid (show ∀ x ∈ nl, litO x ∈ Y ++ [] from fun x hx => List.mem_append_left _ (ys x hx))
    have AD := Lib.hid (ladd_row hL hrow YV.out YS.out h0.out TT.out)
    obtain ⟨kk, hkk, hkk2⟩ : ∃ kk : Nat, to_ % ((n : Int) + 1) = (kk : Int) ∧ kk ≤ n := ⟨(to_ % ((n : Int) + 1)).toNat, by rw [Int.toNat_of_nonneg (Int.emod_nonneg _ (by omega))], by have := Int.emod_lt_of_pos to_ (show (0 : Int) < (n : Int) + 1 by omega); omega⟩
    have HKK := Lib.hid hkk2
    have hkl : kk ≤ nl.length := by omega
    have KL := Lib.hid hkl
    have OWN := Lib.hid hJ.ex
    clear hR hJ hrow hL yv ys yb hnl htm
    go_wp2_with fail
    refine AD.out.mono ?_
    rintro e4 w4 ⟨rfl, o4, size4, l4⟩
    have L4 := Lib.hid l4
    clear l4
    go_upto_region 15 with fail
    simp only [hkk]
    clear hkk
    have DR := Lib.hid (lg_drop (s1 := ⟨some (logB kk (tmK nl kk) ((nl.map litE).drop (kk - 0)), (logB kk (tmK nl kk) ((nl.map litE).drop (kk - 0))).length), -1, false⟩) kk (tmK nl kk) L4.out R1.out.lok (Nat.zero_le _) (by rw [List.length_map]; omega) (R1.out.term hkl).1 (R1.out.term hkl).2 h0.out TT.out (by rw [Nat.sub_zero]; exact (R1.out.dlok hkl).wf) (does_free _ _ (by rw [Nat.sub_zero]; have := R1.out.file hkl; have := R1.out.most; omega) true (.inl rfl)))
    rw [Nat.sub_zero] at DR
    obtain ⟨fb, hfb⟩ : ∃ fb, fb = logB kk (tmK nl kk) ((nl.map litE).drop kk) := ⟨_, rfl⟩
    rw [← hfb] at DR
    have FB := Lib.hid hfb
    have kk1 : (kk : Int) ≤ 199 := by omega
    clear hkl hfb
    go_wp2_with fail
    refine DR.out.mono ?_
    rintro e5 w5 ⟨rfl, l5⟩
    have O5 := Lib.hid l5.on
    clear l5
    have OWS := Lib.hid (show Aw = none ∧ cw = 0 ∨ ∃ g, Aw = some ⟨g, 0, none⟩ from by
      obtain ⟨_, ho, -, -⟩ := OWN.out
      rcases ho with ⟨e, -⟩ | ⟨g, _, _, e, -⟩
      · injection e with e1 e2 e3; exact .inl ⟨e1, e3⟩
      · injection e with e1 e2 e3; exact .inr ⟨g, e1⟩)
    have hncw : n ≤ cw := by
      obtain ⟨_, ho, -, -⟩ := OWN.out
      obtain ⟨A, c, e, hc, -⟩ := ho.clip
      injection e with _ _ e3
      rw [e3]; have := NL.out; omega
    by_cases hck : cw = kk
    · have hnk : n = kk := by omega
      have hnc : n = cw := by omega
      clear hncw hck
      subst hnk
      subst hnc
      obtain ⟨k1, hk1⟩ : ∃ k1, k1 = n + 1 := ⟨_, rfl⟩
      have u1 : (n : Int) + 1 = (k1 : Int) := by omega
      simp only [u1]
      have HK1 := Lib.hid hk1
      clear hk1
      go_wp2_with fail
      go_loopw [15] (fun s15 wr => ∃ r : Nat, s15 = .int .i64 (r : Int) ∧ r ≤ 2 ∧ On (Y ++ []) w.heap.size w wr d nmL ⟨some (fb, fb.length), -1, false⟩) (fun s15 _ => 2 - (intOf s15).toNat)
      case atStart => exact ⟨0, rfl, by omega, O5.out⟩
      case round =>
        obtain ⟨r, rfl, hr, hO⟩ := hrel
        have OR := Lib.hid hO
        clear hO
        by_cases hr2 : r < 2
        · have hr3 : (r : Int) < 2 := by omega
          have R2 := Lib.hid hr2
          have OP := Lib.hid (lopen_file (bi := n) (bt := tmK nl n) fb ((nl.map litE).drop n) _ OR.out rfl (by rw [FB.out]; exact rdF_log n (tmK nl n) (by omega) (R1.out.term KL.out).2 (fun e he => R1.out.eok e (List.mem_of_mem_drop he))) (R1.out.adds KL.out) (by rw [FB.out]; exact logB_byt n _ (fun e he => R1.out.eok e (List.mem_of_mem_drop he))) (by rw [FB.out]; have := R1.out.file KL.out; have := R1.out.most; omega) h0.out TT.out)
          rw [acc_all] at OP
          obtain ⟨es, hes⟩ : ∃ es, es = (nl.map litE).drop n := ⟨_, rfl⟩
          rw [← hes] at OP
          have ES := Lib.hid hes
          have DL := Lib.hid (show Lok n (tmK nl n) es from by rw [hes]; exact R1.out.dlok KL.out)
          clear hr2 hr hes
          go_wp2_with fail
          refine OP.out.mono ?_
          rintro e6 w6 ⟨p6, rfl, l6⟩
          have L6 := Lib.hid l6
          clear l6
          go_wp2_with fail
          refine (lg_base L6.out).mono ?_
          rintro e7 w7 ⟨rfl, l7⟩
          have L7 := Lib.hid l7
          clear l7
          have TM := Lib.hid (lg_term n (by omega) L7.out DL.out)
          rw [show termP n (tmK nl n) es n = (((tmK nl n : Nat) : Int), true) from if_pos rfl] at TM
          go_wp2_with fail
          refine TM.out.mono ?_
          rintro e8 w8 ⟨rfl, l8⟩
          have L8 := Lib.hid l8
          clear l8
          obtain ⟨me, hme⟩ : ∃ me, me = es.length := ⟨_, rfl⟩
          have hme2 : me = n - n := by rw [hme, ES.out, List.length_drop, List.length_map, NL.out]
          have hk1 := HK1.out
          have u2 : (k1 : Int) ≤ 200 := by omega
          have u5 : IntKind.u64.wrap (k1 : Int) = (k1 : Int) := IntWalk.u64_in _ (by omega)
          have hfr1 := fun (W' : World) (hb : Below w8.heap.size w8 W') => lg_from (n + 1) 1000 (by omega) (by omega) (by omega) (L8.out.below hb) DL.out
          rw [fromP_at (by omega), ← hme, ← hk1] at hfr1
          have FR1 := Lib.hid hfr1
          have hfr2 := fun (W' : World) (hb : Below w8.heap.size w8 W') => lg_from n 5 (by omega) (by omega) (by omega) (L8.out.below hb) DL.out
          rw [fromP_none] at hfr2
          have FR2 := Lib.hid hfr2
          have SM4 := Lib.hid (show ∀ e ∈ es, e.1.length = 4 ∧ e.2.length ≤ 1000000 ∧ ∀ q ∈ e.2, q.length = 10 from fun e he => by rw [ES.out] at he; exact litOk_same e (List.mem_of_mem_drop he))
          have hme3 : me ≤ 199 := by omega
          have HEL := Lib.hid (show es.length ≤ 4611686018427387904 by omega)
          have HME := Lib.hid hme2
          have TLE := Lib.hid (fun (A' : Option Addr) (hA : n < n → ∀ g o, Aw = some ⟨g, o, none⟩ → A' = some ⟨g, o + n * 5, none⟩) (c' : Nat) (hc' : me ≤ c') => (show El (.slice A' me c') es (Y ++ []) from by
            rw [ES.out, ← List.map_drop]
            refine el_lit (fun w' hw => ?_) (fun x hx => YS.out x (List.mem_of_mem_drop hx))
            have hr := YV.out w' hw
            rw [NL.out] at hr
            have h2 := Rd.tail hr n HKK.out A' hA (show n - n ≤ c' by have := HME.out; omega)
            rw [litC_drop, ← HME.out] at h2
            rw [List.length_drop, NL.out, ← HME.out]
            exact h2))
          clear hfr1 hfr2 hme hk1 hme2
          have hm0 : me = 0 := by have := HME.out; omega
          have WT := Lib.hid (fun (w' : World) (hw : Has w' (Y ++ [])) => (TLE.out Aw (fun h => by omega) 0 (by omega)).ents hw)
          rw [hm0] at WT FR1
          subst hm0
          go_wp2_with fail
          go_region_held3 (fun w' => w.heap.size ≤ w'.heap.size) (first
            | exact Nat.le_trans L8.out.le (BB11.out).size
            | exact Nat.le_trans L8.out.le (BB10.out).size
            | exact Nat.le_trans L8.out.le (BB9.out).size
            | exact L8.out.le
            | fail)
            (first
            | (go_at_call 15; refine (FR2.out w10 BB10.out).mono ?_; rintro e11 w11 ⟨P11, Y11, rfl, -, l11, b11, -⟩; have BB11 := Lib.hid (bel2 BB10.out b11); have L11 := Lib.hid l11; clear l11 b11)
            | (go_at_call 18; refine (samees_any es SM4.out (.slice P9 0 0) (.slice Aw 0 0) w9 G9.out (WT.out w9 HY9.out) HEL.out).mono ?_; rintro e10 w10 ⟨rfl, b10⟩; have BB10 := Lib.hid (bel2 BB9.out b10); clear b10)
            | (go_at_call 15; refine (FR1.out _ (by first | exact (Below.refl _ _).drew | exact Below.refl _ _)).mono ?_; rintro e9 w9 ⟨P9, Y9, rfl, el9, l9, b9, -⟩; have BB9 := Lib.hid (show Below w8.heap.size w8 w9 from by first | exact bel2 ((Below.refl _ _).drew) b9 | exact b9); have G9 := Lib.hid (el9.ents (w := w9) fun q hq => l9.has q (List.mem_append_left _ hq)); have HY9 := Lib.hid (show Has w9 (Y ++ []) from fun q hq => l9.has q (List.mem_append_right _ hq)); clear el9 l9 b9))
          have O11 := Lib.hid (L11.out.on.mono (Y := Y ++ []) fun q hq => List.mem_append_right _ hq)
          go_wp2
          go_roundw
          case rel => exact ⟨r + 1, by go_num, R2.out, O11.out⟩
          case measure => have := R2.out; simp [intOf]; omega
        · have hr3 : ¬ (r : Int) < 2 := by omega
          clear hr2 hr
          go_wp2_with fail
          refine (llives _ (TT.out.below OR.out.bel)).mono ?_
          rintro e9 w9 ⟨rfl, b9⟩
          have B9 := Lib.hid (OR.out.bel.trans (b9.mono OR.out.bel.size))
          clear b9
          go_wp2
          go_ret
          exact ⟨rfl, B9.out⟩
    · have HCK := Lib.hid hck
      have HNC := Lib.hid hncw
      clear hck hncw
      go_wp2_with fail
      go_loopw [15] (fun s15 wr => ∃ r : Nat, s15 = .int .i64 (r : Int) ∧ r ≤ 2 ∧ On (Y ++ []) w.heap.size w wr d nmL ⟨some (fb, fb.length), -1, false⟩) (fun s15 _ => 2 - (intOf s15).toNat)
      case atStart => exact ⟨0, rfl, by omega, O5.out⟩
      case round =>
        obtain ⟨r, rfl, hr, hO⟩ := hrel
        have OR := Lib.hid hO
        clear hO
        by_cases hr2 : r < 2
        · have hr3 : (r : Int) < 2 := by omega
          have R2 := Lib.hid hr2
          have OP := Lib.hid (lopen_file (bi := kk) (bt := tmK nl kk) fb ((nl.map litE).drop kk) _ OR.out rfl (by rw [FB.out]; exact rdF_log kk (tmK nl kk) (by omega) (R1.out.term KL.out).2 (fun e he => R1.out.eok e (List.mem_of_mem_drop he))) (R1.out.adds KL.out) (by rw [FB.out]; exact logB_byt kk _ (fun e he => R1.out.eok e (List.mem_of_mem_drop he))) (by rw [FB.out]; have := R1.out.file KL.out; have := R1.out.most; omega) h0.out TT.out)
          rw [acc_all] at OP
          obtain ⟨es, hes⟩ : ∃ es, es = (nl.map litE).drop kk := ⟨_, rfl⟩
          rw [← hes] at OP
          have ES := Lib.hid hes
          have DL := Lib.hid (show Lok kk (tmK nl kk) es from by rw [hes]; exact R1.out.dlok KL.out)
          clear hr2 hr hes
          go_wp2_with fail
          refine OP.out.mono ?_
          rintro e6 w6 ⟨p6, rfl, l6⟩
          have L6 := Lib.hid l6
          clear l6
          go_wp2_with fail
          refine (lg_base L6.out).mono ?_
          rintro e7 w7 ⟨rfl, l7⟩
          have L7 := Lib.hid l7
          clear l7
          have TM := Lib.hid (lg_term kk (by omega) L7.out DL.out)
          rw [show termP kk (tmK nl kk) es kk = (((tmK nl kk : Nat) : Int), true) from if_pos rfl] at TM
          go_wp2_with fail
          refine TM.out.mono ?_
          rintro e8 w8 ⟨rfl, l8⟩
          have L8 := Lib.hid l8
          clear l8
          obtain ⟨me, hme⟩ : ∃ me, me = es.length := ⟨_, rfl⟩
          have hme2 : me = n - kk := by rw [hme, ES.out, List.length_drop, List.length_map, NL.out]
          obtain ⟨k1, hk1⟩ : ∃ k1, k1 = kk + 1 := ⟨_, rfl⟩
          have u1 : (kk : Int) + 1 = (k1 : Int) := by omega
          have u2 : (k1 : Int) ≤ 200 := by omega
          have u5 : IntKind.u64.wrap (k1 : Int) = (k1 : Int) := IntWalk.u64_in _ (by omega)
          have hfr1 := fun (W' : World) (hb : Below w8.heap.size w8 W') => lg_from (kk + 1) 1000 (by omega) (by omega) (by omega) (L8.out.below hb) DL.out
          rw [fromP_at (by omega), ← hme, ← hk1] at hfr1
          have FR1 := Lib.hid hfr1
          have hfr2 := fun (W' : World) (hb : Below w8.heap.size w8 W') => lg_from kk 5 (by omega) (by omega) (by omega) (L8.out.below hb) DL.out
          rw [fromP_none] at hfr2
          have FR2 := Lib.hid hfr2
          have SM4 := Lib.hid (show ∀ e ∈ es, e.1.length = 4 ∧ e.2.length ≤ 1000000 ∧ ∀ q ∈ e.2, q.length = 10 from fun e he => by rw [ES.out] at he; exact litOk_same e (List.mem_of_mem_drop he))
          have hme3 : me ≤ 199 := by omega
          have HEL := Lib.hid (show es.length ≤ 4611686018427387904 by omega)
          have HME := Lib.hid hme2
          have TLE := Lib.hid (fun (A' : Option Addr) (hA : kk < n → ∀ g o, Aw = some ⟨g, o, none⟩ → A' = some ⟨g, o + kk * 5, none⟩) (c' : Nat) (hc' : me ≤ c') => (show El (.slice A' me c') es (Y ++ []) from by
            rw [ES.out, ← List.map_drop]
            refine el_lit (fun w' hw => ?_) (fun x hx => YS.out x (List.mem_of_mem_drop hx))
            have hr := YV.out w' hw
            rw [NL.out] at hr
            have h2 := Rd.tail hr kk HKK.out A' hA (show n - kk ≤ c' by have := HME.out; omega)
            rw [litC_drop, ← HME.out] at h2
            rw [List.length_drop, NL.out, ← HME.out]
            exact h2))
          clear hfr1 hfr2 hme hk1 hme2
          obtain ⟨g, hg⟩ := OWS.out.resolve_left (fun h => HCK.out (by have := HNC.out; omega))
          subst hg
          obtain ⟨cc, hcc⟩ : ∃ cc, cc = cw - kk := ⟨_, rfl⟩
          have WT := Lib.hid (fun (w' : World) (hw : Has w' (Y ++ [])) => (TLE.out (some ⟨g, kk * 5, none⟩) (fun _ g' o' e => by injection e with e; injection e with e1 e2; subst e1 e2; rw [Nat.zero_add]) cc (by have := HME.out; have := HNC.out; omega)).ents hw)
          have v1 : n - kk = me := HME.out.symm
          have v2 : cw - kk = cc := hcc.symm
          have v3 : (n : Int) ≤ (cw : Int) := by have := HNC.out; omega
          have v4 : (kk : Int) ≤ (n : Int) := by omega
          clear hcc
          go_wp2_with fail
          go_region_held3 (fun w' => w.heap.size ≤ w'.heap.size) (first
            | exact Nat.le_trans L8.out.le (BB11.out).size
            | exact Nat.le_trans L8.out.le (BB10.out).size
            | exact Nat.le_trans L8.out.le (BB9.out).size
            | exact L8.out.le
            | fail)
            (first
            | (go_at_call 15; refine (FR2.out w10 BB10.out).mono ?_; rintro e11 w11 ⟨P11, Y11, rfl, -, l11, b11, -⟩; have BB11 := Lib.hid (bel2 BB10.out b11); have L11 := Lib.hid l11; clear l11 b11)
            | (go_at_call 18; refine (samees_any es SM4.out (.slice P9 me me) (.slice (some ⟨g, kk * 5, none⟩) me cc) w9 G9.out (WT.out w9 HY9.out) HEL.out).mono ?_; rintro e10 w10 ⟨rfl, b10⟩; have BB10 := Lib.hid (bel2 BB9.out b10); clear b10)
            | (go_at_call 15; refine (FR1.out _ (by first | exact (Below.refl _ _).drew | exact Below.refl _ _)).mono ?_; rintro e9 w9 ⟨P9, Y9, rfl, el9, l9, b9, -⟩; have BB9 := Lib.hid (show Below w8.heap.size w8 w9 from by first | exact bel2 ((Below.refl _ _).drew) b9 | exact b9); have G9 := Lib.hid (el9.ents (w := w9) fun q hq => l9.has q (List.mem_append_left _ hq)); have HY9 := Lib.hid (show Has w9 (Y ++ []) from fun q hq => l9.has q (List.mem_append_right _ hq)); clear el9 l9 b9))
          have O11 := Lib.hid (L11.out.on.mono (Y := Y ++ []) fun q hq => List.mem_append_right _ hq)
          go_wp2
          go_roundw
          case rel => exact ⟨r + 1, by go_num, R2.out, O11.out⟩
          case measure => have := R2.out; simp [intOf]; omega
        · have hr3 : ¬ (r : Int) < 2 := by omega
          clear hr2 hr
          go_wp2_with fail
          refine (llives _ (TT.out.below OR.out.bel)).mono ?_
          rintro e9 w9 ⟨rfl, b9⟩
          have B9 := Lib.hid (OR.out.bel.trans (b9.mono OR.out.bel.size))
          clear b9
          go_wp2
          go_ret
          exact ⟨rfl, B9.out⟩
end Go.Proofs.YtnegondlkfeleaaDoor
