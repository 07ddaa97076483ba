/- LettersBack: walk. -/
import Derived.Test.YthjdkjinkmdclaaLlv
import Derived.Test.YthjdkjinkmdclaaLgr
namespace Go.Proofs.Ythjdkjinkmdclaa
open Go.RowKit

theorem putL_cases (L : Lt) : putL L = ([], 1) ∨ ∃ bs, putL L = (bs, 0) := by
  unfold putL
  split
  · exact .inl rfl
  · split
    · exact .inl rfl
    · exact .inr ⟨_, rfl⟩
theorem putL_len {w : World} {L : Lt} {ve vd vs vg : Value} (hw : Lw w L ve vd vs vg) {bs : List Int} (h : putL L = (bs, 0)) : bs.length ≤ 1000000000 ∧ 0 < bs.length := by
  obtain ⟨ps, hps, rfl, -⟩ := putL_ok hw.ok h
  have h1 := fm_len (fun q => (putPc L q).1) 80000000 (putPc_len hw) (heads ++ ps)
  have h2 := pcs_len hps
  constructor
  · simp only [heads, List.length_append, List.length_cons, List.length_nil] at h1 ⊢
    omega
  · simp [heads, putPc]
set_option maxHeartbeats 4000000 in
set_option maxRecDepth 100000 in
theorem lback_walk {w : World} {L : Lt} {ve vd vs vg : Value} (h : Lr w L ve vd vs vg) (cut : Nat) (hcut : cut ≤ 65535) (c : Int) (hc : byt c) :
    Calls Try.prog 3 #[.agg (letC L ve vd vs vg), .int .u16 cut, .int .u8 c] w fun e w' => e = .returned (.bool true) ∧ Below w.heap.size w w' := by
  obtain ⟨Ae0, ne0, ce, rfl⟩ : ∃ A n c, ve = .slice A n c := by obtain ⟨ss, h1, ⟨A, c, hv, -⟩, h3⟩ := h.es; exact ⟨A, _, c, hv⟩
  obtain ⟨Ad0, nd0, cd, rfl⟩ : ∃ A n c, vd = .slice A n c := by obtain ⟨A, c, hv, -⟩ := h.data; exact ⟨A, _, c, hv⟩
  obtain ⟨As0, ns0, cs, rfl⟩ : ∃ A n c, vs = .slice A n c := by obtain ⟨A, c, hv, -⟩ := h.steps; exact ⟨A, _, c, hv⟩
  obtain ⟨Ag0, ng0, cg, rfl⟩ : ∃ A n c, vg = .slice A n c := by obtain ⟨A, c, hv, -⟩ := h.gots; exact ⟨A, _, c, hv⟩
  have b0 := below_alloc_ w (.cells (letC L (.slice Ae0 ne0 ce) (.slice Ad0 nd0 cd) (.slice As0 ns0 cs) (.slice Ag0 ng0 cg)) 36)
  have H := Lib.hid (h.below b0)
  have K := Lib.hid (Blk.new w 36 (letC L (.slice Ae0 ne0 ce) (.slice Ad0 nd0 cd) (.slice As0 ns0 cs) (.slice Ag0 ng0 cg)))
  have B0 := Lib.hid b0
  have HC := Lib.hid hc
  simp only [letC] at H K B0 ⊢
  clear h b0 hc
  go_enter Try.func3, Try.ntmps3
  go_upto_region 1 with fail
  obtain ⟨w0, hw0⟩ : ∃ w0, w0 = w.alloc (.cells #[.int .u8 L.kind, .int .u8 L.src, .int .u8 L.dst, .int .u64 L.term, .int .u64 L.index, .int .u64 L.mark, .int .u64 L.commit, .bool L.yes, .slice Ae0 ne0 ce, .slice Ad0 nd0 cd, .int .u8 L.cl, .int .u64 L.num, .slice As0 ns0 cs, .int .i64 L.e, .int .i64 L.re, .int .i64 L.ra, .slice Ag0 ng0 cg] 36) := ⟨_, rfl⟩
  rw [← hw0] at H K B0 ⊢
  clear hw0
  have R0 := Lib.hid (Blk.range (cs := [.int .u8 L.kind, .int .u8 L.src, .int .u8 L.dst, .int .u64 L.term, .int .u64 L.index, .int .u64 L.mark, .int .u64 L.commit, .bool L.yes, .slice Ae0 ne0 ce, .slice Ad0 nd0 cd, .int .u8 L.cl, .int .u64 L.num, .slice As0 ns0 cs, .int .i64 L.e, .int .i64 L.re, .int .i64 L.ra, .slice Ag0 ng0 cg]) K.out)
  refine wp_region_lit ?_
  refine wpList_load_mid rfl 36 _ rfl w.heap.size 0 rfl [.int .u8 L.kind, .int .u8 L.src, .int .u8 L.dst, .int .u64 L.term, .int .u64 L.index, .int .u64 L.mark, .int .u64 L.commit, .bool L.yes, .slice Ae0 ne0 ce, .slice Ad0 nd0 cd, .int .u8 L.cl, .int .u64 L.num, .slice As0 ns0 cs, .int .i64 L.e, .int .i64 L.re, .int .i64 L.ra, .slice Ag0 ng0 cg] _ R0.out Try.underlying36 rfl let_size ?_
  go_wp2_with fail
  refine (great_any H.out).mono ?_
  rintro e w1 ⟨ha, hb⟩
  have B1 := Lib.hid (B0.out.trans (hb.mono B0.out.size))
  have H1 := Lib.hid (H.out.below hb)
  have K1 := Lib.hid (K.out.below hb K.out.lt)
  clear hb H K B0 R0
  rcases ha with rfl | ⟨rfl, sm⟩
  · as_aux_lemma =>
      go_wp2_with fail
      refine (llives _).mono ?_
      rintro e w2 ⟨rfl, b2⟩
      have B2 := Lib.hid (B1.out.trans (b2.mono B1.out.size))
      clear b2
      go_wp2
      go_ret
      exact ⟨rfl, B2.out⟩
  have LW := Lib.hid (H1.out.lw sm)
  clear sm
  go_upto_region 3 with fail
  have R1 := Lib.hid (Blk.range (cs := [.int .u8 L.kind, .int .u8 L.src, .int .u8 L.dst, .int .u64 L.term, .int .u64 L.index, .int .u64 L.mark, .int .u64 L.commit, .bool L.yes, .slice Ae0 ne0 ce, .slice Ad0 nd0 cd, .int .u8 L.cl, .int .u64 L.num, .slice As0 ns0 cs, .int .i64 L.e, .int .i64 L.re, .int .i64 L.ra, .slice Ag0 ng0 cg]) K1.out)
  refine wp_region_lit ?_
  refine wpList_load_mid rfl 36 _ rfl w.heap.size 0 rfl [.int .u8 L.kind, .int .u8 L.src, .int .u8 L.dst, .int .u64 L.term, .int .u64 L.index, .int .u64 L.mark, .int .u64 L.commit, .bool L.yes, .slice Ae0 ne0 ce, .slice Ad0 nd0 cd, .int .u8 L.cl, .int .u64 L.num, .slice As0 ns0 cs, .int .i64 L.e, .int .i64 L.re, .int .i64 L.ra, .slice Ag0 ng0 cg] _ R1.out Try.underlying36 rfl let_size ?_
  go_wp2_with fail
  refine (Put_any LW.out).mono ?_
  rintro e w2 ⟨v2, rfl, ho, hb, A2, m2, rfl⟩
  have B2 := Lib.hid (B1.out.trans (hb.mono B1.out.size))
  have K2 := Lib.hid (K1.out.below hb K1.out.lt)
  clear R1
  rcases putL_cases L with hp | ⟨bs, hp⟩
  · rw [hp] at ho ⊢
    obtain rfl : m2 = 0 := by obtain ⟨A', c', hv, -, -, -⟩ := ho.bs; injection hv
    clear ho hb hp
    go_wp2_with fail
    refine (llives _).mono ?_
    rintro e w3 ⟨rfl, b3⟩
    have B3 := Lib.hid (B2.out.trans (b3.mono B2.out.size))
    clear b3
    go_wp2
    go_ret
    exact ⟨rfl, B3.out⟩
  rw [hp] at ho ⊢
  have OKL := Lib.hid LW.out.ok
  obtain ⟨M, hM, e0, e1, e2, e3, hpM, hokM⟩ := getL_put OKL.out hp
  have EE := Lib.hid (And.intro e0 (And.intro e1 (And.intro e2 e3)))
  obtain ⟨hl1, hl0⟩ := putL_len LW.out hp
  clear e0 e1 e2 e3
  have YB := Lib.hid (putL_byt OKL.out hp)
  have PL := Lib.hid hp
  have PM := Lib.hid hpM
  have OM := Lib.hid hokM
  obtain rfl : m2 = bs.length := by obtain ⟨A', c', hv, -, -, -⟩ := ho.bs; injection hv
  obtain ⟨n, hn⟩ : ∃ n, n = bs.length := ⟨_, rfl⟩
  have N := Lib.hid hn
  have O2 := Lib.hid ho.bs
  rw [← hn] at O2 hl1 hl0 ⊢
  clear ho hb hp hpM hokM hn B1 K1 H1 LW
  go_upto_region 6 with fail
  go_cut [9, 10] (fun s9 s10 wx => ∃ q Ae Ad As Ag ne nd ns ng, s9 = .pointer (some ⟨q, 0, none⟩) ∧ s10 = .int .i64 0 ∧ Blk wx q 36 (letC M (.slice Ae ne ne) (.slice Ad nd nd) (.slice As ns ns) (.slice Ag ng ng)) ∧ Lw wx M (.slice Ae ne ne) (.slice Ad nd nd) (.slice As ns ns) (.slice Ag ng ng) ∧
    Bs wx (.slice A2 n n) bs ∧ Blk wx w.heap.size 36 (letC L (.slice Ae0 ne0 ce) (.slice Ad0 nd0 cd) (.slice As0 ns0 cs) (.slice Ag0 ng0 cg)) ∧ Below w.heap.size w wx)
  case first =>
    as_aux_lemma =>
      go_wp2_with fail
      refine (Get_any O2.out YB.out (by rw [← N.out]; omega)).mono ?_
      rintro e w3 ⟨ha, hb⟩
      rw [hM] at ha
      obtain ⟨ve, vd, vs, vg, rfl, hv⟩ := ha
      obtain ⟨Ae2, ne2, Ad2, nd2, As2, ns2, Ag2, ng2, rfl, rfl, rfl, rfl⟩ := hv.sl
      have b4 := below_alloc_ w3 (.cells (letC M (.slice Ae2 ne2 ne2) (.slice Ad2 nd2 nd2) (.slice As2 ns2 ns2) (.slice Ag2 ng2 ng2)) 36)
      have b24 := hb.trans (b4.mono hb.size)
      have B4 := Lib.hid (B2.out.trans (b24.mono B2.out.size))
      have K4 := Lib.hid (K2.out.below b24 K2.out.lt)
      have O4 := Lib.hid (O2.out.below b24)
      have KM := Lib.hid (Blk.new w3 36 (letC M (.slice Ae2 ne2 ne2) (.slice Ad2 nd2 nd2) (.slice As2 ns2 ns2) (.slice Ag2 ng2 ng2)))
      have LM := Lib.hid ((hv.below b4).lw OM.out)
      simp only [letC] at B4 K4 O4 KM LM ⊢
      clear hv hb b4 b24 hM B2 K2 O2
      go_wp2
      go_meet
      exact ⟨_, _, _, _, _, _, _, _, _, rfl, rfl, KM.out, LM.out, O4.out, K4.out, B4.out⟩
  case rest =>
  obtain ⟨q, Ae2, Ad2, As2, Ag2, ne2, nd2, ns2, ng2, rfl, rfl, km, lm, o4, k4, b4⟩ := hcut
  have KM := Lib.hid km
  have LM := Lib.hid lm
  have O4 := Lib.hid o4
  have K4 := Lib.hid k4
  have B4 := Lib.hid b4
  clear lm o4 k4 b4 hM B2 K2 O2
  go_upto_region 7 with fail
  go_cut [11, 12] (fun s11 s12 wx => ∃ A5, s11 = .slice A5 n n ∧ s12 = .int .i64 0 ∧ Bo w.heap.size wx (.slice A5 n n) bs ∧
    Bs wx (.slice A2 n n) bs ∧ Blk wx q 36 (letC M (.slice Ae2 ne2 ne2) (.slice Ad2 nd2 nd2) (.slice As2 ns2 ns2) (.slice Ag2 ng2 ng2)) ∧ Blk wx w.heap.size 36 (letC L (.slice Ae0 ne0 ce) (.slice Ad0 nd0 cd) (.slice As0 ns0 cs) (.slice Ag0 ng0 cg)) ∧ Below w.heap.size w wx)
  case first =>
    as_aux_lemma =>
      have RM := Lib.hid (Blk.range (cs := [.int .u8 M.kind, .int .u8 M.src, .int .u8 M.dst, .int .u64 M.term, .int .u64 M.index, .int .u64 M.mark, .int .u64 M.commit, .bool M.yes, .slice Ae2 ne2 ne2, .slice Ad2 nd2 nd2, .int .u8 M.cl, .int .u64 M.num, .slice As2 ns2 ns2, .int .i64 M.e, .int .i64 M.re, .int .i64 M.ra, .slice Ag2 ng2 ng2]) km)
      clear km
      refine wp_region_lit ?_
      refine wpList_load_mid rfl 36 _ rfl q 0 rfl [.int .u8 M.kind, .int .u8 M.src, .int .u8 M.dst, .int .u64 M.term, .int .u64 M.index, .int .u64 M.mark, .int .u64 M.commit, .bool M.yes, .slice Ae2 ne2 ne2, .slice Ad2 nd2 nd2, .int .u8 M.cl, .int .u64 M.num, .slice As2 ns2 ns2, .int .i64 M.e, .int .i64 M.re, .int .i64 M.ra, .slice Ag2 ng2 ng2] _ RM.out Try.underlying36 rfl let_size ?_
      go_wp2_with fail
      refine (Put_any LM.out).mono ?_
      rintro e w5 ⟨v5, rfl, ho, hb, A5, m5, rfl⟩
      rw [PM.out] at ho ⊢
      obtain rfl : m5 = bs.length := by obtain ⟨A', c', hv, -, -, -⟩ := ho.bs; injection hv
      have B5 := Lib.hid (B4.out.trans (hb.mono B4.out.size))
      have K5 := Lib.hid (K4.out.below hb K4.out.lt)
      have KN := Lib.hid (KM.out.below hb KM.out.lt)
      have O5 := Lib.hid (O4.out.below hb)
      have O6 := Lib.hid (ho.le B4.out.size)
      rw [← N.out] at O6 ⊢
      clear ho hb RM
      go_wp2
      go_meet
      exact ⟨_, rfl, rfl, O6.out, O5.out, KN.out, K5.out, B5.out⟩
  case rest =>
  clear km KM LM O4 K4 B4
  obtain ⟨A5, rfl, rfl, o6, o5, km, k5, b5⟩ := hcut
  have B5 := Lib.hid b5
  have O6 := Lib.hid o6
  have O5 := Lib.hid o5
  have h1 := run_convert_bs (P := Try.prog) o5 25 5 9 Try.underlying25 Try.underlying5 Try.underlying9
  have h2 := run_convert_bs (P := Try.prog) o6.bs 25 5 9 Try.underlying25 Try.underlying5 Try.underlying9
  have f0 := k5.cell 0
  have f1 := k5.cell 1
  have f2 := k5.cell 2
  have f3 := k5.cell 3
  have g0 := km.cell 0
  have g1 := km.cell 1
  have g2 := km.cell 2
  have g3 := km.cell 3
  simp only [letC, List.getElem?_toArray, List.getElem?_cons_zero, List.getElem?_cons_succ] at f0 f1 f2 f3 g0 g1 g2 g3
  rw [EE.out.1] at g0
  rw [EE.out.2.1] at g1
  rw [EE.out.2.2.1] at g2
  rw [EE.out.2.2.2] at g3
  obtain ⟨S, hS⟩ : ∃ S, S = strOfNums bs := ⟨_, rfl⟩
  simp only [← hS] at h1 h2
  have hn0 : ((n : Int) == 0) = false := beq_eq_false_iff_ne.2 (by omega)
  have hn1 : ¬ (n : Int) = 0 := by omega
  clear k5 km hS EE o6 o5 b5
  go_upto_region 10 with fail
  clear h1 h2 f0 f1 f2 f3 g0 g1 g2 g3
  go_cut [14] (fun s14 wx => s14 = .int .i64 4 ∧ Bo w.heap.size wx (.slice A5 n n) bs ∧ Below w.heap.size w wx)
  case first =>
    as_aux_lemma =>
      obtain ⟨k, hkk⟩ : ∃ k, k = cut % n := ⟨_, rfl⟩
      have hkn : k < n := by rw [hkk]; exact Nat.mod_lt _ (by omega)
      have hrem : Int.tmod (cut : Int) (n : Int) = (k : Int) := by rw [hkk]; exact (Int.ofNat_tmod cut n).symm
      have hw1 : IntKind.i64.wrap (cut : Int) = cut := IntWalk.i64_in _ (by omega)
      have hw2 : IntKind.i64.wrap (k : Int) = k := IntWalk.i64_in _ (by omega)
      have hk0 : (0 : Int) ≤ k := by omega
      have hkn' : (k : Int) ≤ n := by omega
      have hn2 : ¬ n = 0 := by omega
      obtain ⟨g, o, rfl⟩ : ∃ g o, A2 = some ⟨g, o, none⟩ := by
        obtain ⟨A', c', hv, -, -, hh⟩ := O5.out
        injection hv with q1 q2 q3
        subst q1
        rcases hh with h0 | ⟨g, o, rfl, -⟩
        · omega
        · exact ⟨g, o, rfl⟩
      have HG := Lib.hid (getL_cut OKL.out PL.out (k := k) (by rw [← N.out]; exact hkn))
      have HF := Lib.hid (O5.out.front k n (by omega) (by omega))
      have HL := Lib.hid (show (bs.take k).length ≤ 70368744177664 by rw [List.length_take]; omega)
      have HY := Lib.hid (show ∀ c ∈ bs.take k, byt c from fun c hc => YB.out c (List.mem_of_mem_take hc))
      clear hkk O5
      go_wp2_with fail
      refine (Get_any HF.out HY.out HL.out).mono ?_
      rintro e w6 ⟨ha, hb⟩
      rw [HG.out] at ha
      obtain rfl : e = .returned (.tuple #[.agg zeroL, .int .i64 4]) := ha
      have b7 := hb.trans ((below_alloc_ w6 (.cells zeroL 36)).mono hb.size)
      have B7 := Lib.hid (B5.out.trans (b7.mono B5.out.size))
      have O7 := Lib.hid (O6.out.below b7)
      have hz : zeroL = #[.int .u8 0, .int .u8 0, .int .u8 0, .int .u64 0, .int .u64 0, .int .u64 0, .int .u64 0, .bool false, .slice none 0 0, .slice none 0 0, .int .u8 0, .int .u64 0, .slice none 0 0, .int .i64 0, .int .i64 0, .int .i64 0, .slice none 0 0] := rfl
      rw [hz] at B7 O7 ⊢
      clear hb b7 hz
      go_wp2
      go_meet
      exact ⟨rfl, O7.out, B7.out⟩
  case rest =>
  clear B5 O6 O5
  obtain ⟨rfl, o7, b7⟩ := hcut
  have B7 := Lib.hid b7
  have BF := Lib.hid (show Bf w.heap.size w _ (.slice A5 n n) bs from ⟨o7, b7, b7.size⟩)
  clear o7 b7
  go_upto_region 11 with fail
  go_cut [16] (fun s16 wx => s16 = .int .i64 4 ∧ Below w.heap.size w wx)
  case first =>
    as_aux_lemma =>
      have HG := Lib.hid (getL_more OKL.out PL.out (r := [c]) (by simp))
      have HY := Lib.hid (show ∀ x ∈ bs ++ [c], byt x from fun x hx => by
        rcases List.mem_append.1 hx with h | h
        · exact YB.out x h
        · simp at h; subst h; exact HC.out)
      have HL := Lib.hid (show (bs ++ [c]).length ≤ 70368744177664 by simp; have := N.out; omega)
      go_wp2_with (at_builtin; go_must (refine wpList_bf_byte rfl _ _ 25 rfl Try.underlying25 rfl BF.out rfl (by have := N.out; omega) ?_); intro v2 w2 hB2; obtain ⟨A9, m9, c9, rfl⟩ := hB2.own.sl; have HB2 := Lib.hid hB2; clear hB2)
      refine (Get_any HB2.out.own.bs HY.out HL.out).mono ?_
      rintro e w6 ⟨ha, hb⟩
      rw [HG.out] at ha
      obtain rfl : e = .returned (.tuple #[.agg zeroL, .int .i64 4]) := ha
      have b7 := hb.trans ((below_alloc_ w6 (.cells zeroL 36)).mono hb.size)
      have B8 := Lib.hid (HB2.out.bel.trans (b7.mono HB2.out.bel.size))
      have hz : zeroL = #[.int .u8 0, .int .u8 0, .int .u8 0, .int .u64 0, .int .u64 0, .int .u64 0, .int .u64 0, .bool false, .slice none 0 0, .slice none 0 0, .int .u8 0, .int .u64 0, .slice none 0 0, .int .i64 0, .int .i64 0, .int .i64 0, .slice none 0 0] := rfl
      rw [hz] at B8 ⊢
      clear hb b7 hz
      go_wp2
      go_meet
      exact ⟨rfl, B8.out⟩
  case rest =>
  clear B7 BF
  obtain ⟨rfl, b8⟩ := hcut
  have B8 := Lib.hid b8
  clear b8
  go_wp2_with fail
  refine (llives _).mono ?_
  rintro e w9 ⟨rfl, b9⟩
  have B9 := Lib.hid (B8.out.trans (b9.mono B8.out.size))
  clear b9
  go_wp2
  go_ret
  exact ⟨rfl, B9.out⟩
end Go.Proofs.Ythjdkjinkmdclaa
