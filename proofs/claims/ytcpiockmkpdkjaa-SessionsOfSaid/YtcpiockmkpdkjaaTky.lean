/- The document's taker: a reply. -/
import Derived.Test.YtcpiockmkpdkjaaTkm
import Derived.Test.YtcpiockmkpdkjaaRow
import Derived.Test.YtcpiockmkpdkjaaPcr
namespace Go.Proofs.Ytcpiockmkpdkjaa
open Go.RowKit

set_option maxHeartbeats 8000000 in
set_option maxRecDepth 100000 in
theorem treply_at (t : Nat) (s s1 s2 s4 : TS) (E F : Int) (rows : List (List Int)) (w : World) (h : Ts w t s) (h1 : rd1 .i64 s = (E, s1)) (h2 : rd1 .i64 s1 = (F, s2)) (hL : rdL gotK 8 s2 = (rows, s4)) :
    Calls Try.prog 50 #[.pointer (some ⟨t, 0, none⟩)] w fun e w' => ∃ A c, e = .returned (.agg #[.int .i64 E, .int .i64 F, .slice A rows.length c]) ∧ Ow w.heap.size w' 42 2 (.slice A rows.length c) rows.length (rows.flatMap (fc gotK)) ∧ Ts w' t s4 ∧ w.grownBy w' (some t) := by
  have hlt := h.lt
  have b2 := below_alloc2_ w (.cells #[.int .i64 0, .int .i64 0, .slice none 0 0] 33) (.cells #[.int .i64 0, .int .i64 0, .slice none 0 0] 33)
  have k0 := (Blk.new w 33 #[.int .i64 0, .int .i64 0, .slice none 0 0]).alloc (.cells #[.int .i64 0, .int .i64 0, .slice none 0 0] 33)
  have k1 := Blk.new (w.alloc (.cells #[.int .i64 0, .int .i64 0, .slice none 0 0] 33)) 33 #[.int .i64 0, .int .i64 0, .slice none 0 0]
  rw [World.size_alloc] at k1
  have T0 := Lib.hid (h.below b2)
  have KC0 := Lib.hid k1
  have K20 := Lib.hid k0
  have G0 := Lib.hid (grown_below_ b2 (some t))
  obtain ⟨n, s3, hM⟩ : ∃ n s3, rdM 8 s2 = (n, s3) := ⟨_, _, rfl⟩
  have hn := rdM_le 8 s2
  rw [hM] at hn
  simp only at hn
  have hL' : rdN gotK n s3 = (rows, s4) := by rw [← hL]; unfold rdL; rw [hM]
  have HL := Lib.hid hL'
  have HM := Lib.hid hM
  have H1 := Lib.hid h1
  have H2 := Lib.hid h2
  have hn' : (n : Int) ≤ 8 := by omega
  clear h hL hM hL' b2 k0 k1 h1 h2
  go_enter Try.func50, Try.ntmps50
  go_wp2_with fail
  refine (rd_i64 t s s1 E _ T0.out H1.out).mono ?_
  rintro e w1 ⟨rfl, ht, hg⟩
  have kc := KC0.out.grown hg (fun e => by have := Option.some.inj e; omega)
  have f1 := kc.free
  have z1 := kc.cell 0
  simp only [List.getElem?_toArray, List.getElem?_cons_zero, List.getElem?_cons_succ] at z1
  have KC1 := Lib.hid (show Blk (w1.setCell ⟨w.heap.size + 1, 0, none⟩ (.int .i64 E)) (w.heap.size + 1) 33 #[.int .i64 E, .int .i64 0, .slice none 0 0] from by have := kc.set_ 0 (.int .i64 E); simpa using this)
  have K21 := Lib.hid ((K20.out.grown hg (fun e => by have := Option.some.inj e; omega)).far (p := ⟨w.heap.size + 1, 0, none⟩) (by simp) (.int .i64 E))
  have T1 := Lib.hid (ht.grown (grown_set_ w1 (w.heap.size + 1) 0 (.int .i64 E)) (fun k e => by have := Option.some.inj e; omega))
  have G1 := Lib.hid (grown_far_ (grown_trans_ G0.out hg) (p := ⟨w.heap.size + 1, 0, none⟩) (by simp) (.int .i64 E))
  clear ht hg kc T0 KC0 K20 G0
  go_wp2_with fail
  refine (rd_i64 t s1 s2 F _ T1.out H2.out).mono ?_
  rintro e w2 ⟨rfl, ht, hg⟩
  have kc := KC1.out.grown hg (fun e => by have := Option.some.inj e; omega)
  have f2 := kc.free
  have z2 := kc.cell 1
  simp only [List.getElem?_toArray, List.getElem?_cons_zero, List.getElem?_cons_succ] at z2
  have KC2 := Lib.hid (show Blk (w2.setCell ⟨w.heap.size + 1, 1, none⟩ (.int .i64 F)) (w.heap.size + 1) 33 #[.int .i64 E, .int .i64 F, .slice none 0 0] from by have := kc.set_ 1 (.int .i64 F); simpa using this)
  have K22 := Lib.hid ((K21.out.grown hg (fun e => by have := Option.some.inj e; omega)).far (p := ⟨w.heap.size + 1, 1, none⟩) (by simp) (.int .i64 F))
  have T2 := Lib.hid (ht.grown (grown_set_ w2 (w.heap.size + 1) 1 (.int .i64 F)) (fun k e => by have := Option.some.inj e; omega))
  have G2 := Lib.hid (grown_far_ (grown_trans_ G1.out hg) (p := ⟨w.heap.size + 1, 1, none⟩) (by simp) (.int .i64 F))
  clear ht hg kc T1 KC1 K21 G1 f1 z1
  go_wp2_with fail
  refine (many_at t 8 s2 s3 n _ T2.out (by decide) HM.out).mono ?_
  rintro e w3 ⟨rfl, ht, hg⟩
  have T := Lib.hid ht
  have KC := Lib.hid (KC2.out.grown hg (fun e => by have := Option.some.inj e; omega))
  have K2 := Lib.hid (K22.out.grown hg (fun e => by have := Option.some.inj e; omega))
  have G := Lib.hid (grown_trans_ G2.out hg)
  clear ht hg T2 KC2 K22 G2 f2 z2
  go_wp2_with fail
  go_loopg [5] n (fun q ci wr => ∃ (j : Nat) (done : List (List Int)) (sj : TS) (v : Value), j ≤ n ∧ q = n - j ∧ ci = .int .i64 j ∧ done.length = j ∧ rdN gotK n s3 = (done ++ (rdN gotK (n - j) sj).1, (rdN gotK (n - j) sj).2) ∧ Ts wr t sj ∧ Blk wr (w.heap.size + 1) 33 #[.int .i64 E, .int .i64 F, v] ∧ Blk wr w.heap.size 33 #[.int .i64 0, .int .i64 0, .slice none 0 0] ∧ Ow w.heap.size wr 42 2 v j (done.flatMap (fc gotK)) ∧ w.grownBy wr (some t))
  case atStart => exact ⟨0, [], s3, .slice none 0 0, Nat.zero_le _, rfl, rfl, rfl, by simp, T.out, KC.out, K2.out, .inl ⟨rfl, rfl, rfl⟩, G.out⟩
  case round =>
    obtain ⟨j, done, sj, v, hj, hq, rfl, hdl, hrep, hT, hKC, hK2, hO, hG⟩ := hrel
    have HQ := Lib.hid hq
    have DL := Lib.hid hdl
    have RP := Lib.hid hrep
    have HT := Lib.hid hT
    have HKC := Lib.hid hKC
    have HK2 := Lib.hid hK2
    have HO := Lib.hid hO
    have HG := Lib.hid hG
    obtain ⟨ee, hee, he0, he1⟩ := hT.errno
    obtain ⟨Av, cv, rfl⟩ := hO.sl_
    have HE0 := Lib.hid he0
    have HE1 := Lib.hid he1
    have hwr : w.heap.size ≤ wr.heap.size := hG.size
    clear hq hdl hrep hT hKC hK2 hO hG he0 he1
    go_upto_region 6 with fail
    go_cut [25] (fun sb wx => sb = .bool (decide (j < n ∧ ee = 0)) ∧ wx = wr)
    case first =>
      by_cases hjn : j < n
      · have hjn' : (j : Int) < n := by omega
        by_cases hek : ee = 0
        · have b1 : (ee == 0) = true := by rw [hek]; rfl
          have HEK := Lib.hid hek
          clear hek
          go_wp2
          go_meet
          exact ⟨by simp [hjn, HEK.out], rfl⟩
        · have b1 : (ee == 0) = false := beq_eq_false_iff_ne.2 hek
          have HEK := Lib.hid hek
          clear hek
          go_wp2
          go_meet
          exact ⟨by simp [HEK.out], rfl⟩
      · have hjn' : ¬ (j : Int) < n := by omega
        go_wp2
        go_meet
        exact ⟨by simp [hjn], rfl⟩
    case rest =>
    obtain ⟨rfl, rfl⟩ := hcut
    by_cases hgo : j < n ∧ ee = 0
    · rw [decide_eq_true hgo]
      obtain ⟨hjn, hek⟩ := hgo
      have hjn' : (j : Int) < n := by omega
      obtain ⟨xs, rfl⟩ : ∃ xs, sj = .ok xs := by
        match sj, HE1 with
        | .ok xs, _ => exact ⟨xs, rfl⟩
        | .error q, HE1 => exact absurd hek (HE1.out q rfl).2
      have SP := Lib.hid (show rdN gotK (n - j) (.ok xs) = ((rdF gotK (.ok xs)).1 :: (rdN gotK (n - (j + 1)) (rdF gotK (.ok xs)).2).1, (rdN gotK (n - (j + 1)) (rdF gotK (.ok xs)).2).2) by rw [show n - j = n - (j + 1) + 1 from by omega]; rfl)
      clear hek hee
      obtain ⟨x0, s_1, hr0⟩ : ∃ a b, rd1 .i64 (.ok xs) = (a, b) := ⟨_, _, rfl⟩
      have R0 := Lib.hid hr0
      obtain ⟨x1, s_2, hr1⟩ : ∃ a b, rd1 .i64 s_1 = (a, b) := ⟨_, _, rfl⟩
      have R1 := Lib.hid hr1
      have RF := Lib.hid (show rdF gotK (.ok xs) = ([x0, x1], s_2) by simp only [gotK, rdF, hr0, hr1])
      clear hr0 hr1
      go_wp2_with fail
      refine (rd_i64 t (.ok xs) s_1 x0 _ HT.out R0.out).mono ?_
      rintro e wg ⟨rfl, ht, hg⟩
      have TT1 := Lib.hid ht
      have GG1 := Lib.hid hg
      clear ht hg
      go_wp2_with fail
      refine (rd_i64 t s_1 s_2 x1 _ TT1.out R1.out).mono ?_
      rintro e X ⟨rfl, ht, hg⟩
      have TX := Lib.hid ht
      have GX := Lib.hid (grown_trans_ GG1.out hg)
      clear ht hg TT1 GG1
      have kcx := HKC.out.grown GX.out (fun e => by have := Option.some.inj e; omega)
      have fx := kcx.free
      have zx := kcx.cell 2
      simp only [List.getElem?_toArray, List.getElem?_cons_zero, List.getElem?_cons_succ] at zx
      have KCX := Lib.hid kcx
      have K2X := Lib.hid (HK2.out.grown GX.out (fun e => by have := Option.some.inj e; omega))
      have OX := Lib.hid (ow_grown_ HO.out GX.out (fun k e => by have := Option.some.inj e; omega))
      clear kcx
      have hWX : w.heap.size ≤ X.heap.size := Nat.le_trans hwr GX.out.size
      go_wp2_with (at_builtin; go_must (refine wpList_ow rfl _ _ 31 42 (.agg #[.int .i64 0, .int .i64 0]) 2 16 rfl Try.underlying31 got_info rfl (by decide) rfl #[.int .i64 x0, .int .i64 x1] OX.out hWX rfl (by simp [Value.oneCell']) rfl (by omega) (by unfold maxLen; omega) ?_); intro v3 w30 hO3 hg3; obtain ⟨A3, c3, rfl⟩ := hO3.sl_; have kc3 := KCX.out.grown hg3.1 (fun e => Ow.notat OX.out KCX.out (by decide) e.symm); have f30 := kc3.free; have z30 := kc3.cell 2; simp only [List.getElem?_toArray, List.getElem?_cons_zero, List.getElem?_cons_succ] at z30; have KC3 := Lib.hid kc3; have O3 := Lib.hid hO3; have G3 := Lib.hid hg3; clear kc3 hO3 hg3)
      go_roundg (n - (j + 1))
      case measure => have := HQ.out; omega
      case rel =>
        refine ⟨j + 1, done ++ [[x0, x1]], s_2, .slice A3 (j + 1) c3, by omega, rfl, by go_num, by simp [DL.out], ?_, ?_, ?_, ?_, ?_, ?_⟩
        · rw [RP.out, SP.out, RF.out]
          simp
        · exact (TX.out.grown G3.out.1 (fun k e => by have := Ow.blk_lt OX.out k e; omega)).grown (grown_set_ _ ((w.heap.size + 1)) 2 _) (fun k e => by have := Option.some.inj e; omega)
        · have := KC3.out.set_ 2 (.slice A3 (j + 1) c3)
          simpa using this
        · exact (K2X.out.grown G3.out.1 (fun e => Ow.notat OX.out K2X.out (by decide) e.symm)).far (p := ⟨(w.heap.size + 1), 2, none⟩) (by simp) _
        · have := Ow.aside O3.out KC3.out (by decide) 2 (.slice A3 (j + 1) c3)
          rw [List.flatMap_append]
          simpa [gotK, fc] using this
        · exact grown_far_ (grown_grew (grown_trans_ HG.out GX.out) OX.out G3.out (Nat.le_refl _)) (p := ⟨(w.heap.size + 1), 2, none⟩) (by simp) _
    · rw [decide_eq_false hgo]
      have hend : rdN gotK (n - j) sj = ([], sj) := by
        match sj, HE0 with
        | .error q, _ => exact rdN_err _ _ _
        | .ok xs, HE0 =>
          have h0 := HE0.out xs rfl
          rw [show n - j = 0 from by omega]
          rfl
      have RN := Lib.hid (show rdN gotK n s3 = (done, sj) by rw [RP.out, hend]; simp)
      clear hend hgo hee
      have hrows : done = rows ∧ sj = s4 := by
        have h1 := RN.out
        rw [HL.out] at h1
        injection h1 with h1 h2
        exact ⟨h1.symm, h2.symm⟩
      obtain ⟨rfl, rfl⟩ := hrows
      have KCE := Lib.hid HKC.out
      have K2E := Lib.hid HK2.out
      have kcx := KCE.out
      have k2x := K2E.out
      have fx := k2x.free
      have zc0 := kcx.cell 0
      have z20 := k2x.cell 0
      have zc1 := kcx.cell 1
      have z21 := k2x.cell 1
      have zc2 := kcx.cell 2
      have z22 := k2x.cell 2
      simp only [List.getElem?_toArray, List.getElem?_cons_zero, List.getElem?_cons_succ] at zc0 z20 zc1 z21 zc2 z22
      clear kcx k2x
      go_wp2
      have bf := (((K2E.out.set_ 0 (.int .i64 E)).set_ 1 (.int .i64 F)).set_ 2 (.slice Av j cv))
      have yy0 := bf.cell 0
      have yy1 := bf.cell 1
      have yy2 := bf.cell 2
      simp at yy0 yy1 yy2
      refine bodyPost_ret (v := .agg #[.int .i64 E, .int .i64 F, .slice Av j cv]) (by simp [results, Try.results50, go_sem, yy0, yy1, yy2]) rfl ?_
      have hdl := DL.out
      subst hdl
      have k1 := HK2.out.set_ 0 (.int .i64 E)
      have k2 := k1.set_ 1 (.int .i64 F)
      refine ⟨Av, cv, rfl, ((Ow.aside HO.out HK2.out (by decide) 0 _).aside k1 (by decide) 1 _).aside k2 (by decide) 2 _, ((HT.out.grown (grown_set_ _ w.heap.size 0 _) (fun k e => by have := Option.some.inj e; omega)).grown (grown_set_ _ w.heap.size 1 _) (fun k e => by have := Option.some.inj e; omega)).grown (grown_set_ _ w.heap.size 2 _) (fun k e => by have := Option.some.inj e; omega), grown_far_ (grown_far_ (grown_far_ HG.out (p := ⟨w.heap.size, 0, none⟩) (Nat.le_refl _) _) (p := ⟨w.heap.size, 1, none⟩) (Nat.le_refl _) _) (p := ⟨w.heap.size, 2, none⟩) (Nat.le_refl _) _⟩
/-- The value u reads as this reply. -/
def replyV (a : List Int × List (List Int)) (w : World) (u : Value) : Prop := ∃ E F A c, a.1 = [E, F] ∧ u = .agg #[.int .i64 E, .int .i64 F, .slice A a.2.length c] ∧ Gots w (.slice A a.2.length c) a.2
set_option maxHeartbeats 4000000 in
set_option maxRecDepth 100000 in
theorem rget_reply (v : Value) (xs : List Int) (w : World) (h : Bs w v xs) (hby : ∀ c ∈ xs, byt c) (hl : xs.length ≤ 4611686018427387904) :
    Calls Try.prog 39 #[v] w (DPost (allP (replyP xs)) replyV (.agg #[.int .i64 0, .int .i64 0, .slice none 0 0]) w) := by
  have S := sim_all (P := replyP) ((sim_F replyK).bind (sim_L gotK 8)) xs
  obtain ⟨E, s1, h1⟩ : ∃ a b, rd1 .i64 (.ok xs) = (a, b) := ⟨_, _, rfl⟩
  obtain ⟨F, s2, h2⟩ : ∃ a b, rd1 .i64 s1 = (a, b) := ⟨_, _, rfl⟩
  obtain ⟨rows, s4, hL⟩ : ∃ a b, rdL gotK 8 s2 = (a, b) := ⟨_, _, rfl⟩
  have hF : rdF replyK (.ok xs) = ([E, F], s2) := by simp only [replyK, rdF, h1, h2]
  simp only [hF, hL] at S
  have H1 := Lib.hid h1
  have H2 := Lib.hid h2
  have HL := Lib.hid hL
  clear hL h1 h2 hF
  have k0 := (Blk.new w 33 #[.int .i64 0, .int .i64 0, .slice none 0 0]).alloc (.cells #[v, .int .i64 0] 84)
  have ts := Ts.new_ (h.below (below_alloc_ w (.cells #[.int .i64 0, .int .i64 0, .slice none 0 0] 33))) hby hl
  rw [World.size_alloc] at ts
  have b2 := below_alloc2_ w (.cells #[.int .i64 0, .int .i64 0, .slice none 0 0] 33) (.cells #[v, .int .i64 0] 84)
  have K0 := Lib.hid k0
  have T0 := Lib.hid ts
  have B2 := Lib.hid b2
  have SS := Lib.hid S
  obtain ⟨A, c0, rfl, -⟩ := id h
  clear h hby hl k0 ts b2 S
  go_enter Try.func39, Try.ntmps39
  go_wp2_with fail
  refine (treply_at (w.heap.size + 1) (.ok xs) s1 s2 s4 E F rows _ T0.out H1.out H2.out HL.out).mono ?_
  rintro e w1 ⟨A1, c1, rfl, ho, ht, hg⟩
  have B1 := Lib.hid (B2.out.grown hg (by simp; omega) (fun k e => by have := Option.some.inj e; omega))
  have K1 := Lib.hid (K0.out.grown hg (fun e => by have := Option.some.inj e; omega))
  have ba := below_alloc_ w1 (.cells #[.int .i64 E, .int .i64 F, .slice A1 rows.length c1] 33)
  have TA := Lib.hid (ht.below ba)
  have BA := Lib.hid (B1.out.trans (ba.mono B1.out.size))
  have KA := Lib.hid (K1.out.below ba K1.out.lt)
  have KC := Lib.hid (Blk.new w1 33 #[.int .i64 E, .int .i64 F, .slice A1 rows.length c1])
  have OA := Lib.hid (ho.below ba)
  have hlt1 := K1.out.lt
  clear ht hg ba ho
  go_wp2_with fail
  refine (done_any _ _ _ TA.out).mono ?_
  rintro e w2 ⟨rfl, rfl⟩
  generalize w1.alloc (.cells #[.int .i64 E, .int .i64 F, .slice A1 rows.length c1] 33) = X at *
  have fz := KA.out.free
  have zz := KA.out.cell
  obtain ⟨d, hd⟩ : ∃ d, d = dn s4 := ⟨_, rfl⟩
  rw [← hd]
  have D := Lib.hid hd
  have z0 := KA.out.cell 0
  have c0_ := KC.out.cell 0
  have z1 := KA.out.cell 1
  have c1_ := KC.out.cell 1
  have z2 := KA.out.cell 2
  have c2_ := KC.out.cell 2
  simp only [List.getElem?_toArray, List.getElem?_cons_zero, List.getElem?_cons_succ] at z0 c0_ z1 c1_ z2 c2_
  clear hd zz
  by_cases hd0 : d = 0
  · have bd : (d != 0) = false := by rw [hd0]; rfl
    have HD0 := Lib.hid hd0
    clear hd0
    go_wp2
    have bf := (((KA.out.set_ 0 (.int .i64 E)).set_ 1 (.int .i64 F)).set_ 2 (.slice A1 rows.length c1))
    have y0 := bf.cell 0
    have y1 := bf.cell 1
    have y2 := bf.cell 2
    simp at y0 y1 y2
    refine bodyPost_ret (v := .tuple #[.agg #[.int .i64 E, .int .i64 F, .slice A1 rows.length c1], .int .i64 0]) (by simp [results, Try.results39, go_sem, y0, y1, y2]) rfl ?_
    have S1 := SS.out
    rcases hq : allP (replyP xs) with q | a
    · rw [hq] at S1
      simp only at S1
      have e1 : dn s4 = q := by rw [← S1]
      have e2 := allP_bad cod_reply hq
      have e3 := D.out
      have e4 := HD0.out
      exfalso
      omega
    · rw [hq] at S1
      simp only at S1
      have e1 := S1.1
      rw [← hq]
      refine dpost_ok hq (((BA.out.setCell (p := ⟨w.heap.size, 0, none⟩) (Nat.le_refl _) (.int .i64 E)).setCell (p := ⟨w.heap.size, 1, none⟩) (Nat.le_refl _) (.int .i64 F)).setCell (p := ⟨w.heap.size, 2, none⟩) (Nat.le_refl _) (.slice A1 rows.length c1)) ?_
      injection e1 with e1 e2
      subst e1
      exact ⟨E, F, A1, c1, rfl, rfl, (((OA.out.far (p := ⟨w.heap.size, 0, none⟩) (by simp <;> omega) _).far (p := ⟨w.heap.size, 1, none⟩) (by simp <;> omega) _).far (p := ⟨w.heap.size, 2, none⟩) (by simp <;> omega) _).rd⟩
  · have bd : (d != 0) = true := by simpa using hd0
    have HD0 := Lib.hid hd0
    clear hd0
    go_wp2
    have bf := (((KA.out.set_ 0 (.int .i64 0)).set_ 1 (.int .i64 0)).set_ 2 (.slice none 0 0))
    have y0 := bf.cell 0
    have y1 := bf.cell 1
    have y2 := bf.cell 2
    simp at y0 y1 y2
    refine bodyPost_ret (v := .tuple #[.agg #[.int .i64 0, .int .i64 0, .slice none 0 0], .int .i64 d]) (by simp [results, Try.results39, go_sem, y0, y1, y2]) rfl ?_
    have S1 := SS.out
    rcases hq : allP (replyP xs) with q | a
    · rw [hq] at S1
      simp only at S1
      have e1 : dn s4 = q := by rw [← S1]
      rw [← hq]
      exact dpost_bad hq (((BA.out.setCell (p := ⟨w.heap.size, 0, none⟩) (Nat.le_refl _) (.int .i64 0)).setCell (p := ⟨w.heap.size, 1, none⟩) (Nat.le_refl _) (.int .i64 0)).setCell (p := ⟨w.heap.size, 2, none⟩) (Nat.le_refl _) (.slice none 0 0)) (D.out.trans e1)
    · rw [hq] at S1
      simp only at S1
      exfalso
      refine HD0.out ?_
      rw [D.out]
      exact S1.2
end Go.Proofs.Ytcpiockmkpdkjaa
