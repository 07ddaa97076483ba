/- StatesOne: walk. -/
import Derived.Test.YtojafgijhbnjoaaDoorVot
import Derived.Deep.CutRange
namespace Go.Proofs.YtojafgijhbnjoaaDoor
open Go.RowKit Go.Maps

theorem ownsMap_drewN_ {H : Type} {P : Program} {k : TypeId} {R : Value → Option (DataW H × List MemPlace)} {w : World} {b n : Nat} {D : DataW H} (h : w.ownsMap P k R b n D) (j : Nat) : (w.drewN j).ownsMap P k R b n D := h
theorem kp_grown {w w' : World} {m : Nat} (h : w.grownBy w' (some m)) : Kp w [m] w' := ⟨h.os, h.tape, h.output, h.size, fun i hi hn => h.block i hi (by simpa using hn)⟩
theorem rd_new1 (w : World) (l : Int) (t : TypeId) : Rd (w.alloc (.cells #[.int .i64 l] t)) 1 (.slice (some ⟨w.heap.size, 0, none⟩) 1 1) [l].length (lossC [l]) := by
  have hk := Blk.new w t #[.int .i64 l]
  refine ⟨_, _, rfl, Nat.le_refl _, rfl, .inr ⟨w.heap.size, 0, rfl, by simp, fun j u hu => ?_⟩⟩
  rw [Nat.zero_add, hk.cell]
  simpa [lossC] using hu
/-- What a round leaves. -/
def RndV (B : Nat) (W wr : World) (d m : Nat) (c4 c6 : Value) (i : Nat) : Prop := ∃ (p t v : Nat) (s : Dst) (o : Obj) (M : Nat → Nat), c4 = .pointer (some ⟨p, 0, none⟩) ∧ c6 = .int .u64 (t : Int) ∧ On [(p, prO t v d false), (m, o)] B W wr d ⟨#[115, 116, 97, 116, 101]⟩ s ∧ Good s t v ∧ t ≤ 2 * i ∧
  MapIs wr m i M ∧ (∀ k, t < k → M k = 0) ∧ (M t = 0 ∨ M t = v) ∧ p ≠ m ∧ B ≤ p ∧ B ≤ m

/-- What Set leaves, and answers. -/
def AftS (B : Nat) (W wx : World) (d m : Nat) (o : Obj) (q : Nat × Obj) (p t v T1 V : Nat) (f : Int) : Prop :=
  ∃ (t' v' : Nat) (lost : Bool) (s' : Dst), On [(p, prO t' v' d lost), (m, o), q] B W wx d ⟨#[115, 116, 97, 116, 101]⟩ s' ∧
    ((f = 0 ∧ lost = false ∧ T1 = t' ∧ V = v' ∧ Good s' T1 V ∧ mayB t v T1 V = true) ∨ (f = 1 ∧ lost = false ∧ t = t' ∧ v = v' ∧ Good s' t v) ∨
      (f = 17 ∧ lost = true ∧ t = t' ∧ v = v' ∧ ∃ s3, Good s3 t v ∧ s'.file = s3.file))
theorem AftS.drewN {B : Nat} {W wx : World} {d m : Nat} {o : Obj} {q : Nat × Obj} {p t v T1 V : Nat} {f : Int} (h : AftS B W wx d m o q p t v T1 V f) (n : Nat) : AftS B W (wx.drewN n) d m o q p t v T1 V f := by
  obtain ⟨t', v', lost, s', hO, h⟩ := h
  exact ⟨t', v', lost, s', hO.below (below_drewN_ _ _ _), h⟩
theorem AftS.of_ {B : Nat} {W wx : World} {d m : Nat} {o : Obj} {q : Nat × Obj} {p t v T1 V : Nat} {s : Dst} (hG : Good s t v) (hT : T1 < 18446744073709551616) (hV : V < 256)
    (h : On [(p, prO (setS t v false s T1 V).2.1 (setS t v false s T1 V).2.2.1 d (setS t v false s T1 V).2.2.2.1), (m, o), q] B W wx d ⟨#[115, 116, 97, 116, 101]⟩ (setS t v false s T1 V).2.2.2.2) : AftS B W wx d m o q p t v T1 V (setS t v false s T1 V).1 := by
  rcases hG.set T1 V hT hV with ⟨s4, e4, g4, hmay⟩ | e4 | ⟨s4, e4, hfile⟩
  · rw [e4] at h ⊢
    exact ⟨T1, V, false, s4, h, .inl ⟨rfl, rfl, rfl, rfl, g4, hmay⟩⟩
  · rw [e4] at h ⊢
    exact ⟨t, v, false, s, h, .inr (.inl ⟨rfl, rfl, rfl, rfl, hG⟩)⟩
  · rw [e4] at h ⊢
    exact ⟨t, v, true, s4, h, .inr (.inr ⟨rfl, rfl, rfl, rfl, s, hG, hfile⟩)⟩

set_option maxHeartbeats 8000000 in
set_option maxRecDepth 100000 in
theorem sone_walk (v : Value) (rs : List AskR) (w : World) (h : Asks w v rs) (T : Tab w) :
    Calls Tryd.prog 7 #[v] w fun e w' => e = .returned (.bool true) ∧ Below w.heap.size w w' := by
  have h0 : 0 < w.heap.size := block_lt_of_cell (T 0 (by decide))
  have HZ := Lib.hid h0
  have TT := Lib.hid T
  have H := Lib.hid h
  have hmm := @run_makeMap Tryd.prog
  obtain ⟨A, c, rfl, hc, -⟩ := id h.rd
  obtain ⟨n, hn⟩ : ∃ n, n = rs.length := ⟨_, rfl⟩
  rw [← hn]
  have NN := Lib.hid hn
  clear h0 T h hn
  by_cases hlong : 200 < n
  · have hlong' : (200 : Int) < (n : Int) := by omega
    go_enter Tryd.func7, Tryd.ntmps7
    go_wp2_with fail
    refine (slives w TT.out HZ.out).mono ?_
    rintro e w1 ⟨rfl, b1⟩
    have B1 := Lib.hid b1
    clear b1
    go_wp2
    go_ret
    exact ⟨rfl, B1.out⟩
  · have hlong' : ¬ (200 : Int) < (n : Int) := by omega
    go_enter Tryd.func7, Tryd.ntmps7
    go_wp2_with fail
    refine (on_new ⟨#[115, 116, 97, 116, 101]⟩ _).mono ?_
    rintro e w1 ⟨rfl, h1⟩
    have H1 := Lib.hid h1
    clear h1
    obtain ⟨d, hd⟩ : ∃ d, d = w.heap.size + 1 := ⟨_, rfl⟩
    rw [← hd] at H1 ⊢
    have HD := Lib.hid hd
    clear hd
    go_wp2_with fail
    refine (open_new H1.out rfl).mono ?_
    rintro e w2 ⟨p0, rfl, h2, hp⟩
    have H2 := Lib.hid (h2.allocX (.map #[] 0))
    have HP := Lib.hid (Nat.le_trans H1.out.le hp)
    have HM := Lib.hid (show p0 ≠ w2.heap.size from by have := lt_of_heap (h2.keep (_, _) (List.mem_cons_self ..)); simp only at this; omega)
    have HB := Lib.hid (show w.heap.size ≤ w2.heap.size from h2.le)
    clear h2 hp
    go_wp2
    obtain ⟨m, hm⟩ : ∃ m, m = w2.heap.size := ⟨_, rfl⟩
    have MM := Lib.hid (show MapIs (w2.alloc (.map #[] 0)) m 0 (fun _ => 0) from by rw [hm]; exact MapIs.made w2)
    rw [← hm] at H2 HM HB ⊢
    clear hm
    go_loopg [4, 6, 8] n (fun g c4 c6 c8 wr => ∃ i : Nat, i ≤ n ∧ g = n - i ∧ c8 = .int .i64 i ∧ RndV w.heap.size w wr d m c4 c6 i)
    case atStart => exact ⟨0, by omega, rfl, rfl, p0, 0, 0, _, .map #[] 0, fun _ => 0, rfl, rfl, H2.out.mono (Y := [(p0, prO 0 0 d false), (m, .map #[] 0)]) (by simp), ⟨rfl, .inl ⟨rfl, rfl, rfl⟩, by decide, by decide⟩, by omega, MM.out, fun _ _ => rfl, .inl rfl, HM.out, HP.out, HB.out⟩
    case round =>
      obtain ⟨i, hi, hg, rfl, p, t, v, s, o, M, rfl, rfl, hO, hG, hti, hM, hM1, hM2, hpm, hBp, hBm⟩ := hrel
      have G := Lib.hid hg
      have O := Lib.hid hO
      have GD := Lib.hid hG
      have MI := Lib.hid hM
      have M1 := Lib.hid hM1
      have M2 := Lib.hid hM2
      have PM := Lib.hid hpm
      have BP := Lib.hid hBp
      have BM := Lib.hid hBm
      clear hg hO hG hM hM1 hM2 hpm hBp hBm
      by_cases hin : i < n
      · have hib : i < rs.length := by have := NN.out; omega
        obtain ⟨g0, o0, rfl, -, c0, c1, c2, c3⟩ := (show Asks _ (.slice A n c) rs from by have := H.out.below O.out.bel; rw [← NN.out] at this; exact this).at_ i hib
        have OK := Lib.hid (H.out.ok _ (List.getElem_mem hib))
        obtain ⟨r, hr⟩ : ∃ r, r = rs[i] := ⟨_, rfl⟩
        rw [← hr] at c0 c1 c2 c3 OK
        clear hr
        obtain ⟨rt, rv, rf, rl⟩ := r
        simp only at c0 c1 c2 c3
        obtain ⟨t3, ht3, lt3⟩ : ∃ t3 : Nat, rt.tmod 3 = (t3 : Int) ∧ t3 < 3 := by
          have := OK.out.term
          simp only at this
          exact ⟨(rt.tmod 3).toNat, by rw [Int.tmod_eq_emod_of_nonneg this.1]; omega, by rw [Int.tmod_eq_emod_of_nonneg this.1]; omega⟩
        obtain ⟨V, hV, ltV⟩ : ∃ V : Nat, rv.tmod 4 = (V : Int) ∧ V < 4 := by
          have := OK.out.vote
          simp only at this
          exact ⟨(rv.tmod 4).toNat, by rw [Int.tmod_eq_emod_of_nonneg this.1]; omega, by rw [Int.tmod_eq_emod_of_nonneg this.1]; omega⟩
        obtain ⟨f8, hf8, ltf⟩ : ∃ f8 : Nat, rf.tmod 8 = (f8 : Int) ∧ f8 < 8 := by
          have := OK.out.fuse
          simp only at this
          exact ⟨(rf.tmod 8).toNat, by rw [Int.tmod_eq_emod_of_nonneg this.1]; omega, by rw [Int.tmod_eq_emod_of_nonneg this.1]; omega⟩
        obtain ⟨T1, hT1⟩ : ∃ T1, T1 = t + t3 := ⟨_, rfl⟩
        have hw1 : IntKind.u64.wrap (t3 : Int) = (t3 : Int) := by rw [IntKind.wrap_u64]; omega
        have hw2 : IntKind.u64.wrap ((t : Int) + (t3 : Int)) = (T1 : Int) := by rw [IntKind.wrap_u64]; omega
        have hw3 : IntKind.i64.wrap ((f8 : Int) - 1) = (f8 : Int) - 1 := IntWalk.i64_in _ (by omega)
        have TL := Lib.hid (show T1 ≤ 2 * (i + 1) ∧ t ≤ T1 ∧ T1 < 18446744073709551616 from by omega)
        clear hT1
        have O1 := Lib.hid ((O.out.allocX (.cells #[.int .u8 rt, .int .u8 rv, .int .u8 rf, .int .i64 rl] 89)).mono (Y := [(p, prO t v d false), (m, o), (wr.heap.size, .cells #[.int .u8 rt, .int .u8 rv, .int .u8 rf, .int .i64 rl] 89)]) (by simp))
        have PQ := Lib.hid (show p < wr.heap.size ∧ m < wr.heap.size from ⟨lt_of_heap (O.out.keep (p, _) (List.mem_cons_self ..)), lt_of_heap (O.out.keep (m, o) (by simp))⟩)
        have OB := Lib.hid (show ∀ w' : World, w'.heap[m]? = some o → MapIs w' m i M from fun w' hw' => by
          obtain ⟨o', ho, hh⟩ := MI.out.obj
          have := O.out.keep (m, o) (by simp)
          simp only at this
          rw [this] at ho
          injection ho with ho
          subst ho
          exact hh w' hw')
        have XN := Lib.hid (show ∀ q ∈ [(m, o), (wr.heap.size, .cells #[.int .u8 rt, .int .u8 rv, .int .u8 rf, .int .i64 rl] 89)], q.1 ≠ p from fun q hq => by
          have h1 := PM.out
          have h2 := PQ.out.1
          simp at hq
          rcases hq with rfl | rfl
          · exact fun e => h1 e.symm
          · simp only; omega)
        --ROUND
        go_upto_if 40 with fail
        go_cut [] from 40 to 47 (fun wx => ∃ s3, On [(p, prO t v d false), (m, o), (wr.heap.size, .cells #[.int .u8 rt, .int .u8 rv, .int .u8 rf, .int .i64 rl] 89)] w.heap.size w wx d ⟨#[115, 116, 97, 116, 101]⟩ s3 ∧ Good s3 t v)
        case first =>
          by_cases hf : 0 < f8
          · have hf' : (0 : Int) < (f8 : Int) := by omega
            go_wp2_with fail
            refine (on_fuse ((f8 : Int) - 1) (by omega) O1.out).mono ?_
            rintro e w3 ⟨rfl, h3⟩
            have O3 := Lib.hid h3
            have G3 := Lib.hid (GD.out.fuse (max 0 ((f8 : Int) - 1)))
            clear h3 c0 c1 c2 c3
            go_wp2_with fail
            go_meet
            exact ⟨_, O3.out, G3.out⟩
          · have hf' : ¬ (0 : Int) < (f8 : Int) := by omega
            have O3 := O1
            have G3 := GD
            clear c0 c1 c2 c3
            go_wp2_with fail
            go_meet
            exact ⟨_, O3.out, G3.out⟩
        case rest =>
        obtain ⟨s3, h3, hg3⟩ := hcut
        rename World => w3
        have O3 := Lib.hid h3
        have G3 := Lib.hid hg3
        clear h3 hg3 c0 c1 c2 c3
        have K3 := (show Blk w3 wr.heap.size 89 #[.int .u8 rt, .int .u8 rv, .int .u8 rf, .int .i64 rl] from O3.out.keep (wr.heap.size, .cells #[.int .u8 rt, .int .u8 rv, .int .u8 rf, .int .i64 rl] 89) (by simp))
        have x0 := K3.cell 0
        have x1 := K3.cell 1
        simp at x0 x1
        clear K3
        go_wp2_with fail
        refine (term_any p t v _ false w3 (O3.out.keep (_, _) (List.mem_cons_self ..))).mono ?_
        rintro e w4 ⟨rfl, rfl⟩
        go_wp2_with fail
        refine (set_any T1 V O3.out XN.out BP.out HZ.out TT.out TL.out.2.2 (by omega)).mono ?_
        rintro e w4 ⟨rfl, h4⟩
        have AS := Lib.hid (AftS.of_ G3.out TL.out.2.2 (by omega) h4)
        clear h4
        obtain ⟨f, hf⟩ : ∃ f, f = (setS t v false s3 T1 V).1 := ⟨_, rfl⟩
        rw [← hf] at AS ⊢
        clear hf x0 x1
        go_upto_region 18 with fail
        go_cut [77] from 62 to 76 (fun s77 wx => s77 = .bool false ∧ AftS w.heap.size w wx d m o (wr.heap.size, .cells #[.int .u8 rt, .int .u8 rv, .int .u8 rf, .int .i64 rl] 89) p t v T1 V f)
        case first =>
          obtain ⟨t', v', lost, s4, h4, hc⟩ := AS.out
          have y1 := (show Blk w4 wr.heap.size 89 #[.int .u8 rt, .int .u8 rv, .int .u8 rf, .int .i64 rl] from h4.keep (wr.heap.size, .cells #[.int .u8 rt, .int .u8 rv, .int .u8 rf, .int .i64 rl] 89) (by simp)).cell 1
          simp at y1
          have O4 := Lib.hid h4
          have AA := AS
          clear h4 AS
          rcases hc with ⟨rfl, rfl, rfl, rfl, -⟩ | ⟨rfl, rfl, rfl, rfl, -⟩ | ⟨rfl, rfl, rfl, rfl, -⟩
          · have P4 := Lib.hid (show Blk w4 p 27 (prC T1 V (.pointer (some ⟨d, 0, none⟩)) false) from O4.out.keep (_, _) (List.mem_cons_self ..))
            go_quiet (first | (go_at_call 12; exact quiet_left_ (term_any p T1 V _ false _ (P4.out.drewN _))) | (go_at_call 13; exact quiet_left_ (vote_any p T1 V _ false _ (P4.out.drewN _))))
            go_wp2_with fail
            go_meet
            exact ⟨rfl, AA.out.drewN _⟩
          · go_quiet (fail)
            go_wp2_with fail
            go_meet
            exact ⟨rfl, AA.out.drewN _⟩
          · go_quiet (fail)
            go_wp2_with fail
            go_meet
            exact ⟨rfl, AA.out.drewN _⟩
        case rest =>
        obtain ⟨rfl, hAS⟩ := hcut
        rename World => w5
        have AS5 := Lib.hid hAS
        clear hAS AS
        go_upto_if 79 with fail
        go_cut [4, 5] from 79 to 91 (fun s4 s5 wx => ∃ (p' t' v' : Nat) (s' : Dst), s4 = .pointer (some ⟨p', 0, none⟩) ∧ On [(p', prO t' v' d false), (m, o)] w.heap.size w wx d ⟨#[115, 116, 97, 116, 101]⟩ s' ∧ Good s' t' v' ∧ t ≤ t' ∧ t' ≤ 2 * (i + 1) ∧ p' ≠ m ∧ w.heap.size ≤ p' ∧ (M t' = 0 ∨ (M t' = v' ∧ ¬ (v' : Int) = 0)))
        case first =>
          obtain ⟨t', v', lost, s4, h4, hc⟩ := AS5.out
          have y3 := (show Blk w5 wr.heap.size 89 #[.int .u8 rt, .int .u8 rv, .int .u8 rf, .int .i64 rl] from h4.keep (wr.heap.size, .cells #[.int .u8 rt, .int .u8 rv, .int .u8 rf, .int .i64 rl] 89) (by simp)).cell 3
          simp at y3
          have O4 := Lib.hid h4
          clear h4 AS5
          rcases hc with ⟨rfl, rfl, rfl, rfl, hg4, hmay⟩ | ⟨rfl, rfl, rfl, rfl, hg4⟩ | ⟨rfl, rfl, rfl, rfl, s6, hg6, hfile⟩
          · have G4 := Lib.hid hg4
            have HM := Lib.hid hmay
            clear hg4 hmay
            go_wp2_with fail
            go_meet
            refine ⟨p, T1, V, s4, rfl, O4.out.mono (by simp), G4.out, TL.out.2.1, TL.out.1, PM.out, BP.out, ?_⟩
            rcases mayB_le HM.out with hlt | ⟨rfl, hv⟩
            · exact .inl (M1.out T1 hlt)
            · rcases M2.out with h | h
              · exact .inl h
              · by_cases hV0 : V = 0
                · rcases hv with rfl | rfl
                  · exact .inl (by omega)
                  · exact .inl h
                · rcases hv with rfl | rfl
                  · exact .inr ⟨h, by omega⟩
                  · exact .inl h
          · have G4 := Lib.hid hg4
            clear hg4
            go_wp2_with fail
            go_meet
            refine ⟨p, t, v, s4, rfl, O4.out.mono (by simp), G4.out, Nat.le_refl _, by omega, PM.out, BP.out, ?_⟩
            rcases M2.out with h | h
            · exact .inl h
            · by_cases hV0 : v = 0
              · exact .inl (by omega)
              · exact .inr ⟨h, by omega⟩
          · have G4 := Lib.hid (hg6.lifted [rl] s4 hfile)
            clear hg6 hfile
            go_wp2_with fail
            refine (on_lift (liftS s4 [rl]) _ [rl] (by simp; exact OK.out.loss) (O4.out.alloc _) (rd_new1 _ _ _) rfl).mono ?_
            rintro e w6 ⟨rfl, h5⟩
            have O5' := Lib.hid h5
            clear h5 y3
            go_wp2_with fail
            refine (open_ok O5'.out G4.out.opened TT.out HZ.out).mono ?_
            rintro e w7 ⟨p5, rfl, h6, hp5⟩
            have O6' := Lib.hid h6
            have PM5 := Lib.hid (show p5 ≠ m from by have := lt_of_heap (O5'.out.keep (m, o) (by simp)); simp only at this; omega)
            have BP5 := Lib.hid (show w.heap.size ≤ p5 from Nat.le_trans O5'.out.le hp5)
            clear h6 hp5
            go_wp2_with fail
            go_meet
            refine ⟨p5, t, v, _, rfl, O6'.out.mono (by simp), G4.out, Nat.le_refl _, by omega, PM5.out, BP5.out, ?_⟩
            rcases M2.out with h | h
            · exact .inl h
            · by_cases hV0 : v = 0
              · exact .inl (by omega)
              · exact .inr ⟨h, by omega⟩
        case rest =>
        obtain ⟨p', t', v', s', rfl, h5, g5, ht1, ht2, hpm', hBp', hMV⟩ := hcut
        rename World => w8
        have O5 := Lib.hid h5
        have G5 := Lib.hid g5
        have GX := Lib.hid (show t' < 18446744073709551616 ∧ t ≤ t' ∧ v' < 256 from ⟨g5.ht, ht1, g5.hv⟩)
        have PM' := Lib.hid hpm'
        have BP' := Lib.hid hBp'
        have LE := Lib.hid ht2
        clear h5 g5 AS5 hpm' hBp' ht2
        have P5 := Lib.hid (show Blk w8 p' 27 (prC t' v' (.pointer (some ⟨d, 0, none⟩)) false) from O5.out.keep (_, _) (List.mem_cons_self ..))
        have MI5 := Lib.hid (OB.out w8 (O5.out.keep (m, o) (by simp)))
        have lk := MI5.out.look (T := t') GX.out.1
        have hlt : ¬ ((t' : Nat) : Int) < (t : Int) := by omega
        rcases hMV with hm | ⟨hm, hv0⟩
        all_goals
          rw [hm] at lk
          have HM5 := Lib.hid hm
          clear hm
          go_wp2_with fail
          refine (term_any p' t' v' _ false _ P5.out).mono ?_
          rintro e w6 ⟨rfl, rfl⟩
          go_wp2_with fail
          refine (term_any p' t' v' _ false _ P5.out).mono ?_
          rintro e w6 ⟨rfl, rfl⟩
          go_wp2_with fail
          refine (vote_any p' t' v' _ false _ P5.out).mono ?_
          rintro e w6 ⟨rfl, rfl⟩
          obtain ⟨D, hown, hMD⟩ := MI5.out
          have HMD := Lib.hid hMD
          have HOW := Lib.hid hown
          clear hMD hown
          go_wp2_with (at_mapUpdate; refine wpList_mapUpdate_own _ rfl _ _ _ 87 rfl 22 5 keyed Tryd.underlying87 _ m i D rfl HOW.out (by unfold maxLen; omega) _ _ _ rfl rfl (keyOf_int_mk Tryd.underlying22 (u64_wf GX.out.1)) _ [] (plainElem_int Tryd.underlying5 (u8_wf GX.out.2.2)) ?_; intro w6 hown6 hgrow6)
          have M6 := Lib.hid (MapIs.put HMD.out HOW.out.isMap GX.out.1 hown6)
          obtain ⟨o6, ho6, -⟩ := M6.out.obj
          have O6 := Lib.hid (((O5.out.mono (Y := [(m, o), (p', prO t' v' d false)]) (by simp)).turn o6 (kp_grown hgrow6) ho6 (by simp; exact PM'.out) BM.out).mono (Y := [(p', prO t' v' d false), (m, o6)]) (by simp))
          clear hown6 hgrow6 ho6
          go_roundg (n - (i + 1))
          case measure => have := G.out; omega
          case rel => exact ⟨i + 1, by omega, rfl, by go_num, p', t', v', _, o6, _, rfl, rfl, O6.out, G5.out, LE.out, M6.out, fun k hk => (if_neg (by omega)).trans (M1.out k (by have := GX.out.2.1; omega)), .inr (if_pos rfl), PM'.out, BP'.out, BM.out⟩
      · obtain rfl : i = n := by omega
        go_wp2_with fail
        refine (slives _ (TT.out.below O.out.bel) (Nat.lt_of_lt_of_le HZ.out O.out.bel.size)).mono ?_
        rintro e w3 ⟨rfl, b3⟩
        have BW := Lib.hid (O.out.bel.trans (b3.mono O.out.bel.size))
        clear b3
        go_wp2
        go_ret
        exact ⟨rfl, BW.out⟩
end Go.Proofs.YtojafgijhbnjoaaDoor
