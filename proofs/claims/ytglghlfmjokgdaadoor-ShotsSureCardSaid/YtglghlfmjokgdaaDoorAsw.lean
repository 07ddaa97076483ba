/- ShotsSure: the law's walk. -/
import Derived.Test.YtglghlfmjokgdaaDoorAsp
import Derived.StillTailTactics
namespace Go.Proofs.YtglghlfmjokgdaaDoor
open Go.RowKit

set_option maxHeartbeats 2000000 in
set_option maxRecDepth 100000 in
theorem asure_walk (rs : List (Value × List Int)) (A : Option Addr) (c : Nat) (fu loss : Int) (w : World) (T : Tab w) (h : Lv w (.slice A rs.length c) rs) (hf : 0 ≤ fu ∧ fu ≤ 255) (hlo : -9223372036854775808 ≤ loss ∧ loss ≤ 9223372036854775807) (hl : rs.length ≤ 9223372036854775807) :
    Calls Tryd.prog 6 #[.slice A rs.length c, .int .u8 fu, .int .i64 loss] w fun e w' => e = .returned (.bool true) ∧ Below w.heap.size w w' := by
  have TT := Lib.hid T
  have HL := Lib.hid h
  have h0 := block_lt_of_cell (T 0 (by decide))
  have H0 := Lib.hid h0
  have HF := Lib.hid hf
  have HO := Lib.hid hlo
  obtain ⟨n, hn⟩ : ∃ n, n = rs.length := ⟨_, rfl⟩
  rw [← hn] at hl ⊢
  have NN := Lib.hid hn
  have hl' : (n : Int) ≤ 9223372036854775807 := by omega
  clear T h h0 hf hlo hn
  by_cases hbig : 20 < n
  · have hb' : (20 : Int) < (n : Int) := by omega
    go_enter Tryd.func6, Tryd.ntmps6
    go_wp2_with fail
    refine (alives _ TT.out).mono ?_
    rintro e w1 ⟨rfl, b1⟩
    have B1 := Lib.hid b1
    clear b1
    go_wp2
    go_ret
    exact ⟨rfl, B1.out⟩
  have hb' : ¬ (20 : Int) < (n : Int) := by omega
  have NB := Lib.hid hbig
  clear hbig
  go_enter Tryd.func6, Tryd.ntmps6
  go_wp2_with fail
  refine (on_new nmS w).mono ?_
  rintro e w1 ⟨rfl, h1⟩
  have H1 := Lib.hid h1
  clear h1
  go_wp2_with fail
  refine (aopen_new H1.out rfl).mono ?_
  rintro e w2 ⟨p, rfl, h2, hp⟩
  have A2 := Lib.hid (Am.fresh h2 (Nat.le_trans H1.out.le hp) (by simp))
  obtain ⟨d, hd⟩ : ∃ d, d = w.heap.size + 1 := ⟨_, rfl⟩
  rw [← hd] at A2 ⊢
  clear h2 hp hd H1
  have fz1 : ¬ fu < 0 := by have := HF.out; omega
  have fz2 : fu ≤ 255 := by have := HF.out; omega
  go_wp2_with fail
  refine (am_fuse (fu % 24) (by omega) A2.out).mono ?_
  rintro e w3 ⟨rfl, a3⟩
  have A3 := Lib.hid a3
  obtain ⟨s3, hs3⟩ : ∃ s3 : Dst, s3 = { (⟨none, -1, false⟩ : Dst) with fuse := max 0 (fu % 24) } := ⟨_, rfl⟩
  have S3 := Lib.hid (show Hs rs 0 0 0 [] s3 from by rw [hs3]; exact Hs.nil _ _ _)
  rw [← hs3] at A3
  clear a3 hs3 A2
  go_wp2_with fail
  go_loopw [10, 11, 12] (fun s10 s11 s12 wr => ∃ (k t v : Nat) (xs : List Int) (s : Dst), s10 = .int .i64 ((k : Int) - 1) ∧ s11 = .int .i64 ((k : Int) - 1) ∧ s12 = .int .i64 (k : Int) ∧ k ≤ n ∧ Am [] w.heap.size w wr p d t v xs false s ∧ Hs rs k t v xs s) (fun _ _ s12 _ => n - (intOf s12).toNat)
  case atStart => exact ⟨0, 0, 0, [], s3, rfl, rfl, rfl, Nat.zero_le _, A3.out, S3.out⟩
  case round =>
    obtain ⟨k, t, v, xs, s, rfl, rfl, rfl, hk, hA, hH⟩ := hrel
    have AK := Lib.hid hA
    have HK := Lib.hid hH
    clear hA hH
    by_cases hlt : k < n
    · have hlt' : (k : Int) < (n : Int) := by omega
      have NK := NN.out
      have NBB := NB.out
      have hkr : k < rs.length := by omega
      have hk20 : (k : Int) ≤ 20 := by omega
      have K20 := Lib.hid (show k < 20 by omega)
      obtain ⟨g, o, A', c', eA, d0, hbs, hby, -⟩ := HL.out.at_ k hkr
      cases eA
      have d1 := (AK.out.bel.cell (p := ⟨g, o + k, none⟩) (block_lt_of_cell d0)).trans d0
      obtain ⟨X0, hX0, hSl⟩ := hbs.sl_W
      have hr := List.getElem?_eq_getElem hkr
      obtain ⟨r, er⟩ : ∃ r, r = rs[k] := ⟨_, rfl⟩
      rw [← er] at d1 hSl hby hr
      have HR := Lib.hid hr
      clear hr d0 hbs er
      obtain ⟨ys, hys⟩ : ∃ ys, ys = r.2 := ⟨_, rfl⟩
      rw [← hys] at d1 hSl hby
      have YS := Lib.hid hys
      obtain ⟨m, hm⟩ : ∃ m, m = ys.length := ⟨_, rfl⟩
      rw [← hm] at d1 hSl
      by_cases hbm : 20000 < m
      · have hbm' : (20000 : Int) < (m : Int) := by omega
        clear NK NBB hby hX0 hSl hys hm hkr hk hlt
        go_wp2_with fail
        refine (alives _ (TT.out.below AK.out.bel)).mono ?_
        rintro e w4 ⟨rfl, b4⟩
        have B4 := Lib.hid (AK.out.bel.trans (b4.mono AK.out.bel.size))
        clear b4
        go_wp2
        go_ret
        exact ⟨rfl, B4.out⟩
      · have hbm' : ¬ (20000 : Int) < (m : Int) := by omega
        obtain ⟨a, t', v', xs', lost', s', he, hcase⟩ := hs_set HK.out (by omega) HR.out (by rw [← hys]; exact hby) (by rw [← hys]; omega)
        rw [← hys] at he
        have AS := Lib.hid (aset_any (k + 1) (k / 3) (.slice A' m c') ys he (AK.out.addX hX0) hSl hby H0.out TT.out (by omega) (by omega) (by omega))
        rw [show ((k + 1 : Nat) : Int) = (k : Int) + 1 by simp, show ((k / 3 : Nat) : Int) = (k : Int) / 3 by omega] at AS
        clear NK NBB hby hX0 hSl hys hm hkr hk he
        have LTN := Lib.hid hlt
        clear hlt
        rcases hcase with ⟨rfl, rfl, hH⟩ | ⟨rfl, hH⟩
        · have HX := Lib.hid hH
          clear hH
          go_wp2_with fail
          refine AS.out.mono ?_
          rintro e w5 ⟨rfl, a5⟩
          have AX := Lib.hid (a5.mono (Z := []) (by simp))
          clear a5
          go_wp2
          exact ⟨⟨k + 1, t', v', xs', s', by go_num, by go_num, by go_num, LTN.out, AX.out, HX.out⟩, by have := LTN.out; simp [intOf]; omega⟩
        · have HX := Lib.hid hH
          clear hH
          go_wp2_with fail
          refine AS.out.mono ?_
          rintro e w5 ⟨rfl, a5⟩
          have AX := Lib.hid (a5.mono (Z := []) (by simp))
          clear a5
          -- REST
          have OL := Lib.hid (AX.out.on.alloc (.cells #[.int .i64 loss] 3))
          have RL := Lib.hid (show Rd (w5.alloc (.cells #[.int .i64 loss] 3)) 1 (.slice (some ⟨w5.heap.size, 0, none⟩) 1 1) [loss].length (lossC [loss]) from ⟨_, _, rfl, Nat.le_refl _, rfl, .inr ⟨w5.heap.size, 0, rfl, by simp, fun j u hu => by
            have k := Blk.new w5 3 #[.int .i64 loss]
            rw [Nat.zero_add, k.cell]
            simpa [lossC] using hu⟩⟩)
          obtain ⟨s6, hs6⟩ : ∃ s6, liftS s' [loss] = s6 := ⟨_, rfl⟩
          have LF := Lib.hid (on_lift s6 (.slice (some ⟨w5.heap.size, 0, none⟩) 1 1) [loss] (fun x hx => by simp at hx; subst hx; exact HO.out) OL.out RL.out hs6)
          have H6 := Lib.hid (hs6 ▸ (hs_lift HX.out [loss]))
          clear hs6
          rcases k with _ | j
          · go_wp2_with fail
            refine LF.out.mono ?_
            rintro e w6 ⟨rfl, o6⟩
            have O6 := Lib.hid o6
            clear o6
            go_wp2_with fail
            refine (aopen_new O6.out (hs_read0 H6.out.1 H6.out.2)).mono ?_
            rintro e w7 ⟨p7, rfl, h7, hp7⟩
            have A7 := Lib.hid (Am.fresh h7 (Nat.le_trans O6.out.le hp7) (by simp))
            clear h7 hp7
            go_wp2_with fail
            refine (ashot_any A7.out).mono ?_
            rintro e w8 ⟨P8, rfl, -, b8⟩
            obtain ⟨w9, hw9⟩ : ∃ w9, w9 = w8.alloc (.cells #[.int .u64 0, .int .u64 0, .slice P8 0 0] 25) := ⟨_, rfl⟩
            have kk := Blk.new w8 25 #[.int .u64 0, .int .u64 0, .slice P8 0 0]
            rw [← hw9] at kk
            have B9 := Lib.hid (show Below w.heap.size w w9 from by rw [hw9]; exact A7.out.bel.trans ((bch b8 (below_alloc_ _ _)).mono A7.out.bel.size))
            have W9 := Lib.hid hw9
            have c0 := kk.cell 0
            have c1 := kk.cell 1
            have c2 := kk.cell 2
            simp at c0 c1 c2
            have C9 := Lib.hid (And.intro c0 (And.intro c1 c2))
            obtain ⟨q9, hq9⟩ : ∃ q, q = w8.heap.size := ⟨_, rfl⟩
            rw [← hq9] at C9 c0 c1 c2 kk
            have Q9 := Lib.hid hq9
            clear b8 hw9 kk hq9 c0 c1 c2
            go_upto_region 23 with fail
            rw [← W9.out, ← Q9.out]
            obtain ⟨c0, c1, c2⟩ := C9.out
            go_wp2_with fail
            obtain ⟨ι, F, f0, hf0, hF1, hF2⟩ := cls_new w9
            have CL := Lib.hid (fun n => (alives (F n) (TT.out.below (B9.out.trans ((hF1 n).mono B9.out.size)))).mono fun e w'' (hh : e = Ending.returned (.bool true) ∧ Below (F n).heap.size (F n) w'') => (show e = Ending.returned (.bool true) ∧ ∃ m, w'' = F m from ⟨hh.1, hF2 _ ((hF1 n).trans (hh.2.mono (hF1 n).size))⟩))
            have d2 : ∀ n, (F n).cell? ⟨q9, 2, none⟩ = some (.slice P8 0 0) := fun n => ((hF1 n).cell (block_lt_of_cell c2)).trans c2
            have BF := Lib.hid (fun n => B9.out.trans ((hF1 n).mono B9.out.size))
            clear hF1 hF2 c0 c1 c2
            haveI : Nonempty ι := ⟨f0⟩
            refine wp_region_quiet_cls F f0 hf0 (by kernel_rfl) (by kernel_rfl) ?_
            repeat (go_big_quiet_step ((go_at_call 11; exact CL.out _)))
            refine wpQuiet_nil ?_
            rintro _ ⟨nq, rfl⟩
            go_wp2
            go_ret
            exact ⟨rfl, BF.out _⟩
          · obtain ⟨hr6, hx6, hby6, r6, er6, ex6⟩ := hs_read H6.out.1 (by omega) H6.out.2
            have hj : j < rs.length := by
              rcases Nat.lt_or_ge j rs.length with h | h
              · exact h
              · rw [Nat.add_sub_cancel, List.getElem?_eq_none h] at er6; cases er6
            rw [Nat.add_sub_cancel, List.getElem?_eq_getElem hj] at er6
            obtain ⟨g6, o6, A6', c6', eA6, d6, hb6, hy6, -⟩ := HL.out.at_ j hj
            cases eA6
            rw [show rs[j] = r6 from Option.some.inj er6, ex6] at d6 hb6
            have J20 := Lib.hid (show j < 20 from by have := NN.out; have := NB.out; omega)
            have JN := Lib.hid (show j < n from by have := NN.out; omega)
            have hj20 : (j : Int) < 20 := by have := J20.out; omega
            have hjn : (j : Int) < ((n : Nat) : Int) := by have := JN.out; omega
            have D6 := Lib.hid d6
            have HB6 := Lib.hid hb6
            have BY6 := Lib.hid hby6
            have XL6 := Lib.hid hx6
            rw [Nat.add_sub_cancel] at hr6
            have HR6 := Lib.hid hr6
            clear er6 d6 hb6 hy6 ex6 hr6 hx6 hby6 hj
            go_wp2_with fail
            refine LF.out.mono ?_
            rintro e w6 ⟨rfl, o6⟩
            have O6 := Lib.hid o6
            clear o6
            go_wp2_with fail
            refine (aopen_file (j + 1) (j / 3) _ O6.out HR6.out (by have := J20.out; omega) (by have := J20.out; omega) (by have := XL6.out; omega) BY6.out H0.out TT.out).mono ?_
            rintro e w7 ⟨p7, rfl, h7, hp7⟩
            have A7 := Lib.hid h7
            clear h7 hp7
            go_wp2_with fail
            have SH := Lib.hid (ashot_any A7.out)
            rw [show ((j + 1 : Nat) : Int) = (j : Int) + 1 by simp, show ((j / 3 : Nat) : Int) = (j : Int) / 3 by omega] at SH
            obtain ⟨m6, hm6⟩ : ∃ m, m = xs'.length := ⟨_, rfl⟩
            rw [← hm6] at SH D6 HB6
            refine SH.out.mono ?_
            rintro e w8 ⟨P8, rfl, h8, b8⟩
            obtain ⟨w9, hw9⟩ : ∃ w9, w9 = w8.alloc (.cells #[.int .u64 ((j : Int) + 1), .int .u64 ((j : Int) / 3), .slice P8 m6 m6] 25) := ⟨_, rfl⟩
            have kk := Blk.new w8 25 #[.int .u64 ((j : Int) + 1), .int .u64 ((j : Int) / 3), .slice P8 m6 m6]
            rw [← hw9] at kk
            have b9 := below_alloc_ w8 (.cells #[.int .u64 ((j : Int) + 1), .int .u64 ((j : Int) / 3), .slice P8 m6 m6] 25)
            rw [← hw9] at b9
            have B9 := Lib.hid (show Below w.heap.size w w9 from A7.out.bel.trans ((bch b8 b9).mono A7.out.bel.size))
            have V9 := Lib.hid (show Bs w9 (.slice P8 m6 m6) xs' from h8.bs.below b9)
            have L9 := Lib.hid (show Bs w9 (.slice A6' m6 c6') xs' from HB6.out.below B9.out)
            have e9 := (B9.out.cell (p := ⟨g, o + j, none⟩) (block_lt_of_cell D6.out)).trans D6.out
            have E9 := Lib.hid e9
            have W9 := Lib.hid hw9
            have c0 := kk.cell 0
            have c1 := kk.cell 1
            have c2 := kk.cell 2
            simp at c0 c1 c2
            have C9 := Lib.hid (And.intro c0 (And.intro c1 c2))
            obtain ⟨q9, hq9⟩ : ∃ q, q = w8.heap.size := ⟨_, rfl⟩
            rw [← hq9] at C9 c0 c1 c2 kk
            have Q9 := Lib.hid hq9
            clear b8 hw9 kk hq9 c0 c1 c2 e9 h8 hm6 b9
            go_upto_region 23 with fail
            rw [← W9.out, ← Q9.out]
            obtain ⟨c0, c1, c2⟩ := C9.out
            go_wp2_with fail
            obtain ⟨ι, F, f0, hf0, hF1, hF2⟩ := cls_new w9
            have CL := Lib.hid (fun n => (alives (F n) (TT.out.below (B9.out.trans ((hF1 n).mono B9.out.size)))).mono fun e w'' (hh : e = Ending.returned (.bool true) ∧ Below (F n).heap.size (F n) w'') => (show e = Ending.returned (.bool true) ∧ ∃ m, w'' = F m from ⟨hh.1, hF2 _ ((hF1 n).trans (hh.2.mono (hF1 n).size))⟩))
            have d1 : ∀ n, (F n).cell? ⟨q9, 1, none⟩ = some (.int .u64 ((j : Int) / 3)) := fun n => ((hF1 n).cell (block_lt_of_cell c1)).trans c1
            have d2 : ∀ n, (F n).cell? ⟨q9, 2, none⟩ = some (.slice P8 m6 m6) := fun n => ((hF1 n).cell (block_lt_of_cell c2)).trans c2
            have d3 : ∀ n, (F n).cell? ⟨g, o + j, none⟩ = some (.slice A6' m6 c6') := fun n => ((hF1 n).cell (block_lt_of_cell E9.out)).trans E9.out
            obtain ⟨str, hstr⟩ : ∃ s, s = strOfNums xs' := ⟨_, rfl⟩
            have d4 : ∀ n, (convert 23 9 (.slice P8 m6 m6)).run Tryd.prog (F n) = .ok (.string str) (F n) := fun n => by rw [hstr]; exact run_convert_bs (P := Tryd.prog) (V9.out.below (hF1 n)) 23 5 9 Tryd.underlying23 Tryd.underlying5 Tryd.underlying9
            have d5 : ∀ n, (convert 23 9 (.slice A6' m6 c6')).run Tryd.prog (F n) = .ok (.string str) (F n) := fun n => by rw [hstr]; exact run_convert_bs (P := Tryd.prog) (L9.out.below (hF1 n)) 23 5 9 Tryd.underlying23 Tryd.underlying5 Tryd.underlying9
            have BF := Lib.hid (fun n => B9.out.trans ((hF1 n).mono B9.out.size))
            have dj1 : decide ((j : Int) < 0) = false := decide_eq_false (by omega)
            have dj2 : decide ((0 : Int) ≤ (j : Int)) = true := decide_eq_true (by omega)
            have dq1 : (0 : Int) ≤ (j : Int) / 3 := by omega
            have dq2 : (j : Int) / 3 ≤ 20 := by omega
            clear hF1 hF2 c0 c1 c2 hstr
            haveI : Nonempty ι := ⟨f0⟩
            refine wp_region_quiet_cls F f0 hf0 (by kernel_rfl) (by kernel_rfl) ?_
            repeat (go_big_quiet_step ((go_at_call 11; exact CL.out _)))
            refine wpQuiet_nil ?_
            rintro _ ⟨nq, rfl⟩
            go_wp2
            go_ret
            exact ⟨rfl, BF.out _⟩
    · obtain rfl : k = n := by omega
      have AX := Lib.hid AK.out
      have HX := Lib.hid HK.out
      clear AK HK hk hlt
      -- REST
      have OL := Lib.hid (AX.out.on.alloc (.cells #[.int .i64 loss] 3))
      have RL := Lib.hid (show Rd (wr.alloc (.cells #[.int .i64 loss] 3)) 1 (.slice (some ⟨wr.heap.size, 0, none⟩) 1 1) [loss].length (lossC [loss]) from ⟨_, _, rfl, Nat.le_refl _, rfl, .inr ⟨wr.heap.size, 0, rfl, by simp, fun j u hu => by
        have k := Blk.new wr 3 #[.int .i64 loss]
        rw [Nat.zero_add, k.cell]
        simpa [lossC] using hu⟩⟩)
      obtain ⟨s6, hs6⟩ : ∃ s6, liftS s [loss] = s6 := ⟨_, rfl⟩
      have LF := Lib.hid (on_lift s6 (.slice (some ⟨wr.heap.size, 0, none⟩) 1 1) [loss] (fun x hx => by simp at hx; subst hx; exact HO.out) OL.out RL.out hs6)
      have H6 := Lib.hid (hs6 ▸ (hs_lift HX.out [loss]))
      clear hs6
      rcases k with _ | j
      · go_wp2_with fail
        refine LF.out.mono ?_
        rintro e w6 ⟨rfl, o6⟩
        have O6 := Lib.hid o6
        clear o6
        go_wp2_with fail
        refine (aopen_new O6.out (hs_read0 H6.out.1 H6.out.2)).mono ?_
        rintro e w7 ⟨p7, rfl, h7, hp7⟩
        have A7 := Lib.hid (Am.fresh h7 (Nat.le_trans O6.out.le hp7) (by simp))
        clear h7 hp7
        go_wp2_with fail
        refine (ashot_any A7.out).mono ?_
        rintro e w8 ⟨P8, rfl, -, b8⟩
        obtain ⟨w9, hw9⟩ : ∃ w9, w9 = w8.alloc (.cells #[.int .u64 0, .int .u64 0, .slice P8 0 0] 25) := ⟨_, rfl⟩
        have kk := Blk.new w8 25 #[.int .u64 0, .int .u64 0, .slice P8 0 0]
        rw [← hw9] at kk
        have B9 := Lib.hid (show Below w.heap.size w w9 from by rw [hw9]; exact A7.out.bel.trans ((bch b8 (below_alloc_ _ _)).mono A7.out.bel.size))
        have W9 := Lib.hid hw9
        have c0 := kk.cell 0
        have c1 := kk.cell 1
        have c2 := kk.cell 2
        simp at c0 c1 c2
        have C9 := Lib.hid (And.intro c0 (And.intro c1 c2))
        obtain ⟨q9, hq9⟩ : ∃ q, q = w8.heap.size := ⟨_, rfl⟩
        rw [← hq9] at C9 c0 c1 c2 kk
        have Q9 := Lib.hid hq9
        clear b8 hw9 kk hq9 c0 c1 c2
        go_upto_region 23 with fail
        rw [← W9.out, ← Q9.out]
        obtain ⟨c0, c1, c2⟩ := C9.out
        go_wp2_with fail
        obtain ⟨ι, F, f0, hf0, hF1, hF2⟩ := cls_new w9
        have CL := Lib.hid (fun n => (alives (F n) (TT.out.below (B9.out.trans ((hF1 n).mono B9.out.size)))).mono fun e w'' (hh : e = Ending.returned (.bool true) ∧ Below (F n).heap.size (F n) w'') => (show e = Ending.returned (.bool true) ∧ ∃ m, w'' = F m from ⟨hh.1, hF2 _ ((hF1 n).trans (hh.2.mono (hF1 n).size))⟩))
        have d2 : ∀ n, (F n).cell? ⟨q9, 2, none⟩ = some (.slice P8 0 0) := fun n => ((hF1 n).cell (block_lt_of_cell c2)).trans c2
        have BF := Lib.hid (fun n => B9.out.trans ((hF1 n).mono B9.out.size))
        clear hF1 hF2 c0 c1 c2
        haveI : Nonempty ι := ⟨f0⟩
        refine wp_region_quiet_cls F f0 hf0 (by kernel_rfl) (by kernel_rfl) ?_
        repeat (go_big_quiet_step ((go_at_call 11; exact CL.out _)))
        refine wpQuiet_nil ?_
        rintro _ ⟨nq, rfl⟩
        go_wp2
        go_ret
        exact ⟨rfl, BF.out _⟩
      · obtain ⟨hr6, hx6, hby6, r6, er6, ex6⟩ := hs_read H6.out.1 (by omega) H6.out.2
        have hj : j < rs.length := by
          rcases Nat.lt_or_ge j rs.length with h | h
          · exact h
          · rw [Nat.add_sub_cancel, List.getElem?_eq_none h] at er6; cases er6
        rw [Nat.add_sub_cancel, List.getElem?_eq_getElem hj] at er6
        obtain ⟨g6, o6, A6', c6', eA6, d6, hb6, hy6, -⟩ := HL.out.at_ j hj
        cases eA6
        rw [show rs[j] = r6 from Option.some.inj er6, ex6] at d6 hb6
        have J20 := Lib.hid (show j < 20 from by have := NN.out; have := NB.out; omega)
        have JN := Lib.hid (show j < (j + 1) from by have := NN.out; omega)
        have hj20 : (j : Int) < 20 := by have := J20.out; omega
        have hjn : (j : Int) < (((j + 1) : Nat) : Int) := by have := JN.out; omega
        have D6 := Lib.hid d6
        have HB6 := Lib.hid hb6
        have BY6 := Lib.hid hby6
        have XL6 := Lib.hid hx6
        rw [Nat.add_sub_cancel] at hr6
        have HR6 := Lib.hid hr6
        clear er6 d6 hb6 hy6 ex6 hr6 hx6 hby6 hj
        go_wp2_with fail
        refine LF.out.mono ?_
        rintro e w6 ⟨rfl, o6⟩
        have O6 := Lib.hid o6
        clear o6
        go_wp2_with fail
        refine (aopen_file (j + 1) (j / 3) _ O6.out HR6.out (by have := J20.out; omega) (by have := J20.out; omega) (by have := XL6.out; omega) BY6.out H0.out TT.out).mono ?_
        rintro e w7 ⟨p7, rfl, h7, hp7⟩
        have A7 := Lib.hid h7
        clear h7 hp7
        go_wp2_with fail
        have SH := Lib.hid (ashot_any A7.out)
        rw [show ((j + 1 : Nat) : Int) = (j : Int) + 1 by simp, show ((j / 3 : Nat) : Int) = (j : Int) / 3 by omega] at SH
        obtain ⟨m6, hm6⟩ : ∃ m, m = xs.length := ⟨_, rfl⟩
        rw [← hm6] at SH D6 HB6
        refine SH.out.mono ?_
        rintro e w8 ⟨P8, rfl, h8, b8⟩
        obtain ⟨w9, hw9⟩ : ∃ w9, w9 = w8.alloc (.cells #[.int .u64 ((j : Int) + 1), .int .u64 ((j : Int) / 3), .slice P8 m6 m6] 25) := ⟨_, rfl⟩
        have kk := Blk.new w8 25 #[.int .u64 ((j : Int) + 1), .int .u64 ((j : Int) / 3), .slice P8 m6 m6]
        rw [← hw9] at kk
        have b9 := below_alloc_ w8 (.cells #[.int .u64 ((j : Int) + 1), .int .u64 ((j : Int) / 3), .slice P8 m6 m6] 25)
        rw [← hw9] at b9
        have B9 := Lib.hid (show Below w.heap.size w w9 from A7.out.bel.trans ((bch b8 b9).mono A7.out.bel.size))
        have V9 := Lib.hid (show Bs w9 (.slice P8 m6 m6) xs from h8.bs.below b9)
        have L9 := Lib.hid (show Bs w9 (.slice A6' m6 c6') xs from HB6.out.below B9.out)
        have e9 := (B9.out.cell (p := ⟨g6, o6 + j, none⟩) (block_lt_of_cell D6.out)).trans D6.out
        have E9 := Lib.hid e9
        have W9 := Lib.hid hw9
        have c0 := kk.cell 0
        have c1 := kk.cell 1
        have c2 := kk.cell 2
        simp at c0 c1 c2
        have C9 := Lib.hid (And.intro c0 (And.intro c1 c2))
        obtain ⟨q9, hq9⟩ : ∃ q, q = w8.heap.size := ⟨_, rfl⟩
        rw [← hq9] at C9 c0 c1 c2 kk
        have Q9 := Lib.hid hq9
        clear b8 hw9 kk hq9 c0 c1 c2 e9 h8 hm6 b9
        go_upto_region 23 with fail
        rw [← W9.out, ← Q9.out]
        obtain ⟨c0, c1, c2⟩ := C9.out
        go_wp2_with fail
        obtain ⟨ι, F, f0, hf0, hF1, hF2⟩ := cls_new w9
        have CL := Lib.hid (fun n => (alives (F n) (TT.out.below (B9.out.trans ((hF1 n).mono B9.out.size)))).mono fun e w'' (hh : e = Ending.returned (.bool true) ∧ Below (F n).heap.size (F n) w'') => (show e = Ending.returned (.bool true) ∧ ∃ m, w'' = F m from ⟨hh.1, hF2 _ ((hF1 n).trans (hh.2.mono (hF1 n).size))⟩))
        have d1 : ∀ n, (F n).cell? ⟨q9, 1, none⟩ = some (.int .u64 ((j : Int) / 3)) := fun n => ((hF1 n).cell (block_lt_of_cell c1)).trans c1
        have d2 : ∀ n, (F n).cell? ⟨q9, 2, none⟩ = some (.slice P8 m6 m6) := fun n => ((hF1 n).cell (block_lt_of_cell c2)).trans c2
        have d3 : ∀ n, (F n).cell? ⟨g6, o6 + j, none⟩ = some (.slice A6' m6 c6') := fun n => ((hF1 n).cell (block_lt_of_cell E9.out)).trans E9.out
        obtain ⟨str, hstr⟩ : ∃ s, s = strOfNums xs := ⟨_, rfl⟩
        have d4 : ∀ n, (convert 23 9 (.slice P8 m6 m6)).run Tryd.prog (F n) = .ok (.string str) (F n) := fun n => by rw [hstr]; exact run_convert_bs (P := Tryd.prog) (V9.out.below (hF1 n)) 23 5 9 Tryd.underlying23 Tryd.underlying5 Tryd.underlying9
        have d5 : ∀ n, (convert 23 9 (.slice A6' m6 c6')).run Tryd.prog (F n) = .ok (.string str) (F n) := fun n => by rw [hstr]; exact run_convert_bs (P := Tryd.prog) (L9.out.below (hF1 n)) 23 5 9 Tryd.underlying23 Tryd.underlying5 Tryd.underlying9
        have BF := Lib.hid (fun n => B9.out.trans ((hF1 n).mono B9.out.size))
        have dj1 : decide ((j : Int) < 0) = false := decide_eq_false (by omega)
        have dj2 : decide ((0 : Int) ≤ (j : Int)) = true := decide_eq_true (by omega)
        have dq1 : (0 : Int) ≤ (j : Int) / 3 := by omega
        have dq2 : (j : Int) / 3 ≤ 20 := by omega
        clear hF1 hF2 c0 c1 c2 hstr
        haveI : Nonempty ι := ⟨f0⟩
        refine wp_region_quiet_cls F f0 hf0 (by kernel_rfl) (by kernel_rfl) ?_
        repeat (go_big_quiet_step ((go_at_call 11; exact CL.out _)))
        refine wpQuiet_nil ?_
        rintro _ ⟨nq, rfl⟩
        go_wp2
        go_ret
        exact ⟨rfl, BF.out _⟩
end Go.Proofs.YtglghlfmjokgdaaDoor
