/- LogsSure: the law's walk. -/
import Derived.Test.YtnegondlkfeleaaGreatDoorLmy
import Derived.Test.YtnegondlkfeleaaGreatDoorLme
import Derived.Test.YtnegondlkfeleaaGreatDoorLmj
import Derived.Deep.CutBlock
namespace Go.Proofs.YtnegondlkfeleaaGreatDoor
open Go.RowKit

set_option maxHeartbeats 8000000 in
set_option maxRecDepth 100000 in
theorem lsure_walk (ls : List Int) (A : Option Addr) (c : Nat) (fu loss : Int) (w : World) (T : Tab w) (h : Bs w (.slice A ls.length c) ls) (hby : ∀ c ∈ ls, byt c) (hf : 0 ≤ fu ∧ fu ≤ 65535) (hlo : -9223372036854775808 ≤ loss ∧ loss ≤ 9223372036854775807) (hl : ls.length ≤ 9223372036854775807) :
    Calls Tryz.prog 3 #[.slice A ls.length c, .int .u16 fu, .int .i64 loss] w fun e w' => e = .returned (.bool true) ∧ Below w.heap.size w w' := by
  have TT := Lib.hid T
  have HLS := Lib.hid h
  have HBY := Lib.hid hby
  have h0 := Lib.hid (block_lt_of_cell (T 0 (by decide)))
  have HF := Lib.hid hf
  have HO := Lib.hid hlo
  have hZ := Lib.hid logB0_len
  obtain ⟨n, hn⟩ : ∃ n, n = ls.length := ⟨_, rfl⟩
  rw [← hn] at hl ⊢
  have NN := Lib.hid hn
  have hl' : (n : Int) ≤ 9223372036854775807 := by omega
  clear T h hby hf hlo hn
  by_cases hbig : 60 < n
  · have hb' : (60 : Int) < (n : Int) := by omega
    go_enter Tryz.func3, Tryz.ntmps3
    go_wp2_with fail
    refine (llives _ TT.out).mono ?_
    rintro e w1 ⟨rfl, b1⟩
    have B1 := Lib.hid b1
    clear b1
    go_wp2
    go_ret
    exact ⟨rfl, B1.out⟩
  have hb' : ¬ (60 : Int) < (n : Int) := by omega
  have NB := Lib.hid hbig
  clear hbig
  have fz1 : 0 ≤ fu := HF.out.1
  have fz2 : fu ≤ 65535 := HF.out.2
  go_enter Tryz.func3, Tryz.ntmps3
  go_wp2_with fail
  refine (on_new nmL w).mono ?_
  rintro e w1 ⟨rfl, h1⟩
  have H1 := Lib.hid h1
  clear h1
  go_wp2_with fail
  refine (lopen_new H1.out rfl h0.out TT.out (does_free _ _ (by have := hZ.out; omega) true (.inl rfl))).mono ?_
  rintro e w2 ⟨p, rfl, h2, hp⟩
  have L2 := Lib.hid (Lg.fresh h2 (Nat.le_trans H1.out.le hp) (by simp))
  obtain ⟨d, hd⟩ : ∃ d, d = w.heap.size + 1 := ⟨_, rfl⟩
  rw [← hd] at L2 ⊢
  clear h2 hp hd H1
  go_wp2_with fail
  refine (lg_fuse (fu % 200) (by omega) L2.out).mono ?_
  rintro e w3 ⟨rfl, l3⟩
  obtain ⟨s3, hs3⟩ : ∃ s3 : Dst, s3 = { (⟨some (logB 0 0 [], (logB 0 0 []).length), -1, false⟩ : Dst) with fuse := max 0 (fu % 200) } := ⟨_, rfl⟩
  have I3 := Lib.hid (show SuI w.heap.size w p d 0 [] (.slice none 0 0) [] [] s3 w3 from
    ⟨by rw [hs3]; exact l3, fun _ _ => ⟨none, 0, rfl, Nat.le_refl _, rfl, .inl rfl⟩, by simp, hist_nil, by rw [hs3], by rw [hs3], Lok.nil, by simp, by have := hZ.out; omega, by simp⟩)
  clear l3 hs3 L2
  go_upto_block 0 with fail
  go_cut [10, 11] from 12 to 102 (fun s10 s11 wx => EndR w.heap.size w d s10 s11 wx)
  case first =>
    go_wp2_with fail
    go_loopw [10, 11, 12] (fun s10 s11 s12 wr => s11 = .slice none 0 0 ∧ ∃ (i : Nat) (wl : List Lit) (X : List (Nat × Obj)) (H : List Ent) (s : Dst), s12 = .int .i64 (i : Int) ∧ i ≤ n ∧ SuI w.heap.size w p d i wl s10 X H s wr) (fun _ _ s12 _ => n - (intOf s12).toNat)
    case atStart => exact ⟨rfl, 0, [], [], [], s3, rfl, Nat.zero_le _, I3.out⟩
    case round =>
      obtain ⟨wo, hwo⟩ : ∃ wo, wo = wr := ⟨_, rfl⟩
      subst hwo
      obtain ⟨rfl, i, wl, X, H, s, rfl, hi, hI⟩ := hrel
      have II := Lib.hid hI
      obtain ⟨Aw, cw, hsl, hcw⟩ := hI.sl
      obtain ⟨e, he⟩ : ∃ e, e = wl.length := ⟨_, rfl⟩
      rw [← he] at hsl hcw
      subst hsl
      have EE := Lib.hid he
      have HCW := Lib.hid hcw
      have he2 : (e : Int) ≤ 204 := by have := hI.most; omega
      clear hI he
      by_cases hlt : i < n
      · have hil : i < ls.length := by have := NN.out; omega
        have hlt' : (i : Int) < (n : Int) := by omega
        obtain ⟨g, o, rfl⟩ : ∃ g o, A = some ⟨g, o, none⟩ := HLS.out.some_ (by omega)
        obtain ⟨A', c', hv', hc', -, hcl⟩ := id HLS.out
        have hcell : ∀ wo, Below w.heap.size w wo → wo.cell? ⟨g, o + i, none⟩ = some (.int .u8 ls[i]) := by
          intro wo hb
          injection hv' with v1 v2 v3
          subst v1
          rcases hcl with hz | ⟨g', o', e1, hg, hc⟩
          · omega
          · injection e1 with e1; injection e1 with e1 e2; subst e1 e2
            exact (hb.cell hg).trans (hc i _ (by simp [bc]))
        have hbb := HBY.out _ (List.getElem_mem hil)
        obtain ⟨b, hbe⟩ : ∃ b, b = ls[i] := ⟨_, rfl⟩
        rw [← hbe] at hcell hbb
        have HC := Lib.hid hcell
        have hb0 : 0 ≤ b := hbb.1
        have hb1 : b ≤ 255 := hbb.2
        have hcn : (n : Int) ≤ c := by injection hv' with _ _ v3; rw [v3]; have := NN.out; omega
        have d0 := hcell wo II.out.lg.bel
        clear hil hbb hbe hcell hv' hc' hcl hcw
        obtain ⟨m3, hm3, hm4⟩ : ∃ m3 : Nat, b / 16 % 3 = (m3 : Int) ∧ m3 ≤ 2 := ⟨(b / 16 % 3).toNat, by omega, by omega⟩
        obtain ⟨i0, hi0⟩ : ∃ i0, i0 = e - min e m3 := ⟨_, rfl⟩
        go_upto_region 13 with fail
        go_cut [14] (fun s14 wx => s14 = .int .u64 (i0 : Int) ∧ wx = wo)
        case first =>
          have key : e < m3 ∧ i0 = 0 ∨ e = m3 ∧ i0 = 0 ∨ m3 < e ∧ i0 = e - m3 := by omega
          clear hi0
          rcases key with ⟨k1, k2⟩ | ⟨k1, k2⟩ | ⟨k1, k2⟩
          · subst k2
            have k3 : ¬ (m3 : Int) < (e : Int) := by omega
            have k4 : (e : Int) < (m3 : Int) := by omega
            go_wp2
            go_meet
            exact ⟨by simp, rfl⟩
          · subst k2 k1
            go_wp2
            go_meet
            exact ⟨by simp, rfl⟩
          · have k3 : (m3 : Int) < (e : Int) := by omega
            have k4 : ¬ (e : Int) < (m3 : Int) := by omega
            have k5 : (e : Int) - (m3 : Int) = (i0 : Int) := by omega
            have k6 : IntKind.u64.wrap (i0 : Int) = (i0 : Int) := IntWalk.u64_in _ (by omega)
            clear k2
            go_wp2
            go_meet
            exact ⟨by simp, rfl⟩
        case rest =>
          obtain ⟨rfl, hwc⟩ := hcut
          subst wc
          have HI0 := Lib.hid (show i0 ≤ wl.length from by have := EE.out; omega)
          clear hi0 hm3 hm4
          obtain ⟨q1, hq1, hq2⟩ : ∃ q1 : Nat, b % 4 = (q1 : Int) ∧ q1 ≤ 3 := ⟨(b % 4).toNat, by omega, by omega⟩
          have hi0e : (i0 : Int) ≤ 204 := by have := HI0.out; have := II.out.most; omega
          have hi60 : (i : Int) ≤ 60 := by omega
          have J0 := Lib.hid (BuI.nil wo)
          go_wp2_with fail
          go_loopw [15, 16] (fun s15 s16 wx => ∃ (k : Nat) (nl : List Lit), s16 = .int .i64 (k : Int) ∧ k ≤ q1 + 1 ∧ nl.length = k ∧ (∀ j (hj : j < nl.length), nl[j].1 = (((i0 + j + 1 : Nat) : Int), (i : Int), b)) ∧ BuI wo.heap.size wo nl s15 wx) (fun _ s16 _ => q1 + 1 - (intOf s16).toNat)
          case atStart => exact ⟨0, [], rfl, by omega, rfl, by simp, J0.out⟩
          case round =>
            obtain ⟨k, nl, rfl, hk, hnl, hix, hJ⟩ := hrel
            have JJ := Lib.hid hJ
            obtain ⟨Ab, cb, hsb⟩ := hJ.sl
            rw [hnl] at hsb
            subst hsb
            have HNL := Lib.hid hnl
            have HIX := Lib.hid hix
            have dx := HC.out wr (II.out.lg.bel.trans (hJ.bel.mono II.out.lg.le))
            clear hJ hix hnl
            by_cases hkq : k < q1 + 1
            · have hkq' : (k : Int) < (q1 : Int) + 1 := by omega
              obtain ⟨ik, hik⟩ : ∃ ik, ik = i0 + k := ⟨_, rfl⟩
              obtain ⟨ix, hixx⟩ : ∃ ix, ix = ik + 1 := ⟨_, rfl⟩
              have u1 : (i0 : Int) + (k : Int) = (ik : Int) := by omega
              have u2 : (ik : Int) + 1 = (ix : Int) := by omega
              have u3 : (ix : Int) ≤ 208 := by omega
              have u4 : (ik : Int) ≤ 207 := by omega
              have KQ := Lib.hid hkq
              have EN := Lib.hid (lentry_any (ix : Int) (i : Int) b wr)
              have XX := Lib.hid (show ix = i0 + k + 1 by omega)
              clear hik hixx hkq hk
              go_wp2_with fail
              refine EN.out.mono ?_
              rintro e5 w5 ⟨g5, rfl, h5, k5, b5⟩
              have B5 := Lib.hid b5
              have K5 := Lib.hid (And.intro h5 k5)
              obtain ⟨Y5, o5, s5, y5⟩ := JJ.out.ex
              have o5' := o5.below b5
              rw [HNL.out] at o5'
              have O5 := Lib.hid o5'
              clear h5 k5 b5 o5 o5' s5 y5 dx
              go_wp2_with (at_builtin; refine wpList_ow rfl _ _ 31 40 _ 5 56 rfl Tryz.underlying31 es_info rfl (by decide) rfl #[.int .u64 ix, .int .u64 i, .int .u8 1, .int .u64 ix, .slice (some ⟨g5, 0, none⟩) 1 1] O5.out (Nat.le_trans JJ.out.le B5.out.size) rfl (fun u hu => news_one (by simpa using hu)) rfl (by have := KQ.out; omega) (by unfold maxLen; have := KQ.out; omega) ?_; intro v6 w8 hB6 hG6; have B8 := Lib.hid hB6; have G8 := Lib.hid hG6; obtain ⟨A6, c6, rfl, -, -⟩ := hB6.clip; clear hB6 hG6)
              go_roundw
              case rel =>
                refine ⟨k + 1, nl ++ [(((ix : Int), (i : Int), b), g5)], by go_num, KQ.out, by rw [List.length_append, HNL.out]; rfl, fun j hj => ?_, BuI.step (x := (((ix : Int), (i : Int), b), g5)) JJ.out B5.out K5.out.1 K5.out.2 (by rw [HNL.out]; exact B8.out) G8.out ⟨_, _, by rw [HNL.out]⟩⟩
                rcases Nat.lt_or_ge j nl.length with hj' | hj'
                · rw [List.getElem_append_left hj']; exact HIX.out j hj'
                · rw [List.length_append, List.length_singleton] at hj
                  obtain rfl : j = nl.length := by omega
                  rw [List.getElem_append_right (Nat.le_refl _)]
                  simp only [Nat.sub_self, List.getElem_cons_zero]
                  rw [HNL.out, XX.out]
              case measure => have := KQ.out; simp [intOf]; omega
            · have hkq' : ¬ (k : Int) < (q1 : Int) + 1 := by omega
              have HKQ := Lib.hid (show k = q1 + 1 by omega)
              clear hkq hk
              by_cases he200 : 200 < e
              · have he3 : (200 : Int) < (e : Int) := by omega
                go_wp2
                go_meet
                exact II.out.fin (by have := NB.out; omega) JJ.out.bel
              · have he3 : ¬ (200 : Int) < (e : Int) := by omega
                have hi0c : (i0 : Int) ≤ (cw : Int) := by have := HI0.out; have := EE.out; have := HCW.out; omega
                have E200 := Lib.hid he200
                have hrw := II.out.rd wr (fun q hq => (JJ.out.bel.block _ (lt_of_heap (II.out.lg.has q hq))).trans (II.out.lg.has q hq))
                rw [← EE.out] at hrw
                have hrw2 := hrw.take (k := i0) (by have := HI0.out; have := EE.out; omega)
                rw [litC_take] at hrw2
                have RW := Lib.hid hrw2
                obtain ⟨Y5, o5, s5, y5⟩ := JJ.out.ex
                rw [HNL.out] at o5
                have O5 := Lib.hid o5
                clear hrw hrw2 he200 s5 y5 o5
                go_wp2_with (first
                  | (at_builtin; refine wpList_ow_rows rfl _ _ 31 40 _ 5 56 rfl Tryz.underlying31 es_info rfl (by decide) rfl O6.out O6L.out R6.out (litC_one _) rfl (by have := HKQ.out; omega) (by unfold maxLen; have := HKQ.out; omega) ?_; intro v8 w8 hO8 hG8; have O8 := Lib.hid hO8; have G8 := Lib.hid hG8; obtain ⟨A8, c8, rfl, -, -⟩ := hO8.clip; clear hO8 hG8)
                  | (at_builtin; refine wpList_ow_rows rfl _ _ 31 40 _ 5 56 rfl Tryz.underlying31 es_info rfl (by decide) rfl (B := wr.heap.size) (n := 0) (xs := []) (.inl ⟨rfl, rfl, rfl⟩) (Nat.le_refl _) RW.out (litC_one _) rfl (by omega) (by unfold maxLen; omega) ?_; intro v6 w6 hO6 hG6; rw [Nat.zero_add, List.nil_append] at hO6; have O6 := Lib.hid hO6; have G6 := Lib.hid (show Grew wr w6 (.slice none 0 0) v6 from hG6); have O6L := Lib.hid (show wr.heap.size ≤ w6.heap.size from hG6.1.size); have R6 := Lib.hid (O5.out.rd.below (below_of_grown_ hG6.1)); obtain ⟨A6, c6, rfl, -, -⟩ := hO6.clip; clear hO6 hG6))
                have hF : Fit 0 0 (wl.map litE) i0 nl := fit_su ⟨by omega, by omega⟩ (by omega) II.out.tm HI0.out (by have := EE.out; have := E200.out; omega) ⟨by rw [HNL.out, HKQ.out]; omega, by rw [HNL.out, HKQ.out]; omega⟩ HIX.out
                have hbl := litOk_len hF.ok
                obtain ⟨s1, r, hadd⟩ : ∃ s1 r, addS s (bsOf (nl.map litE)) = (s1, r) := ⟨_, _, rfl⟩
                have hlen := II.out.len
                have hfile := addS_file II.out.file II.out.live (by have := HNL.out; have := HKQ.out; omega) hadd
                obtain ⟨Y, yv, ys, yb⟩ := JJ.out.end_
                have hb6 : Below wr.heap.size wr w6 := below_of_grown_ G6.out.1
                have hb8 : Below wr.heap.size wr w8 := below_grown_own_ hb6 G8.out.1 O6.out
                obtain ⟨Z, z1, z2⟩ := O8.out.has
                have hL2 := (II.out.lg.addNew JJ.out.bel yb).addNew hb8 z1
                have hsY : ∀ q ∈ Y, q ∈ Z ++ (Y ++ X) := fun q hq => List.mem_append_right _ (List.mem_append_left _ hq)
                have hsX : ∀ q ∈ X, q ∈ Z ++ (Y ++ X) := fun q hq => List.mem_append_right _ (List.mem_append_right _ hq)
                have hsz : (logB 0 0 H).length + (bsOf (nl.map litE)).length ≤ 262144 := by have := HNL.out; have := HKQ.out; omega
                have hyv : ∀ w' : World, Has w' (Z ++ (Y ++ X)) → Rd w' 5 (.slice Ab k cb) nl.length (litC nl) := fun w' hw => yv w' fun q hq => hw q (hsY q hq)
                have hyl : ∀ x ∈ nl, litO x ∈ Z ++ (Y ++ X) := fun x hx => hsY _ (ys x hx)
                by_cases hr : r = 0
                · subst hr
                  obtain ⟨-, f1, f2⟩ : (0 : Int) = 0 ∧ _ := hfile.resolve_right (fun h => h.1 rfl)
                  have AA := Lib.hid (lg_add_rd i0 nl (.slice Ab k cb) hL2 II.out.lok hF hyv hyl hsz h0.out TT.out hadd)
                  have NX := Lib.hid (fun (w' : World) hl => su_next (v' := .slice A8 (i0 + k) c8) (X' := Z ++ (Y ++ X)) (w' := w') II.out hF (by have := EE.out; have := E200.out; omega) HI0.out ⟨by rw [HNL.out, HKQ.out]; omega, by rw [HNL.out, HKQ.out]; omega⟩ HIX.out hl (fun w'' hw => by
                    have hzz := z2 w'' fun q hq => hw q (List.mem_append_left _ hq)
                    rw [litC_append, List.length_append, List.length_take, Nat.min_eq_left HI0.out, HNL.out]
                    exact hzz) (fun x hx => by
                      rcases List.mem_append.1 hx with hx | hx
                      · exact hsX _ (II.out.st x (List.mem_of_mem_take hx))
                      · exact hyl x hx) f1 f2)
                  have IN := Lib.hid (show i < n by omega)
                  clear hF hbl hadd hlen hfile yv ys yb hb6 hb8 z1 z2 hL2 hsY hsX hsz hyv hyl f1 f2
                  go_wp2_with fail
                  refine AA.out.mono ?_
                  rintro e9 w9 ⟨rfl, l9⟩
                  have L9 := Lib.hid (NX.out w9 l9)
                  clear l9
                  go_wp2
                  go_roundw
                  case rel => exact ⟨rfl, i + 1, _, _, _, _, by go_num, IN.out, L9.out⟩
                  case measure => have := IN.out; simp [intOf]; omega
                · have hfb := (hfile.resolve_left (fun h => hr h.1)).2
                  have AA := Lib.hid (lg_add_rd_bad hr i0 nl (.slice Ab k cb) hL2 II.out.lok hF hyv hyl hsz h0.out TT.out hadd)
                  have NX := Lib.hid (fun (w' : World) ho => SuI.bad (u := .slice Ab k cb) (w' := w') (b := b) II.out (by omega) hsX ho hyv hyl hF (by rw [HNL.out, HKQ.out]; omega) HI0.out HIX.out hfb)
                  clear hF hbl hadd hlen hfile yv ys yb hb6 hb8 z1 z2 hL2 hsY hsX hsz hyv hyl hfb
                  go_wp2_with fail
                  refine AA.out.mono ?_
                  rintro e9 w9 ⟨rfl, o9⟩
                  have L9 := Lib.hid (NX.out w9 o9)
                  clear o9
                  go_wp2
                  go_meet
                  exact L9.out
      · obtain rfl : i = n := by omega
        go_wp2
        go_meet
        exact II.out.fin (by have := NB.out; omega) (Below.refl _ _)
  case rest =>
    obtain ⟨wl, X, s, ge, ho, hwv, hws, hlok, hmost, hopen, hge, hcase⟩ := end_open hcut loss h0.out TT.out
    obtain ⟨Aw, cw, hs10, hcw⟩ : ∃ A c, u10 = .slice A wl.length c ∧ wl.length ≤ c := by obtain ⟨A, c, e, hc, -⟩ := hwv wc ho.has; exact ⟨A, c, e, hc⟩
    obtain ⟨e, he⟩ : ∃ e, e = wl.length := ⟨_, rfl⟩
    rw [← he] at hs10 hcw
    subst hs10
    have EE := Lib.hid he
    have OP := Lib.hid hopen
    have WV := Lib.hid hwv
    have WS := Lib.hid hws
    have LK := Lib.hid (And.intro hlok hge)
    have MO := Lib.hid hmost
    have CS := Lib.hid hcase
    have OL := Lib.hid (ho.alloc (.cells #[.int .i64 loss] 3))
    have RL := Lib.hid (show Rd (wc.alloc (.cells #[.int .i64 loss] 3)) 1 (.slice (some ⟨wc.heap.size, 0, none⟩) 1 1) [loss].length (lossC [loss]) from ⟨_, _, rfl, Nat.le_refl _, rfl, .inr ⟨wc.heap.size, 0, rfl, by simp, fun j u hu => by
      have k := Blk.new wc 3 #[.int .i64 loss]
      rw [Nat.zero_add, k.cell]
      simpa [lossC] using hu⟩⟩)
    have LF := Lib.hid (on_lift (liftS s [loss]) (.slice (some ⟨wc.heap.size, 0, none⟩) 1 1) [loss] (fun x hx => by simp at hx; subst hx; exact HO.out) OL.out RL.out rfl)
    clear hcut ho hwv hws hlok hmost hopen hge hcase he hcw
    go_wp2_with fail
    refine LF.out.mono ?_
    rintro e6 w6 ⟨rfl, o6⟩
    have O6 := Lib.hid o6
    clear o6
    go_wp2_with fail
    refine (OP.out w6 O6.out).mono ?_
    rintro e7 w7 ⟨p7, size7, s7, rfl, l7⟩
    have L7 := Lib.hid l7
    clear l7
    have FR := Lib.hid (lg_from 1 1000 (by omega) (by omega) (by omega) L7.out LK.out.2)
    rw [fromP_all (by have := LK.out.2.bi; omega)] at FR
    obtain ⟨gl, hgl⟩ : ∃ gl, gl = ge.length := ⟨_, rfl⟩
    have GL := Lib.hid hgl
    rw [← hgl] at FR
    clear hgl
    go_wp2_with fail
    refine FR.out.mono ?_
    rintro e8 w8 ⟨P8, Y8, rfl, el8, l8, b8, -⟩
    have L8 := Lib.hid l8
    have E8 := Lib.hid (el8.ents (w := w8) fun q hq => l8.has q (List.mem_append_left _ hq))
    have W8 := Lib.hid ((el_lit WV.out WS.out).ents (w := w8) fun q hq => l8.has q (List.mem_append_right _ hq))
    clear el8 l8 b8
    by_cases heq : ge = wl.map litE
    · have HQ := Lib.hid heq
      have SM := Lib.hid (samees_any ge (by rw [heq]; exact same4 wl) (.slice P8 gl gl) (.slice Aw e cw) w8 E8.out (by rw [heq]; exact W8.out) (by have := LK.out.2.bi; omega))
      clear heq
      go_wp2_with fail
      refine SM.out.mono ?_
      rintro e9 w9 ⟨rfl, b9⟩
      have B9 := Lib.hid (L8.out.below b9).bel
      clear b9
      go_wp2_with fail
      refine (llives _ (TT.out.below B9.out)).mono ?_
      rintro e10 w10 ⟨rfl, b10⟩
      have B10 := Lib.hid (B9.out.trans (b10.mono B9.out.size))
      clear b10
      go_wp2
      go_ret
      exact ⟨rfl, B10.out⟩
    · obtain ⟨i, i0, b, nl, c2, hu, hst, hM, hc0, hc1, hgee⟩ := CS.out.resolve_left heq
      have SM := Lib.hid (same_ne hM hc0 hc1 MO.out LK.out.1 (.slice P8 gl gl) (.slice Aw e cw) w8 (by rw [← hgee]; exact E8.out) W8.out)
      have HU := Lib.hid hu
      have HST := Lib.hid hst
      have HM := Lib.hid hM
      have HC0 := Lib.hid hc0
      have HC1 := Lib.hid hc1
      have HG := Lib.hid hgee
      obtain ⟨Au, cu, hs11⟩ : ∃ A c, u11 = .slice A nl.length c := by obtain ⟨A, c, e, -⟩ := hu w8 (fun q hq => L8.out.has q (List.mem_append_right _ hq)); exact ⟨A, c, e⟩
      obtain ⟨un, hun⟩ : ∃ un, un = nl.length := ⟨_, rfl⟩
      rw [← hun] at hs11
      subst hs11
      have UN := Lib.hid hun
      clear heq hu hst hM hc0 hc1 hgee hun
      go_wp2_with fail
      refine SM.out.mono ?_
      rintro e9 w9 ⟨rfl, b9⟩
      have L9 := Lib.hid (L8.out.below b9)
      have E9 := Lib.hid (E8.out.below b9)
      clear b9
      have hGLe : gl = i0 + c2 := by rw [GL.out, HG.out, List.length_map, List.length_append, List.length_take, List.length_take]; have := HM.out.lo; have := HC1.out; omega
      have HGL := Lib.hid hGLe
      have HE2 := Lib.hid (show i0 ≤ e from by have := HM.out.lo; have := EE.out; omega)
      have z1 : (i0 : Int) ≤ 204 := by have := HE2.out; have := EE.out; have := MO.out; omega
      have z2 : (e : Int) ≤ 204 := by have := EE.out; have := MO.out; omega
      have z3 : (un : Int) ≤ 4 := by have := UN.out; have := HM.out.four; omega
      have z4 : ¬ (e : Int) < (i0 : Int) := by have := HE2.out; omega
      have X9 := Lib.hid (show Has w9 X from fun q hq => L9.out.has q (List.mem_append_right _ hq))
      have hcw : e ≤ cw := by obtain ⟨A, c, e1, hc, -⟩ := WV.out w9 X9.out; injection e1 with _ _ e3; rw [e3]; have := EE.out; omega
      have hcu : un ≤ cu := by obtain ⟨A, c, e1, hc, -⟩ := HU.out w9 X9.out; injection e1 with _ _ e3; rw [e3]; have := UN.out; omega
      have z5 : (i0 : Int) ≤ (cw : Int) := by have := HE2.out; omega
      obtain ⟨gu, ou, rfl⟩ : ∃ g o, Au = some ⟨g, o, none⟩ := by
        obtain ⟨A, c, e1, -, -, h | ⟨g, o, hA, -⟩⟩ := HU.out w9 X9.out
        · have := HC0.out; have := HC1.out; omega
        · injection e1 with e1; exact ⟨g, o, e1.trans hA⟩
      have CI := Lib.hid (show ∀ w', Has w' X → w'.cell? ⟨gu, ou, none⟩ = some (.int .u64 ((i0 + 1 : Nat) : Int)) from fun w' hw => by
        obtain ⟨A, c, e1, -, -, h | ⟨g, o, hA, -, hc⟩⟩ := HU.out w' hw
        · have := HC0.out; have := HC1.out; omega
        · injection e1 with e1; rw [hA] at e1; injection e1 with e1; injection e1 with e1 e2; subst e1 e2
          have hn0 : 0 < nl.length := by have := HC0.out; have := HC1.out; omega
          have := hc 0 (.int .u64 nl[0].1.1) (by
            obtain ⟨y, ys, rfl⟩ : ∃ y ys, nl = y :: ys := by cases nl with | nil => simp at hn0 | cons y ys => exact ⟨y, ys, rfl⟩
            simp [litC])
          rw [HM.out.ix 0 hn0] at this
          simpa using this)
      obtain ⟨i1, hi1⟩ : ∃ i1, i1 = i0 + 1 := ⟨_, rfl⟩
      rw [← hi1] at CI
      have z6 : (i1 : Int) - 1 = (i0 : Int) := by omega
      have z7 : IntKind.u64.wrap (i0 : Int) = (i0 : Int) := IntWalk.u64_in _ (by omega)
      have hcun := HC1.out
      have z8 : (0 : Int) < (un : Int) := by have := HC0.out; have := UN.out; omega
      have z9 : 0 < un := by omega
      have z10 : ¬ un = 0 := by omega
      have HCU := Lib.hid (And.intro hcw hcu)
      clear hGLe hcw hi1
      go_wp2_with fail
      go_loopw [21] (fun s21 wr => ∃ k : Nat, s21 = .int .i64 (k : Int) ∧ 1 ≤ k ∧ k ≤ c2 ∧ Below w9.heap.size w9 wr) (fun s21 _ => c2 + 1 - (intOf s21).toNat)
      case atStart => exact ⟨1, rfl, Nat.le_refl _, HC0.out, Below.refl _ _⟩
      case round =>
        obtain ⟨k, rfl, hk1, hk2, hbw⟩ := hrel
        have BW := Lib.hid hbw
        have LR := Lib.hid (L9.out.below hbw)
        have XR := Lib.hid (show Has wr X from fun q hq => LR.out.has q (List.mem_append_right _ hq))
        have ER := Lib.hid (E9.out.below hbw)
        have ci := CI.out wr XR.out
        have K12 := Lib.hid (And.intro hk1 hk2)
        have y1 : (k : Int) ≤ (un : Int) := by have := UN.out; omega
        have y2 : (k : Int) ≤ (cu : Int) := by omega
        have hw1 := WV.out wr XR.out
        rw [← EE.out] at hw1
        have hw2 := hw1.take (k := i0) HE2.out
        rw [litC_take] at hw2
        have RW := Lib.hid (Rd.drew hw2)
        have hn1 := HU.out wr XR.out
        rw [← UN.out] at hn1
        have hn2 := hn1.take (k := k) (by have := UN.out; omega)
        rw [litC_take] at hn2
        have RN := Lib.hid (Rd.drew hn2)
        clear hbw hk1 hk2 hw1 hw2 hn1 hn2
        go_upto_region 37 with fail
        go_region_law (first
          | (refine step_ow_rows rfl _ _ 31 40 _ 5 56 rfl Tryz.underlying31 es_info rfl (by decide) rfl O6.out O6L.out R6.out (litC_one _) rfl (by omega) (by unfold maxLen; omega) ?_; intro v8 w8' hO8 hG8; have O8 := Lib.hid hO8; have G8 := Lib.hid hG8; obtain ⟨A8, c8, rfl, -, -⟩ := hO8.clip; clear hO8 hG8)
          | (refine step_ow_rows rfl _ _ 31 40 _ 5 56 rfl Tryz.underlying31 es_info rfl (by decide) rfl (B := wr.heap.size) (n := 0) (xs := []) (.inl ⟨rfl, rfl, rfl⟩) (Nat.le_refl _) RW.out (litC_one _) rfl (by omega) (by unfold maxLen; omega) ?_; intro v6 w6' hO6 hG6; rw [Nat.zero_add, List.nil_append] at hO6; have O6 := Lib.hid hO6; have G6 := Lib.hid (show Grew wr.drew w6' (.slice none 0 0) v6 from hG6); have O6L := Lib.hid (show wr.heap.size ≤ w6'.heap.size from hG6.1.size); have R6 := Lib.hid (RN.out.below (below_of_grown_ hG6.1)); obtain ⟨A6, c6, rfl, -, -⟩ := hO6.clip; clear hO6 hG6))
        have hb6 : Below wr.heap.size wr w6' := (Below.refl wr.heap.size wr).drew.trans (below_of_grown_ G6.out.1)
        have hb8 : Below wr.heap.size wr w8' := below_grown_own_ hb6 G8.out.1 O6.out
        have B8 := Lib.hid hb8
        have L8' := Lib.hid (LR.out.below hb8)
        have E8' := Lib.hid (ER.out.below hb8)
        obtain ⟨Z, z1, z2⟩ := O8.out.has
        have SE := Lib.hid (show k = c2 → Ents w8' (.slice A8 (i0 + k) c8) ge from fun hkc => by
          have hel : El (.slice A8 (i0 + k) c8) ((wl.take i0 ++ nl.take c2).map litE) (Z ++ X) := el_lit (fun w' hw => by
            have hzz := z2 w' fun q hq => hw q (List.mem_append_left _ hq)
            rw [litC_append, List.length_append, List.length_take, List.length_take, Nat.min_eq_left HM.out.lo, Nat.min_eq_left HC1.out, ← hkc]
            exact hzz) (fun x hx => by
              rcases List.mem_append.1 hx with hx | hx
              · exact List.mem_append_right _ (WS.out x (List.mem_of_mem_take hx))
              · exact List.mem_append_right _ (HST.out x (List.mem_of_mem_take hx)))
          rw [HG.out]
          exact hel.ents fun q hq => by
            rcases List.mem_append.1 hq with hq | hq
            · exact (z1 q hq).2
            · exact L8'.out.has q (List.mem_append_right _ hq))
        obtain ⟨ik, hik⟩ : ∃ ik, ik = i0 + k := ⟨_, rfl⟩
        rw [← hik] at SE
        have IK := Lib.hid hik
        have hgk := HGL.out
        clear hb6 hb8 z1 z2 ci
        by_cases hkc : k = c2
        · have SM := Lib.hid (samees_any ge (by rw [HG.out]; exact same4 _) (.slice P8 gl gl) (.slice A8 ik c8) w8' E8'.out (SE.out hkc) (by have := LK.out.2.bi; omega))
          clear hkc hgk hik
          go_wp2_with fail
          rw [← IK.out]
          refine SM.out.mono ?_
          rintro ea wa ⟨rfl, ba⟩
          have BA := Lib.hid (L8'.out.below ba).bel
          clear ba
          go_wp2_with fail
          refine (llives _ (TT.out.below BA.out)).mono ?_
          rintro eb wb ⟨rfl, bb⟩
          have BB := Lib.hid (BA.out.trans (bb.mono BA.out.size))
          clear bb
          go_wp2
          go_ret
          exact ⟨rfl, BB.out⟩
        · have SM := Lib.hid (samees_len P8 A8 gl ik gl c8 w8' (by have := K12.out.2; omega) (by have := HC1.out; have := UN.out; omega) (by have := HC1.out; have := UN.out; have := K12.out.2; omega))
          have KC := Lib.hid (show k + 1 ≤ c2 by have := K12.out.2; omega)
          clear hkc hgk hik
          go_wp2_with fail
          rw [← IK.out]
          refine SM.out.mono ?_
          rintro ea wa ⟨rfl, ba⟩
          have BA := Lib.hid (show Below w9.heap.size w9 wa from BW.out.trans ((bel2 B8.out ba).mono BW.out.size))
          clear ba
          go_wp2
          go_roundw
          case rel => exact ⟨k + 1, by go_num, by omega, KC.out, BA.out⟩
          case measure => have := KC.out; simp [intOf]; omega
end Go.Proofs.YtnegondlkfeleaaGreatDoor
