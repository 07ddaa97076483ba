/- CheckupsTwin: the walk. -/
import Derived.Test.YtoiclicechfmgaaGreatDoorVa
import Derived.Test.YtoiclicechfmgaaGreatDoorUe
import Derived.Deep.RegionLaw
namespace Go.Proofs.YtoiclicechfmgaaGreatDoor
open Go.RowKit

theorem al_twin {a b : Mst} (ha : Al a b) {w : World} {d m : Nat} {F G : List Nat} (hd : Md w d a F) (hr : RMd w m b G) : Al (twS a (b.fs.map fun q : ByteArray × List Int × Nat => q.1) (b.fs.map fun q : ByteArray × List Int × Nat => q.1).length) (rtS b b.fs.length) := by
  rw [List.length_map]
  exact tw_al ha hr.most (fun nm hn => hd.names nm (ha.names.mem_iff.2 hn)) (fun nm => readM_len hd nm) _ (Nat.le_refl _)

set_option maxHeartbeats 8000000 in
set_option maxRecDepth 100000 in
theorem ctwin_walk (v : Value) (rs : List FlR) (r : FlR) (w : World) (h : Frs w v rs) (hr : FrOk w r) (hl : rs.length ≤ 9223372036854775807) (T : Tab w) (h0 : 0 < w.heap.size) :
    Calls Tryz.prog 4 #[v, .agg #[.string r.nm, r.bv]] w fun e w' => e = .returned (.bool true) ∧ Below w.heap.size w w' := by
  have LV := Lib.hid (fun (u : World) (hb : Below w.heap.size w u) => clives u (tab_at T h0 hb) (by have := hb.size; omega))
  have H := Lib.hid h
  have HR := Lib.hid hr
  have HL := Lib.hid hl
  obtain ⟨A, c, rfl, hc⟩ := h.shape
  obtain ⟨AX, cX, hbv, -⟩ := id hr.bv
  obtain ⟨nm, bv, bs⟩ := r
  simp only at hbv
  subst hbv
  obtain ⟨L, hL⟩ : ∃ L, L = bs.length := ⟨_, rfl⟩
  have LL := Lib.hid hL
  obtain ⟨n, hn⟩ : ∃ n, n = rs.length := ⟨_, rfl⟩
  have NN := Lib.hid hn
  have O0 := Lib.hid ((Sy.start w).alloc 24 #[.string nm, .slice AX L cX])
  have k0 := Blk.new w 24 #[.string nm, .slice AX L cX]
  have G1 := Lib.hid (great_f _ rs _ (h.below O0.out.bel) hl)
  simp only [← hL, ← hn] at G1 ⊢
  have x0 := (k0.cell 0).trans (show _ = some (.string nm) from rfl)
  have x1 := (k0.cell 1).trans (show _ = some (.slice AX L cX) from rfl)
  clear h hr hl T hL hn k0
  go_enter Tryz.func4, Tryz.ntmps4
  go_wp2_with fail
  refine G1.out.mono ?_
  rintro e w2 ⟨he, m, rfl⟩
  have O2 := Lib.hid (O0.out.drewN m)
  have k2 := O2.out.blk (g := w.heap.size) (.head _)
  generalize (w.alloc (.cells #[.string nm, .slice AX L cX] 24)).drewN m = w2 at *
  have x0 := (k2.cell 0).trans (show _ = some (.string nm) from rfl)
  have x1 := (k2.cell 1).trans (show _ = some (.slice AX L cX) from rfl)
  clear k2 O0 G1
  rcases he with rfl | ⟨rfl, hg⟩
  · go_wp2_with fail
    refine (LV.out _ O2.out.bel).mono ?_
    rintro e w3 ⟨rfl, b3⟩
    have B3 := Lib.hid (O2.out.below b3).bel
    clear b3
    go_wp2
    go_ret
    exact ⟨rfl, B3.out⟩
  have HG := Lib.hid hg
  have O3 := Lib.hid (O2.out.alloc 24 #[.string nm, .slice AX L cX])
  have G2 := Lib.hid (great_f _ [⟨nm, .slice AX L cX, bs⟩] _ (frs_one (O3.out.blk (.head _)) (by have := HR.out; rw [← LL.out] at this; exact this.below O3.out.bel)) (by simp))
  clear hg
  go_wp2_with fail
  refine G2.out.mono ?_
  rintro e w4 ⟨he, m4, rfl⟩
  have O4 := Lib.hid (O3.out.drewN m4).drop_
  generalize (w2.alloc (.cells #[.string nm, .slice AX L cX] 24)).drewN m4 = w4 at *
  clear O3 G2 x0 x1
  rcases he with rfl | ⟨rfl, hg⟩
  · go_wp2_with fail
    refine (LV.out _ O4.out.bel).mono ?_
    rintro e w3 ⟨rfl, b3⟩
    have B3 := Lib.hid (O4.out.below b3).bel
    clear b3
    go_wp2
    go_ret
    exact ⟨rfl, B3.out⟩
  have LX := Lib.hid (show bs.length ≤ 80000 from hg.2 ⟨nm, .slice AX L cX, bs⟩ (by simp))
  clear hg
  go_wp2_with fail
  refine (mnew _).mono ?_
  rintro e w5 ⟨rfl, hm5, b5⟩
  obtain ⟨d, hd⟩ : ∃ d, d = w4.heap.size + 1 := ⟨_, rfl⟩
  rw [← hd] at hm5 ⊢
  have O5 := Lib.hid (O4.out.put (o := mdO d ⟨[], -1, false⟩) b5 hm5 (by intro k hk; simp at hk; omega))
  have O6 := Lib.hid ((O5.out.put (o := rmO w5.heap.size ⟨[], -1, false⟩) (below_alloc_ _ _) (RMd.new w5) (by simp)).sw2)
  obtain ⟨mr, hmr⟩ : ∃ mr, mr = w5.heap.size := ⟨_, rfl⟩
  clear b5 hm5 hd
  go_upto_region 5 with fail
  generalize hw6 : w5.alloc (.cells #[.slice none 0 0, .bool false, .int .i64 0, .bool false] 54) = w6 at *
  rw [← hmr] at O6 ⊢
  clear hw6 hmr O5 O4 O2
  go_wp2
  go_loopg [7] n (fun q c7 wr => ∃ (k : Nat) (a b : Mst), k ≤ n ∧ q = n - k ∧ c7 = .int .i64 k ∧ Al a b ∧ a.fuse = -1 ∧ a.dead = false ∧ Sy w.heap.size w wr [mdO d a, rmO mr b, blO w.heap.size 24 #[.string nm, .slice AX L cX]])
  case atStart => exact ⟨0, ⟨[], -1, false⟩, ⟨[], -1, false⟩, by omega, by omega, rfl, ⟨.refl _, List.Pairwise.nil, rfl, rfl⟩, rfl, rfl, O6.out⟩
  case round =>
    obtain ⟨k, a, b, hk, hq, rfl, ha, hf, hdd, O⟩ := hrel
    have Q := Lib.hid hq
    have HA := Lib.hid ha
    have O7 := Lib.hid O
    have HF := Lib.hid hf
    have HD := Lib.hid hdd
    clear hq ha O hf hdd
    by_cases hkn : k < n
    · have hkr : k < rs.length := by have := NN.out; omega
      obtain ⟨g, o, rfl, hgl, c0, c1⟩ := (show Frs w (.slice A n c) rs from by have := H.out; rw [← NN.out] at this; exact this).at_ k hkr
      have hok := H.out.ok _ (List.getElem_mem hkr)
      have hl80 := HG.out.2 _ (List.getElem_mem hkr)
      have hbs := hok.bv
      have hby := hok.by_
      obtain ⟨AB, cB, hbv, -⟩ := id hok.bv
      rw [hbv] at c1 hbs
      obtain ⟨fb, hfb⟩ : ∃ fb, fb = rs[k].bs := ⟨_, rfl⟩
      obtain ⟨fn, hfn⟩ : ∃ fn, fn = rs[k].nm := ⟨_, rfl⟩
      rw [← hfb] at c1 hbs hby hl80
      rw [← hfn] at c0
      obtain ⟨rr, a', b', ha', hf', hd', CA, CR⟩ := sd_add (d := d) (m := mr) HA.out fn fb hby (by omega) HF.out HD.out
      have HA' := Lib.hid ha'
      have HF' := Lib.hid hf'
      have HD' := Lib.hid hd'
      have CAH := Lib.hid CA
      have CRH := Lib.hid CR
      have CC := Lib.hid (show ∀ u, Below w.heap.size w u → u.cell? ⟨g, o + k * 2, none⟩ = some (.string fn) ∧ u.cell? ⟨g, o + k * 2 + 1, none⟩ = some (.slice AB fb.length cB) from fun u hu => ⟨cell_on hu hgl c0, cell_on hu hgl c1⟩)
      have BV := Lib.hid (show ∀ u, Below w.heap.size w u → Bs u (.slice AB fb.length cB) fb from fun u hu => hbs.below hu)
      have IN := Lib.hid hkn
      have hin' : (k : Int) < (n : Int) := by omega
      have hk0 : (0 : Int) ≤ (k : Int) := by omega
      have hw1 : IntKind.i64.wrap ((k : Int) + 1) = (k : Int) + 1 := IntWalk.i64_in _ (by have := HG.out.1; have := NN.out; omega)
      obtain ⟨lb, hlb⟩ : ∃ lb, lb = fb.length := ⟨_, rfl⟩
      rw [← hlb] at CC BV
      obtain ⟨cc0, cc1⟩ := CC.out _ O7.out.bel
      clear hok hl80 hbs hby hbv hfb hfn c0 c1 ha' hf' hd' CA CR hkn hkr hgl hlb
      go_upto_region 8 with fail
      go_region_held3 (fun w' => w'.cell? ⟨g, o + k * 2, none⟩ = some (.string fn) ∧ w'.cell? ⟨g, o + k * 2 + 1, none⟩ = some (.slice AB lb cB)) (first
        | (with_reducible exact CC.out _ o8.bel)
        | (with_reducible exact CC.out _ O7.out.bel.drew)
        | fail)
        (first
        | (go_at_call 14; refine (CAH.out _ _ _ _ _ (O7.out.drewN 1) (BV.out _ (O7.out.drewN 1).bel)).mono ?_; rintro e w8 ⟨rfl, o8, -⟩))
      have O8 := Lib.hid o8.sw2
      clear o8
      go_upto_region 9 with fail
      go_region_held3 (fun w' => w'.cell? ⟨g, o + k * 2, none⟩ = some (.string fn) ∧ w'.cell? ⟨g, o + k * 2 + 1, none⟩ = some (.slice AB lb cB)) (first
        | (with_reducible exact CC.out _ o9.bel)
        | (with_reducible exact CC.out _ O8.out.bel.drew)
        | fail)
        (first
        | (go_at_call 15; refine (CRH.out _ _ _ _ _ (O8.out.drewN 1) (BV.out _ (O8.out.drewN 1).bel)).mono ?_; rintro e w9 ⟨rfl, o9, -⟩))
      have O9 := Lib.hid o9.sw2
      clear o9
      go_wp2
      go_roundg (n - (k + 1))
      case measure => have := Q.out; have := IN.out; omega
      case rel => exact ⟨k + 1, a', b', by have := IN.out; omega, rfl, by simp, HA'.out, HF'.out, HD'.out, O9.out⟩
    · obtain rfl : k = n := by omega
      have hkk : ¬ (k : Int) < (k : Int) := by omega
      obtain ⟨Fd, hmd⟩ := O7.out.md (.head _)
      obtain ⟨Gm, hmm⟩ := O7.out.rmd (.tail _ (.head _))
      have hAT := al_twin HA.out hmd hmm
      have TW := Lib.hid (mtwin d a Fd (b.fs.map fun q : ByteArray × List Int × Nat => q.1) wr hmd HD.out HA.out.names HA.out.so)
      have fT : (twS a (b.fs.map fun q : ByteArray × List Int × Nat => q.1) (b.fs.map fun q : ByteArray × List Int × Nat => q.1).length).fuse = -1 := rfl
      have dT : (twS a (b.fs.map fun q : ByteArray × List Int × Nat => q.1) (b.fs.map fun q : ByteArray × List Int × Nat => q.1).length).dead = false := rfl
      obtain ⟨aT, haT⟩ : ∃ aT, aT = twS a (b.fs.map fun q : ByteArray × List Int × Nat => q.1) (b.fs.map fun q : ByteArray × List Int × Nat => q.1).length := ⟨_, rfl⟩
      rw [← haT] at hAT TW fT dT
      have RW := Lib.hid (fun (u : World) (hb : Below wr.heap.size wr u) => rtwin_any mr b Gm u (hmm.below hb))
      obtain ⟨bT, hbT⟩ : ∃ bT, bT = rtS b b.fs.length := ⟨_, rfl⟩
      rw [← hbT] at hAT RW
      have HAT := Lib.hid hAT
      have BV := Lib.hid (show ∀ u, Below w.heap.size w u → Bs u (.slice AX L cX) bs from fun u hu => by have := HR.out.bv.below hu; simpa [← LL.out] using this)
      have BY := Lib.hid (show ∀ c ∈ bs, byt c from HR.out.by_)
      clear hmd hmm hAT haT hbT fT dT Q hkk
      go_wp2_with fail
      refine TW.out.mono ?_
      rintro e w8 ⟨t, rfl, ⟨Ft, hmt, hFt⟩, b8⟩
      have O8 := Lib.hid (O7.out.put (o := mdO t aT) b8 hmt hFt)
      have RW8 := Lib.hid (RW.out _ b8)
      clear hmt hFt b8 TW RW
      go_wp2_with fail
      refine RW8.out.mono ?_
      rintro e w9 ⟨u, rfl, ⟨Fu, hmu, hFu⟩, b9⟩
      have O9 := Lib.hid (O8.out.put (o := rmO u bT) b9 hmu hFu).sw2
      obtain ⟨F1, h1⟩ := O9.out.md (.head _)
      obtain ⟨G1, h2⟩ := O9.out.rmd (.tail _ (.head _))
      have S1 := Lib.hid (same_mall h1 h2 HAT.out)
      clear hmu hFu b9 RW8 O8 h1 h2
      go_wp2_with fail
      refine S1.out.mono ?_
      rintro e w10 ⟨rfl, b10⟩
      have O11 := Lib.hid (O9.out.below b10).sw3.sw4.sw2
      clear b10 S1 O9
      obtain ⟨rr, a', b', ha', hf', hd', CA, CR⟩ := sd_add (d := d) (m := mr) HA.out nm bs BY.out (by have := LX.out; omega) HF.out HD.out
      have SM1 := Lib.hid (show ∀ v : World, Sy w.heap.size w v [rmO mr b', mdO d a', mdO t aT, rmO u bT, blO w.heap.size 24 #[.string nm, .slice AX L cX]] → Calls Tryz.prog 17 #[.pointer (some ⟨t, 0, none⟩), .pointer (some ⟨u, 0, none⟩)] v fun e w' => e = .returned (.bool true) ∧ Below v.heap.size v w' from fun v O => by
        obtain ⟨F1, h1⟩ := O.md (.tail _ (.tail _ (.head _)))
        obtain ⟨G1, h2⟩ := O.rmd (.tail _ (.tail _ (.tail _ (.head _))))
        exact same_mall h1 h2 HAT.out)
      have SM2 := Lib.hid (show ∀ v : World, Sy w.heap.size w v [rmO mr b', mdO d a', mdO t aT, rmO u bT, blO w.heap.size 24 #[.string nm, .slice AX L cX]] → Calls Tryz.prog 17 #[.pointer (some ⟨d, 0, none⟩), .pointer (some ⟨mr, 0, none⟩)] v fun e w' => e = .returned (.bool true) ∧ Below v.heap.size v w' from fun v O => by
        obtain ⟨F1, h1⟩ := O.md (.tail _ (.head _))
        obtain ⟨G1, h2⟩ := O.rmd (.head _)
        exact same_mall h1 h2 ha')
      have CAH := Lib.hid CA
      have CRH := Lib.hid CR
      have CX := Lib.hid (show ∀ (v : World) (os : List Ob), Sy w.heap.size w v os → blO w.heap.size 24 #[.string nm, .slice AX L cX] ∈ os → v.cell? ⟨w.heap.size, 0, none⟩ = some (.string nm) ∧ v.cell? ⟨w.heap.size, 1, none⟩ = some (.slice AX L cX) from fun v os O hm =>
        ⟨((O.blk hm).cell 0).trans rfl, ((O.blk hm).cell 1).trans rfl⟩)
      obtain ⟨y0, y1⟩ := CX.out _ _ O11.out (.tail _ (.tail _ (.tail _ (.tail _ (.head _)))))
      have CXD := Lib.hid (show w10.drew.cell? ⟨w.heap.size, 0, none⟩ = some (.string nm) ∧ w10.drew.cell? ⟨w.heap.size, 1, none⟩ = some (.slice AX L cX) from ⟨y0, y1⟩)
      clear ha' hf' hd' CA CR
      go_upto_region 14 with fail
      go_region_held3 (fun w' => w'.cell? ⟨w.heap.size, 0, none⟩ = some (.string nm) ∧ w'.cell? ⟨w.heap.size, 1, none⟩ = some (.slice AX L cX)) (first
        | (with_reducible exact cx15.out)
        | (with_reducible exact cx14.out)
        | (with_reducible exact cx13.out)
        | (with_reducible exact cx12.out)
        | (with_reducible exact CXD.out)
        | fail)
        (first
        | (go_at_call 17; refine (SM2.out _ o14).mono ?_; rintro e w15 ⟨rfl, b15⟩; have o15 := o14.below b15; have cx15 := Lib.hid (CX.out _ _ o15 (.tail _ (.tail _ (.tail _ (.tail _ (.head _)))))))
        | (go_at_call 17; refine (SM1.out _ o13).mono ?_; rintro e w14 ⟨rfl, b14⟩; have o14 := o13.below b14; have cx14 := Lib.hid (CX.out _ _ o14 (.tail _ (.tail _ (.tail _ (.tail _ (.head _)))))))
        | (go_at_call 15; refine (CRH.out _ _ _ _ _ o12.sw2 (BV.out _ o12.bel)).mono ?_; rintro e w13 ⟨rfl, o13, -⟩; have cx13 := Lib.hid (CX.out _ _ o13 (.tail _ (.tail _ (.tail _ (.tail _ (.head _)))))))
        | (go_at_call 14; refine (CAH.out _ _ _ _ _ (O11.out.drewN 1) (BV.out _ (O11.out.drewN 1).bel)).mono ?_; rintro e w12 ⟨rfl, o12, -⟩; have cx12 := Lib.hid (CX.out _ _ o12 (.tail _ (.tail _ (.tail _ (.tail _ (.head _))))))))
      have O15 := Lib.hid o15.sw3
      obtain ⟨a2, b2, ha2, -, -, CL, CM⟩ := sd_lift (d := t) (m := u) HAT.out
      have HA2 := Lib.hid ha2
      have CL1 := Lib.hid (CL _ _ _ _ o15.sw3)
      have CMH := Lib.hid CM
      clear o12 o13 o14 o15 cx12 cx13 cx14 cx15 b14 b15 CXD CX SM1 SM2 CAH CRH y0 y1 ha2 CL CM O11 O7
      go_wp2_with fail
      refine CL1.out.mono ?_
      rintro e w16 ⟨rfl, o16, -⟩
      have CM1 := Lib.hid (CMH.out _ _ _ _ o16.sw4)
      clear o16 CL1 CMH O15
      go_wp2_with fail
      refine CM1.out.mono ?_
      rintro e w17 ⟨rfl, o17, -⟩
      have O17 := Lib.hid o17.sw2
      obtain ⟨F17, h17⟩ := O17.out.md (.head _)
      have NA := Lib.hid (mnames t a2 F17 (b2.fs.map fun q : ByteArray × List Int × Nat => q.1) w17 h17 HA2.out.names HA2.out.so)
      have N16 := Lib.hid (show (b2.fs.map fun q : ByteArray × List Int × Nat => q.1).length ≤ 16 from by have := h17.most; have := HA2.out.fs.length_eq; simp; omega)
      obtain ⟨N, hN⟩ : ∃ N, N = b2.fs.map fun q : ByteArray × List Int × Nat => q.1 := ⟨_, rfl⟩
      rw [← hN] at NA N16
      clear o17 h17 CM1 hN
      go_wp2_with fail
      refine NA.out.mono ?_
      rintro e w18 ⟨P, rfl, hrd, b18, -⟩
      have O18 := Lib.hid (O17.out.below b18)
      have RD := Lib.hid hrd
      obtain ⟨n2, hn2⟩ : ∃ n2, n2 = N.length := ⟨_, rfl⟩
      have NL := Lib.hid hn2
      rw [← hn2] at N16 ⊢
      clear hrd b18 hn2 NA O17
      go_wp2
      go_loopg [11, 12, 13, 14, 15] n2 (fun q c11 c12 c13 c14 c15 wl => ∃ j : Nat, j ≤ n2 ∧ q = n2 - j ∧ c11 = .int .i64 j ∧ Below w18.heap.size w18 wl)
      case atStart => exact ⟨0, by omega, by omega, rfl, Below.refl _ _⟩
      case round =>
        obtain ⟨j, hj, hq, rfl, hb⟩ := hrel
        have BB := Lib.hid hb
        have GG := Lib.hid hq
        have OL := Lib.hid (O18.out.below hb)
        obtain ⟨Ft, ht⟩ := OL.out.md (.head _)
        obtain ⟨Gu, hu⟩ := OL.out.rmd (.tail _ (.head _))
        have HTL := Lib.hid ht
        have HUL := Lib.hid hu
        by_cases hjn : j < n2
        · have hjr : j < N.length := by have := NL.out; omega
          obtain ⟨A', c', hv, -, -, h0 | ⟨g, o, rfl, hgl, hcl⟩⟩ := RD.out
          · omega
          injection hv with hP h2 h3
          subst hP
          clear h2 h3
          have hcell := hcl j (.string N[j]) (by rw [List.getElem?_map, List.getElem?_eq_getElem hjr]; rfl)
          obtain ⟨fn, hfn⟩ : ∃ fn, fn = N[j] := ⟨_, rfl⟩
          rw [← hfn] at hcell
          have gl := block_lt_of_cell hcell
          have C2 := Lib.hid (show ∀ v, Below w18.heap.size w18 v → v.cell? ⟨g, o + j, none⟩ = some (.string fn) from fun v hv => (hv.cell gl).trans hcell)
          have hin' : (j : Int) < (n2 : Int) := by omega
          have hj0 : (0 : Int) ≤ (j : Int) := by omega
          have hw1 : IntKind.i64.wrap ((j : Int) + 1) = (j : Int) + 1 := IntWalk.i64_in _ (by have := N16.out; omega)
          obtain ⟨rx, re, hrs⟩ : ∃ rx re, readM b2 fn = (rx, re) := ⟨_, _, rfl⟩
          have RA := Lib.hid ((HA2.out.read fn).trans hrs)
          have RB := Lib.hid hrs
          have RL := Lib.hid (show rx.length ≤ 1048576 from by have := readM_len HTL.out fn; rw [RA.out] at this; exact this)
          have cs := C2.out _ hb
          have IN := Lib.hid hjn
          have DR := mread fn t _ _ _ HTL.out
          rw [RA.out] at DR
          clear hq hb ht hu hgl hcl hcell hfn gl hrs hjr hjn
          go_wp2_with fail
          refine DR.mono ?_
          rintro e w19 ⟨P3, rfl, o3, b3⟩
          have O3 := Lib.hid o3.bs
          have B3 := Lib.hid (BB.out.trans (b3.mono BB.out.size))
          have HU3 := Lib.hid (HUL.out.below b3)
          have cs3 := C2.out _ B3.out
          clear DR o3 b3 cs
          have RR := mread_ref fn u _ _ _ HU3.out
          rw [RB.out] at RR
          go_wp2_with fail
          refine RR.mono ?_
          rintro e w20 ⟨u4, rfl, o4, b4⟩
          obtain ⟨A4, c4, rfl, -⟩ := id o4.clip
          have O4 := Lib.hid o4.bs
          have O3' := Lib.hid (O3.out.below b4)
          have B4 := Lib.hid (B3.out.trans (b4.mono B3.out.size))
          have SB := Lib.hid (sameb_any rx rx _ _ w20 O3'.out O4.out (by have := RL.out; omega))
          rw [show decide (rx = rx) = true from decide_eq_true rfl] at SB
          clear RR o4 b4 cs3
          obtain ⟨lr, hlr⟩ : ∃ lr, lr = rx.length := ⟨_, rfl⟩
          rw [← hlr] at SB ⊢
          clear hlr
          go_wp2_with fail
          refine SB.out.mono ?_
          rintro e w21 ⟨rfl, m21, rfl⟩
          have B5 := Lib.hid (B4.out.trans (below_drewN_ _ _ m21))
          clear SB
          go_wp2
          go_roundg (n2 - (j + 1))
          case measure => have := GG.out; have := IN.out; omega
          case rel => exact ⟨j + 1, by have := IN.out; omega, rfl, by simp, B5.out⟩
        · obtain rfl : j = n2 := by omega
          have hjj : ¬ (j : Int) < (j : Int) := by omega
          have S2 := Lib.hid (same_mall HTL.out HUL.out HA2.out)
          clear hq hb ht hu
          go_wp2_with fail
          refine S2.out.mono ?_
          rintro e w22 ⟨rfl, b22⟩
          have O22 := Lib.hid (OL.out.below b22)
          clear b22 S2
          go_wp2_with fail
          refine (LV.out _ O22.out.bel).mono ?_
          rintro e w23 ⟨rfl, b23⟩
          have B23 := Lib.hid (O22.out.below b23).bel
          clear b23
          go_wp2
          go_ret
          exact ⟨rfl, B23.out⟩
end Go.Proofs.YtoiclicechfmgaaGreatDoor
