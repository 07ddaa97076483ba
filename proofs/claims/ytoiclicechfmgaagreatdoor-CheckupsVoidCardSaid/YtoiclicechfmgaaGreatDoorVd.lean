/- CheckupsVoid: the walk. -/
import Derived.Test.YtoiclicechfmgaaGreatDoorVc
namespace Go.Proofs.YtoiclicechfmgaaGreatDoor
open Go.RowKit

abbrev dead0 : Mst := ⟨[], 0, true⟩
theorem put_fused (len : Nat) (xs : List Int) (hl : len ≤ 1048576) : doesM ⟨[], 0, false⟩ nmX len true (fun _ => some (xs, xs.length)) = (dead0, 17) := by
  have ha : askM ⟨[], 0, false⟩ nmX = 0 := by
    unfold askM
    rw [if_neg (by simp), if_neg (by decide)]
  unfold doesM
  rw [if_neg (by simp [ha]), if_neg (by simp), if_neg (by simp; omega), if_pos rfl]
theorem read_dead0 : readM dead0 nmL = ([], 17) := by
  have ha : askM dead0 nmL = 17 := by unfold askM; rw [if_pos rfl]
  unfold readM
  rw [if_pos (by simp [ha]), ha]
theorem dead_bad {w : World} {d : Nat} {F : List Nat} (h : Md w d dead0 F) : BadD w (some ⟨d, 0, none⟩) 17 := fun u hu => by
  have := mread nmL d dead0 F u (h.below hu)
  rw [read_dead0] at this
  exact this.mono fun e w' ⟨P, he, _, hb⟩ => ⟨P, he, hb⟩

set_option maxHeartbeats 8000000 in
set_option maxRecDepth 100000 in
theorem cvoid_walk (r : FlR) (w : World) (hr : FrOk w r) (T : Tab w) (h0 : 0 < w.heap.size) :
    Calls Tryz.prog 3 #[.agg #[.string r.nm, r.bv]] w fun e w' => e = .returned (.bool true) ∧ Below w.heap.size w w' := by
  have LV := Lib.hid (fun (u : World) (hb : Below w.heap.size w u) => clives u (tab_at T h0 hb) (by have := hb.size; omega))
  have HR := Lib.hid hr
  obtain ⟨AX, cX, hbv, -⟩ := id hr.bv
  obtain ⟨nm, bv, bs⟩ := r
  simp only at hbv
  subst hbv
  obtain ⟨L, hL⟩ : ∃ L, L = bs.length := ⟨_, rfl⟩
  have LL := Lib.hid hL
  have O0 := Lib.hid ((Sy.start w).alloc 24 #[.string nm, .slice AX L cX])
  have k0 := Blk.new w 24 #[.string nm, .slice AX L cX]
  have O1 := Lib.hid (O0.out.alloc 24 #[.string nm, .slice AX L cX])
  have G2 := Lib.hid (great_f _ [⟨nm, .slice AX L cX, bs⟩] _ (frs_one (O1.out.blk (.head _)) (by have := HR.out; rw [← LL.out] at this; exact this.below O1.out.bel)) (by simp))
  simp only [← hL] at G2 ⊢
  have x0 := (k0.cell 0).trans (show _ = some (.string nm) from rfl)
  have x1 := (k0.cell 1).trans (show _ = some (.slice AX L cX) from rfl)
  clear hr T hL k0
  go_enter Tryz.func3, Tryz.ntmps3
  go_upto_region 1 with fail
  obtain ⟨w1, hw1⟩ : ∃ w1, w1 = w.alloc (.cells #[.string nm, .slice AX L cX] 24) := ⟨_, rfl⟩
  simp only [← hw1] at O0 O1 G2 x0 x1 ⊢
  clear hw1
  go_wp2_with fail
  refine G2.out.mono ?_
  rintro e w2 ⟨he, m, rfl⟩
  have O2 := Lib.hid (O1.out.drewN m).drop_
  generalize (w1.alloc (.cells #[.string nm, .slice AX L cX] 24)).drewN m = w2 at *
  clear O1 G2 x0 x1 O0
  rcases he with rfl | ⟨rfl, hg⟩
  · go_wp2_with fail
    refine (LV.out _ O2.out.bel).mono ?_
    rintro e w3 ⟨rfl, b3⟩
    have B3 := Lib.hid (O2.out.below b3).bel
    clear b3
    go_wp2
    go_ret
    exact ⟨rfl, B3.out⟩
  have LX := Lib.hid (show bs.length ≤ 80000 from hg.2 ⟨nm, .slice AX L cX, bs⟩ (by simp))
  clear hg
  go_upto_region 5 with fail
  have O3 := (O2.out.alloc 30 #[.map none, .int .i64 0, .bool false]).alloc 31 #[.pointer none, .pointer (some ⟨w2.heap.size, 0, none⟩)]
  simp only [World.size_alloc] at O3
  have O4 := Lib.hid O3
  obtain ⟨nb, hnb⟩ : ∃ nb, nb = w2.heap.size := ⟨_, rfl⟩
  obtain ⟨lb, hlb⟩ : ∃ lb, lb = w2.heap.size + 1 := ⟨_, rfl⟩
  obtain ⟨w4, hw4⟩ : ∃ w4, w4 = (w2.alloc (.cells #[.map none, .int .i64 0, .bool false] 30)).alloc (.cells #[.pointer none, .pointer (some ⟨w2.heap.size, 0, none⟩)] 31) := ⟨_, rfl⟩
  rw [← hw4, ← hlb, ← hnb] at O4
  rw [← hw4, ← hlb, ← hnb]
  clear O3 hw4 hlb hnb O2
  have CP := Lib.hid (show ∀ i : Nat, i < 2 → ∃ p, VoidD w4 p ∧ ∀ u, Below w4.heap.size w4 u → u.cell? ⟨lb, i, none⟩ = some (.pointer p) from fun i hi => by
    have kl := O4.out.blk (g := lb) (.head _)
    have kn := O4.out.blk (g := nb) (.tail _ (.head _))
    match i with
    | 0 => exact ⟨none, .inl rfl, fun u hu => ((kl.below hu kl.lt).cell 0).trans rfl⟩
    | 1 => exact ⟨some ⟨nb, 0, none⟩, .inr ⟨nb, rfl, (kn.cell 0).trans rfl⟩, fun u hu => ((kl.below hu kl.lt).cell 1).trans rfl⟩
    | j + 2 => omega)
  go_wp2
  go_loopg [5, 6, 7, 8, 9] 2 (fun q c5 c6 c7 c8 c9 wr => ∃ i : Nat, i ≤ 2 ∧ q = 2 - i ∧ c5 = .int .i64 i ∧ Below w4.heap.size w4 wr)
  case atStart => exact ⟨0, by omega, by omega, rfl, Below.refl _ _⟩
  case round =>
    obtain ⟨i, hi, hq, rfl, hb⟩ := hrel
    have BB := Lib.hid hb
    have GG := Lib.hid hq
    by_cases hin : i < 2
    · obtain ⟨p, hv, hc⟩ := CP.out i hin
      have hin' : (i : Int) < 2 := by omega
      have hi0 : (0 : Int) ≤ (i : Int) := by omega
      have hw1 : IntKind.i64.wrap ((i : Int) + 1) = (i : Int) + 1 := IntWalk.i64_in _ (by omega)
      have HC := Lib.hid hc
      have BD := Lib.hid hv.bad
      have c0 := hc _ hb
      have IN := Lib.hid hin
      clear hq hb hc hv hin
      go_wp2_with fail
      refine (look_bad p 2 (.inl rfl) wr (BD.out.at_ BB.out)).mono ?_
      rintro e w5 ⟨rfl, b5⟩
      have B6 := Lib.hid (bel2 (BB.out.trans (b5.mono BB.out.size)) (below_alloc_ w5 (.cells #[.slice none 0 0, .int .u64 0, .int .u8 0, .int .u64 0, .int .u64 0, .int .u64 0, .bool false] 36)))
      have K6 := Lib.hid (Blk.new w5 36 #[.slice none 0 0, .int .u64 0, .int .u8 0, .int .u64 0, .int .u64 0, .int .u64 0, .bool false])
      go_upto_region 9 with fail
      obtain ⟨g6, hg6⟩ : ∃ g6, g6 = w5.heap.size := ⟨_, rfl⟩
      obtain ⟨w6, hw6⟩ : ∃ w6, w6 = w5.alloc (.cells #[.slice none 0 0, .int .u64 0, .int .u8 0, .int .u64 0, .int .u64 0, .int .u64 0, .bool false] 36) := ⟨_, rfl⟩
      rw [← hw6] at B6 K6
      rw [← hg6] at K6
      rw [← hw6, ← hg6]
      have c6 := HC.out _ B6.out
      clear b5 hw6 hg6 c0
      go_wp2_with fail
      refine (mend_bad p 2 (.inl rfl) w6 (BD.out.at_ B6.out)).mono ?_
      rintro e w7 ⟨rfl, b7⟩
      have B7 := Lib.hid (B6.out.trans (b7.mono B6.out.size))
      have K7 := Lib.hid (K6.out.below b7 K6.out.lt)
      have r0 := K7.out.cell 0
      have r1 := K7.out.cell 1
      have r2 := K7.out.cell 2
      have r3 := K7.out.cell 3
      have r4 := K7.out.cell 4
      have r5 := K7.out.cell 5
      have r6 := K7.out.cell 6
      simp at r0 r1 r2 r3 r4 r5 r6
      clear b7 c6
      go_wp2_with fail
      refine (same_zero w7).mono ?_
      rintro e w8 ⟨rfl, b8⟩
      have B8 := Lib.hid (B7.out.trans (b8.mono B7.out.size))
      clear b8
      go_wp2
      go_roundg (2 - (i + 1))
      case measure => have := GG.out; have := IN.out; omega
      case rel => exact ⟨i + 1, by have := IN.out; omega, rfl, by simp, B8.out⟩
    · obtain rfl : i = 2 := by omega
      have O5 := Lib.hid ((O4.out.below BB.out).drop_.drop_)
      clear hq hb CP
      go_wp2_with fail
      refine (mnew _).mono ?_
      rintro e w5 ⟨rfl, hm5, b5⟩
      obtain ⟨d, hd⟩ : ∃ d, d = wr.heap.size + 1 := ⟨_, rfl⟩
      rw [← hd] at hm5 ⊢
      have O6 := Lib.hid (O5.out.put (o := mdO d ⟨[], -1, false⟩) b5 hm5 (by intro k hk; simp at hk; omega))
      have FU := Lib.hid (O6.out.doing (o' := mdO d ⟨[], 0, false⟩) fun F hm => (mfuse d _ F 0 (by omega) w5 hm).mono fun _ _ ⟨he, t⟩ => ⟨he, t.ob⟩)
      clear b5 hm5 hd
      go_wp2_with fail
      refine FU.out.mono ?_
      rintro e w6 ⟨rfl, o6, -⟩
      have BV := Lib.hid (show Bs w6 (.slice AX L cX) bs from by have := HR.out.bv.below o6.bel; simpa [← LL.out] using this)
      have PU := Lib.hid (o6.doing (o' := mdO d dead0) fun F hm => by
        have := mput nmX d _ F (.slice AX L cX) bs HR.out.by_ (by have := LX.out; omega) w6 hm BV.out
        rw [put_fused bs.length bs (by have := LX.out; omega)] at this
        exact this.mono fun _ _ ⟨he, t⟩ => ⟨he, t.ob⟩)
      have kx := o6.blk (g := w.heap.size) (.tail _ (.head _))
      have x1 := (kx.cell 1).trans (show _ = some (.slice AX L cX) from rfl)
      clear o6 FU kx
      go_wp2_with fail
      refine PU.out.mono ?_
      rintro e w7 ⟨rfl, o7, -⟩
      have O7 := Lib.hid o7
      obtain ⟨F7, h7⟩ := o7.md (.head _)
      have H7 := Lib.hid h7
      have BD := Lib.hid (dead_bad h7)
      clear o7 h7 PU x1
      go_wp2_with fail
      refine (look_bad _ 17 (.inr rfl) w7 BD.out).mono ?_
      rintro e w8 ⟨rfl, b8⟩
      have B9 := Lib.hid (bel2 b8 (below_alloc_ w8 (.cells #[.slice none 0 0, .int .u64 0, .int .u8 0, .int .u64 0, .int .u64 0, .int .u64 0, .bool false] 36)))
      have K9 := Lib.hid (Blk.new w8 36 #[.slice none 0 0, .int .u64 0, .int .u8 0, .int .u64 0, .int .u64 0, .int .u64 0, .bool false])
      go_upto_region 16 with fail
      obtain ⟨g9, hg9⟩ : ∃ g9, g9 = w8.heap.size := ⟨_, rfl⟩
      obtain ⟨w9, hw9⟩ : ∃ w9, w9 = w8.alloc (.cells #[.slice none 0 0, .int .u64 0, .int .u8 0, .int .u64 0, .int .u64 0, .int .u64 0, .bool false] 36) := ⟨_, rfl⟩
      rw [← hw9] at B9 K9
      rw [← hg9] at K9
      rw [← hw9, ← hg9]
      clear b8 hw9 hg9
      go_wp2_with fail
      refine (mend_bad _ 17 (.inr rfl) w9 (BD.out.at_ B9.out)).mono ?_
      rintro e w10 ⟨rfl, b10⟩
      have B10 := Lib.hid (bel2 B9.out b10)
      have K10 := Lib.hid (K9.out.below b10 K9.out.lt)
      have r0 := K10.out.cell 0
      have r1 := K10.out.cell 1
      have r2 := K10.out.cell 2
      have r3 := K10.out.cell 3
      have r4 := K10.out.cell 4
      have r5 := K10.out.cell 5
      have r6 := K10.out.cell 6
      simp at r0 r1 r2 r3 r4 r5 r6
      clear b10
      go_wp2_with fail
      refine (same_zero w10).mono ?_
      rintro e w11 ⟨rfl, b11⟩
      have B11 := Lib.hid (bel2 B10.out b11)
      have O11 := Lib.hid (O7.out.below B11.out)
      have TD := Lib.hid (twin_dead d dead0 F7 rfl w11 (H7.out.below B11.out))
      clear b11 r0 r1 r2 r3 r4 r5 r6
      go_wp2_with fail
      refine TD.out.mono ?_
      rintro e w12 ⟨rfl, rfl⟩
      go_wp2_with fail
      refine (LV.out _ O11.out.bel).mono ?_
      rintro e w13 ⟨rfl, b13⟩
      have B13 := Lib.hid (O11.out.below b13).bel
      clear b13
      go_wp2
      go_ret
      exact ⟨rfl, B13.out⟩
end Go.Proofs.YtoiclicechfmgaaGreatDoor
