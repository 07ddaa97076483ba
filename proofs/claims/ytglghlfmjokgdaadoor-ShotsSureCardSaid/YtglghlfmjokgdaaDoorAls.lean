/- An album on a disk: Set and Shot. -/
import Derived.Test.YtglghlfmjokgdaaDoorFil
import Derived.Test.YtglghlfmjokgdaaDoorAlb
namespace Go.Proofs.YtglghlfmjokgdaaDoor
open Go.RowKit

theorem Tab.at_ {B : Nat} {W w : World} (h : Tab W) (h0 : 0 < B) (hb : Below B W w) : Tab w := fun i hi => (hb.cell h0).trans (h i hi)
abbrev nmS : ByteArray := ⟨#[115, 104, 111, 116]⟩
/-- What Set answers, and leaves: the shot, whether the album is lost, the disk. -/
def setA (t v : Nat) (xs0 : List Int) (lost : Bool) (s : Dst) (T V : Nat) (xs : List Int) : Int × Nat × Nat × List Int × Bool × Dst :=
  if lost then (17, t, v, xs0, true, s) else if T ≤ t ∨ V < v then (1, t, v, xs0, false, s) else if 65536 < xs.length then (3, t, v, xs0, false, s) else
    if (doesS s (shotB T V xs).length true (fun _ => some (shotB T V xs, (shotB T V xs).length))).2 = 0 then (0, T, V, xs, false, (doesS s (shotB T V xs).length true (fun _ => some (shotB T V xs, (shotB T V xs).length))).1)
    else (17, t, v, xs0, true, (doesS s (shotB T V xs).length true (fun _ => some (shotB T V xs, (shotB T V xs).length))).1)
/-- The album p has the shot t, v, xs, on the disk d; the blocks of X are as told, too. -/
def Am (X : List (Nat × Obj)) (B : Nat) (W w : World) (p d t v : Nat) (xs : List Int) (lost : Bool) (s : Dst) : Prop :=
  ∃ dv Y, Sl dv xs Y ∧ B ≤ p ∧ xs.length ≤ 1000000 ∧ (∀ q ∈ Y ++ X, q.1 ≠ p) ∧ On ((p, alO t v dv d lost) :: (Y ++ X)) B W w d nmS s
theorem Am.below {X : List (Nat × Obj)} {B : Nat} {W w w' : World} {p d t v : Nat} {xs : List Int} {lost : Bool} {s : Dst} (h : Am X B W w p d t v xs lost s) (hb : Below w.heap.size w w') : Am X B W w' p d t v xs lost s := by
  obtain ⟨dv, Y, h1, h2, h3, h4, h5⟩ := h
  exact ⟨dv, Y, h1, h2, h3, h4, h5.below hb⟩
theorem Am.bel {X : List (Nat × Obj)} {B : Nat} {W w : World} {p d t v : Nat} {xs : List Int} {lost : Bool} {s : Dst} (h : Am X B W w p d t v xs lost s) : Below B W w := by
  obtain ⟨dv, Y, h1, h2, h3, h4, h5⟩ := h
  exact h5.bel
/-- New bytes are put beside the disk. -/
theorem On.addBo {X : List (Nat × Obj)} {B : Nat} {W w w' : World} {d : Nat} {nm : ByteArray} {s : Dst} {v : Value} {xs : List Int} (h : On X B W w d nm s) (hb : Below w.heap.size w w') (ho : Bo w.heap.size w' v xs) :
    ∃ Y, Sl v xs Y ∧ On (Y ++ X) B W w' d nm s ∧ ∀ q ∈ Y, w.heap.size ≤ q.1 := by
  obtain ⟨F, hd, hF, hX⟩ := h.ex
  obtain ⟨Y, hY, hs⟩ := ho.sl_
  have h' := h.below hb
  refine ⟨Y, hs, ⟨⟨F, hd.below hb, hF, fun p hp hf => ?_⟩, fun p hp => ?_, h'.bel, h'.le⟩, fun q hq => (hY q hq).1⟩
  · rcases List.mem_append.1 hp with hp | hp
    · have := (hY p hp).1; have := hd.lt _ hf; omega
    · exact hX p hp hf
  · rcases List.mem_append.1 hp with hp | hp
    · exact (hY p hp).2
    · exact h'.keep p hp
theorem on_S {Z : List (Nat × Obj)} {B : Nat} {W w : World} {bx p d : Nat} {nm : ByteArray} {s : Dst} {t v T V : Int} {dv dvs : Value} {lost : Bool} (h : On ((bx, .cells #[.int .u64 T, .int .u64 V, dvs] 25) :: (p, alO t v dv d lost) :: Z) B W w d nm s) :
    w.cell? ⟨p, 3, none⟩ = some (.pointer (some ⟨d, 0, none⟩)) ∧ w.cell? ⟨bx, 0, none⟩ = some (.int .u64 T) ∧ w.cell? ⟨bx, 1, none⟩ = some (.int .u64 V) ∧ w.cell? ⟨bx, 2, none⟩ = some dvs := by
  have k := (show Blk w bx 25 #[.int .u64 T, .int .u64 V, dvs] from h.keep (_, _) (List.mem_cons_self ..))
  have q := (show Blk w p 28 (alC t v dv (.pointer (some ⟨d, 0, none⟩)) lost) from h.keep (p, _) (List.mem_cons_of_mem _ (List.mem_cons_self ..)))
  refine ⟨by rw [q.cell]; rfl, by rw [k.cell]; rfl, by rw [k.cell]; rfl, by rw [k.cell]; rfl⟩
theorem shotB_len {T V : Nat} {xs : List Int} (hT : T < 18446744073709551616) (hV : V < 18446744073709551616) (hl : xs.length ≤ 1000000) : (shotB T V xs).length ≤ 2000000 := by
  have := fileK_len T V xs hT hV (parts xs)
  have : parts xs ≤ 245 := by unfold parts; omega
  unfold shotB
  omega
theorem Am.box {X : List (Nat × Obj)} {B : Nat} {W w : World} {p d t v : Nat} {xs0 : List Int} {lost : Bool} {s : Dst} {dv : Value} {Y : List (Nat × Obj)} {bx : Nat} {o : Obj}
    (h1 : Sl dv xs0 Y) (h2 : B ≤ p) (h3 : xs0.length ≤ 1000000) (h4 : ∀ q ∈ Y ++ X, q.1 ≠ p) (h : On ((bx, o) :: (p, alO t v dv d lost) :: (Y ++ X)) B W w d nmS s) : Am X B W w p d t v xs0 lost s :=
  ⟨dv, Y, h1, h2, h3, h4, h.mono fun q hq => List.mem_cons_of_mem _ hq⟩

set_option maxHeartbeats 4000000 in
set_option maxRecDepth 100000 in
theorem aset_any {X : List (Nat × Obj)} {B : Nat} {W w : World} {p d t v : Nat} {xs0 : List Int} {lost : Bool} {s : Dst} (T V : Nat) (dvs : Value) (xs : List Int) {r : Int} {t' v' : Nat} {xs' : List Int} {lost' : Bool} {s' : Dst}
    (he : setA t v xs0 lost s T V xs = (r, t', v', xs', lost', s')) (h : Am X B W w p d t v xs0 lost s) (hs : Sl dvs xs X) (hby : ∀ c ∈ xs, byt c) (hB0 : 0 < B) (TB : Tab W) (hT : T < 18446744073709551616) (hV : V < 18446744073709551616) (hl : xs.length ≤ 1000000) :
    Calls Tryd.prog 10 #[.pointer (some ⟨p, 0, none⟩), .agg #[.int .u64 T, .int .u64 V, dvs]] w fun e w' => e = .returned (.int .i64 r) ∧ Am X B W w' p d t' v' xs' lost' s' := by
  obtain ⟨dv, Y, h1, h2, h3, h4, h5⟩ := h
  have O0 := Lib.hid (h5.allocX (.cells #[.int .u64 T, .int .u64 V, dvs] 25))
  have hcl := h5.alloc (.cells #[.int .u64 T, .int .u64 V, dvs] 25)
  have H1 := Lib.hid h1
  have H4 := Lib.hid h4
  have HS := Lib.hid hs
  have BY := Lib.hid hby
  have TT := Lib.hid TB
  have HE := Lib.hid he
  have BS0 := h5.sl hs (fun q hq => List.mem_cons_of_mem _ (List.mem_append_right _ hq))
  obtain ⟨Av, cv, rfl, -⟩ := id BS0
  obtain ⟨S3, b0, b1, b2⟩ := on_S O0.out
  have k := (show Blk (w.alloc (.cells #[.int .u64 T, .int .u64 V, .slice Av xs.length cv] 25)) p 28 (alC t v dv (.pointer (some ⟨d, 0, none⟩)) lost) from O0.out.keep (p, _) (List.mem_cons_of_mem _ (List.mem_cons_self ..)))
  have a0 := k.cell 0
  have a1 := k.cell 1
  have a4 := k.cell 4
  simp [alC] at a0 a1 a4
  have hl' : (xs.length : Int) ≤ 1000000 := by omega
  clear h1 h4 h5 hs hby TB he BS0 hcl k
  cases lost
  case true =>
    have R := Lib.hid (show (r, t', v', xs', lost', s') = (17, t, v, xs0, true, s) from by rw [← HE.out]; rfl)
    go_enter Tryd.func10, Tryd.ntmps10
    go_wp2
    go_ret
    have e := R.out
    simp only [Prod.mk.injEq] at e
    obtain ⟨rfl, rfl, rfl, rfl, rfl, rfl⟩ := e
    exact ⟨rfl, Am.box H1.out h2 h3 H4.out O0.out⟩
  case false =>
    by_cases hc : T ≤ t ∨ V < v
    · have R := Lib.hid (show (r, t', v', xs', lost', s') = (1, t, v, xs0, false, s) from by rw [← HE.out]; unfold setA; rw [if_neg (by simp), if_pos hc])
      have fin : ∀ n, ∀ e, e = Ending.returned (Value.int .i64 1) → e = .returned (.int .i64 r) ∧ Am X B W ((w.alloc (.cells #[.int .u64 T, .int .u64 V, .slice Av xs.length cv] 25)).drewN n) p d t' v' xs' lost' s' := by
        intro n e he
        have ee := R.out
        simp only [Prod.mk.injEq] at ee
        obtain ⟨rfl, rfl, rfl, rfl, rfl, rfl⟩ := ee
        exact ⟨he, Am.box H1.out h2 h3 H4.out (O0.out.below (below_drewN_ _ _ n))⟩
      have FIN := Lib.hid fin
      clear fin
      by_cases hT1 : T ≤ t
      · have hT1' : (T : Int) ≤ t := by omega
        clear hc
        go_enter Tryd.func10, Tryd.ntmps10
        go_wp2_with fail
        go_quiet (fail)
        go_wp2
        go_ret
        exact FIN.out _ _ rfl
      · have hT1' : ¬ (T : Int) ≤ t := by omega
        have hV1 : V < v := by omega
        have hV1' : (V : Int) < v := by omega
        clear hc
        go_enter Tryd.func10, Tryd.ntmps10
        go_wp2_with fail
        go_quiet (fail)
        go_wp2
        go_ret
        exact FIN.out _ _ rfl
    · have hT1 : ¬ T ≤ t := fun h => hc (.inl h)
      have hV1 : ¬ V < v := fun h => hc (.inr h)
      have hT1' : ¬ (T : Int) ≤ t := by omega
      have hV1' : ¬ (V : Int) < v := by omega
      have HC := Lib.hid hc
      clear hc
      by_cases h6 : 65536 < xs.length
      · have h6' : (65536 : Int) < xs.length := by omega
        have R := Lib.hid (show (r, t', v', xs', lost', s') = (3, t, v, xs0, false, s) from by rw [← HE.out]; unfold setA; rw [if_neg (by simp), if_neg HC.out, if_pos h6])
        go_enter Tryd.func10, Tryd.ntmps10
        go_wp2_with fail
        go_quiet (fail)
        go_wp2
        go_ret
        have ee := R.out
        simp only [Prod.mk.injEq] at ee
        obtain ⟨rfl, rfl, rfl, rfl, rfl, rfl⟩ := ee
        exact ⟨rfl, Am.box H1.out h2 h3 H4.out (O0.out.below (below_drewN_ _ _ _))⟩
      · have h6' : ¬ (65536 : Int) < xs.length := by omega
        obtain ⟨sd, rd, hd⟩ : ∃ sd rd, doesS s (shotB T V xs).length true (fun _ => some (shotB T V xs, (shotB T V xs).length)) = (sd, rd) := ⟨_, _, rfl⟩
        have HD := Lib.hid hd
        have R := Lib.hid (show (r, t', v', xs', lost', s') = if rd = 0 then (0, T, V, xs, false, sd) else (17, t, v, xs0, true, sd) from by rw [← HE.out]; unfold setA; rw [if_neg (by simp), if_neg HC.out, if_neg h6, hd])
        have hsl := shotB_len hT hV hl
        have SLN := Lib.hid hsl
        have BYF := Lib.hid (show ∀ c ∈ shotB T V xs, byt c from fileK_byt T V BY.out _)
        clear hd hsl
        go_enter Tryd.func10, Tryd.ntmps10
        go_wp2_with fail
        go_quiet (fail)
        have O1 := Lib.hid (O0.out.below (below_drewN_ _ (w.alloc (.cells #[.int .u64 T, .int .u64 V, .slice Av xs.length cv] 25)) (nq + 1)))
        have BX1 := Lib.hid (O1.out.sl HS.out (fun q hq => List.mem_cons_of_mem _ (List.mem_cons_of_mem _ (List.mem_append_right _ hq))))
        have S0 := Lib.hid (on_S O1.out)
        clear a0 a1 S3 b0 b1 b2
        go_wp2_with fail
        go_region_held3 (fun w' => w'.cell? ⟨p, 3, none⟩ = some (.pointer (some ⟨d, 0, none⟩)) ∧ w'.cell? ⟨w.heap.size, 0, none⟩ = some (.int .u64 T) ∧ w'.cell? ⟨w.heap.size, 1, none⟩ = some (.int .u64 V) ∧ w'.cell? ⟨w.heap.size, 2, none⟩ = some (.slice Av xs.length cv)) (first
          | exact on_S o6
          | exact on_S (O1.out.below b5)
          | exact S0.out
          | fail)
          (first
          | (go_at_call 33; refine (on_put sd rd nm_shot v5 (shotB T V xs) BYF.out (by have := SLN.out; omega) (O1.out.below b5) h5.bs HD.out).mono ?_; rintro e w6 ⟨rfl, o6⟩)
          | (go_at_call 43; refine (file_any T V (.slice Av xs.length cv) xs _ BX1.out BY.out (Tab.at_ TT.out hB0 O1.out.bel) hT hV hl).mono ?_; rintro e w5 ⟨v5, rfl, h5, b5⟩))
        have O6 := Lib.hid o6
        have k6 := (show Blk w6 p 28 (alC t v dv (.pointer (some ⟨d, 0, none⟩)) false) from o6.keep (p, _) (List.mem_cons_of_mem _ (List.mem_cons_self ..)))
        have K6 := Lib.hid k6
        obtain ⟨-, b0, b1, b2⟩ := on_S o6
        have a4 := k6.cell 4
        have f4 := k6.free 4
        simp [alC] at a4
        have OA := Lib.hid (show On ((p, alO t v dv d false) :: (Y ++ X)) B W w6 d nmS sd from o6.mono fun q hq => List.mem_cons_of_mem _ hq)
        clear k6 o6 b5 h5 S0
        by_cases hr : rd = 0
        · have hrb : (rd != 0) = false := by simp [hr]
          have R2 := Lib.hid (show (r, t', v', xs', lost', s') = (0, T, V, xs, false, sd) from by rw [R.out, if_pos hr])
          have BX6 := Lib.hid (O6.out.sl HS.out (fun q hq => List.mem_cons_of_mem _ (List.mem_cons_of_mem _ (List.mem_append_right _ hq))))
          subst hr
          go_wp2_with fail
          refine (own_any T V _ xs _ BX6.out (by omega)).mono ?_
          rintro e w7 ⟨P7, rfl, h7, b7⟩
          have OB := Lib.hid (OA.out.addBo b7 h7)
          have K7 := Lib.hid (K6.out.below b7 K6.out.lt)
          have q0 := K7.out.cell 0
          have q1 := K7.out.cell 1
          have q2 := K7.out.cell 2
          have g0 := K7.out.free 0
          have g1 := K7.out.free 1
          have g2 := K7.out.free 2
          simp [alC] at q0 q1 q2
          have LP := Lib.hid K6.out.lt
          clear h7 b7
          go_wp2
          go_ret
          have ee := R2.out
          simp only [Prod.mk.injEq] at ee
          obtain ⟨rfl, rfl, rfl, rfl, rfl, rfl⟩ := ee
          obtain ⟨Y7, hs7, ho7, hb7⟩ := OB.out
          refine ⟨rfl, .slice P7 xs'.length xs'.length, Y7, hs7, h2, hl, ?_, ?_⟩
          · intro q hq
            rcases List.mem_append.1 hq with hq | hq
            · have := hb7 q hq; have := LP.out; omega
            · exact H4.out q (List.mem_append_right _ hq)
          · have om : On ((p, alO t v dv d false) :: (Y7 ++ X)) B W w7 d nmS s' := ho7.mono fun q hq => by
              rcases List.mem_cons.1 hq with rfl | hq
              · exact List.mem_append_right _ (List.mem_cons_self ..)
              · rcases List.mem_append.1 hq with hq | hq
                · exact List.mem_append_left _ hq
                · exact List.mem_append_right _ (List.mem_cons_of_mem _ (List.mem_append_right _ hq))
            refine om.turn _ ((((Kp.refl _ [p]).setCell (.inl (by simp)) _).setCell (.inl (by simp)) _).setCell (.inl (by simp)) _) ?_ ?_ h2
            · exact ((K7.out.set_ 0 _).set_ 1 _).set_ 2 _
            · intro q hq
              rcases List.mem_append.1 hq with hq | hq
              · have := hb7 q hq; have := LP.out; omega
              · exact H4.out q (List.mem_append_right _ hq)
        · have R2 := Lib.hid (show (r, t', v', xs', lost', s') = (17, t, v, xs0, true, sd) from by rw [R.out, if_neg hr])
          go_wp2
          go_ret
          have ee := R2.out
          simp only [Prod.mk.injEq] at ee
          obtain ⟨rfl, rfl, rfl, rfl, rfl, rfl⟩ := ee
          refine ⟨rfl, dv, Y, H1.out, h2, h3, H4.out, ?_⟩
          refine OA.out.turn _ ((Kp.refl _ [p]).setCell (.inl (by simp)) _) ?_ H4.out h2
          exact K6.out.set_ 4 (.bool true)
end Go.Proofs.YtglghlfmjokgdaaDoor
