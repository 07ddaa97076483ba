/- SessionsOf: walk. -/
import Derived.Test.YtcpiockmkpdkjaaRof
import Derived.Test.YtcpiockmkpdkjaaRsp
import Derived.Test.YtcpiockmkpdkjaaTwb
import Derived.Test.YtcpiockmkpdkjaaSrw
namespace Go.Proofs.Ytcpiockmkpdkjaa
open Go.RowKit

set_option maxHeartbeats 8000000 in
set_option maxRecDepth 100000 in
theorem sof_walk (v : Value) (xs : List Int) (w : World) (hv : Bs w v xs) (hby : ∀ c ∈ xs, byt c) :
    Calls Try.prog 4 #[v] w fun e w' => e = .returned (.bool true) ∧ Below w.heap.size w w' := by
  obtain ⟨A, c, rfl, -⟩ := id hv
  have HV := Lib.hid hv
  have HY := Lib.hid hby
  obtain ⟨n, hn⟩ : ∃ n, n = xs.length := ⟨_, rfl⟩
  have N := Lib.hid hn
  rw [← hn] at HV ⊢
  clear hv hby hn
  by_cases hl : 3000 < n
  · have hl' : (3000 : Int) < n := by omega
    go_enter Try.func4, Try.ntmps4
    go_wp2_with fail
    refine (slives _).mono ?_
    rintro e w' ⟨rfl, hb⟩
    go_wp2
    go_ret
    exact ⟨rfl, hb⟩
  · have hl' : ¬ (3000 : Int) < n := by omega
    have HL := Lib.hid (show xs.length ≤ 1000000 by have := N.out; omega)
    go_enter Try.func4, Try.ntmps4
    go_wp2_with fail
    refine (Twin_byte _ xs w HV.out HL.out).mono ?_
    rintro e w1 ⟨At, ct, rfl, ht, hb1⟩
    rw [← N.out]
    have T1 := Lib.hid (show Tw w.heap.size w1 5 1 (.slice At n ct) xs.length (bc xs) [.int .u8 195, .int .u8 195] by rw [N.out]; exact ht)
    have B1 := Lib.hid hb1
    have V1 := Lib.hid (HV.out.below hb1)
    have TB := Lib.hid (show Bs w1 (.slice At n ct) xs by rw [N.out]; exact ht.rd)
    clear ht hb1
    go_wp2_with fail
    refine (of_any _ xs w1 TB.out HY.out HL.out).mono ?_
    rintro e w2 ⟨hb2, hm2⟩
    have B2 := Lib.hid (B1.out.trans (hb2.mono B1.out.size))
    have T2 := Lib.hid (T1.out.below hb2)
    have V2 := Lib.hid (V1.out.below hb2)
    have S2 := Lib.hid hb2
    rcases hx : bookP xs with - | B
    · rw [hx] at hm2
      simp only at hm2
      subst hm2
      have HX := Lib.hid hx
      clear hb2 hx
      go_wp2_with fail
      refine (rof_any _ xs w2 V2.out HY.out HL.out).mono ?_
      rintro e w3 ⟨hb3, hm3⟩
      rw [HX.out] at hm3
      simp only at hm3
      subst hm3
      have B3 := Lib.hid (B2.out.trans (hb3.mono B2.out.size))
      have T3 := Lib.hid (T2.out.below hb3)
      have V3 := Lib.hid (V2.out.below hb3)
      clear hb3
      go_wp2_with fail
      refine (Left_byte _ _ _ xs w3 T3.out V3.out HL.out).mono ?_
      rintro e w4 ⟨rfl, hb4⟩
      have B4 := Lib.hid (B3.out.trans (hb4.mono B3.out.size))
      clear hb4
      go_wp2_with fail
      refine (slives _).mono ?_
      rintro e w5 ⟨rfl, hb5⟩
      have B5 := Lib.hid (B4.out.trans (hb5.mono B4.out.size))
      clear hb5
      go_wp2
      go_ret
      exact ⟨rfl, B5.out⟩
    · rw [hx] at hm2
      obtain ⟨rfl, hk2⟩ := hm2
      have K2 := Lib.hid hk2
      have HX := Lib.hid hx
      clear hb2 hx hk2
      go_wp2_with fail
      refine (rof_any _ xs w2 V2.out HY.out HL.out).mono ?_
      rintro e w3 ⟨hb3, hm3⟩
      rw [HX.out] at hm3
      obtain ⟨rb, rfl, hr3⟩ := hm3
      have R3 := Lib.hid hr3
      have K3 := Lib.hid (K2.out.below hb3)
      have B3 := Lib.hid (B2.out.trans (hb3.mono B2.out.size))
      have T3 := Lib.hid (T2.out.below hb3)
      have V3 := Lib.hid (V2.out.below hb3)
      clear hb3 hr3
      go_wp2_with fail
      refine (Left_byte _ _ _ xs w3 T3.out V3.out HL.out).mono ?_
      rintro e w4 ⟨rfl, hb4⟩
      have B4 := Lib.hid (B3.out.trans (hb4.mono B3.out.size))
      have R4 := Lib.hid (R3.out.below hb4)
      have K4 := Lib.hid (K3.out.below hb4)
      have V4 := Lib.hid (V3.out.below hb4)
      clear hb4
      go_wp2_with fail
      refine (put_any _ B w4 K4.out).mono ?_
      rintro e w5 ⟨v5, rfl, ho5, hb5⟩
      have B5 := Lib.hid (B4.out.trans (hb5.mono B4.out.size))
      have R5 := Lib.hid (R4.out.below hb5)
      have K5 := Lib.hid (K4.out.below hb5)
      have V5 := Lib.hid (V4.out.below hb5)
      have O5 := Lib.hid ho5.bs
      clear ho5 hb5
      go_wp2_with fail
      refine (rbput_any _ B w5 R5.out).mono ?_
      rintro e w6 ⟨v6, rfl, ho6, hb6⟩
      have B6 := Lib.hid (B5.out.trans (hb6.mono B5.out.size))
      have K6 := Lib.hid (K5.out.below hb6)
      have V6 := Lib.hid (V5.out.below hb6)
      have O6 := Lib.hid (O5.out.below hb6)
      have P6 := Lib.hid ho6.bs
      clear ho6 hb6
      have hbl := bookB_len (B := B) (fun i hi => K6.out.ok i hi)
      have BL := Lib.hid hbl
      clear hbl
      go_wp2_with fail
      refine (sameb_any _ _ v5 v6 w6 O6.out P6.out (by have := BL.out; omega)).mono ?_
      rintro e w7 ⟨rfl, q7, rfl⟩
      rw [decide_eq_true (rfl : bookB B = bookB B)]
      have B7 := Lib.hid (B6.out.trans (below_drewN_ w.heap.size w6 q7))
      have K7 := Lib.hid (K6.out.below (below_drewN_ _ w6 q7))
      have V7 := Lib.hid (V6.out.below (below_drewN_ _ w6 q7))
      go_wp2_with fail
      refine (put_any _ B _ K7.out).mono ?_
      rintro e w8 ⟨v8, rfl, ho8, hb8⟩
      have B8 := Lib.hid (B7.out.trans (hb8.mono B7.out.size))
      have V8 := Lib.hid (V7.out.below hb8)
      have O8 := Lib.hid ho8.bs
      clear ho8 hb8
      go_wp2_with fail
      refine (sameb_any _ xs v8 _ w8 O8.out V8.out (by have := BL.out; omega)).mono ?_
      rintro e w9 ⟨rfl, q9, rfl⟩
      rw [decide_eq_true (bookP_back HY.out HX.out).symm]
      have B9 := Lib.hid (B8.out.trans (below_drewN_ w.heap.size w8 q9))
      go_wp2_with fail
      refine (slives _).mono ?_
      rintro e w10 ⟨rfl, hb10⟩
      have B10 := Lib.hid (B9.out.trans (hb10.mono B9.out.size))
      clear hb10
      go_wp2
      go_ret
      exact ⟨rfl, B10.out⟩
end Go.Proofs.Ytcpiockmkpdkjaa
