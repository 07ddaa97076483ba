/- The document's sums: Of, Put, Ends. -/
import Derived.Test.YtnegondlkfeleaaDoorRsa
import Derived.Test.YtnegondlkfeleaaDoorStr
import Derived.Test.YtnegondlkfeleaaDoorGetP
import Derived.Test.YtnegondlkfeleaaDoorRnm
import Derived.WideShapes
import Derived.Deep.RegionLaw
namespace Go.Proofs.YtnegondlkfeleaaDoor
open Go.RowKit

theorem str_dec (s t : ByteArray) : (s.toList == t.toList) = decide (s = t) := by
  rw [ByteArray.toList_eq, ByteArray.toList_eq, Bool.eq_iff_iff, beq_iff_eq, decide_eq_true_iff]
  exact ⟨WideShapes.bytes_inj, fun h => by rw [h]⟩
theorem bitsS_nat (c : Nat) (z : Nat) (hz : z < 4294967296) : ∀ k, ∃ y : Nat, bitsS k (z : Int) (c : Int) = (y : Int) ∧ y < 4294967296
  | 0 => ⟨z, rfl, hz⟩
  | k + 1 => by
    obtain ⟨y, hy, hl⟩ := bitsS_nat c z hz k
    rw [bitsS_succ, hy]
    exact ⟨_, bitS_nat k y c hl, sN_lt _ _ hl⟩

set_option maxHeartbeats 1000000 in
set_option maxRecDepth 100000 in
theorem rof_any (v : Value) (bs : List Int) (w : World) (h : Bs w v bs) (hby : ∀ c ∈ bs, byt c) (hl : bs.length ≤ 4611686018427387904) :
    Calls Tryd.prog 109 #[v] w fun e w' => e = .returned (.int .u32 (moreS 0 bs)) ∧ w = w' := by
  have H := Lib.hid h
  have BY := Lib.hid hby
  have FIN := Lib.hid (refS_eq bs hby)
  obtain ⟨A, c, rfl, hc, -⟩ := id h
  obtain ⟨n, hn⟩ : ∃ n, n = bs.length := ⟨_, rfl⟩
  have N := Lib.hid hn
  have hnc : n ≤ c := by omega
  have hnl : n ≤ 4611686018427387904 := by omega
  clear h hby hl hc
  rw [← hn]
  clear hn
  rw [← FIN.out]
  obtain ⟨m0, hm0⟩ : ∃ m0, m0 = refS bs := ⟨_, rfl⟩
  rw [← hm0]
  have M0 := Lib.hid hm0
  clear hm0 FIN
  go_enter Tryd.func109, Tryd.ntmps109
  go_wp2
  go_loopg [3, 4, 5, 6, 7] n (fun g c3 c4 c5 c6 c7 wr => wr = w ∧ ∃ (i z : Nat), i ≤ n ∧ g = n - i ∧ c4 = .int .i64 i ∧ c3 = .int .u32 z ∧ z < 4294967296 ∧ (z : Int) = (bs.take i).foldl (bitsS 8) 4294967295)
  case atStart => exact ⟨rfl, 0, 4294967295, by omega, rfl, rfl, rfl, by decide, rfl⟩
  case round =>
    obtain ⟨rfl, i, z, hi, hg, rfl, rfl, hz, hzf⟩ := hrel
    have G := Lib.hid hg
    have ZF := Lib.hid hzf
    clear hg hzf
    by_cases hin : i < n
    · have hib : i < bs.length := by have := N.out; omega
      obtain ⟨A', c', hv, -, -, hr⟩ := id H.out
      obtain ⟨g0, o0, rfl, -, hh⟩ : ∃ g o, A = some ⟨g, o, none⟩ ∧ g < wr.heap.size ∧ ∀ j u, (bc bs)[j]? = some u → wr.cell? ⟨g, o + j, none⟩ = some u := by
        rcases hr with h | ⟨g, o, hA, hg, hh⟩
        · omega
        · injection hv with h1 h2 h3; exact ⟨g, o, h1.trans hA, hg, hh⟩
      have ci := hh i (.int .u8 bs[i]) (by simp [bc, hib])
      have hcb := BY.out _ (List.getElem_mem hib)
      unfold byt at hcb
      obtain ⟨x, hx⟩ : ∃ x : Nat, bs[i] = (x : Int) := ⟨bs[i].toNat, by omega⟩
      rw [hx] at ci hcb
      have hx256 : x < 256 := by omega
      have HX := Lib.hid hx
      clear hh hr hv hx hcb
      go_wp2
      go_loopg [3, 5, 6, 7] 8 (fun g c3 c5 c6 c7 wx => wx = wr ∧ ∃ (k y : Nat), k ≤ 8 ∧ g = 8 - k ∧ c5 = .int .i64 k ∧ c3 = .int .u32 y ∧ y < 4294967296 ∧ (y : Int) = bitsS k (z : Int) (x : Int))
      case atStart => exact ⟨rfl, 0, z, by omega, rfl, rfl, rfl, hz, rfl⟩
      case round =>
        obtain ⟨rfl, k, y, hk, hg2, rfl, rfl, hy, hyf⟩ := hrel
        have G2 := Lib.hid hg2
        have YF := Lib.hid hyf
        clear hg2 hyf
        by_cases hk8 : k < 8
        · have ST := Lib.hid (show bitS k (y : Int) (x : Int) = bitsS (k + 1) (z : Int) (x : Int) from by rw [bitsS_succ, YF.out])
          obtain ⟨q, hq⟩ : ∃ q : Nat, q = x / 2 ^ k := ⟨_, rfl⟩
          have eq : ((x : Int) / 2 ^ k) = (q : Int) := by rw [hq, Int.natCast_ediv, Int.natCast_pow]; rfl
          have ST1 : bitS k (y : Int) (x : Int) = ((sN y (decide (y % 2 ≠ q % 2)) : Nat) : Int) := by rw [bitS_nat k y x hy, hq]
          have STN := Lib.hid ST1
          clear hq ST1
          by_cases hb : y % 2 = q % 2
          · have hb1 : ((y : Int) % 2 != (q : Int) % 2) = false := by
              rw [bne_eq_false_iff_eq]; omega
            go_wp2
            go_roundg (8 - (k + 1))
            case measure => have := G2.out; omega
            case rel =>
              refine ⟨rfl, k + 1, y / 2, by omega, rfl, by go_num, by go_num, by omega, ?_⟩
              rw [← ST.out, STN.out]
              simp [hb, sN, pN]
          · have hb1 : ((y : Int) % 2 != (q : Int) % 2) = true := by
              rw [bne_iff_ne]; omega
            have hx2 := xor32 (y / 2) 3988292384 (by omega) (by decide)
            rw [show ((y / 2 : Nat) : Int) = (y : Int) / 2 from by omega, show ((3988292384 : Nat) : Int) = 3988292384 from rfl] at hx2
            have hlt : y / 2 ^^^ 3988292384 < 4294967296 := Nat.xor_lt_two_pow (n := 32) (by omega) (by decide)
            go_wp2
            go_roundg (8 - (k + 1))
            case measure => have := G2.out; omega
            case rel =>
              refine ⟨rfl, k + 1, y / 2 ^^^ 3988292384, by omega, rfl, by go_num, by first | rfl | rw [hx2], hlt, ?_⟩
              rw [← ST.out, STN.out]
              simp [hb, sN, pN]
        · obtain rfl : k = 8 := by omega
          go_wp2
          go_roundg (n - (i + 1))
          case measure => have := G.out; omega
          case rel =>
            refine ⟨rfl, i + 1, y, by omega, rfl, by go_num, rfl, hy, ?_⟩
            rw [YF.out, List.take_succ_eq_append_getElem hib, List.foldl_append, ← ZF.out, HX.out]
            rfl
    · obtain rfl : i = n := by omega
      go_wp2
      go_ret
      refine ⟨?_, rfl⟩
      rw [M0.out, refS]
      have := ZF.out
      rw [N.out, List.take_length] at this
      rw [← this]
      rfl

set_option maxHeartbeats 1000000 in
set_option maxRecDepth 100000 in
theorem rsput_any (v : Value) (bs : List Int) (w : World) (h : Bs w v bs) (hby : ∀ c ∈ bs, byt c) (hl : bs.length ≤ 70368744177664) :
    Calls Tryd.prog 92 #[v] w fun e w' => ∃ v', e = .returned v' ∧ Bo w.heap.size w' v' (sumB bs) ∧ Below w.heap.size w w' := by
  have H := Lib.hid h
  have BY := Lib.hid hby
  have HL := Lib.hid hl
  have MI := Lib.hid (moreS_in 0 bs)
  have hl0 : ([] : List Int).length + bs.length ≤ 140737488355328 := by simp; omega
  clear h hby hl
  go_enter Tryd.func92, Tryd.ntmps92
  go_wp2_with fail
  refine (rof_any v bs w H.out BY.out (by have := HL.out; omega)).mono ?_
  rintro e w0 ⟨rfl, rfl⟩
  obtain ⟨n, hn⟩ : ∃ n : Nat, moreS 0 bs = (n : Int) := ⟨(moreS 0 bs).toNat, by have := MI.out; omega⟩
  have hn32 : n < 4294967296 := by have := MI.out; omega
  have HN := Lib.hid hn
  rw [hn]
  clear hn
  go_upto_region 3 with (at_builtin; refine wpList_bf_bytes rfl _ _ 25 rfl Tryd.underlying25 rfl (Bf.start_ w) H.out rfl hl0 ?_; intro v1 w1 hB1)
  have HB := Lib.hid hB1
  obtain ⟨A1, n1, c1, rfl⟩ := hB1.own.sl
  clear hB1 hl0
  have e1 : IntKind.u8.wrap ((n : Int) % 256) = (n : Int) % 256 := IntWalk.u8_in _ (by omega)
  have e2 : IntKind.u8.wrap ((n : Int) / 256 % 256) = (n : Int) / 256 % 256 := IntWalk.u8_in _ (by omega)
  have e3 : IntKind.u8.wrap ((n : Int) / 65536 % 256) = (n : Int) / 65536 % 256 := IntWalk.u8_in _ (by omega)
  have e4 : IntKind.u8.wrap ((n : Int) / 16777216) = (n : Int) / 16777216 := IntWalk.u8_in _ (by omega)
  have F4 := Lib.hid (show Bs (w1.alloc (.cells #[.int .u8 ((n : Int) % 256), .int .u8 ((n : Int) / 256 % 256), .int .u8 ((n : Int) / 65536 % 256), .int .u8 ((n : Int) / 16777216)] 5)) (.slice (some ⟨w1.heap.size, 0, none⟩) 4 4) (fourS n) from
    Bo.bs (B := w1.heap.size) (.inr ⟨w1.heap.size, 4, _, rfl, Nat.le_refl _, Blk.new _ _ _, Nat.le_refl _, rfl, Nat.le_refl _, by simp [bc, fourS]⟩))
  go_wp2_with (at_builtin; refine wpList_bf_bytes rfl _ _ 25 rfl Tryd.underlying25 rfl (HB.out.alloc _) F4.out rfl (by have := HL.out; simp [fourS]; omega) ?_; intro v2 w2 hB2)
  go_ret
  refine ⟨_, rfl, ?_, hB2.bel⟩
  have := hB2.own
  rw [List.nil_append, ← HN.out] at this
  exact this

theorem ends_ref (bs : List Int) (hby : ∀ c ∈ bs, byt c) (h4 : 4 ≤ bs.length) : decide (strOfNums (sumB (bs.take (bs.length - 4))) = strOfNums bs) = endsB bs := by
  have hs : ∀ c ∈ sumB (bs.take (bs.length - 4)), byt c := sumB_byt fun c hc => hby c (List.mem_of_mem_take hc)
  have e : strOfNums (sumB (bs.take (bs.length - 4))) = strOfNums bs ↔ bs.drop (bs.length - 4) = fourS (moreS 0 (bs.take (bs.length - 4))) := by
    constructor
    · intro h
      have := str_inj hs hby h
      unfold sumB at this
      have h2 := List.take_append_drop (bs.length - 4) bs
      rw [← this] at h2
      simp only [List.length_append] at h2
      have h3 := this.trans (List.take_append_drop (bs.length - 4) bs).symm
      exact (List.append_cancel_left h3).symm
    · intro h
      rw [sumB, ← h, List.take_append_drop]
  unfold endsB
  rw [decide_eq_true h4, Bool.true_and]
  exact decide_eq_decide.2 e

set_option maxHeartbeats 1000000 in
set_option maxRecDepth 100000 in
theorem rends_any (v : Value) (bs : List Int) (w : World) (h : Bs w v bs) (hby : ∀ c ∈ bs, byt c) (hl : bs.length ≤ 70368744177664) :
    Calls Tryd.prog 103 #[v] w fun e w' => e = .returned (.bool (endsB bs)) ∧ Below w.heap.size w w' := by
  have H := Lib.hid h
  have BY := Lib.hid hby
  have HL := Lib.hid hl
  obtain ⟨A, c, rfl, hc, -⟩ := id h
  by_cases h4 : 4 ≤ bs.length
  rotate_left
  · have h4' : (bs.length : Int) < 4 := by omega
    have E := Lib.hid (show endsB bs = false by unfold endsB; rw [decide_eq_false h4]; rfl)
    rw [E.out]
    clear h hby hl H BY HL
    go_enter Tryd.func103, Tryd.ntmps103
    go_wp2
    go_ret
    exact ⟨rfl, Below.refl _ _⟩
  have h4' : ¬ (bs.length : Int) < 4 := by omega
  have E := Lib.hid (ends_ref bs hby h4)
  rw [← E.out]
  clear E
  obtain ⟨g, o, rfl⟩ := h.some_ (by omega)
  have HS := Lib.hid (h.sub 0 (bs.length - 4) (c - 0) (by omega) (by omega))
  clear h hby hl
  obtain ⟨n, hn⟩ : ∃ n, n = bs.length := ⟨_, rfl⟩
  have N := Lib.hid hn
  rw [← hn] at HS hc h4 h4' ⊢
  obtain ⟨k, rfl⟩ : ∃ k, n = k + 4 := ⟨n - 4, by omega⟩
  rw [Nat.add_sub_cancel] at HS ⊢
  obtain ⟨xs, hxs⟩ : ∃ xs, xs = bs.take k := ⟨_, rfl⟩
  rw [List.drop_zero, ← hxs, Nat.add_zero] at HS
  rw [← hxs]
  have BX := Lib.hid (show ∀ c ∈ xs, byt c from fun c hc => BY.out c (List.mem_of_mem_take (hxs ▸ hc)))
  have LX := Lib.hid (show xs.length ≤ 70368744177664 from by rw [hxs, List.length_take]; have := HL.out; omega)
  clear hxs hn
  obtain ⟨s1, hs1⟩ : ∃ s, s = strOfNums (sumB xs) := ⟨_, rfl⟩
  obtain ⟨s2, hs2⟩ : ∃ s, s = strOfNums bs := ⟨_, rfl⟩
  rw [← hs1, ← hs2]
  have S1 := Lib.hid hs1
  have S2 := Lib.hid hs2
  have HH := Lib.hid (show Bs w (.slice (some ⟨g, o, none⟩) (k + 4) c) bs from by rw [N.out]; exact H.out)
  clear hs1 hs2 H
  have i1 : (0 : Int) ≤ (k : Int) := by omega
  have i2 : (k : Int) ≤ (k : Int) + 4 := by omega
  have i3 : (k : Int) ≤ (c : Int) := by omega
  have i4 : (k : Int) + 4 ≤ (c : Int) := by omega
  have i6 : IntKind.i64.wrap (k : Int) = (k : Int) := IntWalk.i64_in _ (by have := HL.out; have := N.out; omega)
  have i5 : k + 4 ≤ 4611686018427387904 := by have := HL.out; have := N.out; omega
  go_enter Tryd.func103, Tryd.ntmps103
  go_wp2_with fail
  have c2 : (convert 25 9 (.slice (some ⟨g, o, none⟩) (k + 4 : Nat) c)).run Tryd.prog w.drew = .ok (.string s2) w.drew := by rw [S2.out]; exact run_convert_bs (P := Tryd.prog) (show Bs w.drew _ bs from HH.out) 25 5 9 Tryd.underlying25 Tryd.underlying5 Tryd.underlying9
  go_region_law (first
    | (go_simp; go_at_call 92; refine (rsput_any _ xs _ (show Bs w.drew _ xs from HS.out) BX.out LX.out).mono ?_; rintro e w1 ⟨v1, rfl, h1, b1⟩; obtain ⟨A1, n1, cc1, rfl⟩ := h1.sl; have d1 : (convert 25 9 (.slice A1 n1 cc1)).run Tryd.prog w1 = .ok (.string s1) w1 := (by rw [S1.out]; exact run_convert_bs (P := Tryd.prog) h1.bs 25 5 9 Tryd.underlying25 Tryd.underlying5 Tryd.underlying9); have B1 := Lib.hid (show Below w.heap.size w w1 from (Below.refl _ _).drew.trans b1); have d2 : (convert 25 9 (.slice (some ⟨g, o, none⟩) (k + 4 : Nat) c)).run Tryd.prog w1 = .ok (.string s2) w1 := (by rw [S2.out]; exact run_convert_bs (P := Tryd.prog) (HH.out.below B1.out) 25 5 9 Tryd.underlying25 Tryd.underlying5 Tryd.underlying9); clear h1 b1))
  all_goals
    go_wp2
    go_ret
    refine ⟨?_, B1.out⟩
    show Ending.returned (.bool (s1.toList == s2.toList)) = Ending.returned (.bool (decide (s1 = s2)))
    rw [str_dec]
end Go.Proofs.YtnegondlkfeleaaDoor
