import Derived.Test.YtoiclicechfmgaaGreatDoorLdz
import Derived.RangeFuncNested
import Derived.RangeFuncBound
import Derived.RangeFuncCalls
import Derived.RangeFuncLeaves
import Derived.RangeFuncBox
import Derived.Shelf.Abstract
import Derived.Shelf.RegionOpen
import Derived.WalkKit
import Derived.OwnWalkIn
import Derived.TacticsInMore
import Derived.LoopNIn
import Derived.LoopIn
import Derived.Maps.AppendAt
import Derived.Test.YtoiclicechfmgaaGreatDoorMem
import Derived.Test.YtoiclicechfmgaaGreatDoorLfz
/- Frames taken off bytes: the code's Ends, size, Get. -/
namespace Go.Proofs.YtoiclicechfmgaaGreatDoor
open Go.RowKit

theorem Bs.at_ {w : World} {A : Option Addr} {n c : Nat} {xs : List Int} (h : Bs w (.slice A n c) xs) (k : Nat) (hk : k < n) :
    ∃ g o x, A = some ⟨g, o, none⟩ ∧ xs[k]? = some x ∧ w.cell? ⟨g, o + k, none⟩ = some (.int .u8 x) := by
  obtain ⟨g, o, rfl⟩ := h.some_ (by omega)
  obtain ⟨A', c0, hv, hc0, hl, hh⟩ := h
  injection hv with h1 h2 h3
  subst h2
  rcases hh with h0 | ⟨g', o', hA', hg, hcell⟩
  · omega
  · rw [hA'] at h1
    injection h1 with h1
    injection h1 with e1 e2
    subst e1; subst e2
    exact ⟨g, o, xs[k], rfl, List.getElem?_eq_getElem hk, hcell k _ (by simp [bc, hk])⟩
theorem take_step {xs ys : List Int} {k : Nat} {x y : Int} (hx : xs[k]? = some x) (hy : ys[k]? = some y) (h : xs.take k = ys.take k) : xs.take (k + 1) = ys.take (k + 1) ↔ x = y := by
  rw [List.take_add_one, List.take_add_one, hx, hy, h]
  simp

set_option maxHeartbeats 1000000 in
theorem equal_any (v1 v2 : Value) (xs ys : List Int) (w : World) (h1 : Bs w v1 xs) (h2 : Bs w v2 ys) (hl : xs.length ≤ 4611686018427387904) :
    Calls Tryz.prog 112 #[v1, v2] w fun e w' => e = .returned (.bool (decide (xs = ys))) ∧ ∃ m, w' = w.drewN m := by
  obtain ⟨A1, c1, rfl, -⟩ := id h1
  obtain ⟨A2, c2, rfl, -⟩ := id h2
  obtain ⟨n, hn⟩ : ∃ n, n = xs.length := ⟨_, rfl⟩
  obtain ⟨n2, hn2⟩ : ∃ n, n = ys.length := ⟨_, rfl⟩
  rw [← hn, ← hn2]
  rw [← hn] at h1 hl
  rw [← hn2] at h2
  have H1 := Lib.hid h1
  have H2 := Lib.hid h2
  have N1 := Lib.hid hn
  have N2 := Lib.hid hn2
  clear h1 h2 hn hn2
  obtain ⟨b, hb⟩ : ∃ b, b = decide (xs = ys) := ⟨_, rfl⟩
  rw [← hb]
  have HB := Lib.hid hb
  clear hb
  by_cases hne : n = n2
  · subst hne
    go_enter Tryz.func112, Tryz.ntmps112
    go_wp2
    go_loopw [13] (fun c13 wr => ∃ k m : Nat, k ≤ n ∧ c13 = .int .i64 k ∧ wr = w.drewN m ∧ xs.take k = ys.take k) (fun c13 _ => n - (intOf c13).toNat)
    case atStart => exact ⟨0, 0, by omega, rfl, rfl, rfl⟩
    case round =>
      obtain ⟨k, m, hk, rfl, rfl, ht⟩ := hrel
      have HT := Lib.hid ht
      clear ht
      by_cases hkn : k < n
      · obtain ⟨g1, o1, x, rfl, hx, d1⟩ := H1.out.at_ k hkn
        obtain ⟨g2, o2, y, rfl, hy, d2⟩ := H2.out.at_ k hkn
        have TS := Lib.hid (take_step hx hy HT.out)
        clear hx hy
        by_cases hxy : x = y
        · have T1 := Lib.hid (TS.out.2 hxy)
          subst hxy
          clear TS
          go_wp2_with fail
          go_quiet (fail)
          go_wp2
          exact ⟨⟨k + 1, _, by omega, by go_num, rfl, T1.out⟩, by simp [intOf]; omega⟩
        · go_wp2_with fail
          go_quiet (fail)
          go_wp2
          go_ret
          refine ⟨?_, _, World.drewN_drewN _ _ _⟩
          rw [HB.out, decide_eq_false (fun he => hxy (TS.out.1 (by rw [he])))]; rfl
      · obtain rfl : k = n := by omega
        go_wp2
        go_ret
        refine ⟨?_, _, rfl⟩
        have := HT.out
        rw [List.take_of_length_le (by have := N1.out; omega), List.take_of_length_le (by have := N2.out; omega)] at this
        rw [HB.out, decide_eq_true this]; rfl
  · have hne' : ¬ (n : Int) = (n2 : Int) := by omega
    have HN := Lib.hid hne
    clear hne
    go_enter Tryz.func112, Tryz.ntmps112
    go_wp2
    go_ret
    refine ⟨?_, 0, rfl⟩
    rw [HB.out, decide_eq_false (fun he => HN.out (by rw [N1.out, N2.out, he]))]; rfl

set_option maxHeartbeats 1000000 in
set_option maxRecDepth 100000 in
theorem ends_any (v : Value) (bs : List Int) (w : World) (h : Bs w v bs) (hby : ∀ c ∈ bs, byt c) (T : Tab w) (hl : bs.length ≤ 4611686018427387904) :
    Calls Tryz.prog 86 #[v] w fun e w' => e = .returned (.bool (endsB bs)) ∧ Below w.heap.size w w' := by
  obtain ⟨A, c, rfl, -⟩ := id h
  obtain ⟨b, hb⟩ : ∃ b, b = endsB bs := ⟨_, rfl⟩
  rw [← hb]
  have EB := Lib.hid hb
  clear hb
  obtain ⟨n, hn⟩ : ∃ n, n = bs.length := ⟨_, rfl⟩
  rw [← hn]
  rw [← hn] at h hl
  have NN := Lib.hid hn
  have H := Lib.hid h
  have BY := Lib.hid hby
  have TT := Lib.hid T
  clear h hby T hn
  by_cases h4 : n < 4
  · have h4' : (n : Int) < 4 := by omega
    go_enter Tryz.func86, Tryz.ntmps86
    go_wp2
    go_ret
    refine ⟨?_, Below.refl _ _⟩
    rw [EB.out]
    unfold endsB
    rw [decide_eq_false (by have := NN.out; omega)]
    rfl
  · obtain ⟨g, o, rfl⟩ := H.out.some_ (by omega)
    have hc := H.out.len_.2
    obtain ⟨k, rfl⟩ : ∃ k, n = k + 4 := ⟨n - 4, by omega⟩
    have S1 := Lib.hid (H.out.sub 0 k c (by omega) (by omega))
    have S2 := Lib.hid (H.out.sub k 4 (c - k) (by omega) (by omega))
    have hn1 : ¬ ((k + 4 : Nat) : Int) < 4 := by omega
    have BY1 := Lib.hid (show ∀ c ∈ (bs.drop 0).take k, byt c from fun c hc => BY.out c (List.mem_of_mem_drop (List.mem_of_mem_take hc)))
    have E1 := Lib.hid (show b = decide ((bs.drop k).take 4 = fourS (moreS 0 ((bs.drop 0).take k))) from by
      rw [EB.out]
      unfold endsB
      rw [← NN.out, decide_eq_true (show 4 ≤ k + 4 by omega), Bool.true_and, Nat.add_sub_cancel, List.drop_zero, List.take_of_length_le (show (bs.drop k).length ≤ 4 by rw [List.length_drop, ← NN.out]; omega)])
    obtain ⟨x1, hx1⟩ : ∃ x, x = (bs.drop 0).take k := ⟨_, rfl⟩
    obtain ⟨x2, hx2⟩ : ∃ x, x = (bs.drop k).take 4 := ⟨_, rfl⟩
    rw [← hx1] at S1 BY1 E1
    rw [← hx2] at S2 E1
    have L1 := Lib.hid (show x1.length ≤ 4611686018427387904 from by rw [hx1, List.length_take]; omega)
    have L2 := Lib.hid (show x2.length ≤ 4611686018427387904 from by rw [hx2, List.length_take]; omega)
    clear hx1 hx2 EB
    rw [Nat.add_zero] at S1
    go_enter Tryz.func86, Tryz.ntmps86
    go_wp2_with fail
    have D1 := Lib.hid (show Bs w.drew _ x1 from S1.out)
    have D2 := Lib.hid (show Bs w.drew _ x2 from S2.out)
    have DT := Lib.hid (show Tab w.drew from TT.out)
    have DB := Lib.hid (show Below w.heap.size w w.drew from (Below.refl _ _).drew)
    clear S1 S2 TT
    have i1 : (0 : Int) ≤ (k : Int) := by omega
    have i2 : (k : Int) ≤ (k : Int) + 4 := by omega
    have i3 : (k : Int) ≤ (c : Int) := by omega
    have i4 : (k : Int) + 4 ≤ (c : Int) := by omega
    go_region_held3 (fun _ => True) (trivial)
      (first
      | (go_at_call 112; refine (equal_any _ v4 x2 (fourS (moreS 0 x1)) _ (D2.out.below b4) h4.bs L2.out).mono ?_; rintro e w5 ⟨rfl, m5, rfl⟩)
      | (go_at_call 113; refine (four_any (moreS 0 x1) _ (moreS_in 0 x1)).mono ?_; rintro e w4 ⟨v4, rfl, h4, b4⟩)
      | (go_at_call 114; refine (of_any _ x1 _ D1.out BY1.out DT.out L1.out).mono ?_; rintro e w3 ⟨rfl, rfl⟩))
    have B4 := Lib.hid b4
    clear b4 h4
    go_wp2
    go_ret
    exact ⟨by rw [E1.out]; rfl, (DB.out.trans (B4.out.mono (by simp))).trans (below_drewN_ _ _ _)⟩

set_option maxHeartbeats 1000000 in
theorem index_any (v : Value) (xs : List Int) (w : World) (h : Bs w v xs) (hl : xs.length ≤ 4611686018427387904) :
    Calls Tryz.prog 132 #[v, .func (.func 111) #[] #[]] w fun e w' => (∃ k : Int, e = .returned (.int .i64 k) ∧ (0 ≤ k ↔ ∃ c ∈ xs, c < 128)) ∧ w = w' := by
  obtain ⟨A, c, rfl, -⟩ := id h
  obtain ⟨n, hn⟩ : ∃ n, n = xs.length := ⟨_, rfl⟩
  rw [← hn]
  rw [← hn] at h hl
  have H := Lib.hid h
  have NN := Lib.hid hn
  clear h hn
  go_enter Tryz.func132, Tryz.ntmps132
  go_wp2
  go_loopw [8] (fun c8 wr => ∃ k : Nat, k ≤ n ∧ c8 = .int .i64 k ∧ wr = w ∧ ∀ c ∈ xs.take k, 128 ≤ c) (fun c8 _ => n - (intOf c8).toNat)
  case atStart => exact ⟨0, by omega, rfl, rfl, by simp⟩
  case round =>
    obtain ⟨k, hk, rfl, rfl, ht⟩ := hrel
    have HT := Lib.hid ht
    clear ht
    by_cases hkn : k < n
    · obtain ⟨g, o, x, rfl, hx, d1⟩ := H.out.at_ k hkn
      have HX := Lib.hid hx
      clear hx
      by_cases hlow : x < 128
      · have HLO := Lib.hid (show ∃ c ∈ xs, c < 128 from ⟨x, List.mem_of_getElem? HX.out, hlow⟩)
        go_wp2
        go_ret
        refine ⟨⟨_, rfl, ?_⟩, rfl⟩
        exact ⟨fun _ => HLO.out, fun _ => by omega⟩
      · have hge := Lib.hid hlow
        go_wp2
        refine ⟨⟨k + 1, by omega, by go_num, by simp, ?_⟩, by simp [intOf]; omega⟩
        intro c hc
        rw [List.take_add_one, HX.out] at hc
        rcases List.mem_append.1 hc with hc | hc
        · exact HT.out c hc
        · simp at hc
          subst hc
          have := hge.out
          omega
    · obtain rfl : k = n := by omega
      go_wp2
      go_ret
      refine ⟨⟨-1, rfl, ?_⟩, rfl⟩
      refine ⟨fun h => absurd h (by omega), fun ⟨c, hc, hlt⟩ => ?_⟩
      have := HT.out
      rw [NN.out, List.take_length] at this
      have := this c hc
      omega
set_option maxHeartbeats 1000000 in
theorem cont_any (v : Value) (xs : List Int) (w : World) (h : Bs w v xs) (hl : xs.length ≤ 4611686018427387904) :
    Calls Tryz.prog 110 #[v, .func (.func 111) #[] #[]] w fun e w' => e = .returned (.bool (xs.any fun c => decide (c < 128))) ∧ w = w' := by
  obtain ⟨A, c, rfl, -⟩ := id h
  obtain ⟨b, hb⟩ : ∃ b, b = (xs.any fun c => decide (c < 128)) := ⟨_, rfl⟩
  rw [← hb]
  have EB := Lib.hid hb
  have H := Lib.hid h
  clear h hb
  go_enter Tryz.func110, Tryz.ntmps110
  go_wp2_with fail
  refine (index_any _ xs w H.out hl).mono ?_
  rintro e w' ⟨⟨k, rfl, hk⟩, rfl⟩
  have HK := Lib.hid hk
  clear hk
  go_wp2
  go_ret
  refine ⟨?_, rfl⟩
  rw [EB.out]
  by_cases h0 : 0 ≤ k
  · obtain ⟨x, h1, h2⟩ := HK.out.1 h0
    rw [show (xs.any fun c => decide (c < 128)) = true from List.any_eq_true.2 ⟨x, h1, by simpa using h2⟩]
    simp [h0]
  · rw [show (xs.any fun c => decide (c < 128)) = false from List.any_eq_false.2 fun x hx => by
      intro hlt
      exact h0 (HK.out.2 ⟨x, hx, by simpa using hlt⟩)]
    simp [h0]


theorem any_low {xs : List Int} : (xs.any fun c => decide (c < 128)) = false ↔ ∀ c ∈ xs, 128 ≤ c := by
  rw [List.any_eq_false]
  constructor
  · intro h c hc
    have := h c hc
    simp at this
    exact this
  · intro h c hc
    have := h c hc
    simp
    exact this

set_option maxHeartbeats 1000000 in
set_option maxRecDepth 100000 in
theorem fsize_any (v : Value) (xs : List Int) (w : World) (h : Bs w v xs) (hb : ∀ c ∈ xs, byt c) (hl : xs.length ≤ 70368744177664) :
    Calls Tryz.prog 85 #[v] w fun e w' => e = .returned (.tuple #[.int .i64 (sizeF xs).1, .int .i64 (sizeF xs).2.1, .int .i64 (sizeF xs).2.2]) ∧ w = w' := by
  have TK := Lib.hid (Take_any v xs w h hb hl)
  have CO := Lib.hid (cont_any v xs w h (by omega))
  have T1 := Lib.hid (tk_lt hb)
  obtain ⟨A, c, rfl, -⟩ := id h
  obtain ⟨n, hn⟩ : ∃ n, n = xs.length := ⟨_, rfl⟩
  obtain ⟨r, hr⟩ : ∃ r, r = sizeF xs := ⟨_, rfl⟩
  rw [← hr]
  have ES := Lib.hid hr
  rw [← hn] at TK CO ⊢
  have NN := Lib.hid hn
  have hln : n ≤ 70368744177664 := by omega
  clear h hb hl hn hr
  obtain ⟨t1, h1⟩ : ∃ s, s = (tk xs).1 := ⟨_, rfl⟩
  obtain ⟨t2, h2⟩ : ∃ s, s = (tk xs).2.1 := ⟨_, rfl⟩
  obtain ⟨b, h3⟩ : ∃ b, b = (xs.any fun c => decide (c < 128)) := ⟨_, rfl⟩
  rw [← h1, ← h2] at TK
  rw [← h1] at T1
  rw [← h3] at CO
  have ET := Lib.hid (show r = if t2 = 0 then (if n < 10 ∧ b = false then (0, 0, 5) else (0, 0, 4)) else if 8192 < t1 then (0, 0, 4) else (t1, t2, 0) from by
    rw [ES.out]
    unfold sizeF
    rw [← h1, ← h2, ← NN.out, h3]
    by_cases ha : ∀ c ∈ xs, 128 ≤ c
    · by_cases hn : n < 10
      · rw [if_pos (show n < 10 ∧ ∀ c ∈ xs, 128 ≤ c from ⟨hn, ha⟩), if_pos (show n < 10 ∧ (xs.any fun c => decide (c < 128)) = false from ⟨hn, any_low.2 ha⟩)]
      · rw [if_neg (show ¬ (n < 10 ∧ ∀ c ∈ xs, 128 ≤ c) from fun h => hn h.1), if_neg (show ¬ (n < 10 ∧ (xs.any fun c => decide (c < 128)) = false) from fun h => hn h.1)]
    · rw [if_neg (show ¬ (n < 10 ∧ ∀ c ∈ xs, 128 ≤ c) from fun h => ha h.2), if_neg (show ¬ (n < 10 ∧ (xs.any fun c => decide (c < 128)) = false) from fun h => ha (any_low.1 h.2))])
  clear h1 h2 h3 ES NN
  have tl := T1.out
  clear T1
  by_cases h0 : t2 = 0
  · subst h0
    by_cases h10 : n < 10
    · have h10' : (n : Int) < 10 := by omega
      go_enter Tryz.func85, Tryz.ntmps85
      go_wp2_with fail
      refine TK.out.mono ?_
      rintro e w1 ⟨rfl, rfl⟩
      go_wp2_with fail
      refine CO.out.mono ?_
      rintro e w1 ⟨rfl, rfl⟩
      cases b
      · go_wp2
        refine bodyPost_ret (by simp [results, Tryz.results85]; rfl) rfl ?_
        rw [ET.out]
        simp [h10]
      · go_wp2
        refine bodyPost_ret (by simp [results, Tryz.results85]; rfl) rfl ?_
        rw [ET.out]
        simp
    · have h10' : ¬ (n : Int) < 10 := by omega
      go_enter Tryz.func85, Tryz.ntmps85
      go_wp2_with fail
      refine TK.out.mono ?_
      rintro e w1 ⟨rfl, rfl⟩
      go_wp2
      refine bodyPost_ret (by simp [results, Tryz.results85]; rfl) rfl ?_
      rw [ET.out]
      simp [h10]
  · have h0' : ¬ (t2 : Int) = 0 := by omega
    by_cases hb : 8192 < t1
    · have hb' : (8192 : Int) < (t1 : Int) := by omega
      go_enter Tryz.func85, Tryz.ntmps85
      go_wp2_with fail
      refine TK.out.mono ?_
      rintro e w1 ⟨rfl, rfl⟩
      go_wp2
      refine bodyPost_ret (by simp [results, Tryz.results85]; rfl) rfl ?_
      rw [ET.out, if_neg h0, if_pos hb]
      exact ⟨rfl, rfl⟩
    · have hb' : ¬ (8192 : Int) < (t1 : Int) := by omega
      have hw : IntKind.i64.wrap (t1 : Int) = t1 := IntWalk.i64_in _ (by omega)
      go_enter Tryz.func85, Tryz.ntmps85
      go_wp2_with fail
      refine TK.out.mono ?_
      rintro e w1 ⟨rfl, rfl⟩
      go_wp2
      refine bodyPost_ret (by simp [results, Tryz.results85]; rfl) rfl ?_
      rw [ET.out, if_neg h0, if_neg hb]
      exact ⟨rfl, rfl⟩

set_option maxHeartbeats 1000000 in
set_option maxRecDepth 100000 in
theorem fget_any (v : Value) (xs : List Int) (w : World) (h : Bs w v xs) (hb : ∀ c ∈ xs, byt c) (T : Tab w) (hl : xs.length ≤ 70368744177664) :
    Calls Tryz.prog 59 #[v] w fun e w' => ∃ P, e = .returned (.tuple #[.slice P (getF xs).1.length (getF xs).1.length, .int .i64 (getF xs).2.1, .int .i64 (getF xs).2.2]) ∧
      Bo w.heap.size w' (.slice P (getF xs).1.length (getF xs).1.length) (getF xs).1 ∧ Below w.heap.size w w' := by
  have SZ := Lib.hid (fsize_any v xs w h hb hl)
  have SE := Lib.hid (sizeF_err xs)
  have SO := Lib.hid (sizeF_ok (bs := xs))
  have TS := Lib.hid (tk_size xs)
  obtain ⟨A, c, rfl, -⟩ := id h
  obtain ⟨n, hn⟩ : ∃ n, n = xs.length := ⟨_, rfl⟩
  rw [← hn] at SZ hl h ⊢
  have NN := Lib.hid hn
  have H := Lib.hid h
  have HB := Lib.hid hb
  have TT := Lib.hid T
  obtain ⟨r, hr⟩ : ∃ r, r = getF xs := ⟨_, rfl⟩
  rw [← hr]
  obtain ⟨s1, h1⟩ : ∃ s, s = (sizeF xs).1 := ⟨_, rfl⟩
  obtain ⟨s2, h2⟩ : ∃ s, s = (sizeF xs).2.1 := ⟨_, rfl⟩
  obtain ⟨s3, h3⟩ : ∃ s, s = (sizeF xs).2.2 := ⟨_, rfl⟩
  rw [← h1, ← h2, ← h3] at SZ SE
  have ER := Lib.hid (show r = if s3 ≠ 0 then ([], 0, s3) else if n < s2 + s1 + 4 then ([], 0, 5) else if endsB (xs.take (s2 + s1 + 4)) = false then ([], 0, 6) else ((xs.drop s2).take s1, s2 + s1 + 4, 0) from by
    rw [hr]; unfold getF; rw [← h1, ← h2, ← h3, ← hn])
  have B1 := Lib.hid (show s3 = 0 → s1 ≤ 8192 ∧ s2 ≤ 10 from fun h0 => by
    obtain ⟨e, _, e2⟩ := SO.out (by rw [← h3]; exact h0)
    rw [h1, h2, e]
    exact ⟨e2, TS.out.2⟩)
  clear h hb T hn hr h1 h2 h3 SO TS
  by_cases h0 : s3 = 0
  · subst h0
    obtain ⟨b1, b2⟩ := B1.out rfl
    clear B1
    by_cases hsh : n < s2 + s1 + 4
    · have hsh' : (n : Int) < (s2 : Int) + (s1 : Int) + 4 := by omega
      have RR := Lib.hid (show r = ([], 0, 5) by rw [ER.out, if_neg (by simp), if_pos hsh])
      go_enter Tryz.func59, Tryz.ntmps59
      go_wp2_with fail
      refine SZ.out.mono ?_
      rintro e w1 ⟨rfl, rfl⟩
      go_wp2
      refine bodyPost_ret (by simp [results, Tryz.results59]; rfl) rfl ?_
      rw [RR.out]
      exact ⟨none, rfl, Bo.nil_ _ _, Below.refl _ _⟩
    · obtain ⟨g, o, rfl⟩ := H.out.some_ (by omega)
      have hc := H.out.len_.2
      have hsh' : ¬ (n : Int) < (s2 : Int) + (s1 : Int) + 4 := by omega
      have i1 : (0 : Int) ≤ (s2 : Int) + (s1 : Int) + 4 := by omega
      have i2 : (s2 : Int) + (s1 : Int) + 4 ≤ (c : Int) := by omega
      have i3 : (s2 : Int) ≤ (s2 : Int) + (s1 : Int) := by omega
      have i4 : (s2 : Int) + (s1 : Int) ≤ (c : Int) := by omega
      have i5 : (0 : Int) ≤ (s2 : Int) := by omega
      have i6 : ((s2 : Int) + (s1 : Int) + 4).toNat = s2 + s1 + 4 := by omega
      have i7 : ((s2 : Int) + (s1 : Int)).toNat - s2 = s1 := by omega
      have i8 : ((s2 : Int) + (s1 : Int) - (s2 : Int)).toNat = s1 := by omega
      have S1 := Lib.hid (show Bs w (.slice (some ⟨g, o, none⟩) (s2 + s1 + 4) c) (xs.take (s2 + s1 + 4)) from by have := H.out.sub 0 (s2 + s1 + 4) c (by omega) (by omega); simpa using this)
      have EN := Lib.hid (ends_any _ _ w S1.out (fun c hc => HB.out c (List.mem_of_mem_take hc)) TT.out (by rw [List.length_take]; omega))
      obtain ⟨b, hb⟩ : ∃ b, b = endsB (xs.take (s2 + s1 + 4)) := ⟨_, rfl⟩
      rw [← hb] at EN
      have EB := Lib.hid hb
      clear hb
      have S2 := Lib.hid (H.out.sub s2 s1 (c - s2) (by omega) (by omega))
      go_enter Tryz.func59, Tryz.ntmps59
      go_wp2_with fail
      refine SZ.out.mono ?_
      rintro e w1 ⟨rfl, rfl⟩
      go_wp2_with fail
      refine EN.out.mono ?_
      rintro e w1 ⟨rfl, b1⟩
      have BB := Lib.hid b1
      clear b1
      cases b
      case false =>
        have RR := Lib.hid (show r = ([], 0, 6) by rw [ER.out, if_neg (by simp), if_neg hsh, if_pos EB.out.symm])
        go_wp2
        refine bodyPost_ret (by simp [results, Tryz.results59]; rfl) rfl ?_
        rw [RR.out]
        exact ⟨none, rfl, Bo.nil_ _ _, BB.out⟩
      case true =>
        have RR := Lib.hid (show r = ((xs.drop s2).take s1, s2 + s1 + 4, 0) by rw [ER.out, if_neg (by simp), if_neg hsh, if_neg (by rw [← EB.out]; simp)])
        have hl1 : ((xs.drop s2).take s1).length = s1 := by rw [List.length_take, List.length_drop, ← NN.out]; omega
        have LL := Lib.hid hl1
        clear hl1
        go_wp2_with fail
        refine (byt_clone_any _ s1 (bc ((xs.drop s2).take s1)) _ (show Rd w1 1 _ s1 (bc ((xs.drop s2).take s1)) from by have := S2.out.below BB.out; unfold Bs at this; rw [LL.out] at this; exact this) (bc_one _) (by omega) (by omega)).mono ?_
        rintro e w2 ⟨v2, rfl, h2, b2⟩
        obtain ⟨P, c2, rfl, hc2, h3⟩ := h2.clip
        have H3 := Lib.hid h3
        have B2 := Lib.hid (BB.out.trans (b2.mono BB.out.size))
        clear h2 h3 b2
        go_wp2_with fail
        refine (byt_clip P s1 c2 w2 hc2 (by omega)).mono ?_
        rintro e w3 ⟨rfl, rfl⟩
        go_wp2
        refine bodyPost_ret (by simp [results, Tryz.results59]; rfl) rfl ?_
        rw [RR.out]
        refine ⟨P, ?_, ?_, B2.out⟩
        · simp only [LL.out]
          simp
        · have := H3.out.le BB.out.size
          simp only [LL.out]
          unfold Bo
          rw [LL.out]
          exact this
  · have RR := Lib.hid (show r = ([], 0, s3) by rw [ER.out, if_pos h0])
    go_enter Tryz.func59, Tryz.ntmps59
    go_wp2_with fail
    refine SZ.out.mono ?_
    rintro e w1 ⟨rfl, rfl⟩
    go_wp2
    refine bodyPost_ret (by simp [results, Tryz.results59]; rfl) rfl ?_
    rw [RR.out]
    exact ⟨none, rfl, Bo.nil_ _ _, Below.refl _ _⟩
end Go.Proofs.YtoiclicechfmgaaGreatDoor

/- A range over a function whose iterator tells of the world behind it, too. -/
namespace Go.Proofs.YtoiclicechfmgaaGreatDoor
open Go.RowKit Go.Shelf

/-- What an iterator does: S, Sp: what has come, and what is so in the world behind. -/
def SeqW {α : Type} (n : Nat) (P : Program) (g : Nat) (lb : Array Value) (encs : α → Array Value) (Kp : World → World → Prop) (S Sp : List α → World → Prop) (N : Nat) (w : World) : Prop :=
  ∀ (l : Nat) (J Jx : List α → World → Prop) (W : World), Below w.heap.size w W → AbidesFrom W.heap.size J → AbidesFrom W.heap.size Jx →
    (∀ pre x W1, J pre W1 → pre.length < N → YieldAt Fence.wide (n - 1) P l (encs x) W1 fun e W' =>
      (e = .returned (.bool true) ∧ J (pre ++ [x]) W' ∧ Kp W1 W') ∨ (e = .returned (.bool false) ∧ Jx (pre ++ [x]) W')) →
    J [] W →
    CallsIn Fence.wide n P g (#[.func (.yield l) #[] #[]] ++ lb) W fun e W' => (∃ v, e = .returned v) ∧ ((∃ xs, S xs W' ∧ J xs W') ∨ (∃ pre, Sp pre W' ∧ Jx pre W'))

set_option maxHeartbeats 1000000 in
/-- The law of the caller: the body never leaves the loop. -/
theorem wp_rangeW {P : Program} {n : Nat} {α : Type} {g : Operand} {ps : Array Tmp} {assign body : Code} {Q : Exit → Act → World → Prop} {a : Act} {w : World}
    (h1 : 1 ≤ n) {gf : Nat} {lb : Array Value} (hg : a.eval g = .func (.func gf) #[] lb) (eg : ∀ args w, (callFunc gf args).run P w = .ok (.enter gf args) w)
    {encs : α → Array Value} {Kp : World → World → Prop} {S Sp : List α → World → Prop} {N : Nat} {w0 : World} (hseq : SeqW (n - 1) P gf lb encs Kp S Sp N w0)
    (hKt : ∀ {A B C : World}, Kp A B → Kp B C → Kp A C) (hKb : ∀ (W : World) (l : Nat) (o o' : Obj), w.heap.size ≤ l → W.heap[l]? = some o → o.isCells = false → o.isWalk = false → Kp W (W.putObj l o')) (hb0 : Below w0.heap.size w0 w) (hps : ∀ x, (encs x).size = ps.size)
    (I : List α → World → Prop) (hI : OwnFrom w.heap.size I) (hS : OwnFrom w.heap.size S) (h0 : I [] w) (a₁ : α → Act)
    (hassign : ∀ (l : Nat) (x : α) (W : World) (K : Act → World → Prop), K (a₁ x) W →
      assign.wpIn (Fence.wide.inRound l) (n - 1 - 1) P (Exit.then K (fun _ _ _ => False)) { tmps := (ps.zip (encs x)).foldl (fun t (p, v) => t.setIfInBounds p v) a.tmps, defers := [] } W)
    (hbody : ∀ (l : Nat) (pre : List α) (x : α) (W : World), I pre W → pre.length < N → body.wpIn (Fence.wide.inRound l) (n - 1 - 1) P (ownPostG w.heap.size Kp I (fun _ _ _ => False) (pre ++ [x]) W) (a₁ x) W)
    (hdone : ∀ (D : Nat) (xs : List α) (W : World), w.heap.size ≤ D → S xs W → I xs W → W.heap[D]? = some (.deferred (some [])) → Q .normal { a with defers := { target := .collected D, args := #[] } :: a.defers } W) :
    (Code.rangeFunc g ps assign body).wpIn Fence.wide n P Q a w := by
  refine wpIn_rangeFunc ?_
  intro fn hfn
  obtain ⟨rec, hrec⟩ : ∃ rec : LoopState → Option Code → Loop, rec = fun st pe => { state := st, pending := pe, fn, tmps := a.tmps, params := ps, assign, body, defers := w.heap.size } := ⟨_, rfl⟩
  obtain ⟨W1, hW1⟩ : ∃ W1, (w.alloc (.deferred (some []))).alloc (.loop (rec .ready none)) = W1 := ⟨_, rfl⟩
  have hL1 : W1.heap[w.heap.size + 1]? = some (.loop (rec .ready none)) := by
    rw [← hW1]; have := World.alloc_heap_new (w.alloc (.deferred (some []))) (.loop (rec .ready none)); rwa [World.size_alloc] at this
  have hK1 : W1.heap[w.heap.size]? = some (.deferred (some [])) := by
    rw [← hW1]; exact (Below.heap_alloc _ _ _ (by simp)).trans (World.alloc_heap_new w _)
  have hI1 : I [] W1 := by rw [← hW1]; exact hI.alloc _ (hI.alloc _ h0)
  have hb1 : Below w0.heap.size w0 W1 := by
    rw [← hW1]; exact hb0.trans ((((Below.refl _ w).alloc (Nat.le_refl _) _).alloc (by simp) _).mono hb0.size)
  refine ⟨w.heap.size + 1, [{ target := .collected w.heap.size, args := #[] }], W1, { target := .fn (.func gf) lb, args := #[.func (.yield (w.heap.size + 1)) #[] #[]] }, W1, gf,
    #[.func (.yield (w.heap.size + 1)) #[] #[]] ++ lb, W1, ?_, ?_, ?_, ?_, fun _ => h1, ?_⟩
  · rw [← hW1, hrec]; exact run_enterLoop_outer _ _ _ _ _
  · simp only [resolve, hg]
    simp [go_sem]
  · intro f' _; trivial
  · simp [invoke, go_sem, eg]
  · have hnw : ∀ {A B : World} {row : Option Nat}, (∀ r, row = some r → W1.heap.size ≤ r ∧ ∃ o : Obj, A.heap[r]? = some o ∧ o.isWalk = true) → (∀ r, row = some r → w.heap.size ≤ r ∧ ∃ o : Obj, A.heap[r]? = some o ∧ o.isCells = false) :=
      fun hr r e => by obtain ⟨hB, o, ho, hw⟩ := hr r e; exact ⟨by rw [← hW1] at hB; simp at hB; omega, o, ho, Obj.not_cells_of_walk hw⟩
    refine (hseq (w.heap.size + 1)
      (fun pre W => I pre W ∧ W.heap[w.heap.size + 1]? = some (.loop (rec .ready none)) ∧ W.heap[w.heap.size]? = some (.deferred (some [])))
      (fun _ _ => False)
      W1 hb1
      (fun s A B row hs hg' hr => ⟨hI s A B row hs.1 hg' (hnw (B := B) hr), (grownBy_keeps hg' (fun r e => (hr r e).2) hs.2.1 rfl).trans hs.2.1, (grownBy_keeps hg' (fun r e => (hr r e).2) hs.2.2 rfl).trans hs.2.2⟩)
      (fun s A B row hs hg' hr => hs)
      ?_ ⟨hI1, hL1, hK1⟩).mono ?_
    · rintro pre x W ⟨hi, hl, hk⟩ hlen
      have hlt : w.heap.size + 1 < W.heap.size := (Array.getElem?_eq_some_iff.1 hl).1
      have hy := run_yield (P := P) (args := encs x) hl (by rw [hrec]; exact hps x)
      rw [hrec] at hy
      refine ⟨fn, _, assign, body, hy, roundIn_of_wpIn hfn (hassign _ x W _ ⟨_, run_beginRound hl (by rw [hrec]), ?_⟩)⟩
      have hl2 : (W.putObj (w.heap.size + 1) (.loop { rec .ready none with state := .busy })).heap[w.heap.size + 1]? = some (.loop { rec .ready none with state := .busy }) := World.putObj_heap_same hlt
      have hk2 : (W.putObj (w.heap.size + 1) (.loop { rec .ready none with state := .busy })).heap[w.heap.size]? = some (.deferred (some [])) := (World.putObj_heap_other (by omega)).trans hk
      have hw2 : Kp W (W.putObj (w.heap.size + 1) (.loop { rec .ready none with state := .busy })) := hKb _ _ _ _ (by omega) hl rfl rfl
      refine wpIn_mono (hbody _ pre x _ (hI.putObj _ hi (by omega) hl rfl) hlen) ?_
      rintro e a3 W3 hp
      cases e with
      | normal =>
        obtain ⟨hk3, hkp3, hi3⟩ := hp
        have hl3 := hk3.same _ _ (by omega) hl2 rfl
        have hr := run_endRound (P := P) none hl3
        rw [hrec] at hr hl3
        refine ⟨_, _, hr, .inl ⟨rfl, ⟨hI.putObj _ hi3 (by omega) hl3 rfl, ?_, ?_⟩, hKt (hKt hw2 hkp3) (hKb _ _ _ _ (by omega) hl3 rfl rfl)⟩⟩
        · rw [hrec]; exact World.putObj_heap_same (Array.getElem?_eq_some_iff.1 hl3).1
        · exact (World.putObj_heap_other (by omega)).trans (hk3.same _ _ (Nat.le_refl _) hk2 rfl)
      | ret => exact hp.2.elim
      | exit id => exact hp.2.elim
      | goto t => exact hp.2.elim
      | panic ch => exact hp.elim
      | outgrown => exact hp.elim
    · rintro e W2 ⟨⟨v, rfl⟩, (⟨xs, hs, hi, hl, hk⟩ | ⟨pre, hSp, hx⟩)⟩
      · exact ⟨none, _, by have := run_endLoop (P := P) hl (by rw [hrec]; simp); rw [hrec] at this; exact this, hdone _ xs _ (Nat.le_refl _) (hS.putObj _ hs (by omega) hl rfl) (hI.putObj _ hi (by omega) hl rfl) ((World.putObj_heap_other (by omega)).trans hk)⟩
      · exact hx.elim
end Go.Proofs.YtoiclicechfmgaaGreatDoor

/- frames.frames: all frames of bytes, as an iterator. -/
namespace Go.Proofs.YtoiclicechfmgaaGreatDoor
open Go.RowKit Go.Shelf
attribute [local go_sem] Oper.semAt_some

/-- A body, as yield is given it: its slice; where its frame ends. -/
abbrev Bod := Option Addr × Nat × Nat
def bodV (x : Bod) : Value := .slice x.1 x.2.1 x.2.1
def bodA (x : Bod) : Array Value := #[bodV x, .int .i64 (x.2.2 : Int)]
def lastTo (ys : List Bod) : Nat := (ys.getLast?.map (fun y => y.2.2)).getD 0
theorem lastTo_app (ys : List Bod) (x : Bod) : lastTo (ys ++ [x]) = x.2.2 := by simp [lastTo]
/-- Below n₀ nothing turns, no block of bytes does, and not the block Bx. -/
structure Kb (n₀ Bx : Nat) (W W' : World) : Prop where
  bel : Below n₀ W W'
  blk : ∀ g cs, Blk W g 5 cs → Blk W' g 5 cs
  box : ∀ t cs, Blk W Bx t cs → Blk W' Bx t cs
theorem Kb.trans {n₀ Bx : Nat} {A B C : World} (h : Kb n₀ Bx A B) (k : Kb n₀ Bx B C) : Kb n₀ Bx A C := ⟨h.bel.trans k.bel, fun g cs hb => k.blk g cs (h.blk g cs hb), fun t cs hb => k.box t cs (h.box t cs hb)⟩
theorem Kb.refl (n₀ Bx : Nat) (W : World) : Kb n₀ Bx W W := ⟨Below.refl _ _, fun _ _ h => h, fun _ _ h => h⟩
theorem Kb.of_below {n₀ Bx : Nat} {W W' : World} (h : Below W.heap.size W W') (hn : n₀ ≤ W.heap.size) : Kb n₀ Bx W W' := ⟨h.mono hn, fun _ _ hb => hb.below h hb.lt, fun _ _ hb => hb.below h hb.lt⟩
theorem Kb.put {n₀ Bx : Nat} (W : World) (l : Nat) (o o' : Obj) (hl : n₀ ≤ l) (h : W.heap[l]? = some o) (hc : o.isCells = false) : Kb n₀ Bx W (W.putObj l o') := by
  have hne : ∀ {g t : Nat} {cs : Array Value}, Blk W g t cs → g ≠ l := fun hb e => by subst e; unfold Blk at hb; rw [h] at hb; cases hb; cases hc
  have hlt : l < W.heap.size := (Array.getElem?_eq_some_iff.1 h).1
  refine ⟨⟨rfl, rfl, rfl, by simp [World.putObj], fun i hi => World.putObj_heap_other (by omega)⟩, fun g cs hb => (World.putObj_heap_other (hne hb)).trans hb, fun t cs hb => (World.putObj_heap_other (hne hb)).trans hb⟩
theorem Bo.kb {B : Nat} {W W' : World} {v : Value} {xs : List Int} (h : Bo B W v xs) (k : ∀ g cs, Blk W g 5 cs → Blk W' g 5 cs) : Bo B W' v xs := by
  rcases h with h0 | ⟨g, c, cur, rfl, hB, hb, h2⟩
  · exact .inl h0
  · exact .inr ⟨g, c, cur, rfl, hB, k g cur hb, h2⟩
/-- The bodies ys read as ls. -/
structure Rds (n₀ : Nat) (W : World) (ys : List Bod) (ls : List (List Int)) : Prop where
  len : ys.length = ls.length
  at_ : ∀ (j : Nat) (h : j < ys.length) (h' : j < ls.length), Bo n₀ W (bodV ys[j]) ls[j]
theorem Rds.nil (n₀ : Nat) (W : World) : Rds n₀ W [] [] := ⟨rfl, fun j h => absurd h (by simp)⟩
theorem Rds.kb {n₀ : Nat} {W W' : World} {ys : List Bod} {ls : List (List Int)} (h : Rds n₀ W ys ls) (k : ∀ g cs, Blk W g 5 cs → Blk W' g 5 cs) : Rds n₀ W' ys ls := ⟨h.len, fun j h1 h2 => (h.at_ j h1 h2).kb k⟩
theorem Rds.snoc {n₀ : Nat} {W : World} {ys : List Bod} {ls : List (List Int)} {y : Bod} {l : List Int} (h : Rds n₀ W ys ls) (hb : Bo n₀ W (bodV y) l) : Rds n₀ W (ys ++ [y]) (ls ++ [l]) := by
  have hl := h.len
  refine ⟨by simp [hl], fun j h1 h2 => ?_⟩
  rcases Nat.lt_or_ge j ys.length with hj | hj
  · rw [List.getElem_append_left hj, List.getElem_append_left (by omega)]
    exact h.at_ j hj (by omega)
  · obtain rfl : j = ys.length := by simp at h1; omega
    rw [List.getElem_append_right (Nat.le_refl _), List.getElem_append_right (by omega)]
    simpa [hl] using hb
theorem rds_own {n₀ B : Nat} (f : List Bod → List (List Int)) (p : List Bod → Prop) : OwnFrom B (fun ys W => Rds n₀ W ys (f ys) ∧ p ys) := fun s A C row hs hg hr =>
  ⟨hs.1.kb fun g cs hb => by
    refine (hg.block g hb.lt fun e => ?_).trans hb
    obtain ⟨_, o, ho, hc⟩ := hr g e.symm
    rw [show A.heap[g]? = some (.cells cs 5 (0, 0)) from hb] at ho
    (cases ho; cases hc), hs.2⟩

/-- A slice value whose address, if it has one, is a plain cell. -/
def Pl (v : Value) : Prop := ∃ A n c, v = .slice A n c ∧ (A = none ∨ ∃ g o, A = some ⟨g, o, none⟩)
theorem Pl.of_bo {B : Nat} {w : World} {v : Value} {xs : List Int} (h : Bo B w v xs) : Pl v := by
  rcases h with ⟨rfl, -⟩ | ⟨g, c, cur, rfl, -⟩
  · exact ⟨none, 0, 0, rfl, .inl rfl⟩
  · exact ⟨_, _, _, rfl, .inr ⟨g, 0, rfl⟩⟩
theorem Pl.of_bs {w : World} {v : Value} {xs : List Int} (h : Bs w v xs) (h0 : 0 < xs.length) : Pl v := by
  obtain ⟨A, c, rfl, -⟩ := id h
  obtain ⟨g, o, rfl⟩ := h.some_ h0
  exact ⟨_, _, _, rfl, .inr ⟨g, o, rfl⟩⟩

theorem frames_any (A : Option Addr) (n c : Nat) (w : World) : Calls Tryz.prog 83 #[.slice A n c] w fun e w' => e = .returned (.func (.func 109) #[] #[.pointer (some ⟨w.heap.size, 0, none⟩)]) ∧ w.alloc (.cells #[.slice A n c] 22) = w' := by
  go_enter Tryz.func83, Tryz.ntmps83
  go_wp2
  go_ret
  exact ⟨rfl, rfl⟩
theorem abides_ {β : Type} {B : Nat} {J : β → World → Prop} (h : AbidesFrom B J) {s : β} {W W' : World} (hs : J s W) (hb : Below W.heap.size W W') : J s W' := h s W _ none hs (grown_below_ hb none) (fun r e => by cases e)

set_option maxRecDepth 100000 in
set_option maxHeartbeats 4000000 in
theorem frames1_seq (n : Nat) (hn : 1 ≤ n) (bs : List Int) (A : Option Addr) (c Bx : Nat) (w1 w : World) (hby : ∀ c ∈ bs, byt c) (hl : bs.length ≤ 70368744177664) (T : Tab w1) (hB : Bs w1 (.slice A bs.length c) bs) (h0A : bs.length = 0 → A = none ∨ ∃ g o, A = some ⟨g, o, none⟩)
    (hb : Below w1.heap.size w1 w) (hBx : Blk w Bx 22 #[.slice A bs.length c]) :
    SeqW n Tryz.prog 109 #[.pointer (some ⟨Bx, 0, none⟩)] bodA (Kb w1.heap.size Bx) (fun ys W => Rds w1.heap.size W ys (rdF bs).1 ∧ lastTo ys = (rdF bs).2) (fun _ _ => True) bs.length w := by
  intro l J Jx W hW hJ hJx hY h0
  have hmix : Tryz.prog.follows .mixedOrders = true := by kernel_rfl
  have HY := Lib.hid hY
  have HJ := Lib.hid hJ
  have BY := Lib.hid hby
  have TT := Lib.hid T
  have HB := Lib.hid hB
  have HW := Lib.hid (show Below w1.heap.size w1 W from hb.trans (hW.mono hb.size))
  have HX := Lib.hid (hBx.below hW hBx.lt)
  have hcc : bs.length ≤ c := by obtain ⟨_, _, e, h, -⟩ := hB; cases e; exact h
  have hA : A = none ∨ ∃ g o, A = some ⟨g, o, none⟩ := by
    rcases Nat.eq_zero_or_pos bs.length with h | h
    · exact h0A h
    · exact .inr (hB.some_ h)
  clear hY hJ hJx hby T hB hb hW h0A hBx
  refine callsIn_of_wp Tryz.func109 rfl trivial ?_ rfl
  simp only [Tryz.ntmps109, List.size_toArray, List.length_cons, List.length_nil, Nat.reduceAdd, Nat.reduceSub, Array.replicate_succ, Array.replicate_zero, List.push_toArray, List.append_toArray, List.nil_append, List.cons_append]
  gi_wp2
  gi_loopw [3] (fun i wr => ∃ (pre : List Bod) (ls : List (List Int)) (k : Nat), i = .int .i64 (k : Int) ∧ k ≤ bs.length ∧ pre.length ≤ k ∧ lastTo pre = k ∧ J pre wr ∧ Kb w1.heap.size Bx W wr ∧ Rds w1.heap.size wr pre ls ∧ rdF bs = (ls ++ (rdF (bs.drop k)).1, k + (rdF (bs.drop k)).2))
    (fun i _ => bs.length - (intOf i).toNat)
  case atStart => exact ⟨[], [], 0, rfl, Nat.zero_le _, Nat.le_refl _, rfl, h0, Kb.refl _ _ _, Rds.nil _ _, by simp⟩
  case round =>
    obtain ⟨pre, ls, k, rfl, hto, hpl, hlast, hJs, hnx, hR, hF⟩ := hrel
    have cs : wr.cell? ⟨Bx, 0, none⟩ = some (.slice A bs.length c) := by have := (hnx.box _ _ HX.out).cell 0; simpa using this
    have RR := Lib.hid hR
    have FF := Lib.hid hF
    have LT := Lib.hid hlast
    have BW := HW.out.trans hnx.bel
    have HBr := Lib.hid (HB.out.below BW)
    have TR := Lib.hid (TT.out.below BW)
    have SZ := Lib.hid (show w1.heap.size ≤ wr.heap.size from BW.size)
    have NX := Lib.hid hnx
    clear hR hF hlast BW hnx
    obtain ⟨L, hL⟩ : ∃ L, L = bs.length := ⟨_, rfl⟩
    rw [← hL] at cs hto hcc hl HBr
    have LL := Lib.hid hL
    obtain ⟨r, hr⟩ : ∃ r, r = getF (bs.drop k) := ⟨_, rfl⟩
    have ER := Lib.hid hr
    have GL := Lib.hid (getF_len (bs := bs.drop k))
    have GB := Lib.hid (getF_bad (xs := bs.drop k))
    have GP := Lib.hid (getF_pos (xs := bs.drop k))
    have RB := Lib.hid (rdF_bad (xs := bs.drop k))
    have RO := Lib.hid (rdF_ok (xs := bs.drop k))
    rw [← ER.out] at GL GB GP RB RO
    clear hL hr
    rcases hA with rfl | ⟨g, o, rfl⟩
    · have h0 : L = 0 := by
        rcases Nat.eq_zero_or_pos L with h | h
        · exact h
        · have hs := HBr.out
          rw [LL.out] at hs
          obtain ⟨g, o, h⟩ := hs.some_ (by rw [← LL.out]; exact h); cases h
      subst h0
      obtain rfl : bs = [] := List.eq_nil_of_length_eq_zero LL.out.symm
      obtain rfl : k = 0 := by omega
      have GE := Lib.hid (fget_any _ [] wr (show Bs wr (.slice none 0 c) [] from HBr.out) (fun c hc => by cases hc) TR.out (by simp))
      obtain ⟨e2, he2⟩ : ∃ e2, getF [] = ([], 0, e2) := ⟨(getF []).2.2, rfl⟩
      have he : (e2 != 0) = true := by
        have := getF_none
        rw [he2] at this
        simpa using this
      rw [he2] at GE
      have DN := Lib.hid (show ([] : List Int).drop 0 = [] from rfl)
      have RN := Lib.hid (show rdF [] = ([], 0) from rdF_bad getF_none)
      clear he2
      gi_wp2_with fail
      refine ⟨trivial, (callsIn_wide.2 GE.out).mono ?_⟩
      rintro e w2 ⟨P, rfl, -, b1⟩
      have B1 := Lib.hid b1
      clear b1
      gi_wp2_with (refine wpListIn_skip rfl rfl ?_)
      refine bodyPost_ret (results_none rfl _ _ _) rfl ?_
      refine ⟨⟨_, rfl⟩, .inl ⟨pre, ⟨?_, ?_⟩, abides_ HJ.out hJs B1.out⟩⟩
      · have h : (rdF []).1 = ls := by
          have h := FF.out
          rw [DN.out] at h
          refine (congrArg Prod.fst h).trans ?_
          show ls ++ (rdF []).1 = ls
          rw [RN.out]
          exact List.append_nil _
        rw [h]
        exact RR.out.kb fun g cs hb => hb.below B1.out hb.lt
      · refine LT.out.trans (Eq.symm ?_)
        have h := FF.out
        rw [DN.out] at h
        refine (congrArg Prod.snd h).trans ?_
        show _ + (rdF []).2 = _ + 0
        rw [RN.out]
    · by_cases hck : c = k
      · obtain rfl : c = L := by omega
        obtain rfl : c = k := hck
        have GE := Lib.hid (fget_any _ [] wr (show Bs wr (.slice (some ⟨g, o, none⟩) 0 0) [] from ⟨_, _, rfl, Nat.le_refl _, rfl, .inl rfl⟩) (fun c hc => by cases hc) TR.out (by simp))
        obtain ⟨e2, he2⟩ : ∃ e2, getF [] = ([], 0, e2) := ⟨(getF []).2.2, rfl⟩
        have he : (e2 != 0) = true := by
          have := getF_none
          rw [he2] at this
          simpa using this
        rw [he2] at GE
        have DN := Lib.hid (show bs.drop c = [] from List.drop_eq_nil_of_le (by have := LL.out; omega))
        have RN := Lib.hid (show rdF [] = ([], 0) from rdF_bad getF_none)
        clear he2
        gi_wp2_with fail
        refine ⟨trivial, (callsIn_wide.2 GE.out).mono ?_⟩
        rintro e w2 ⟨P, rfl, -, b1⟩
        have B1 := Lib.hid b1
        clear b1
        gi_wp2_with (refine wpListIn_skip rfl rfl ?_)
        refine bodyPost_ret (results_none rfl _ _ _) rfl ?_
        refine ⟨⟨_, rfl⟩, .inl ⟨pre, ⟨?_, ?_⟩, abides_ HJ.out hJs B1.out⟩⟩
        · have h : (rdF bs).1 = ls := by
            have h := FF.out
            rw [DN.out] at h
            refine (congrArg Prod.fst h).trans ?_
            show ls ++ (rdF []).1 = ls
            rw [RN.out]
            exact List.append_nil _
          rw [h]
          exact RR.out.kb fun g cs hb => hb.below B1.out hb.lt
        · refine LT.out.trans (Eq.symm ?_)
          have h := FF.out
          rw [DN.out] at h
          refine (congrArg Prod.snd h).trans ?_
          show _ + (rdF []).2 = _ + 0
          rw [RN.out]
      have HS := Lib.hid (show Bs wr (.slice (some ⟨g, o + k, none⟩) (L - k) (c - k)) (bs.drop k) from by
        have h := HBr.out.sub k (L - k) (c - k) (by omega) (by omega)
        rwa [List.take_of_length_le (by rw [List.length_drop, ← LL.out]; exact Nat.le_refl _)] at h)
      have hto' : (k : Int) ≤ (L : Int) := by omega
      have GE := Lib.hid (fget_any _ (bs.drop k) wr HS.out (fun c hc => BY.out c (List.mem_of_mem_drop hc)) TR.out (by rw [List.length_drop, ← LL.out]; omega))
      rw [← ER.out] at GE
      have hkl : (k : Int) ≤ 70368744177664 := by omega
      obtain ⟨xs, n2, e2⟩ := r
      simp only at GE GL GB GP RB RO
      have hn2 : n2 ≤ L := by have := GL.out.2; rw [List.length_drop, ← LL.out] at this; omega
      gi_wp2_with fail
      refine ⟨trivial, (callsIn_wide.2 GE.out).mono ?_⟩
      rintro e w2 ⟨P, rfl, hP, b1⟩
      have PP := Lib.hid hP
      have B1 := Lib.hid b1
      clear hP b1
      by_cases he : e2 = 0
      · subst he
        have hp := GP.out rfl
        have hlk : k < L := by have := hp.1; have h2 := hp.2; rw [List.length_drop, ← LL.out] at h2; omega
        have J2 : J pre w2 := abides_ HJ.out hJs B1.out
        obtain ⟨fn, tmps, assign, body, hy, hR⟩ := HY.out pre (P, xs.length, k + n2) w2 J2 (by rw [← LL.out]; omega)
        unfold bodA bodV at hy
        simp only at hy
        rw [Int.natCast_add] at hy
        have YY := Lib.hid hy
        clear hy
        clear hp
        gi_wp2
        rw [YY.out]
        gi_wp2
        refine hR.mono ?_
        rintro e W3 (⟨rfl, hJ3, hk3⟩ | ⟨rfl, hJx3⟩)
        · gi_wp2
          have h5 := GP.out trivial
          have h6 := h5.2
          rw [List.length_drop, ← LL.out] at h6
          have bw : Kb w1.heap.size Bx wr W3 := (Kb.of_below B1.out SZ.out).trans hk3
          refine ⟨⟨pre ++ [(P, xs.length, k + n2)], ls ++ [xs], k + n2, by go_num, by rw [← LL.out]; omega, by have := h5.1; simp; omega, lastTo_app _ _, hJ3, NX.out.trans bw, ?_, ?_⟩, ?_⟩
          · exact (RR.out.kb bw.blk).snoc (Bo.kb (Bo.le PP.out SZ.out) hk3.blk)
          · have h := FF.out
            rw [RO.out trivial, List.drop_drop] at h
            rw [h]
            simp [Nat.add_assoc]
          · have := h5.1
            have := LL.out
            simp [intOf]; omega
        · gi_wp2
          refine bodyPost_ret (results_none rfl _ _ _) rfl ?_
          exact ⟨⟨_, rfl⟩, .inr ⟨_, trivial, hJx3⟩⟩
      · have he' : (e2 != 0) = true := by simpa using he
        obtain rfl : n2 = 0 := GB.out he
        gi_wp2_with (refine wpListIn_skip rfl rfl ?_)
        refine bodyPost_ret (results_none rfl _ _ _) rfl ?_
        refine ⟨⟨_, rfl⟩, .inl ⟨pre, ⟨?_, ?_⟩, abides_ HJ.out hJs B1.out⟩⟩
        · have h : (rdF bs).1 = ls := by
            have h := FF.out
            rw [RB.out he] at h
            exact (congrArg Prod.fst h).trans (List.append_nil _)
          rw [h]
          exact RR.out.kb fun g cs hb => hb.below B1.out hb.lt
        · have h := FF.out
          rw [RB.out he] at h
          exact LT.out.trans (congrArg Prod.snd h).symm
end Go.Proofs.YtoiclicechfmgaaGreatDoor

/- frames.Read: all frames of bytes, in a slice. -/
namespace Go.Proofs.YtoiclicechfmgaaGreatDoor
open Go.RowKit Go.Shelf
attribute [local go_sem] Oper.semAt_some

theorem sl_info : (Tryz.prog.info? 22).map (fun i => (i.zero, i.size, i.bytes)) = some (some (.slice none 0 0), 1, 24) := by kernel_rfl

theorem lclip_any (A : Option Addr) (n c : Nat) (w : World) (hc : n ≤ c) (hn : n ≤ 4611686018427387904) :
    Calls Tryz.prog 84 #[.slice A n c] w fun e w' => e = .returned (.slice A n n) ∧ w = w' := by
  have h1 : (n : Int) ≤ (c : Int) := by omega
  have h2 : (n : Int) ≤ 4611686018427387904 := by omega
  have h3 : ¬ (c : Int) < (n : Int) := by omega
  go_enter Tryz.func84, Tryz.ntmps84
  go_wp2
  go_ret
  exact ⟨by cases A <;> simp, rfl⟩

/-- 'out = append(out, x)' inside a fence. -/
theorem wpListIn_ow {F : Fence} {m : Nat} {ops : Array Oper} {rest : List Oper} {o : Oper} {a : Act} {Q : Exit → Act → World → Prop} (hgd : o.guard = none) (s x : Operand) (t e : TypeId) (z : Value) (size bytes : Nat)
    (ho : o.op = .call { callee := .builtin .append, args := #[s, x], argTypes := #[t, t] }) (ht : Tryz.prog.underlying t = some (.slice e))
    (hinf : (Tryz.prog.info? e).map (fun i => (i.zero, i.size, i.bytes)) = some (some z, size, bytes)) (hzs : z.cells.size = size) (hsz : 0 < size)
    {B n : Nat} {v : Value} {xs : List Value} (hs : a.eval s = v) {w0 : World} (news : Array Value) (hown : Ow B w0 e size v n xs) (hB : B ≤ w0.heap.size) (hnl : news.size = size) (h1 : ∀ u ∈ news.toList, u.oneCell' = true)
    (hx : a.eval x = .slice (some ⟨w0.heap.size, 0, none⟩) 1 1) (hlen : (n + 1) * bytes ≤ 140737488355328) (hlen2 : n + 1 ≤ maxLen)
    (h : ∀ v' w', Ow B w' e size v' (n + 1) (xs ++ news.toList) → Grew w0 w' v v' → wpListIn F m Tryz.prog ops Q rest (a.put o.dst v') w') : wpListIn F m Tryz.prog ops Q (o :: rest) a (w0.alloc (.cells news e)) := by
  refine wpListIn_plain hgd fun K hK => ?_
  obtain ⟨i0, hi, hz0, hz1, hz2⟩ := info_parts hinf
  have hown' := hown.below (below_alloc_ w0 (.cells news e))
  have hk := Blk.new w0 e news
  obtain ⟨v', w', hr, h2, h3, h4⟩ := run_append_ow (P := Tryz.prog) _ B t o.type e i0 z size bytes ht hi hz0 hz1 hz2 hzs hsz v _ _ hown' ⟨w0.heap.size, 0, none⟩ 1 1 news.toList (by simp [hnl]) (by
    intro j u hj
    rw [Addr.add_lit, Nat.zero_add, hk.cell]
    simpa using hj) h1 hlen2 hlen (by simp; omega)
  unfold Oper.wpIn
  refine ⟨?_, ?_⟩
  · simp [Oper.about, ho, resolve, Target.leads, Sem.run_pure]
  · rw [Oper.semAt_plain F _ _ (by rw [ho]; intro c hc'; cases hc')]
    simp [execOp, ho, resolve, invoke, builtin, hs, hx, hr, Result.andThen]
    exact hK _ _ (h v' w' h2 (Grew.of_ (below_alloc_ _ _) h3 h4))

/-- The bodies behind these, in the boxes N, N + 1. -/
def RdI (w1 : World) (pre : List Bod) (W : World) : Prop :=
  ∃ A c, Blk W w1.heap.size 115 #[.slice A pre.length c] ∧ Blk W (w1.heap.size + 1) 3 #[.int .i64 (lastTo pre : Nat)] ∧ Ow (w1.heap.size + 3) W 22 1 (.slice A pre.length c) pre.length (pre.map bodV) ∧ Below w1.heap.size w1 W ∧ w1.heap.size + 3 ≤ W.heap.size
theorem Blk.ownfrom {W W' : World} {g t B : Nat} {cs : Array Value} {row : Option Nat} (h : Blk W g t cs) (hg : W.grownBy W' row) (hr : ∀ r, row = some r → B ≤ r ∧ ∃ o : Obj, W.heap[r]? = some o ∧ o.isCells = false) : Blk W' g t cs := by
  refine h.grown hg fun e => ?_
  obtain ⟨_, o, ho, hc⟩ := hr _ e.symm
  unfold Blk at h
  rw [h] at ho; cases ho; cases hc
theorem Ow.ownfrom {W W' : World} {B0 t n B : Nat} {v : Value} {xs : List Value} {row : Option Nat} (h : Ow B0 W t 1 v n xs) (hg : W.grownBy W' row) (hr : ∀ r, row = some r → B ≤ r ∧ ∃ o : Obj, W.heap[r]? = some o ∧ o.isCells = false) : Ow B0 W' t 1 v n xs := by
  rcases h with h | ⟨g, c', cur, hv, hBg, hk, hh⟩
  · exact .inl h
  · exact .inr ⟨g, c', cur, hv, hBg, hk.ownfrom hg hr, hh⟩
theorem rdI_own {w1 : World} {B : Nat} (hB : w1.heap.size ≤ B) : OwnFrom B (RdI w1) := by
  rintro s W W' row ⟨A, c, k1, k2, h, b, hs⟩ hg hr
  exact ⟨A, c, k1.ownfrom hg hr, k2.ownfrom hg hr, h.ownfrom hg hr, b.grown hg b.size (fun j e => Nat.le_trans hB (hr j e).1), Nat.le_trans hs hg.size⟩

theorem Ow.row {B e size n : Nat} {w : World} {v : Value} {xs : List Value} (h : Ow B w e size v n xs) {k : Nat} (hk : v.ownBlock = some k) : B ≤ k ∧ ∃ cur, Blk w k e cur := by
  rcases h with ⟨rfl, _⟩ | ⟨g, cap, cur, rfl, hB, hg, _⟩
  · simp [Value.ownBlock] at hk
  · simp [Value.ownBlock] at hk
    subst hk
    exact ⟨hB, cur, hg⟩
theorem Blk.of_grew {B e size n g t : Nat} {W wx : World} {v v' : Value} {xs : List Value} {cs : Array Value} (hk : Blk W g t cs) (h : Ow B W e size v n xs) (hG : Grew W wx v v') (hne : t ≠ e ∨ g < B) : Blk wx g t cs := by
  refine hk.grown hG.1 fun e => ?_
  obtain ⟨h1, cur, h2⟩ := h.row e.symm
  rcases hne with hne | hne
  · exact Blk.ne_ hk h2 hne rfl
  · omega
theorem rdI_step {w1 W wx : World} {pre : List Bod} {x : Bod} {A A' : Option Addr} {c c' : Nat} (k1 : Blk W w1.heap.size 115 #[.slice A pre.length c]) (k2 : Blk W (w1.heap.size + 1) 3 #[.int .i64 (lastTo pre : Nat)])
    (h : Ow (w1.heap.size + 3) W 22 1 (.slice A pre.length c) pre.length (pre.map bodV)) (b : Below w1.heap.size w1 W) (hs : w1.heap.size + 3 ≤ W.heap.size)
    (hO : Ow (w1.heap.size + 3) wx 22 1 (.slice A' (pre.length + 1) c') (pre.length + 1) (pre.map bodV ++ [bodV x])) (hG : Grew W wx (.slice A pre.length c) (.slice A' (pre.length + 1) c')) :
    let Z := (wx.setCell ⟨w1.heap.size, 0, none⟩ (.slice A' (pre.length + 1) c')).setCell ⟨w1.heap.size + 1, 0, none⟩ (.int .i64 (x.2.2 : Int))
    KeepsFrom (w1.heap.size + 3) W Z ∧ Kb w1.heap.size (w1.heap.size + 2) W Z ∧ RdI w1 (pre ++ [x]) Z := by
  intro Z
  have x1 : Blk wx w1.heap.size 115 _ := k1.of_grew h hG (.inl (by decide))
  have x2 : Blk wx (w1.heap.size + 1) 3 _ := k2.of_grew h hG (.inl (by decide))
  have bx : Below w1.heap.size W wx := (Below.refl _ W).grown hG.1 b.size (fun k e => by have := (h.row e).1; omega)
  have bz : Below w1.heap.size W Z := (bx.setCell (p := ⟨w1.heap.size, 0, none⟩) (Nat.le_refl _) _).setCell (p := ⟨w1.heap.size + 1, 0, none⟩) (Nat.le_succ _) _
  refine ⟨?_, ⟨bz, fun g cs hb => ?_, fun t cs hb => ?_⟩, A', c', ?_, ?_, ?_, b.trans bz, Nat.le_trans hs bz.size⟩
  · refine KeepsFrom.trans ⟨hG.1.size, fun k o _ ho hc => (hG.1.block k (Array.getElem?_eq_some_iff.1 ho).1 fun e => ?_).trans ho⟩ (((KeepsOthers.setCell _ _ _).trans (KeepsOthers.setCell _ _ _)).from _)
    obtain ⟨_, cur, hk⟩ := h.row e.symm
    unfold Blk at hk
    rw [hk] at ho; cases ho; cases hc
  · have hx : Blk wx g 5 cs := hb.of_grew h hG (.inl (by decide))
    exact (hx.far (Blk.ne_ hx x1 (by decide)) _).far (Blk.ne_ hx x2 (by decide)) _
  · have hx : Blk wx _ t cs := hb.of_grew h hG (.inr (by omega))
    exact (hx.far (by simp) _).far (by simp) _
  · rw [List.length_append]
    exact (x1.set_ 0 _).far (by simp) _
  · rw [lastTo_app]
    exact (x2.far (by simp) _).set_ 0 _
  · rw [List.length_append, List.map_append]
    exact (hO.aside x1 (by decide) 0 _).aside (x2.far (by simp) _) (by decide) 0 _

theorem results_cc {fn : Func} (h : fn.results = #[.cell 2 115, .cell 3 3]) (tmps : Array Value) (w : World) (p q : Addr) (v1 v2 : Value) (h2 : tmps.getD 2 undef = .pointer (some p)) (h3 : tmps.getD 3 undef = .pointer (some q)) (c1 : w.cell? p = some v1) (c2 : w.cell? q = some v2) :
    (results fn tmps).run Tryz.prog w = .ok (.tuple #[v1, v2]) w := by
  simp only [Array.getD_eq_getD_getElem?] at h2 h3
  simp [results, h, h2, h3, go_sem, Tryz.underlying115, Tryz.underlying3, c1, c2]

/-- The end: both boxes set, the deferred block taken. -/
theorem rdI_end {w W : World} {ys : List Bod} {A : Option Addr} {c D : Nat} {ls : List (List Int)} {good : Int} (k1 : Blk W w.heap.size 115 #[.slice A ys.length c]) (k2 : Blk W (w.heap.size + 1) 3 #[.int .i64 (lastTo ys : Nat)])
    (h : Ow (w.heap.size + 3) W 22 1 (.slice A ys.length c) ys.length (ys.map bodV)) (b : Below w.heap.size w W) (hR : Rds w.heap.size W ys ls) (hD : w.heap.size ≤ D) (hK : W.heap[D]? = some (.deferred (some []))) :
    let Z := ((W.setCell ⟨w.heap.size, 0, none⟩ (.slice A ys.length ys.length)).setCell ⟨w.heap.size + 1, 0, none⟩ (.int .i64 good)).drew
    Z.heap[D]? = some (.deferred (some [])) ∧ Z.cell? ⟨w.heap.size, 0, none⟩ = some (.slice A ys.length ys.length) ∧ Z.cell? ⟨w.heap.size + 1, 0, none⟩ = some (.int .i64 good) ∧
    ∀ o, Ow w.heap.size (Z.putObj D o) 22 1 (.slice A ys.length ys.length) ys.length (ys.map bodV) ∧ Rds w.heap.size (Z.putObj D o) ys ls ∧ Below w.heap.size w (Z.putObj D o) ∧
      (Z.putObj D o).cell? ⟨w.heap.size, 0, none⟩ = some (.slice A ys.length ys.length) ∧ (Z.putObj D o).cell? ⟨w.heap.size + 1, 0, none⟩ = some (.int .i64 good) := by
  intro Z
  have hz := (KeepsOthers.setCell W ⟨w.heap.size, 0, none⟩ (.slice A ys.length ys.length)).trans (KeepsOthers.setCell (W.setCell ⟨w.heap.size, 0, none⟩ (.slice A ys.length ys.length)) ⟨w.heap.size + 1, 0, none⟩ (.int .i64 good))
  have hKZ : Z.heap[D]? = some (.deferred (some [])) := hz.same D _ hK rfl
  have z1 : Blk Z w.heap.size 115 #[.slice A ys.length ys.length] := (k1.set_ 0 _).far (by simp) _
  have z2 : Blk Z (w.heap.size + 1) 3 #[.int .i64 good] := (k2.far (by simp) _).set_ 0 _
  obtain ⟨A', c', e, hc, h'⟩ := h.clip
  cases e
  have hO : Ow (w.heap.size + 3) Z 22 1 (.slice A ys.length ys.length) ys.length (ys.map bodV) := (h'.aside k1 (by decide) 0 _).aside (k2.far (by simp) _) (by decide) 0 _
  have bz : Below w.heap.size w Z := ((b.setCell (p := ⟨w.heap.size, 0, none⟩) (Nat.le_refl _) _).setCell (p := ⟨w.heap.size + 1, 0, none⟩) (Nat.le_succ _) _).drew
  have k5 : ∀ g cs, Blk W g 5 cs → Blk Z g 5 cs := fun g cs hb => (hb.far (Blk.ne_ hb k1 (by decide)) _).far (Blk.ne_ hb k2 (by decide)) _
  have hput : ∀ (o : Obj) {g t : Nat} {cs : Array Value}, Blk Z g t cs → Blk (Z.putObj D o) g t cs := fun o g t cs hb => by
    refine (World.putObj_heap_other fun e => ?_).trans hb
    subst e
    unfold Blk at hb
    rw [hKZ] at hb
    cases hb
  refine ⟨hKZ, by have := z1.cell 0; simpa using this, by have := z2.cell 0; simpa using this, fun o => ⟨?_, (hR.kb k5).kb fun g cs hb => hput o hb, ?_, by have := (hput o z1).cell 0; simpa using this, by have := (hput o z2).cell 0; simpa using this⟩⟩
  · refine Ow.le (B := w.heap.size + 3) ?_ (by omega)
    rcases hO with h0 | ⟨g, c', cur, hv, hBg, hk, hh⟩
    · exact .inl h0
    · exact .inr ⟨g, c', cur, hv, hBg, hput o hk, hh⟩
  · exact bz.trans ⟨rfl, rfl, rfl, by simp [World.putObj], fun i hi => World.putObj_heap_other (by omega)⟩

set_option maxRecDepth 100000 in
set_option maxHeartbeats 1000000 in
theorem fread_any (bs : List Int) (A : Option Addr) (c : Nat) (w : World) (hby : ∀ c ∈ bs, byt c) (hl : bs.length ≤ 1000000000000) (T : Tab w) (hB : Bs w (.slice A bs.length c) bs) (h0A : bs.length = 0 → A = none ∨ ∃ g o, A = some ⟨g, o, none⟩) :
    Calls Tryz.prog 58 #[.slice A bs.length c] w fun e w' => ∃ (P : Option Addr) (ys : List Bod), e = .returned (.tuple #[.slice P ys.length ys.length, .int .i64 ((rdF bs).2 : Nat)]) ∧
      Ow w.heap.size w' 22 1 (.slice P ys.length ys.length) ys.length (ys.map bodV) ∧ Rds w.heap.size w' ys (rdF bs).1 ∧ Below w.heap.size w w' := by
  have hmix : Tryz.prog.follows .mixedOrders = true := by kernel_rfl
  have BY := Lib.hid hby
  have TT := Lib.hid T
  have HB := Lib.hid hB
  have H0 := Lib.hid h0A
  have HL := Lib.hid hl
  have B3 := Lib.hid (below_alloc3_ w (.cells #[.slice none 0 0] 115) (.cells #[.int .i64 0] 3) (.cells #[.slice A bs.length c] 22))
  clear hby T hB h0A hl
  refine (callsIn_wide (n := 5)).1 (callsIn_of_wp_marks Tryz.func58 rfl trivial ?_ rfl)
  simp only [Tryz.ntmps58, List.size_toArray, List.length_cons, List.length_nil, Nat.reduceAdd, Nat.reduceSub, Array.replicate_succ, Array.replicate_zero, List.push_toArray, List.append_toArray, List.nil_append, List.cons_append]
  refine wpIn_wide.2 ?_
  go_wp2_with fail
  refine (frames_any A bs.length c _).mono ?_
  rintro e w' ⟨rfl, rfl⟩
  go_wp2_with fail
  have hBx : Blk (((w.alloc (.cells #[.slice none 0 0] 115)).alloc (.cells #[.int .i64 0] 3)).alloc (.cells #[.slice A bs.length c] 22)) (w.heap.size + 2) 22 #[.slice A bs.length c] := by
    have := Blk.new ((w.alloc (.cells #[.slice none 0 0] 115)).alloc (.cells #[.int .i64 0] 3)) 22 #[.slice A bs.length c]
    simpa using this
  refine (wpIn_wide (n := 5)).1 ?_
  refine wp_rangeW (n := 5) (by omega) (gf := 109) (lb := #[.pointer (some ⟨w.heap.size + 2, 0, none⟩)]) rfl (enters_of Tryz.func109 (by kernel_rfl) rfl)
    (frames1_seq 4 (by omega) bs A c (w.heap.size + 2) w _ BY.out (by have := HL.out; omega) TT.out HB.out H0.out B3.out hBx)
    Kb.trans (fun W l o o' hl h hc _ => Kb.put W l o o' (by simp at hl; omega) h hc) (Below.refl _ _) (fun _ => rfl)
    (RdI w) (rdI_own (by simp; omega)) (rds_own (fun _ => (rdF bs).1) (fun ys => lastTo ys = (rdF bs).2))
    ⟨none, 0, ((Blk.new w 115 _).alloc _).alloc _, ?b2, .inl ⟨rfl, rfl, rfl⟩, B3.out, by simp⟩
    (fun x => { tmps := #[.slice A bs.length c, undef, .pointer (some ⟨w.heap.size, 0, none⟩), .pointer (some ⟨w.heap.size + 1, 0, none⟩), bodV x, .int .i64 (x.2.2 : Int), .slice A bs.length c,
      .func (.func 109) #[] #[.pointer (some ⟨w.heap.size + 2, 0, none⟩)], bodV x, .int .i64 (x.2.2 : Int), undef, undef, undef, undef, undef, undef, undef, undef], defers := [] })
    ?assign ?body ?done
  case b2 =>
    have := (Blk.new (w.alloc (.cells #[.slice none 0 0] 115)) 3 #[.int .i64 0]).alloc (.cells #[.slice A bs.length c] 22)
    simpa [lastTo] using this
  case assign =>
    intro l x W K hK
    unfold bodA
    gi_wp2
    exact hK
  case body =>
    intro l pre x W hI hlt
    obtain ⟨A1, c1, k1, k2, h1, b1, hs1⟩ := hI
    have HS := Lib.hid hs1
    have d1 := k1.cell 0
    have d2 := k2.cell 0
    simp at d1 d2
    have K1 := Lib.hid k1
    have K2 := Lib.hid k2
    have H1 := Lib.hid h1
    have BB := Lib.hid b1
    have hpl : pre.length < 1000000000000 := by have := HL.out; omega
    have PL := Lib.hid hpl
    clear k1 k2 h1 b1 hlt hpl hs1
    unfold bodV
    gi_wp2_with (gi_at_builtin; refine wpListIn_ow rfl _ _ 115 22 (.slice none 0 0) 1 24 rfl Tryz.underlying115 sl_info rfl (by decide) rfl #[bodV x] H1.out ?hsz rfl (by intro u hu; simp at hu; subst hu; rfl) rfl ?hl1 ?hl2 ?hk)
    case hsz => exact HS.out
    case hl1 => have := PL.out; omega
    case hl2 => have := PL.out; unfold maxLen; omega
    case hk =>
      intro v' wx hO hG
      obtain ⟨A', c', rfl, -, -⟩ := hO.clip
      have x1 := K1.out.of_grew H1.out hG (.inl (by decide))
      have x2 := K2.out.of_grew H1.out hG (.inl (by decide))
      have e1 := x1.cell 0
      have e2 := x2.cell 0
      have f1 := x1.free 0
      have f2 := x2.free 0
      simp at e1 e2
      have FIN := Lib.hid (rdI_step K1.out K2.out H1.out BB.out HS.out hO hG)
      clear x1 x2 hO hG
      gi_wp2
      exact FIN.out
  case done =>
    intro D ys W hD hS hI hK
    obtain ⟨A1, c1, k1, k2, h1, b1, hs1⟩ := hI
    have d1 := k1.cell 0
    have d2 := k2.cell 0
    have f1 := k1.free 0
    have f2 := k2.free 0
    simp at d1 d2
    have K1 := Lib.hid k1
    have K2 := Lib.hid k2
    have H1 := Lib.hid h1
    have BB := Lib.hid b1
    have KD := Lib.hid hK
    have DD := Lib.hid hD
    have HSS := Lib.hid hS
    have hcl : ys.length ≤ c1 := by obtain ⟨_, _, e, h, -⟩ := h1.clip; cases e; exact h
    have hyl : ys.length ≤ 4611686018427387904 := by
      have := hS.1.len
      have := (rdF_le bs.length bs (Nat.le_refl _)).2.1
      have := HL.out
      omega
    rw [hS.2] at d2
    clear k1 k2 h1 b1 hs1 hS hD hK
    have CL := Lib.hid (fun w => lclip_any A1 ys.length c1 w hcl hyl)
    clear hcl hyl
    go_wp2_with fail
    have END := Lib.hid (rdI_end (ls := (rdF bs).1) (good := ((rdF bs).2 : Nat)) K1.out K2.out H1.out BB.out HSS.out.1 (by have := DD.out; simp at this; omega) KD.out)
    go_region_with (go_simp; go_at_call 84; refine (CL.out _).mono ?_; rintro e w' ⟨rfl, rfl⟩)
    go_wp2
    all_goals
      obtain ⟨z1, z2, z3, z4⟩ := END.out
      refine ⟨by simp, .inl ⟨_, _, rfl, run_takeDeferred z1, ?_⟩⟩
      obtain ⟨y1, y2, y3, y4, y5⟩ := z4 (.deferred none)
      exact ⟨_, results_cc rfl _ _ _ _ _ _ rfl rfl y4 y5, _, _, rfl, y1, y2, y3⟩
end Go.Proofs.YtoiclicechfmgaaGreatDoor

/- logs: Open of a fresh disk. -/
namespace Go.Proofs.YtoiclicechfmgaaGreatDoor
open Go.RowKit

theorem cont_size : (Tryz.prog.info? 134).map (·.size) = some 3 := by kernel_rfl
theorem results_cont {fn : Func} (h : fn.results = #[.cell 2 134, .tmp 3]) (tmps : Array Value) (w : World) (g : Nat) (a b c v3 : Value) (hk : Blk w g 134 #[a, b, c]) (h2 : tmps.getD 2 undef = .pointer (some ⟨g, 0, none⟩)) (h3 : tmps.getD 3 undef = v3) :
    (results fn tmps).run Tryz.prog w = .ok (.tuple #[.agg #[a, b, c], v3]) w := by
  have hr := run_loadVar_row (P := Tryz.prog) w g 134 134 #[a, b, c] (0, 0) _ hk Tryz.underlying134 rfl cont_size
  rw [results_cell_tmp h, h2, h3]
  simp [asAddr, hr, Result.andThen]

set_option maxHeartbeats 1000000 in
set_option maxRecDepth 100000 in
theorem lread_nil (A : Option Addr) (hA : A = none ∨ ∃ g o, A = some ⟨g, o, none⟩) (w : World) (T : Tab w) : Calls Tryz.prog 63 #[.slice A 0 0] w fun e w' => e = .returned (.tuple #[.agg #[.int .u64 0, .int .u64 0, .slice none 0 0], .bool false]) ∧ Below w.heap.size w w' := by
  have b0 := below_alloc_ w (.cells #[.int .u64 0, .int .u64 0, .slice none 0 0] 134)
  have k0 := Blk.new w 134 #[.int .u64 0, .int .u64 0, .slice none 0 0]
  have FR := Lib.hid (fread_any [] A 0 (w.alloc (.cells #[.int .u64 0, .int .u64 0, .slice none 0 0] 134)) (by simp) (by simp) (T.below b0) ⟨_, _, rfl, Nat.le_refl _, rfl, .inl rfl⟩ (fun _ => hA))
  rw [rdF_bad getF_none] at FR
  have K0 := Lib.hid k0
  have B0 := Lib.hid b0
  clear T b0 k0
  go_enter Tryz.func63, Tryz.ntmps63
  go_wp2_with fail
  refine FR.out.mono ?_
  rintro e w1 ⟨P, ys, rfl, -, hR, b1⟩
  have hy : ys = [] := List.eq_nil_of_length_eq_zero hR.len
  subst hy
  have K1 := Lib.hid (K0.out.below b1 K0.out.lt)
  have B1 := Lib.hid (bel2 B0.out b1)
  have a0 := K1.out.cell 0
  have a1 := K1.out.cell 1
  have a2 := K1.out.cell 2
  have f0 := K1.out.free 0
  have f1 := K1.out.free 1
  have f2 := K1.out.free 2
  simp at a0 a1 a2
  clear b1 hR
  go_wp2
  refine bodyPost_ret (results_cont rfl _ _ _ _ _ _ (.bool false) (((K1.out.set_ 0 _).set_ 1 _).set_ 2 _) rfl rfl) rfl ?_
  exact ⟨rfl, ((B1.out.setCell (p := ⟨w.heap.size, 0, none⟩) (Nat.le_refl _) _).setCell (p := ⟨w.heap.size, 1, none⟩) (Nat.le_refl _) _).setCell (p := ⟨w.heap.size, 2, none⟩) (Nat.le_refl _) _⟩
/-- Read, with the shape of what it gives. -/
theorem on_readP {X : List (Nat × Obj)} {B : Nat} {W w : World} {d : Nat} {nm : ByteArray} {s : Dst} (xs : List Int) (r : Int) (hn : Nm nm) (h : On X B W w d nm s) (he : readS s = (xs, r)) :
    Calls Tryz.prog 21 #[.pointer (some ⟨d, 0, none⟩), .string nm] w fun e w' => ∃ P Y, e = .returned (.tuple #[.slice P xs.length xs.length, .int .i64 r]) ∧
      Sl (.slice P xs.length xs.length) xs Y ∧ On (Y ++ X) B W w' d nm s ∧ Below w.heap.size w w' ∧ (P = none ∨ ∃ g o, P = some ⟨g, o, none⟩) := by
  obtain ⟨F, hd, hF, hX⟩ := h.ex
  have := dread nm hn d s F w hd
  rw [he] at this
  refine this.mono fun _ w' ⟨P, he, ho, hb⟩ => ?_
  have hP : P = none ∨ ∃ g o, P = some ⟨g, o, none⟩ := by
    rcases ho with ⟨e, -⟩ | ⟨g, _, _, e, -⟩
    · injection e with e; exact .inl e
    · injection e with e; exact .inr ⟨g, 0, e⟩
  obtain ⟨Y, hY, hs⟩ := ho.sl_
  have h' := h.below hb
  refine ⟨P, Y, he, hs, ⟨⟨F, hd.below hb, hF, fun p hp hf => ?_⟩, fun p hp => ?_, h'.bel, h'.le⟩, hb, hP⟩
  · rcases List.mem_append.1 hp with hp | hp
    · have := (hY p hp).1; have := hd.lt _ hf; omega
    · exact hX p hp hf
  · rcases List.mem_append.1 hp with hp | hp
    · exact (hY p hp).2
    · exact h'.keep p hp

set_option maxHeartbeats 1000000 in
set_option maxRecDepth 100000 in
theorem lopen_new {X : List (Nat × Obj)} {B : Nat} {W w : World} {d : Nat} {s s1 : Dst} (h : On X B W w d nmL s) (hs : readS s = ([], 7)) (hB0 : 0 < B) (T : Tab W)
    (hd : doesS s (logB 0 0 []).length true (fun _ => some (logB 0 0 [], (logB 0 0 []).length)) = (s1, 0)) :
    Calls Tryz.prog 30 #[.pointer (some ⟨d, 0, none⟩)] w fun e w' => ∃ p, e = .returned (.tuple #[.pointer (some ⟨p, 0, none⟩), .int .i64 0]) ∧ On ((p, lgO 0 0 (.slice none 0 0) d (logB 0 0 []).length false) :: X) B W w' d nmL s1 ∧ w.heap.size ≤ p := by
  have H := Lib.hid h
  have TT := Lib.hid T
  have HD := Lib.hid hd
  clear h T hd
  go_enter Tryz.func30, Tryz.ntmps30
  go_wp2_with fail
  refine (on_readP [] 7 nm_log H.out hs).mono ?_
  rintro e w1 ⟨P1, Y1, rfl, -, h1, b1, hP⟩
  have O1 := Lib.hid (h1.mono (Y := X) (by intro p hp; exact List.mem_append_right _ hp))
  have RN := Lib.hid (lread_nil P1 hP w1 (tab_at TT.out hB0 h1.bel))
  have S1 := Lib.hid b1.size
  clear h1 b1 hP hs
  go_wp2_with fail
  refine RN.out.mono ?_
  rintro e w2 ⟨rfl, b2⟩
  have O2 := Lib.hid (O1.out.below b2)
  have S2 := Lib.hid b2.size
  clear b2
  have O3 := (O2.out.alloc (.cells #[.int .u64 0, .int .u64 0, .slice none 0 0] 134)).allocX (lgO 0 0 (.slice none 0 0) d 0 false)
  simp only [World.size_alloc] at O3
  have hle := H.out.le
  have PU := Lib.hid (lput_any (Z := X) (p := w2.heap.size + 1) (bi' := 0) (bt' := 0) (ev' := .slice none 0 0) (es' := []) s1 0 O3 (by have := S1.out; have := S2.out; omega) (fun q hq => by have := lt_of_heap (O2.out.keep q hq); omega) (El.nil _) (fun j h => by simp at h) (by simp) (by simp) (by omega) (by omega) hB0 TT.out HD.out)
  rw [show ((0 : Nat) : Int) = 0 from rfl] at PU
  clear O3 hle
  go_wp2_with fail
  refine PU.out.mono ?_
  rintro e w3 (⟨-, rfl, o3⟩ | ⟨h0, -⟩)
  · have O4 := Lib.hid o3
    clear o3
    go_wp2
    go_ret2
    exact ⟨_, rfl, O4.out, by have := S1.out; have := S2.out; omega⟩
  · exact absurd rfl h0
end Go.Proofs.YtoiclicechfmgaaGreatDoor
