/- Frames taken off bytes: the code's Ends, size, Get. -/
import Derived.Test.YtnegondlkfeleaaDoorGetP
namespace Go.Proofs.YtnegondlkfeleaaDoor
open Go.RowKit

theorem Bs.at_ {w : World} {A : Option Addr} {n c : Nat} {xs : List Int} (h : Bs w (.slice A n c) xs) (k : Nat) (hk : k < n) :
    ∃ g o x, A = some ⟨g, o, none⟩ ∧ xs[k]? = some x ∧ w.cell? ⟨g, o + k, none⟩ = some (.int .u8 x) := by
  obtain ⟨g, o, rfl⟩ := h.some_ (by omega)
  obtain ⟨A', c0, hv, hc0, hl, hh⟩ := h
  injection hv with h1 h2 h3
  subst h2
  rcases hh with h0 | ⟨g', o', hA', hg, hcell⟩
  · omega
  · rw [hA'] at h1
    injection h1 with h1
    injection h1 with e1 e2
    subst e1; subst e2
    exact ⟨g, o, xs[k], rfl, List.getElem?_eq_getElem hk, hcell k _ (by simp [bc, hk])⟩
theorem take_step {xs ys : List Int} {k : Nat} {x y : Int} (hx : xs[k]? = some x) (hy : ys[k]? = some y) (h : xs.take k = ys.take k) : xs.take (k + 1) = ys.take (k + 1) ↔ x = y := by
  rw [List.take_add_one, List.take_add_one, hx, hy, h]
  simp

set_option maxHeartbeats 1000000 in
theorem equal_any (v1 v2 : Value) (xs ys : List Int) (w : World) (h1 : Bs w v1 xs) (h2 : Bs w v2 ys) (hl : xs.length ≤ 4611686018427387904) :
    Calls Tryd.prog 120 #[v1, v2] w fun e w' => e = .returned (.bool (decide (xs = ys))) ∧ ∃ m, w' = w.drewN m := by
  obtain ⟨A1, c1, rfl, -⟩ := id h1
  obtain ⟨A2, c2, rfl, -⟩ := id h2
  obtain ⟨n, hn⟩ : ∃ n, n = xs.length := ⟨_, rfl⟩
  obtain ⟨n2, hn2⟩ : ∃ n, n = ys.length := ⟨_, rfl⟩
  rw [← hn, ← hn2]
  rw [← hn] at h1 hl
  rw [← hn2] at h2
  have H1 := Lib.hid h1
  have H2 := Lib.hid h2
  have N1 := Lib.hid hn
  have N2 := Lib.hid hn2
  clear h1 h2 hn hn2
  obtain ⟨b, hb⟩ : ∃ b, b = decide (xs = ys) := ⟨_, rfl⟩
  rw [← hb]
  have HB := Lib.hid hb
  clear hb
  by_cases hne : n = n2
  · subst hne
    go_enter Tryd.func120, Tryd.ntmps120
    go_wp2
    go_loopw [13] (fun c13 wr => ∃ k m : Nat, k ≤ n ∧ c13 = .int .i64 k ∧ wr = w.drewN m ∧ xs.take k = ys.take k) (fun c13 _ => n - (intOf c13).toNat)
    case atStart => exact ⟨0, 0, by omega, rfl, rfl, rfl⟩
    case round =>
      obtain ⟨k, m, hk, rfl, rfl, ht⟩ := hrel
      have HT := Lib.hid ht
      clear ht
      by_cases hkn : k < n
      · obtain ⟨g1, o1, x, rfl, hx, d1⟩ := H1.out.at_ k hkn
        obtain ⟨g2, o2, y, rfl, hy, d2⟩ := H2.out.at_ k hkn
        have TS := Lib.hid (take_step hx hy HT.out)
        clear hx hy
        by_cases hxy : x = y
        · have T1 := Lib.hid (TS.out.2 hxy)
          subst hxy
          clear TS
          go_wp2_with fail
          go_quiet (fail)
          go_wp2
          exact ⟨⟨k + 1, _, by omega, by go_num, rfl, T1.out⟩, by simp [intOf]; omega⟩
        · go_wp2_with fail
          go_quiet (fail)
          go_wp2
          go_ret
          refine ⟨?_, _, World.drewN_drewN _ _ _⟩
          rw [HB.out, decide_eq_false (fun he => hxy (TS.out.1 (by rw [he])))]; rfl
      · obtain rfl : k = n := by omega
        go_wp2
        go_ret
        refine ⟨?_, _, rfl⟩
        have := HT.out
        rw [List.take_of_length_le (by have := N1.out; omega), List.take_of_length_le (by have := N2.out; omega)] at this
        rw [HB.out, decide_eq_true this]; rfl
  · have hne' : ¬ (n : Int) = (n2 : Int) := by omega
    have HN := Lib.hid hne
    clear hne
    go_enter Tryd.func120, Tryd.ntmps120
    go_wp2
    go_ret
    refine ⟨?_, 0, rfl⟩
    rw [HB.out, decide_eq_false (fun he => HN.out (by rw [N1.out, N2.out, he]))]; rfl

set_option maxHeartbeats 1000000 in
set_option maxRecDepth 100000 in
theorem ends_any (v : Value) (bs : List Int) (w : World) (h : Bs w v bs) (hby : ∀ c ∈ bs, byt c) (T : Tab w) (hl : bs.length ≤ 4611686018427387904) :
    Calls Tryd.prog 101 #[v] w fun e w' => e = .returned (.bool (endsB bs)) ∧ Below w.heap.size w w' := by
  obtain ⟨A, c, rfl, -⟩ := id h
  obtain ⟨b, hb⟩ : ∃ b, b = endsB bs := ⟨_, rfl⟩
  rw [← hb]
  have EB := Lib.hid hb
  clear hb
  obtain ⟨n, hn⟩ : ∃ n, n = bs.length := ⟨_, rfl⟩
  rw [← hn]
  rw [← hn] at h hl
  have NN := Lib.hid hn
  have H := Lib.hid h
  have BY := Lib.hid hby
  have TT := Lib.hid T
  clear h hby T hn
  by_cases h4 : n < 4
  · have h4' : (n : Int) < 4 := by omega
    go_enter Tryd.func101, Tryd.ntmps101
    go_wp2
    go_ret
    refine ⟨?_, Below.refl _ _⟩
    rw [EB.out]
    unfold endsB
    rw [decide_eq_false (by have := NN.out; omega)]
    rfl
  · obtain ⟨g, o, rfl⟩ := H.out.some_ (by omega)
    have hc := H.out.len_.2
    obtain ⟨k, rfl⟩ : ∃ k, n = k + 4 := ⟨n - 4, by omega⟩
    have S1 := Lib.hid (H.out.sub 0 k c (by omega) (by omega))
    have S2 := Lib.hid (H.out.sub k 4 (c - k) (by omega) (by omega))
    have hn1 : ¬ ((k + 4 : Nat) : Int) < 4 := by omega
    have BY1 := Lib.hid (show ∀ c ∈ (bs.drop 0).take k, byt c from fun c hc => BY.out c (List.mem_of_mem_drop (List.mem_of_mem_take hc)))
    have E1 := Lib.hid (show b = decide ((bs.drop k).take 4 = fourS (moreS 0 ((bs.drop 0).take k))) from by
      rw [EB.out]
      unfold endsB
      rw [← NN.out, decide_eq_true (show 4 ≤ k + 4 by omega), Bool.true_and, Nat.add_sub_cancel, List.drop_zero, List.take_of_length_le (show (bs.drop k).length ≤ 4 by rw [List.length_drop, ← NN.out]; omega)])
    obtain ⟨x1, hx1⟩ : ∃ x, x = (bs.drop 0).take k := ⟨_, rfl⟩
    obtain ⟨x2, hx2⟩ : ∃ x, x = (bs.drop k).take 4 := ⟨_, rfl⟩
    rw [← hx1] at S1 BY1 E1
    rw [← hx2] at S2 E1
    have L1 := Lib.hid (show x1.length ≤ 4611686018427387904 from by rw [hx1, List.length_take]; omega)
    have L2 := Lib.hid (show x2.length ≤ 4611686018427387904 from by rw [hx2, List.length_take]; omega)
    clear hx1 hx2 EB
    rw [Nat.add_zero] at S1
    go_enter Tryd.func101, Tryd.ntmps101
    go_wp2_with fail
    have D1 := Lib.hid (show Bs w.drew _ x1 from S1.out)
    have D2 := Lib.hid (show Bs w.drew _ x2 from S2.out)
    have DT := Lib.hid (show Tab w.drew from TT.out)
    have DB := Lib.hid (show Below w.heap.size w w.drew from (Below.refl _ _).drew)
    clear S1 S2 TT
    have i1 : (0 : Int) ≤ (k : Int) := by omega
    have i2 : (k : Int) ≤ (k : Int) + 4 := by omega
    have i3 : (k : Int) ≤ (c : Int) := by omega
    have i4 : (k : Int) + 4 ≤ (c : Int) := by omega
    go_region_held3 (fun _ => True) (trivial)
      (first
      | (go_at_call 120; refine (equal_any _ v4 x2 (fourS (moreS 0 x1)) _ (D2.out.below b4) h4.bs L2.out).mono ?_; rintro e w5 ⟨rfl, m5, rfl⟩)
      | (go_at_call 107; refine (four_any (moreS 0 x1) _ (moreS_in 0 x1)).mono ?_; rintro e w4 ⟨v4, rfl, h4, b4⟩)
      | (go_at_call 108; refine (of_any _ x1 _ D1.out BY1.out DT.out L1.out).mono ?_; rintro e w3 ⟨rfl, rfl⟩))
    have B4 := Lib.hid b4
    clear b4 h4
    go_wp2
    go_ret
    exact ⟨by rw [E1.out]; rfl, (DB.out.trans (B4.out.mono (by simp))).trans (below_drewN_ _ _ _)⟩

set_option maxHeartbeats 1000000 in
theorem index_any (v : Value) (xs : List Int) (w : World) (h : Bs w v xs) (hl : xs.length ≤ 4611686018427387904) :
    Calls Tryd.prog 137 #[v, .func (.func 119) #[] #[]] w fun e w' => (∃ k : Int, e = .returned (.int .i64 k) ∧ (0 ≤ k ↔ ∃ c ∈ xs, c < 128)) ∧ w = w' := by
  obtain ⟨A, c, rfl, -⟩ := id h
  obtain ⟨n, hn⟩ : ∃ n, n = xs.length := ⟨_, rfl⟩
  rw [← hn]
  rw [← hn] at h hl
  have H := Lib.hid h
  have NN := Lib.hid hn
  clear h hn
  go_enter Tryd.func137, Tryd.ntmps137
  go_wp2
  go_loopw [8] (fun c8 wr => ∃ k : Nat, k ≤ n ∧ c8 = .int .i64 k ∧ wr = w ∧ ∀ c ∈ xs.take k, 128 ≤ c) (fun c8 _ => n - (intOf c8).toNat)
  case atStart => exact ⟨0, by omega, rfl, rfl, by simp⟩
  case round =>
    obtain ⟨k, hk, rfl, rfl, ht⟩ := hrel
    have HT := Lib.hid ht
    clear ht
    by_cases hkn : k < n
    · obtain ⟨g, o, x, rfl, hx, d1⟩ := H.out.at_ k hkn
      have HX := Lib.hid hx
      clear hx
      by_cases hlow : x < 128
      · have HLO := Lib.hid (show ∃ c ∈ xs, c < 128 from ⟨x, List.mem_of_getElem? HX.out, hlow⟩)
        go_wp2
        go_ret
        refine ⟨⟨_, rfl, ?_⟩, rfl⟩
        exact ⟨fun _ => HLO.out, fun _ => by omega⟩
      · have hge := Lib.hid hlow
        go_wp2
        refine ⟨⟨k + 1, by omega, by go_num, by simp, ?_⟩, by simp [intOf]; omega⟩
        intro c hc
        rw [List.take_add_one, HX.out] at hc
        rcases List.mem_append.1 hc with hc | hc
        · exact HT.out c hc
        · simp at hc
          subst hc
          have := hge.out
          omega
    · obtain rfl : k = n := by omega
      go_wp2
      go_ret
      refine ⟨⟨-1, rfl, ?_⟩, rfl⟩
      refine ⟨fun h => absurd h (by omega), fun ⟨c, hc, hlt⟩ => ?_⟩
      have := HT.out
      rw [NN.out, List.take_length] at this
      have := this c hc
      omega
set_option maxHeartbeats 1000000 in
theorem cont_any (v : Value) (xs : List Int) (w : World) (h : Bs w v xs) (hl : xs.length ≤ 4611686018427387904) :
    Calls Tryd.prog 118 #[v, .func (.func 119) #[] #[]] w fun e w' => e = .returned (.bool (xs.any fun c => decide (c < 128))) ∧ w = w' := by
  obtain ⟨A, c, rfl, -⟩ := id h
  obtain ⟨b, hb⟩ : ∃ b, b = (xs.any fun c => decide (c < 128)) := ⟨_, rfl⟩
  rw [← hb]
  have EB := Lib.hid hb
  have H := Lib.hid h
  clear h hb
  go_enter Tryd.func118, Tryd.ntmps118
  go_wp2_with fail
  refine (index_any _ xs w H.out hl).mono ?_
  rintro e w' ⟨⟨k, rfl, hk⟩, rfl⟩
  have HK := Lib.hid hk
  clear hk
  go_wp2
  go_ret
  refine ⟨?_, rfl⟩
  rw [EB.out]
  by_cases h0 : 0 ≤ k
  · obtain ⟨x, h1, h2⟩ := HK.out.1 h0
    rw [show (xs.any fun c => decide (c < 128)) = true from List.any_eq_true.2 ⟨x, h1, by simpa using h2⟩]
    simp [h0]
  · rw [show (xs.any fun c => decide (c < 128)) = false from List.any_eq_false.2 fun x hx => by
      intro hlt
      exact h0 (HK.out.2 ⟨x, hx, by simpa using hlt⟩)]
    simp [h0]


theorem any_low {xs : List Int} : (xs.any fun c => decide (c < 128)) = false ↔ ∀ c ∈ xs, 128 ≤ c := by
  rw [List.any_eq_false]
  constructor
  · intro h c hc
    have := h c hc
    simp at this
    exact this
  · intro h c hc
    have := h c hc
    simp
    exact this

set_option maxHeartbeats 1000000 in
set_option maxRecDepth 100000 in
theorem fsize_any (v : Value) (xs : List Int) (w : World) (h : Bs w v xs) (hb : ∀ c ∈ xs, byt c) (hl : xs.length ≤ 70368744177664) :
    Calls Tryd.prog 100 #[v] w fun e w' => e = .returned (.tuple #[.int .i64 (sizeF xs).1, .int .i64 (sizeF xs).2.1, .int .i64 (sizeF xs).2.2]) ∧ w = w' := by
  have TK := Lib.hid (Take_any v xs w h hb hl)
  have CO := Lib.hid (cont_any v xs w h (by omega))
  have T1 := Lib.hid (tk_lt hb)
  obtain ⟨A, c, rfl, -⟩ := id h
  obtain ⟨n, hn⟩ : ∃ n, n = xs.length := ⟨_, rfl⟩
  obtain ⟨r, hr⟩ : ∃ r, r = sizeF xs := ⟨_, rfl⟩
  rw [← hr]
  have ES := Lib.hid hr
  rw [← hn] at TK CO ⊢
  have NN := Lib.hid hn
  have hln : n ≤ 70368744177664 := by omega
  clear h hb hl hn hr
  obtain ⟨t1, h1⟩ : ∃ s, s = (tk xs).1 := ⟨_, rfl⟩
  obtain ⟨t2, h2⟩ : ∃ s, s = (tk xs).2.1 := ⟨_, rfl⟩
  obtain ⟨b, h3⟩ : ∃ b, b = (xs.any fun c => decide (c < 128)) := ⟨_, rfl⟩
  rw [← h1, ← h2] at TK
  rw [← h1] at T1
  rw [← h3] at CO
  have ET := Lib.hid (show r = if t2 = 0 then (if n < 10 ∧ b = false then (0, 0, 5) else (0, 0, 4)) else if 8192 < t1 then (0, 0, 4) else (t1, t2, 0) from by
    rw [ES.out]
    unfold sizeF
    rw [← h1, ← h2, ← NN.out, h3]
    by_cases ha : ∀ c ∈ xs, 128 ≤ c
    · by_cases hn : n < 10
      · rw [if_pos (show n < 10 ∧ ∀ c ∈ xs, 128 ≤ c from ⟨hn, ha⟩), if_pos (show n < 10 ∧ (xs.any fun c => decide (c < 128)) = false from ⟨hn, any_low.2 ha⟩)]
      · rw [if_neg (show ¬ (n < 10 ∧ ∀ c ∈ xs, 128 ≤ c) from fun h => hn h.1), if_neg (show ¬ (n < 10 ∧ (xs.any fun c => decide (c < 128)) = false) from fun h => hn h.1)]
    · rw [if_neg (show ¬ (n < 10 ∧ ∀ c ∈ xs, 128 ≤ c) from fun h => ha h.2), if_neg (show ¬ (n < 10 ∧ (xs.any fun c => decide (c < 128)) = false) from fun h => ha (any_low.1 h.2))])
  clear h1 h2 h3 ES NN
  have tl := T1.out
  clear T1
  by_cases h0 : t2 = 0
  · subst h0
    by_cases h10 : n < 10
    · have h10' : (n : Int) < 10 := by omega
      go_enter Tryd.func100, Tryd.ntmps100
      go_wp2_with fail
      refine TK.out.mono ?_
      rintro e w1 ⟨rfl, rfl⟩
      go_wp2_with fail
      refine CO.out.mono ?_
      rintro e w1 ⟨rfl, rfl⟩
      cases b
      · go_wp2
        refine bodyPost_ret (by simp [results, Tryd.results100]; rfl) rfl ?_
        rw [ET.out]
        simp [h10]
      · go_wp2
        refine bodyPost_ret (by simp [results, Tryd.results100]; rfl) rfl ?_
        rw [ET.out]
        simp
    · have h10' : ¬ (n : Int) < 10 := by omega
      go_enter Tryd.func100, Tryd.ntmps100
      go_wp2_with fail
      refine TK.out.mono ?_
      rintro e w1 ⟨rfl, rfl⟩
      go_wp2
      refine bodyPost_ret (by simp [results, Tryd.results100]; rfl) rfl ?_
      rw [ET.out]
      simp [h10]
  · have h0' : ¬ (t2 : Int) = 0 := by omega
    by_cases hb : 8192 < t1
    · have hb' : (8192 : Int) < (t1 : Int) := by omega
      go_enter Tryd.func100, Tryd.ntmps100
      go_wp2_with fail
      refine TK.out.mono ?_
      rintro e w1 ⟨rfl, rfl⟩
      go_wp2
      refine bodyPost_ret (by simp [results, Tryd.results100]; rfl) rfl ?_
      rw [ET.out, if_neg h0, if_pos hb]
      exact ⟨rfl, rfl⟩
    · have hb' : ¬ (8192 : Int) < (t1 : Int) := by omega
      have hw : IntKind.i64.wrap (t1 : Int) = t1 := IntWalk.i64_in _ (by omega)
      go_enter Tryd.func100, Tryd.ntmps100
      go_wp2_with fail
      refine TK.out.mono ?_
      rintro e w1 ⟨rfl, rfl⟩
      go_wp2
      refine bodyPost_ret (by simp [results, Tryd.results100]; rfl) rfl ?_
      rw [ET.out, if_neg h0, if_neg hb]
      exact ⟨rfl, rfl⟩

set_option maxHeartbeats 1000000 in
set_option maxRecDepth 100000 in
theorem fget_any (v : Value) (xs : List Int) (w : World) (h : Bs w v xs) (hb : ∀ c ∈ xs, byt c) (T : Tab w) (hl : xs.length ≤ 70368744177664) :
    Calls Tryd.prog 81 #[v] w fun e w' => ∃ P, e = .returned (.tuple #[.slice P (getF xs).1.length (getF xs).1.length, .int .i64 (getF xs).2.1, .int .i64 (getF xs).2.2]) ∧
      Bo w.heap.size w' (.slice P (getF xs).1.length (getF xs).1.length) (getF xs).1 ∧ Below w.heap.size w w' := by
  have SZ := Lib.hid (fsize_any v xs w h hb hl)
  have SE := Lib.hid (sizeF_err xs)
  have SO := Lib.hid (sizeF_ok (bs := xs))
  have TS := Lib.hid (tk_size xs)
  obtain ⟨A, c, rfl, -⟩ := id h
  obtain ⟨n, hn⟩ : ∃ n, n = xs.length := ⟨_, rfl⟩
  rw [← hn] at SZ hl h ⊢
  have NN := Lib.hid hn
  have H := Lib.hid h
  have HB := Lib.hid hb
  have TT := Lib.hid T
  obtain ⟨r, hr⟩ : ∃ r, r = getF xs := ⟨_, rfl⟩
  rw [← hr]
  obtain ⟨s1, h1⟩ : ∃ s, s = (sizeF xs).1 := ⟨_, rfl⟩
  obtain ⟨s2, h2⟩ : ∃ s, s = (sizeF xs).2.1 := ⟨_, rfl⟩
  obtain ⟨s3, h3⟩ : ∃ s, s = (sizeF xs).2.2 := ⟨_, rfl⟩
  rw [← h1, ← h2, ← h3] at SZ SE
  have ER := Lib.hid (show r = if s3 ≠ 0 then ([], 0, s3) else if n < s2 + s1 + 4 then ([], 0, 5) else if endsB (xs.take (s2 + s1 + 4)) = false then ([], 0, 6) else ((xs.drop s2).take s1, s2 + s1 + 4, 0) from by
    rw [hr]; unfold getF; rw [← h1, ← h2, ← h3, ← hn])
  have B1 := Lib.hid (show s3 = 0 → s1 ≤ 8192 ∧ s2 ≤ 10 from fun h0 => by
    obtain ⟨e, _, e2⟩ := SO.out (by rw [← h3]; exact h0)
    rw [h1, h2, e]
    exact ⟨e2, TS.out.2⟩)
  clear h hb T hn hr h1 h2 h3 SO TS
  by_cases h0 : s3 = 0
  · subst h0
    obtain ⟨b1, b2⟩ := B1.out rfl
    clear B1
    by_cases hsh : n < s2 + s1 + 4
    · have hsh' : (n : Int) < (s2 : Int) + (s1 : Int) + 4 := by omega
      have RR := Lib.hid (show r = ([], 0, 5) by rw [ER.out, if_neg (by simp), if_pos hsh])
      go_enter Tryd.func81, Tryd.ntmps81
      go_wp2_with fail
      refine SZ.out.mono ?_
      rintro e w1 ⟨rfl, rfl⟩
      go_wp2
      refine bodyPost_ret (by simp [results, Tryd.results81]; rfl) rfl ?_
      rw [RR.out]
      exact ⟨none, rfl, Bo.nil_ _ _, Below.refl _ _⟩
    · obtain ⟨g, o, rfl⟩ := H.out.some_ (by omega)
      have hc := H.out.len_.2
      have hsh' : ¬ (n : Int) < (s2 : Int) + (s1 : Int) + 4 := by omega
      have i1 : (0 : Int) ≤ (s2 : Int) + (s1 : Int) + 4 := by omega
      have i2 : (s2 : Int) + (s1 : Int) + 4 ≤ (c : Int) := by omega
      have i3 : (s2 : Int) ≤ (s2 : Int) + (s1 : Int) := by omega
      have i4 : (s2 : Int) + (s1 : Int) ≤ (c : Int) := by omega
      have i5 : (0 : Int) ≤ (s2 : Int) := by omega
      have i6 : ((s2 : Int) + (s1 : Int) + 4).toNat = s2 + s1 + 4 := by omega
      have i7 : ((s2 : Int) + (s1 : Int)).toNat - s2 = s1 := by omega
      have i8 : ((s2 : Int) + (s1 : Int) - (s2 : Int)).toNat = s1 := by omega
      have S1 := Lib.hid (show Bs w (.slice (some ⟨g, o, none⟩) (s2 + s1 + 4) c) (xs.take (s2 + s1 + 4)) from by have := H.out.sub 0 (s2 + s1 + 4) c (by omega) (by omega); simpa using this)
      have EN := Lib.hid (ends_any _ _ w S1.out (fun c hc => HB.out c (List.mem_of_mem_take hc)) TT.out (by rw [List.length_take]; omega))
      obtain ⟨b, hb⟩ : ∃ b, b = endsB (xs.take (s2 + s1 + 4)) := ⟨_, rfl⟩
      rw [← hb] at EN
      have EB := Lib.hid hb
      clear hb
      have S2 := Lib.hid (H.out.sub s2 s1 (c - s2) (by omega) (by omega))
      go_enter Tryd.func81, Tryd.ntmps81
      go_wp2_with fail
      refine SZ.out.mono ?_
      rintro e w1 ⟨rfl, rfl⟩
      go_wp2_with fail
      refine EN.out.mono ?_
      rintro e w1 ⟨rfl, b1⟩
      have BB := Lib.hid b1
      clear b1
      cases b
      case false =>
        have RR := Lib.hid (show r = ([], 0, 6) by rw [ER.out, if_neg (by simp), if_neg hsh, if_pos EB.out.symm])
        go_wp2
        refine bodyPost_ret (by simp [results, Tryd.results81]; rfl) rfl ?_
        rw [RR.out]
        exact ⟨none, rfl, Bo.nil_ _ _, BB.out⟩
      case true =>
        have RR := Lib.hid (show r = ((xs.drop s2).take s1, s2 + s1 + 4, 0) by rw [ER.out, if_neg (by simp), if_neg hsh, if_neg (by rw [← EB.out]; simp)])
        have hl1 : ((xs.drop s2).take s1).length = s1 := by rw [List.length_take, List.length_drop, ← NN.out]; omega
        have LL := Lib.hid hl1
        clear hl1
        go_wp2_with fail
        refine (byt_clone_any _ s1 (bc ((xs.drop s2).take s1)) _ (show Rd w1 1 _ s1 (bc ((xs.drop s2).take s1)) from by have := S2.out.below BB.out; unfold Bs at this; rw [LL.out] at this; exact this) (bc_one _) (by omega) (by omega)).mono ?_
        rintro e w2 ⟨v2, rfl, h2, b2⟩
        obtain ⟨P, c2, rfl, hc2, h3⟩ := h2.clip
        have H3 := Lib.hid h3
        have B2 := Lib.hid (BB.out.trans (b2.mono BB.out.size))
        clear h2 h3 b2
        go_wp2_with fail
        refine (byt_clip P s1 c2 w2 hc2 (by omega)).mono ?_
        rintro e w3 ⟨rfl, rfl⟩
        go_wp2
        refine bodyPost_ret (by simp [results, Tryd.results81]; rfl) rfl ?_
        rw [RR.out]
        refine ⟨P, ?_, ?_, B2.out⟩
        · simp only [LL.out]
          simp
        · have := H3.out.le BB.out.size
          simp only [LL.out]
          unfold Bo
          rw [LL.out]
          exact this
  · have RR := Lib.hid (show r = ([], 0, s3) by rw [ER.out, if_pos h0])
    go_enter Tryd.func81, Tryd.ntmps81
    go_wp2_with fail
    refine SZ.out.mono ?_
    rintro e w1 ⟨rfl, rfl⟩
    go_wp2
    refine bodyPost_ret (by simp [results, Tryd.results81]; rfl) rfl ?_
    rw [RR.out]
    exact ⟨none, rfl, Bo.nil_ _ _, Below.refl _ _⟩
end Go.Proofs.YtnegondlkfeleaaDoor
