import Derived.Test.YtnegondlkfeleaaDoorRsb
import Derived.Test.YtnegondlkfeleaaDoorTkm
import Derived.OwnWalk
/- The document's frames: Put, Get. -/
namespace Go.Proofs.YtnegondlkfeleaaDoor
open Go.RowKit

theorem tkGo_five : ∀ (f i acc : Nat) (xs : List Int), f + i = 10 → ((tkGo f i acc xs).2.2 = 5 ↔ xs.length < f ∧ ∀ c ∈ xs, 128 ≤ c)
  | 0, _, _, _, _ => by simp [tkGo]
  | f + 1, _, _, [], _ => by simp [tkGo]
  | f + 1, i, acc, c :: r, h => by
    unfold tkGo
    by_cases h1 : i = 9 ∧ 1 < c
    · rw [if_pos h1]
      simp only [List.length_cons]
      constructor
      · intro e; simp at e
      · intro e; omega
    rw [if_neg h1]
    by_cases h2 : c < 128
    · rw [if_pos h2]
      constructor
      · intro e; split at e <;> simp at e
      · rintro ⟨-, e⟩; have := e c (by simp); omega
    · rw [if_neg h2, tkGo_five f (i + 1) _ r (by omega)]
      simp only [List.length_cons, List.mem_cons, forall_eq_or_imp]
      constructor
      · rintro ⟨a, b⟩; exact ⟨by omega, by omega, b⟩
      · rintro ⟨a, _, b⟩; exact ⟨by omega, b⟩
theorem sizeF_bad {bs : List Int} (h : (tk bs).2.2 ≠ 0) : sizeF bs = (0, 0, (tk bs).2.2) := by
  have h0 : (tk bs).2.1 = 0 := by
    rcases tk_err bs with h1 | h1
    · exact absurd h1.1 h
    · exact h1.2.1
  have h5 := tkGo_five 10 0 0 bs rfl
  unfold sizeF
  rw [if_pos h0]
  by_cases hb : bs.length < 10 ∧ ∀ c ∈ bs, 128 ≤ c
  · rw [if_pos hb]
    have : (tk bs).2.2 = 5 := h5.2 hb
    rw [this]
  · rw [if_neg hb]
    have h6 : ¬ (tk bs).2.2 = 5 := fun e => hb (h5.1 e)
    rcases tkGo_bad 10 0 0 bs with e | e | e
    · exact absurd e h
    · have : (tk bs).2.2 = 4 := e
      rw [this]
    · exact absurd e h6
theorem getF_bad {bs : List Int} (h : (tk bs).2.2 ≠ 0) : getF bs = ([], 0, (tk bs).2.2) := by
  unfold getF
  rw [sizeF_bad h, if_pos h]
theorem getF_big {bs : List Int} (h : (tk bs).2.2 = 0) (h8 : 8192 < (tk bs).1) : getF bs = ([], 0, 4) := by
  have h0 : ¬ (tk bs).2.1 = 0 := by
    rcases tk_err bs with h1 | h1
    · omega
    · exact absurd h h1.1
  have e : sizeF bs = (0, 0, 4) := by
    unfold sizeF
    rw [if_neg h0, if_pos h8]
  unfold getF
  rw [e, if_pos (by decide)]
theorem getF_fit {bs : List Int} (h : (tk bs).2.2 = 0) (h8 : ¬ 8192 < (tk bs).1) : getF bs =
    if bs.length < (tk bs).2.1 + (tk bs).1 + 4 then ([], 0, 5) else if endsB (bs.take ((tk bs).2.1 + (tk bs).1 + 4)) = false then ([], 0, 6)
    else ((bs.drop (tk bs).2.1).take (tk bs).1, (tk bs).2.1 + (tk bs).1 + 4, 0) := by
  have h0 : ¬ (tk bs).2.1 = 0 := by
    rcases tk_err bs with h1 | h1
    · omega
    · exact absurd h h1.1
  have e : sizeF bs = ((tk bs).1, (tk bs).2.1, 0) := by
    unfold sizeF
    rw [if_neg h0, if_neg h8]
  unfold getF
  rw [e, if_neg (by simp)]

theorem run_num_bad {bs : List Int} (hk : ¬ (tk bs).2.2 = 0) : run numP 0 (.ok bs) = (0, .error (tk bs).2.2) := by
  have : numP bs = .error (tk bs).2.2 := by unfold numP; rw [if_neg hk]
  simp only [run, this]
theorem run_num_ok {bs : List Int} (hk : (tk bs).2.2 = 0) : run numP 0 (.ok bs) = ((tk bs).1, .ok (bs.drop (tk bs).2.1)) := by
  have : numP bs = .ok ((tk bs).1, bs.drop (tk bs).2.1) := by unfold numP; rw [if_pos hk]
  simp only [run, this]

set_option maxHeartbeats 4000000 in
set_option maxRecDepth 100000 in
theorem rfget_any (v : Value) (bs : List Int) (w : World) (h : Bs w v bs) (hby : ∀ c ∈ bs, byt c) (hl : bs.length ≤ 70368744177664) :
    Calls Tryd.prog 84 #[v] w fun e w' => ∃ u, e = .returned (.tuple #[u, .int .i64 (getF bs).2.1, .int .i64 (getF bs).2.2]) ∧ Bo w.heap.size w' u (getF bs).1 ∧ Below w.heap.size w w' := by
  obtain ⟨A, c, rfl, hc, -⟩ := id h
  have H := Lib.hid h
  have BY := Lib.hid hby
  have HL := Lib.hid hl
  have T0 := Lib.hid (Ts.new_ h hby (by omega))
  by_cases hk : (tk bs).2.2 = 0
  rotate_left
  · have R := Lib.hid (run_num_bad hk)
    rw [getF_bad hk]
    obtain ⟨k, hkk⟩ : ∃ k, k = (tk bs).2.2 := ⟨_, rfl⟩
    rw [← hkk] at R hk ⊢
    clear h hby hl hkk
    go_enter Tryd.func84, Tryd.ntmps84
    go_wp2_with fail
    refine (tnum_at w.heap.size _ _ _ _ T0.out R.out).mono ?_
    rintro e w1 ⟨rfl, hs, hg⟩
    obtain ⟨j, c1, -, hj⟩ := hs.errno
    obtain ⟨rfl, hj0⟩ := hj k rfl
    have B1 := Lib.hid (show Below w.heap.size w w1 from below_grown_ (below_alloc_ w _) hg (by simp) (Nat.le_refl _))
    have hj1 : (j != 0) = true := by simpa using hj0
    clear hs hg hj
    go_wp2_with fail
    have c2 : w1.drew.cell? ⟨w.heap.size, 1, none⟩ = some (.int .i64 j) := c1
    go_region
    all_goals
      go_wp2
      go_ret3
      exact ⟨_, rfl, Bo.nil_ _ _, B1.out.drew⟩
  have hsz := (tk_size bs)
  have hlt := tk_lt hby
  have R := Lib.hid (run_num_ok hk)
  by_cases h8 : 8192 < (tk bs).1
  · rw [getF_big hk h8]
    obtain ⟨n, hn⟩ : ∃ n, n = (tk bs).1 := ⟨_, rfl⟩
    rw [← hn] at R h8 hlt
    have h8' : (8192 : Int) < (n : Int) := by omega
    clear h hby hl hn hk
    go_enter Tryd.func84, Tryd.ntmps84
    go_wp2_with fail
    refine (tnum_at w.heap.size _ _ _ _ T0.out R.out).mono ?_
    rintro e w1 ⟨rfl, hs, hg⟩
    obtain ⟨j, c1, hj, -⟩ := hs.errno
    obtain rfl := hj _ rfl
    have B1 := Lib.hid (show Below w.heap.size w w1 from below_grown_ (below_alloc_ w _) hg (by simp) (Nat.le_refl _))
    clear hs hg hj
    go_wp2
    go_ret3
    exact ⟨_, rfl, Bo.nil_ _ _, B1.out⟩
  rw [getF_fit hk h8]
  obtain ⟨n, hn⟩ : ∃ n, n = (tk bs).1 := ⟨_, rfl⟩
  obtain ⟨s, hs⟩ : ∃ s, s = (tk bs).2.1 := ⟨_, rfl⟩
  rw [← hn, ← hs] at R ⊢
  rw [← hn] at h8 hlt
  rw [← hs] at hsz
  obtain ⟨r, hr⟩ : ∃ r, bs.length = s + r := ⟨bs.length - s, by omega⟩
  have LR := Lib.hid hr
  rw [hr] at hc hl ⊢
  clear hk hn hs hby h
  have x1 : ¬ (8192 : Int) < (n : Int) := by omega
  have x2 : s ≤ 10 := hsz.2
  have x3 : n ≤ 8192 := by omega
  have x4 : IntKind.i64.wrap (n : Int) = (n : Int) := IntWalk.i64_in _ (by omega)
  have x5 : IntKind.i64.wrap (s : Int) = (s : Int) := IntWalk.i64_in _ (by omega)
  have x6 : IntKind.i64.wrap ((s : Int) + (n : Int)) = (s : Int) + (n : Int) := IntWalk.i64_in _ (by omega)
  have x7 : IntKind.i64.wrap ((s : Int) + (n : Int) + 4) = (s : Int) + (n : Int) + 4 := IntWalk.i64_in _ (by omega)
  have HL2 := Lib.hid hl
  rw [hr] at H T0
  by_cases hs5 : s + r < s + n + 4
  · have y1 : (s : Int) + (r : Int) < (s : Int) + (n : Int) + 4 := by omega
    rw [if_pos hs5]
    clear hsz hs5 hl hlt h8
    go_enter Tryd.func84, Tryd.ntmps84
    go_wp2_with fail
    refine (tnum_at w.heap.size _ _ _ _ T0.out R.out).mono ?_
    rintro e w1 ⟨rfl, hs, hg⟩
    obtain ⟨j, c1, hj, -⟩ := hs.errno
    obtain rfl := hj _ rfl
    obtain ⟨⟨vx, kx, hx, -⟩, -, -⟩ := hs
    obtain ⟨Ax, cx, rfl, hcx, -⟩ := hx
    have c0 := kx.cell 0
    simp only [List.getElem?_toArray, List.getElem?_cons_zero] at c0
    rw [List.length_drop, LR.out, Nat.add_sub_cancel_left] at c0 hcx
    have B1 := Lib.hid (show Below w.heap.size w w1 from below_grown_ (below_alloc_ w _) hg (by simp) (Nat.le_refl _))
    clear hg hj kx
    go_wp2
    go_ret3
    exact ⟨_, rfl, Bo.nil_ _ _, B1.out⟩
  have y1 : ¬ (s : Int) + (r : Int) < (s : Int) + (n : Int) + 4 := by omega
  rw [if_neg hs5]
  obtain ⟨g, o, rfl⟩ := H.out.some_ (by omega)
  have HS := Lib.hid (H.out.sub 0 (s + n + 4) c (by omega) (by omega))
  have HN := Lib.hid (H.out.sub s n (c - s) (by omega) (by omega))
  have LN := Lib.hid (show ((bs.drop s).take n).length = n from by rw [List.length_take, List.length_drop, LR.out]; omega)
  obtain ⟨xs, hxs⟩ : ∃ xs, xs = bs.take (s + n + 4) := ⟨_, rfl⟩
  obtain ⟨ys, hys⟩ : ∃ ys, ys = (bs.drop s).take n := ⟨_, rfl⟩
  rw [List.drop_zero, ← hxs, Nat.add_zero] at HS
  rw [← hys] at HN LN
  rw [← hxs, ← hys]
  have BX := Lib.hid (show ∀ c ∈ xs, byt c from fun c hc => BY.out c (List.mem_of_mem_take (hxs ▸ hc)))
  have LX := Lib.hid (show xs.length ≤ 70368744177664 from by rw [hxs, List.length_take]; omega)
  have z1 : (0 : Int) ≤ (s : Int) + (n : Int) + 4 := by omega
  have z2 : (s : Int) + (n : Int) + 4 ≤ (c : Int) := by omega
  have z3 : ((s : Int) + (n : Int) + 4).toNat = s + n + 4 := by omega
  have z4 : (s : Int) ≤ (s : Int) + (n : Int) := by omega
  have z5 : (s : Int) + (n : Int) ≤ (c : Int) := by omega
  have z6 : ((s : Int) + (n : Int)).toNat = s + n := by omega
  have z7 : (0 : Int) ≤ (s : Int) := by omega
  have z8 : ¬ c = s := by omega
  have z9 : ¬ s = c := by omega
  clear hsz hs5 hl hlt h8 hxs hys hc H
  obtain ⟨eb, heb⟩ : ∃ eb, eb = endsB xs := ⟨_, rfl⟩
  rw [← heb]
  have EB := Lib.hid heb
  clear heb
  go_enter Tryd.func84, Tryd.ntmps84
  go_wp2_with fail
  refine (tnum_at w.heap.size _ _ _ _ T0.out R.out).mono ?_
  rintro e w1 ⟨rfl, hs, hg⟩
  obtain ⟨j, c1, hj, -⟩ := hs.errno
  obtain rfl := hj _ rfl
  obtain ⟨⟨vx, kx, hx, -⟩, -, -⟩ := hs
  obtain ⟨Ax, cx, rfl, hcx, -⟩ := hx
  have c0 := kx.cell 0
  simp only [List.getElem?_toArray, List.getElem?_cons_zero] at c0
  rw [List.length_drop, LR.out, Nat.add_sub_cancel_left] at c0 hcx
  have B1 := Lib.hid (show Below w.heap.size w w1 from below_grown_ (below_alloc_ w _) hg (by simp) (Nat.le_refl _))
  clear hg hj kx
  go_wp2_with fail
  refine (rends_any _ xs w1 (HS.out.below B1.out) BX.out LX.out).mono ?_
  rintro e w2 ⟨rfl, b2⟩
  rw [← EB.out]
  have B2 := Lib.hid (B1.out.trans (b2.mono B1.out.size))
  clear b2 c0 c1
  cases eb with
  | false =>
    go_wp2
    go_ret3
    exact ⟨_, rfl, Bo.nil_ _ _, B2.out⟩
  | true =>
    go_wp2_with (at_builtin; refine wpList_bf_bytes rfl _ _ 25 rfl Tryd.underlying25 rfl (Bf.start_ w2) (HN.out.below B2.out) rfl (by rw [LN.out]; simp; omega) ?_; intro v3 w3 hB3)
    go_ret3
    exact ⟨_, rfl, by have := hB3.own; rw [List.nil_append] at this; exact Bo.le this B2.out.size, B2.out.trans (hB3.bel.mono B2.out.size)⟩
end Go.Proofs.YtnegondlkfeleaaDoor

/- The document's frames: Put. -/
namespace Go.Proofs.YtnegondlkfeleaaDoor
open Go.RowKit

set_option maxHeartbeats 1000000 in
set_option maxRecDepth 100000 in
theorem rfput_any (v1 v2 : Value) (xs bs : List Int) (w : World) (h1 : Bs w v1 xs) (h2 : Bs w v2 bs) (hby : ∀ c ∈ bs, byt c) (hx : xs.length ≤ 70368744177664) (hl : bs.length ≤ 8192) :
    Calls Tryd.prog 63 #[v1, v2] w fun e w' => ∃ v', e = .returned (.tuple #[v', .int .i64 0]) ∧ Bo w.heap.size w' v' (xs ++ frameB bs) ∧ Below w.heap.size w w' := by
  have HA := Lib.hid h1
  have HB := Lib.hid h2
  have BY := Lib.hid hby
  have HX := Lib.hid hx
  obtain ⟨A0, c0, rfl, -⟩ := id h1
  obtain ⟨A1, c1, rfl, -⟩ := id h2
  clear h1 h2 hby hx
  have hl' : ¬ (8192 : Int) < (bs.length : Int) := by omega
  have hw : IntKind.u64.wrap (bs.length : Int) = bs.length := by rw [IntKind.wrap_u64]; omega
  have hnb := nb_ten (n := bs.length) (by omega)
  go_enter Tryd.func63, Tryd.ntmps63
  go_wp2_with fail
  refine (rnum_any (.slice none 0 0) [] bs.length _ (Bo.nil_ 0 _).bs (by omega) (by simp)).mono ?_
  rintro e w1 ⟨v3, rfl, h3, b3⟩
  obtain ⟨A3, n3, c3, rfl⟩ := h3.sl
  rw [List.nil_append] at h3
  have F1 := Lib.hid (show Bf w.heap.size w w1 _ (nb bs.length) from ⟨h3, b3, b3.size⟩)
  have HB1 := Lib.hid (HB.out.below b3)
  have HA1 := Lib.hid (HA.out.below b3)
  clear h3 b3
  go_upto_region 4 with (at_builtin; refine wpList_bf_bytes rfl _ _ 25 rfl Tryd.underlying25 rfl F1.out HB1.out rfl (by omega) ?_; intro v4 w2 hB2)
  obtain ⟨A4, n4, c4, rfl⟩ := hB2.own.sl
  have B2 := Lib.hid hB2
  have HA2 := Lib.hid (HA.out.below hB2.bel)
  clear hB2
  go_wp2_with (at_builtin; refine wpList_bf_bytes rfl _ _ 25 rfl Tryd.underlying25 rfl (Bf.start_ w2) HA2.out rfl (by have := HX.out; simp; omega) ?_; intro v5 w3 hB3)
  obtain ⟨A5, n5, c5, rfl⟩ := hB3.own.sl
  rw [List.nil_append] at hB3
  have B3 := Lib.hid hB3
  clear hB3
  refine (rsput_any _ (nb bs.length ++ bs) w3 (B2.out.own.bs.below B3.out.bel) (by
    intro c hc
    rcases List.mem_append.1 hc with hc | hc
    · exact nb_byt _ c hc
    · exact BY.out c hc) (by rw [List.length_append]; omega)).mono ?_
  rintro e w4 ⟨v6, rfl, h6, b6⟩
  obtain ⟨A6, n6, c6, rfl⟩ := h6.sl
  have H6 := Lib.hid (show Bs w4 _ (frameB bs) from h6.bs)
  have B4 := Lib.hid (B3.out.below b6)
  have hfl : (frameB bs).length ≤ 8300 := by unfold frameB; rw [sumB_len, List.length_append]; omega
  clear h6 b6
  go_wp2_with (at_builtin; refine wpList_bf_bytes rfl _ _ 25 rfl Tryd.underlying25 rfl B4.out H6.out rfl (by have := HX.out; omega) ?_; intro v7 w5 hB5)
  go_ret2
  exact ⟨_, rfl, Bo.le hB5.own B2.out.le, B2.out.bel.trans (hB5.bel.mono B2.out.le)⟩
end Go.Proofs.YtnegondlkfeleaaDoor
