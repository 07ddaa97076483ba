import Derived.Test.YtoiclicechfmgaaGreatDoorMemB
import Derived.Test.YtoiclicechfmgaaGreatDoorCloB
import Derived.Test.YtoiclicechfmgaaGreatDoorNuz
import Derived.Lib.AppendZeros
/- shots: a shot in new memory. -/
namespace Go.Proofs.YtoiclicechfmgaaGreatDoor
open Go.RowKit

/-- What a function hands back whose result is a struct's cell. -/
theorem res_cell1 {fn : Func} {p : Tmp} {ty : TypeId} (h : fn.results = #[.cell p ty]) {tmps : Array Value} {P : Program} {w : World} {g : Nat} {t : TypeId} {cs : Array Value} {fs : Array Field} (hk : Blk w g t cs)
    (hp : tmps.getD p undef = .pointer (some ⟨g, 0, none⟩)) (hu : P.underlying ty = some (.struct fs)) (hi : (P.info? ty).map (·.size) = some cs.size) :
    (results fn tmps).run P w = .ok (.agg cs) w := by
  have hl := run_loadVar_row (P := P) w g t ty cs (0, 0) (.struct fs) hk hu rfl hi
  have hp' : tmps[p]?.getD undef = .pointer (some ⟨g, 0, none⟩) := by rw [← hp]; simp
  simp [results, h, hp', asAddr, Sem.run_bind, hl, Result.andThen]
theorem infS : (Tryz.prog.info? 77).map (·.size) = some 3 := by kernel_rfl

set_option maxHeartbeats 1000000 in
set_option maxRecDepth 100000 in
theorem own_any (T V : Int) (v : Value) (xs : List Int) (w : World) (h : Bs w v xs) (hl : xs.length ≤ 70368744177664) :
    Calls Tryz.prog 62 #[.agg #[.int .u64 T, .int .u64 V, v]] w fun e w' => ∃ P, e = .returned (.agg #[.int .u64 T, .int .u64 V, .slice P xs.length xs.length]) ∧ Bo w.heap.size w' (.slice P xs.length xs.length) xs ∧ Below w.heap.size w w' := by
  have b0 := below_alloc2_ w (.cells #[.int .u64 T, .int .u64 V, v] 77) (.cells #[.int .u64 0, .int .u64 0, .slice none 0 0] 77)
  have k0 := (Blk.new w 77 #[.int .u64 T, .int .u64 V, v]).alloc (.cells #[.int .u64 0, .int .u64 0, .slice none 0 0] 77)
  have k1 := Blk.new (w.alloc (.cells #[.int .u64 T, .int .u64 V, v] 77)) 77 #[.int .u64 0, .int .u64 0, .slice none 0 0]
  have HB := Lib.hid (h.below b0)
  obtain ⟨A, c, rfl, -⟩ := id h
  have c0 := k0.cell 2
  simp at c0
  have hz : (w.alloc (.cells #[.int .u64 T, .int .u64 V, .slice A xs.length c] 77)).heap.size = w.heap.size + 1 := by simp
  rw [hz] at k1
  have B0 := Lib.hid b0
  have K0 := Lib.hid k0
  have K1 := Lib.hid k1
  clear h b0 k0 k1 hz
  go_enter Tryz.func62, Tryz.ntmps62
  go_wp2_with fail
  refine (byt_clone_any _ xs.length (bc xs) _ HB.out (bc_one xs) (by omega) (by omega)).mono ?_
  rintro e w1 ⟨v1, rfl, h1, b1⟩
  have h1' : Bo _ w1 v1 xs := h1
  obtain ⟨A1, c1, rfl, hc1, ho⟩ := h1'.clip
  have HO := Lib.hid ho
  have B1 := Lib.hid b1
  have J0 := Lib.hid (K0.out.below b1 K0.out.lt)
  have J1 := Lib.hid (K1.out.below b1 K1.out.lt)
  clear h1 h1' ho b1 c0
  obtain ⟨L, hL⟩ : ∃ L, L = xs.length := ⟨_, rfl⟩
  have hl' : L ≤ 4611686018427387904 := by omega
  rw [← hL] at hc1 ⊢
  have LL := Lib.hid hL
  clear hL hl
  go_wp2_with fail
  refine (byt_clip A1 L c1 w1 hc1 hl').mono ?_
  rintro e w2 ⟨rfl, rfl⟩
  have j0 := J0.out.cell 0
  have j1 := J0.out.cell 1
  have j2 := J0.out.cell 2
  have f2 := J0.out.free 2
  have i0 := J1.out.free 0
  have i1 := J1.out.free 1
  have i2 := J1.out.free 2
  have i3 := J1.out.cell 0
  have i4 := J1.out.cell 1
  have i5 := J1.out.cell 2
  simp at j0 j1 j2 i3 i4 i5
  go_wp2
  refine bodyPost_ret (res_cell1 Tryz.results62 ((((J1.out.far (by simp) _).set_ 0 _).set_ 1 _).set_ 2 _) rfl Tryz.underlying77 infS) rfl ?_
  rw [LL.out]
  have q0 : w.heap.size < ((w.alloc (.cells #[.int .u64 T, .int .u64 V, .slice A xs.length c] 77)).alloc (.cells #[.int .u64 0, .int .u64 0, .slice none 0 0] 77)).heap.size := by simp; omega
  have q1 : w.heap.size + 1 < ((w.alloc (.cells #[.int .u64 T, .int .u64 V, .slice A xs.length c] 77)).alloc (.cells #[.int .u64 0, .int .u64 0, .slice none 0 0] 77)).heap.size := by simp
  refine ⟨A1, by simp, ?_, ?_⟩
  · exact ((((HO.out.far (p := ⟨w.heap.size, 2, none⟩) q0 _).far (p := ⟨w.heap.size + 1, 0, none⟩) q1 _).far (p := ⟨w.heap.size + 1, 1, none⟩) q1 _).far (p := ⟨w.heap.size + 1, 2, none⟩) q1 _).le (by simp; omega)
  · exact ((((B0.out.trans (B1.out.mono B0.out.size)).setCell (p := ⟨w.heap.size, 2, none⟩) (Nat.le_refl _) _).setCell (p := ⟨w.heap.size + 1, 0, none⟩) (Nat.le_succ _) _).setCell (p := ⟨w.heap.size + 1, 1, none⟩) (Nat.le_succ _) _).setCell (p := ⟨w.heap.size + 1, 2, none⟩) (Nat.le_succ _) _
end Go.Proofs.YtoiclicechfmgaaGreatDoor

/- slices.Grow of nothing, slices.Concat, of bytes. -/
namespace Go.Proofs.YtoiclicechfmgaaGreatDoor
open Go.RowKit

theorem Bf.start (w : World) : Bf w.heap.size w w (.slice none 0 0) [] := ⟨Bo.nil_ _ _, Below.refl _ _, Nat.le_refl _⟩
set_option maxRecDepth 100000 in
theorem grow_nil (n : Nat) (w : World) (hn : n ≤ 140737488355328) :
    Calls Tryz.prog 153 #[.slice none 0 0, .int .i64 n] w fun e w' => ∃ v', e = .returned v' ∧ Bf w.heap.size w w' v' [] := by
  obtain ⟨i0, hi, hz0, hz1, hz2⟩ := info_parts byt_info
  go_enter Tryz.func153, Tryz.ntmps153
  by_cases h0 : 0 < n
  · have h0' : 0 < (n : Int) := by omega
    have hneg : ¬ (n : Int) < 0 := by omega
    go_wp2_with (at_builtin; refine Lib.wpList_append_run _ rfl _ _ _ _ rfl _ _ rfl rfl _ _ (Lib.run_append_nil_zeros (P := Tryz.prog) _ 22 3 _ 5 i0 (.int .u8 0) .i64 .i64 Tryz.underlying22 Tryz.underlying3 hi hz0 n h0 (by rw [hz1]; decide) (by omega) (by rw [hz2]; omega)) ?_)
    go_ret
    refine ⟨_, rfl, .inr ⟨w.heap.size, grownCap w n 0 5, _, rfl, Nat.le_refl _, Blk.new _ _ _, Nat.zero_le _, rfl, ?_, rfl⟩, ?_, ?_⟩
    · simp [size_zeroCells]
      have := grownCap_ge w n 0 5
      omega
    · exact (below_alloc_ _ _).drew
    · simp
  · obtain rfl : n = 0 := by omega
    go_wp2
    go_ret
    exact ⟨_, rfl, Bf.start w⟩

/-- The parts' bytes, end to end. -/
def cat (xss : List (List Int)) : List Int := xss.flatten
theorem cat_take (xss : List (List Int)) (i : Nat) (h : i < xss.length) : cat (xss.take (i + 1)) = cat (xss.take i) ++ xss[i] := by
  unfold cat
  rw [List.take_succ_eq_append_getElem h, List.flatten_append]
  simp
theorem cat_len (xss : List (List Int)) (i : Nat) : (cat (xss.take i)).length ≤ (cat xss).length := by
  unfold cat
  conv => rhs; rw [← List.take_append_drop i xss, List.flatten_append, List.length_append]
  omega

set_option maxHeartbeats 1000000 in
set_option maxRecDepth 100000 in
theorem concat_any (A : Option Addr) (c : Nat) (vs : List Value) (xss : List (List Int)) (w : World) (h : Rd w 1 (.slice A vs.length c) vs.length vs) (hvl : vs.length = xss.length)
    (hvs : ∀ (j : Nat) (hj : j < vs.length) (hj' : j < xss.length), Bs w vs[j] xss[j]) (hl : (cat xss).length ≤ 140737488355328) (hk : vs.length ≤ 4611686018427387904) :
    Calls Tryz.prog 140 #[.slice A vs.length c] w fun e w' => ∃ v', e = .returned v' ∧ Bf w.heap.size w w' v' (cat xss) := by
  have H := Lib.hid h
  have VS := Lib.hid hvs
  obtain ⟨n, hn⟩ : ∃ n, n = vs.length := ⟨_, rfl⟩
  have NX := Lib.hid (hn.trans hvl)
  have NV := Lib.hid hn
  rw [← hn] at hk ⊢
  have hc : n ≤ c := by obtain ⟨_, _, hv, hc, _⟩ := h; injection hv with _ h2 h3; omega
  clear h hvs hn hvl
  go_enter Tryz.func140, Tryz.ntmps140
  go_wp2
  go_loopg [3, 5, 11] n (fun g c3 c5 c11 wr => wr = w ∧ ∃ i : Nat, i ≤ n ∧ g = n - i ∧ c11 = .int .i64 i ∧ c3 = .int .i64 ((cat (xss.take i)).length : Nat))
  case atStart => exact ⟨rfl, 0, by omega, rfl, rfl, rfl⟩
  case round =>
    obtain ⟨rfl, i, hi, hg, rfl, rfl⟩ := hrel
    have G := Lib.hid hg
    clear hg
    by_cases hin : i < n
    · have hiv : i < vs.length := by have := NV.out; omega
      have hix : i < xss.length := by have := NX.out; omega
      obtain ⟨A', c', hv, -, -, hr⟩ := id H.out
      obtain ⟨g0, o0, rfl, -, hh⟩ : ∃ g o, A = some ⟨g, o, none⟩ ∧ g < wr.heap.size ∧ ∀ j u, vs[j]? = some u → wr.cell? ⟨g, o + j, none⟩ = some u := by
        rcases hr with h | ⟨g, o, hA, hg, hh⟩
        · omega
        · injection hv with h1 h2 h3; exact ⟨g, o, h1.trans hA, hg, hh⟩
      obtain ⟨B, d, hB, -⟩ := id (VS.out i hiv hix)
      have ci := hh i _ (List.getElem?_eq_getElem hiv)
      rw [hB] at ci
      have hct := congrArg List.length (cat_take xss i hix)
      rw [List.length_append] at hct
      have hcl := cat_len xss (i + 1)
      obtain ⟨m, hm⟩ : ∃ m, m = xss[i].length := ⟨_, rfl⟩
      rw [← hm] at ci hct
      obtain ⟨s0, hs0⟩ : ∃ s0, s0 = (cat (xss.take i)).length := ⟨_, rfl⟩
      rw [← hs0] at hct ⊢
      have hb1 : s0 + m ≤ 140737488355328 := by omega
      have HC := Lib.hid hct
      clear hh hr hv hB hm hs0 hct hcl
      have n1 : ¬ ((s0 + m : Nat) : Int) < 0 := by omega
      have n2 : ¬ ((s0 : Int) + (m : Int)) < 0 := by omega
      go_wp2
      go_roundg (n - (i + 1))
      case measure => have := G.out; omega
      case rel => exact ⟨rfl, i + 1, by omega, rfl, by go_num, by rw [HC.out, Int.natCast_add]⟩
    · obtain rfl : i = n := by omega
      have ht : xss.take i = xss := by rw [NX.out, List.take_length]
      rw [ht]
      obtain ⟨W0, hW0⟩ : ∃ W0, W0 = wr := ⟨_, rfl⟩
      subst hW0
      go_wp2_with fail
      refine (grow_nil _ _ hl).mono ?_
      rintro e w1 ⟨v1, rfl, h1⟩
      have B1 := Lib.hid h1
      clear h1
      go_wp2
      go_loopg [6, 8, 27] i (fun g c6 c8 c27 wr' => ∃ k : Nat, k ≤ i ∧ g = i - k ∧ c27 = .int .i64 k ∧ Bf W0.heap.size W0 wr' c6 (cat (xss.take k)))
      case atStart => exact ⟨0, by omega, rfl, rfl, B1.out⟩
      case round =>
        obtain ⟨k, hk', hg, rfl, hB⟩ := hrel
        have G' := Lib.hid hg
        have HB := Lib.hid hB
        clear hg hB
        by_cases hki : k < i
        · have hkv : k < vs.length := by have := NV.out; omega
          have hkx : k < xss.length := by have := NX.out; omega
          obtain ⟨A', c', hv, -, -, hr⟩ := id H.out
          obtain ⟨g0, o0, rfl, hg0, hh⟩ : ∃ g o, A = some ⟨g, o, none⟩ ∧ g < W0.heap.size ∧ ∀ j u, vs[j]? = some u → W0.cell? ⟨g, o + j, none⟩ = some u := by
            rcases hr with h | ⟨g, o, hA, hg, hh⟩
            · omega
            · injection hv with h1 h2 h3; exact ⟨g, o, h1.trans hA, hg, hh⟩
          have ci := (HB.out.bel.cell hg0).trans (hh k _ (List.getElem?_eq_getElem hkv))
          have YB := Lib.hid ((VS.out k hkv hkx).below HB.out.bel)
          have hct := cat_take xss k hkx
          have hcl := cat_len xss (k + 1)
          rw [hct, List.length_append] at hcl
          have hsum : (cat (xss.take k)).length + xss[k].length ≤ 140737488355328 := by omega
          have HC := Lib.hid hct
          clear hh hr hv hct hcl
          go_wp2_with (at_builtin; refine wpList_bf_bytes rfl _ _ 22 rfl Tryz.underlying22 rfl HB.out YB.out rfl hsum ?_; intro v2 w2 hB2)
          go_roundg (i - (k + 1))
          case measure => have := G'.out; omega
          case rel => exact ⟨k + 1, by omega, rfl, by go_num, by rw [HC.out]; exact hB2⟩
        · obtain rfl : k = i := by omega
          go_wp2
          go_ret
          refine ⟨_, rfl, ?_⟩
          have := HB.out
          rw [ht] at this
          exact this
end Go.Proofs.YtoiclicechfmgaaGreatDoor

/- sums.Put, frames.Put. -/
namespace Go.Proofs.YtoiclicechfmgaaGreatDoor
open Go.RowKit

theorem fourS_byt (n : Int) (h : 0 ≤ n ∧ n < 4294967296) : ∀ c ∈ fourS n, byt c := by
  intro c hc
  simp [fourS] at hc
  unfold byt
  rcases hc with rfl | rfl | rfl | rfl <;> omega
theorem moreS_in (n : Int) (bs : List Int) : 0 ≤ moreS n bs ∧ moreS n bs < 4294967296 := u32_in _ _ _
/-- Bytes and their sum. -/
def sumB (bs : List Int) : List Int := bs ++ fourS (moreS 0 bs)
theorem sumB_byt {bs : List Int} (h : ∀ c ∈ bs, byt c) : ∀ c ∈ sumB bs, byt c := by
  intro c hc
  rcases List.mem_append.1 hc with hc | hc
  · exact h c hc
  · exact fourS_byt _ (moreS_in 0 bs) c hc
theorem sumB_len (bs : List Int) : (sumB bs).length = bs.length + 4 := by simp [sumB, fourS]
/-- A body's frame. -/
def frameB (bs : List Int) : List Int := sumB (nb bs.length ++ bs)
theorem frameB_byt {bs : List Int} (h : ∀ c ∈ bs, byt c) : ∀ c ∈ frameB bs, byt c := sumB_byt fun c hc => by
  rcases List.mem_append.1 hc with hc | hc
  · exact nb_byt _ c hc
  · exact h c hc

theorem concat2 (v1 v2 : Value) (xs ys : List Int) (w : World) (h1 : Bs w v1 xs) (h2 : Bs w v2 ys) (hl : xs.length + ys.length ≤ 140737488355328) :
    Calls Tryz.prog 140 #[.slice (some ⟨w.heap.size, 0, none⟩) 2 2] (w.alloc (.cells #[v1, v2] 22)) fun e w' => ∃ v', e = .returned v' ∧ Bf w.heap.size w w' v' (xs ++ ys) := by
  have hb := below_alloc_ w (.cells #[v1, v2] 22)
  have hc : cat [xs, ys] = xs ++ ys := by simp [cat]
  have := concat_any (some ⟨w.heap.size, 0, none⟩) 2 [v1, v2] [xs, ys] (w.alloc (.cells #[v1, v2] 22))
    ⟨_, _, rfl, Nat.le_refl _, rfl, .inr ⟨w.heap.size, 0, rfl, by simp, fun j u hu => by rw [Nat.zero_add, (Blk.new w 22 #[v1, v2]).cell]; simpa using hu⟩⟩ rfl
    (fun j hj hj' => by
      match j, hj with
      | 0, _ => exact h1.below hb
      | 1, _ => exact h2.below hb) (by rw [hc, List.length_append]; exact hl) (by simp)
  rw [hc] at this
  exact this.mono fun e w' ⟨v', he, hB⟩ => ⟨v', he, hB.own.le hb.size, hb.trans (hB.bel.mono hb.size), Nat.le_trans hb.size hB.le⟩

set_option maxHeartbeats 1000000 in
set_option maxRecDepth 100000 in
theorem sput_any (v : Value) (bs : List Int) (w : World) (h : Bs w v bs) (hby : ∀ c ∈ bs, byt c) (T : Tab w) (hl : bs.length ≤ 140737488355000) :
    Calls Tryz.prog 141 #[v] w fun e w' => ∃ v', e = .returned v' ∧ Bo w.heap.size w' v' (sumB bs) ∧ Below w.heap.size w w' := by
  have H := Lib.hid h
  have BY := Lib.hid hby
  have TT := Lib.hid T
  obtain ⟨A0, c0, rfl, -⟩ := id h
  clear h hby T
  go_enter Tryz.func141, Tryz.ntmps141
  go_wp2_with fail
  refine (of_any _ bs _ H.out BY.out TT.out (by omega)).mono ?_
  rintro e w1 ⟨rfl, rfl⟩
  go_wp2_with fail
  refine (four_any _ _ (moreS_in 0 bs)).mono ?_
  rintro e w1 ⟨v1, rfl, h1, b1⟩
  obtain ⟨A1, n1, c1, rfl⟩ := h1.sl
  have H1 := Lib.hid h1
  have B1 := Lib.hid b1
  clear h1 b1
  go_wp2_with fail
  refine (concat2 _ _ bs (fourS (moreS 0 bs)) w1 (H.out.below B1.out) H1.out.bs (by simp [fourS]; omega)).mono ?_
  rintro e w2 ⟨v2, rfl, h2⟩
  have hlen : (bs ++ fourS (moreS 0 bs)).length ≤ 4611686018427387904 := by simp [fourS]; omega
  obtain ⟨A, c, rfl, hc, ho⟩ := h2.own.clip
  have H2 := Lib.hid h2
  have HO := Lib.hid ho
  clear h2 ho
  obtain ⟨L, hL⟩ : ∃ L, L = (bs ++ fourS (moreS 0 bs)).length := ⟨_, rfl⟩
  rw [← hL] at hc hlen ⊢
  have LL := Lib.hid hL
  clear hL
  go_wp2_with fail
  refine (byt_clip A _ c w2 hc hlen).mono ?_
  rintro e w3 ⟨rfl, rfl⟩
  go_wp2
  go_ret
  exact ⟨_, rfl, by rw [LL.out]; exact Ow.le HO.out B1.out.size, B1.out.trans (H2.out.bel.mono B1.out.size)⟩

set_option maxHeartbeats 1000000 in
set_option maxRecDepth 100000 in
theorem fput_any (v1 v2 : Value) (xs bs : List Int) (w : World) (h1 : Bs w v1 xs) (h2 : Bs w v2 bs) (hby : ∀ c ∈ bs, byt c) (T : Tab w) (hx : xs.length ≤ 70368744177664) (hl : bs.length ≤ 8192) :
    Calls Tryz.prog 119 #[v1, v2] w fun e w' => ∃ v', e = .returned (.tuple #[v', .int .i64 0]) ∧ Bo w.heap.size w' v' (xs ++ frameB bs) ∧ Below w.heap.size w w' := by
  have HA := Lib.hid h1
  have HB := Lib.hid h2
  have BY := Lib.hid hby
  have TT := Lib.hid T
  obtain ⟨A0, c0, rfl, -⟩ := id h1
  obtain ⟨A1, c1, rfl, -⟩ := id h2
  clear h1 h2 hby T
  have hl' : ¬ (8192 : Int) < (bs.length : Int) := by omega
  have hw : IntKind.u64.wrap (bs.length : Int) = bs.length := by rw [IntKind.wrap_u64]; omega
  go_enter Tryz.func119, Tryz.ntmps119
  go_wp2_with fail
  refine (num_any (.slice none 0 0) [] bs.length _ (Bo.nil_ 0 _).bs (by omega) (by simp)).mono ?_
  rintro e w1 ⟨v3, rfl, h3, b3⟩
  obtain ⟨A3, n3, c3, rfl⟩ := h3.sl
  have h3' := h3.bs
  rw [List.nil_append] at h3'
  have H3 := Lib.hid h3'
  have B3 := Lib.hid b3
  clear h3 h3' b3
  have hnb := nb_ten (n := bs.length) (by omega)
  go_wp2_with fail
  refine (concat2 _ _ (nb bs.length) bs w1 H3.out (HB.out.below B3.out) (by omega)).mono ?_
  rintro e w2 ⟨v4, rfl, h4⟩
  obtain ⟨A4, n4, c4, rfl⟩ := h4.own.sl
  have B4 := Lib.hid (B3.out.trans (h4.bel.mono B3.out.size))
  have H4 := Lib.hid h4
  clear h4
  go_wp2_with fail
  refine (sput_any _ (nb bs.length ++ bs) w2 H4.out.own.bs (by
    intro c hc
    rcases List.mem_append.1 hc with hc | hc
    · exact nb_byt _ c hc
    · exact BY.out c hc) (TT.out.below B4.out) (by rw [List.length_append]; omega)).mono ?_
  rintro e w3 ⟨v5, rfl, h5, b5⟩
  obtain ⟨A5, n5, c5, rfl⟩ := h5.sl
  have H5 := Lib.hid (show Bs w3 _ (frameB bs) from h5.bs)
  have B5 := Lib.hid (B4.out.trans (b5.mono B4.out.size))
  clear h5 b5
  have hfl : (frameB bs).length ≤ 8300 := by unfold frameB; rw [sumB_len, List.length_append]; omega
  go_wp2_with fail
  refine (concat2 _ _ xs (frameB bs) w3 (HA.out.below B5.out) H5.out (by omega)).mono ?_
  rintro e w4 ⟨v6, rfl, h6⟩
  have hlen : (xs ++ frameB bs).length ≤ 4611686018427387904 := by rw [List.length_append]; omega
  obtain ⟨A, c, rfl, hc, ho⟩ := h6.own.clip
  have H6 := Lib.hid h6
  have HO := Lib.hid ho
  clear h6 ho
  obtain ⟨L, hL⟩ : ∃ L, L = (xs ++ frameB bs).length := ⟨_, rfl⟩
  rw [← hL] at hc hlen ⊢
  have LL := Lib.hid hL
  clear hL
  go_wp2_with fail
  refine (byt_clip A _ c w4 hc hlen).mono ?_
  rintro e w5 ⟨rfl, rfl⟩
  go_wp2
  go_ret2
  exact ⟨_, rfl, by rw [LL.out]; exact Ow.le HO.out B5.out.size, B5.out.trans (H6.out.bel.mono B5.out.size)⟩
end Go.Proofs.YtoiclicechfmgaaGreatDoor
