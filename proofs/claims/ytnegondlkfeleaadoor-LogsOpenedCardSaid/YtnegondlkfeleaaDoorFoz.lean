import Derived.Test.YtnegondlkfeleaaDoorPuz
import Derived.Lib.AppendZeros
/- Sums: More. -/
namespace Go.Proofs.YtnegondlkfeleaaDoor
open Go.RowKit

/-- The table. -/
def tabL : List Int := [0, 498536548, 997073096, 651767980, 1994146192, 1802195444, 1303535960, 1342533948, 3988292384, 4027552580, 3604390888, 3412177804, 2607071920, 2262029012, 2685067896, 3183342108]
def Tab (w : World) : Prop := ∀ i, i < 16 → w.cell? ⟨0, i, none⟩ = some (.int .u32 (tabL.getD i 0))
theorem Tab.below {w w' : World} (h : Tab w) (hb : Below w.heap.size w w') : Tab w' := fun i hi => (hb.cell (block_lt_of_cell (h i hi))).trans (h i hi)
theorem and15 (z : Int) : ∃ k : Nat, k < 16 ∧ bits .and .u32 z 15 = (k : Int) := by
  refine ⟨(BitVec.ofInt 32 z &&& BitVec.ofInt 32 15).toNat, ?_, ?_⟩
  · rw [BitVec.toNat_and]; exact Nat.lt_of_le_of_lt Nat.and_le_right (by decide)
  · have := (BitVec.ofInt 32 z &&& BitVec.ofInt 32 15).isLt
    show IntKind.u32.wrap ((BitVec.ofInt 32 z &&& BitVec.ofInt 32 15).toNat : Int) = _
    rw [IntKind.wrap_u32]
    omega

/-- What half a byte does to a sum. -/
def half (n c : Int) : Int := bits .xor .u32 (n / 16) (tabL.getD (bits .and .u32 (bits .xor .u32 n c) 15).toNat 0)
def stepS (n c : Int) : Int := half (half n c) (c / 16)
def moreS (n : Int) (bs : List Int) : Int := bits .xor .u32 IntKind.u32.max (bs.foldl stepS (bits .xor .u32 IntKind.u32.max n))
theorem u32_in (op : BinOp) (a b : Int) : 0 ≤ bits op .u32 a b ∧ bits op .u32 a b < 4294967296 := ⟨bits_lo_u32 op a b, by have := bits_hi_u32 op a b; omega⟩

set_option maxHeartbeats 1000000 in
set_option maxRecDepth 100000 in
theorem more_any (v : Value) (bs : List Int) (n0 : Int) (w : World) (h : Bs w v bs) (hby : ∀ c ∈ bs, byt c) (T : Tab w) (hl : bs.length ≤ 4611686018427387904) :
    Calls Tryd.prog 132 #[.int .u32 n0, v] w fun e w' => e = .returned (.int .u32 (moreS n0 bs)) ∧ w = w' := by
  have H := Lib.hid h
  have BY := Lib.hid hby
  have TT := Lib.hid T
  obtain ⟨A, c, rfl, hc, -⟩ := id h
  clear h hby T
  obtain ⟨n, hn⟩ : ∃ n, n = bs.length := ⟨_, rfl⟩
  have N := Lib.hid hn
  have hnc : n ≤ c := by omega
  have hnl : n ≤ 4611686018427387904 := by omega
  clear hl
  clear hc
  rw [← hn]
  clear hn
  obtain ⟨m0, hm0⟩ : ∃ m0, m0 = moreS n0 bs := ⟨_, rfl⟩
  rw [← hm0]
  have M0 := Lib.hid hm0
  clear hm0
  go_enter Tryd.func132, Tryd.ntmps132
  go_wp2
  go_loopg [5, 7, 12] n (fun g c5 c7 c12 wr => wr = w ∧ ∃ (i : Nat) (z : Int), i ≤ n ∧ g = n - i ∧ c12 = .int .i64 i ∧ c5 = .int .u32 z ∧ (0 ≤ z ∧ z < 4294967296) ∧ z = (bs.take i).foldl stepS (bits .xor .u32 IntKind.u32.max n0))
  case atStart => exact ⟨rfl, 0, _, by omega, rfl, rfl, rfl, u32_in _ _ _, rfl⟩
  case round =>
    obtain ⟨rfl, i, z, hi, hg, rfl, rfl, hz, hzf⟩ := hrel
    have G := Lib.hid hg
    have ZF := Lib.hid hzf
    clear hg hzf
    by_cases hin : i < n
    · have hib : i < bs.length := by have := N.out; omega
      obtain ⟨A', c', hv, -, -, hr⟩ := id H.out
      obtain ⟨g0, o0, rfl, -, hh⟩ : ∃ g o, A = some ⟨g, o, none⟩ ∧ g < wr.heap.size ∧ ∀ j u, (bc bs)[j]? = some u → wr.cell? ⟨g, o + j, none⟩ = some u := by
        rcases hr with h | ⟨g, o, hA, hg, hh⟩
        · omega
        · injection hv with h1 h2 h3; exact ⟨g, o, h1.trans hA, hg, hh⟩
      have ci := hh i (.int .u8 bs[i]) (by simp [bc, hib])
      have hcb := BY.out _ (List.getElem_mem hib)
      obtain ⟨x, hx⟩ : ∃ x, x = bs[i] := ⟨_, rfl⟩
      rw [← hx] at ci hcb
      unfold byt at hcb
      have HX := Lib.hid hx
      clear hh hr hv hx
      obtain ⟨k1, hk1, e1⟩ := and15 (bits .xor .u32 z x)
      have t1 := TT.out k1 hk1
      obtain ⟨y1, hy1⟩ : ∃ y1, y1 = tabL.getD k1 0 := ⟨_, rfl⟩
      rw [← hy1] at t1
      obtain ⟨z1, hz1⟩ : ∃ z1, bits .xor .u32 (z / 16) y1 = z1 := ⟨_, rfl⟩
      have hz1b : 0 ≤ z1 ∧ z1 < 4294967296 := by rw [← hz1]; exact u32_in _ _ _
      obtain ⟨k2, hk2, e2⟩ := and15 (bits .xor .u32 z1 (x / 16))
      have t2 := TT.out k2 hk2
      obtain ⟨y2, hy2⟩ : ∃ y2, y2 = tabL.getD k2 0 := ⟨_, rfl⟩
      rw [← hy2] at t2
      have Y1 := Lib.hid hy1
      have Y2 := Lib.hid hy2
      clear hy1 hy2
      go_wp2
      go_roundg (n - (i + 1))
      case measure => have := G.out; omega
      case rel =>
        refine ⟨rfl, i + 1, _, by omega, rfl, by go_num, rfl, u32_in _ _ _, ?_⟩
        rw [List.take_succ_eq_append_getElem hib, List.foldl_append, ← ZF.out, ← HX.out]
        show _ = stepS z x
        unfold stepS
        have a1 : half z x = z1 := by unfold half; rw [e1, Int.toNat_natCast, ← Y1.out, hz1]
        rw [a1]
        unfold half
        rw [e2, Int.toNat_natCast, ← Y2.out]
    · obtain rfl : i = n := by omega
      go_wp2
      go_ret
      refine ⟨?_, rfl⟩
      rw [M0.out, moreS]
      have := ZF.out
      rw [N.out, List.take_length] at this
      rw [← this]
      rfl

theorem of_any (v : Value) (bs : List Int) (w : World) (h : Bs w v bs) (hby : ∀ c ∈ bs, byt c) (T : Tab w) (hl : bs.length ≤ 4611686018427387904) :
    Calls Tryd.prog 108 #[v] w fun e w' => e = .returned (.int .u32 (moreS 0 bs)) ∧ w = w' := by
  have H := Lib.hid h
  have BY := Lib.hid hby
  have TT := Lib.hid T
  clear h hby T
  go_enter Tryd.func108, Tryd.ntmps108
  go_wp2_with fail
  refine (more_any v bs 0 _ H.out BY.out TT.out hl).mono ?_
  rintro e w1 ⟨rfl, rfl⟩
  go_wp2
  go_ret
  exact ⟨rfl, rfl⟩

def fourS (n : Int) : List Int := [n % 256, n / 256 % 256, n / 65536 % 256, n / 16777216]
set_option maxRecDepth 100000 in
theorem four_any (n : Int) (w : World) (hn : 0 ≤ n ∧ n < 4294967296) :
    Calls Tryd.prog 107 #[.int .u32 n] w fun e w' => ∃ v', e = .returned v' ∧ Bo w.heap.size w' v' (fourS n) ∧ Below w.heap.size w w' := by
  go_enter Tryd.func107, Tryd.ntmps107
  go_wp2
  go_ret
  refine ⟨_, rfl, .inr ⟨w.heap.size, 4, _, rfl, Nat.le_refl _, Blk.new _ _ _, Nat.le_refl _, rfl, Nat.le_refl _, ?_⟩, below_alloc_ _ _⟩

  simp [bc, fourS]
end Go.Proofs.YtnegondlkfeleaaDoor

/- slices.Grow of nothing, slices.Concat, of bytes. -/
namespace Go.Proofs.YtnegondlkfeleaaDoor
open Go.RowKit

theorem Bf.start (w : World) : Bf w.heap.size w w (.slice none 0 0) [] := ⟨Bo.nil_ _ _, Below.refl _ _, Nat.le_refl _⟩
set_option maxRecDepth 100000 in
theorem grow_nil (n : Nat) (w : World) (hn : n ≤ 140737488355328) :
    Calls Tryd.prog 106 #[.slice none 0 0, .int .i64 n] w fun e w' => ∃ v', e = .returned v' ∧ Bf w.heap.size w w' v' [] := by
  obtain ⟨i0, hi, hz0, hz1, hz2⟩ := info_parts byt_info
  go_enter Tryd.func106, Tryd.ntmps106
  by_cases h0 : 0 < n
  · have h0' : 0 < (n : Int) := by omega
    have hneg : ¬ (n : Int) < 0 := by omega
    go_wp2_with (at_builtin; refine Lib.wpList_append_run _ rfl _ _ _ _ rfl _ _ rfl rfl _ _ (Lib.run_append_nil_zeros (P := Tryd.prog) _ 25 3 _ 5 i0 (.int .u8 0) .i64 .i64 Tryd.underlying25 Tryd.underlying3 hi hz0 n h0 (by rw [hz1]; decide) (by omega) (by rw [hz2]; omega)) ?_)
    go_ret
    refine ⟨_, rfl, .inr ⟨w.heap.size, grownCap w n 0 5, _, rfl, Nat.le_refl _, Blk.new _ _ _, Nat.zero_le _, rfl, ?_, rfl⟩, ?_, ?_⟩
    · simp [size_zeroCells]
      have := grownCap_ge w n 0 5
      omega
    · exact (below_alloc_ _ _).drew
    · simp
  · obtain rfl : n = 0 := by omega
    go_wp2
    go_ret
    exact ⟨_, rfl, Bf.start w⟩

/-- The parts' bytes, end to end. -/
def cat (xss : List (List Int)) : List Int := xss.flatten
theorem cat_take (xss : List (List Int)) (i : Nat) (h : i < xss.length) : cat (xss.take (i + 1)) = cat (xss.take i) ++ xss[i] := by
  unfold cat
  rw [List.take_succ_eq_append_getElem h, List.flatten_append]
  simp
theorem cat_len (xss : List (List Int)) (i : Nat) : (cat (xss.take i)).length ≤ (cat xss).length := by
  unfold cat
  conv => rhs; rw [← List.take_append_drop i xss, List.flatten_append, List.length_append]
  omega

set_option maxHeartbeats 1000000 in
set_option maxRecDepth 100000 in
theorem concat_any (A : Option Addr) (c : Nat) (vs : List Value) (xss : List (List Int)) (w : World) (h : Rd w 1 (.slice A vs.length c) vs.length vs) (hvl : vs.length = xss.length)
    (hvs : ∀ (j : Nat) (hj : j < vs.length) (hj' : j < xss.length), Bs w vs[j] xss[j]) (hl : (cat xss).length ≤ 140737488355328) (hk : vs.length ≤ 4611686018427387904) :
    Calls Tryd.prog 90 #[.slice A vs.length c] w fun e w' => ∃ v', e = .returned v' ∧ Bf w.heap.size w w' v' (cat xss) := by
  have H := Lib.hid h
  have VS := Lib.hid hvs
  obtain ⟨n, hn⟩ : ∃ n, n = vs.length := ⟨_, rfl⟩
  have NX := Lib.hid (hn.trans hvl)
  have NV := Lib.hid hn
  rw [← hn] at hk ⊢
  have hc : n ≤ c := by obtain ⟨_, _, hv, hc, _⟩ := h; injection hv with _ h2 h3; omega
  clear h hvs hn hvl
  go_enter Tryd.func90, Tryd.ntmps90
  go_wp2
  go_loopg [3, 5, 11] n (fun g c3 c5 c11 wr => wr = w ∧ ∃ i : Nat, i ≤ n ∧ g = n - i ∧ c11 = .int .i64 i ∧ c3 = .int .i64 ((cat (xss.take i)).length : Nat))
  case atStart => exact ⟨rfl, 0, by omega, rfl, rfl, rfl⟩
  case round =>
    obtain ⟨rfl, i, hi, hg, rfl, rfl⟩ := hrel
    have G := Lib.hid hg
    clear hg
    by_cases hin : i < n
    · have hiv : i < vs.length := by have := NV.out; omega
      have hix : i < xss.length := by have := NX.out; omega
      obtain ⟨A', c', hv, -, -, hr⟩ := id H.out
      obtain ⟨g0, o0, rfl, -, hh⟩ : ∃ g o, A = some ⟨g, o, none⟩ ∧ g < wr.heap.size ∧ ∀ j u, vs[j]? = some u → wr.cell? ⟨g, o + j, none⟩ = some u := by
        rcases hr with h | ⟨g, o, hA, hg, hh⟩
        · omega
        · injection hv with h1 h2 h3; exact ⟨g, o, h1.trans hA, hg, hh⟩
      obtain ⟨B, d, hB, -⟩ := id (VS.out i hiv hix)
      have ci := hh i _ (List.getElem?_eq_getElem hiv)
      rw [hB] at ci
      have hct := congrArg List.length (cat_take xss i hix)
      rw [List.length_append] at hct
      have hcl := cat_len xss (i + 1)
      obtain ⟨m, hm⟩ : ∃ m, m = xss[i].length := ⟨_, rfl⟩
      rw [← hm] at ci hct
      obtain ⟨s0, hs0⟩ : ∃ s0, s0 = (cat (xss.take i)).length := ⟨_, rfl⟩
      rw [← hs0] at hct ⊢
      have hb1 : s0 + m ≤ 140737488355328 := by omega
      have HC := Lib.hid hct
      clear hh hr hv hB hm hs0 hct hcl
      have n1 : ¬ ((s0 + m : Nat) : Int) < 0 := by omega
      have n2 : ¬ ((s0 : Int) + (m : Int)) < 0 := by omega
      go_wp2
      go_roundg (n - (i + 1))
      case measure => have := G.out; omega
      case rel => exact ⟨rfl, i + 1, by omega, rfl, by go_num, by rw [HC.out, Int.natCast_add]⟩
    · obtain rfl : i = n := by omega
      have ht : xss.take i = xss := by rw [NX.out, List.take_length]
      rw [ht]
      obtain ⟨W0, hW0⟩ : ∃ W0, W0 = wr := ⟨_, rfl⟩
      subst hW0
      go_wp2_with fail
      refine (grow_nil _ _ hl).mono ?_
      rintro e w1 ⟨v1, rfl, h1⟩
      have B1 := Lib.hid h1
      clear h1
      go_wp2
      go_loopg [6, 8, 27] i (fun g c6 c8 c27 wr' => ∃ k : Nat, k ≤ i ∧ g = i - k ∧ c27 = .int .i64 k ∧ Bf W0.heap.size W0 wr' c6 (cat (xss.take k)))
      case atStart => exact ⟨0, by omega, rfl, rfl, B1.out⟩
      case round =>
        obtain ⟨k, hk', hg, rfl, hB⟩ := hrel
        have G' := Lib.hid hg
        have HB := Lib.hid hB
        clear hg hB
        by_cases hki : k < i
        · have hkv : k < vs.length := by have := NV.out; omega
          have hkx : k < xss.length := by have := NX.out; omega
          obtain ⟨A', c', hv, -, -, hr⟩ := id H.out
          obtain ⟨g0, o0, rfl, hg0, hh⟩ : ∃ g o, A = some ⟨g, o, none⟩ ∧ g < W0.heap.size ∧ ∀ j u, vs[j]? = some u → W0.cell? ⟨g, o + j, none⟩ = some u := by
            rcases hr with h | ⟨g, o, hA, hg, hh⟩
            · omega
            · injection hv with h1 h2 h3; exact ⟨g, o, h1.trans hA, hg, hh⟩
          have ci := (HB.out.bel.cell hg0).trans (hh k _ (List.getElem?_eq_getElem hkv))
          have YB := Lib.hid ((VS.out k hkv hkx).below HB.out.bel)
          have hct := cat_take xss k hkx
          have hcl := cat_len xss (k + 1)
          rw [hct, List.length_append] at hcl
          have hsum : (cat (xss.take k)).length + xss[k].length ≤ 140737488355328 := by omega
          have HC := Lib.hid hct
          clear hh hr hv hct hcl
          go_wp2_with (at_builtin; refine wpList_bf_bytes rfl _ _ 25 rfl Tryd.underlying25 rfl HB.out YB.out rfl hsum ?_; intro v2 w2 hB2)
          go_roundg (i - (k + 1))
          case measure => have := G'.out; omega
          case rel => exact ⟨k + 1, by omega, rfl, by go_num, by rw [HC.out]; exact hB2⟩
        · obtain rfl : k = i := by omega
          go_wp2
          go_ret
          refine ⟨_, rfl, ?_⟩
          have := HB.out
          rw [ht] at this
          exact this
end Go.Proofs.YtnegondlkfeleaaDoor

/- sums.Put, frames.Put. -/
namespace Go.Proofs.YtnegondlkfeleaaDoor
open Go.RowKit

theorem fourS_byt (n : Int) (h : 0 ≤ n ∧ n < 4294967296) : ∀ c ∈ fourS n, byt c := by
  intro c hc
  simp [fourS] at hc
  unfold byt
  rcases hc with rfl | rfl | rfl | rfl <;> omega
theorem moreS_in (n : Int) (bs : List Int) : 0 ≤ moreS n bs ∧ moreS n bs < 4294967296 := u32_in _ _ _
/-- Bytes and their sum. -/
def sumB (bs : List Int) : List Int := bs ++ fourS (moreS 0 bs)
theorem sumB_byt {bs : List Int} (h : ∀ c ∈ bs, byt c) : ∀ c ∈ sumB bs, byt c := by
  intro c hc
  rcases List.mem_append.1 hc with hc | hc
  · exact h c hc
  · exact fourS_byt _ (moreS_in 0 bs) c hc
theorem sumB_len (bs : List Int) : (sumB bs).length = bs.length + 4 := by simp [sumB, fourS]
/-- A body's frame. -/
def frameB (bs : List Int) : List Int := sumB (nb bs.length ++ bs)
theorem frameB_byt {bs : List Int} (h : ∀ c ∈ bs, byt c) : ∀ c ∈ frameB bs, byt c := sumB_byt fun c hc => by
  rcases List.mem_append.1 hc with hc | hc
  · exact nb_byt _ c hc
  · exact h c hc

theorem concat2 (v1 v2 : Value) (xs ys : List Int) (w : World) (h1 : Bs w v1 xs) (h2 : Bs w v2 ys) (hl : xs.length + ys.length ≤ 140737488355328) :
    Calls Tryd.prog 90 #[.slice (some ⟨w.heap.size, 0, none⟩) 2 2] (w.alloc (.cells #[v1, v2] 25)) fun e w' => ∃ v', e = .returned v' ∧ Bf w.heap.size w w' v' (xs ++ ys) := by
  have hb := below_alloc_ w (.cells #[v1, v2] 25)
  have hc : cat [xs, ys] = xs ++ ys := by simp [cat]
  have := concat_any (some ⟨w.heap.size, 0, none⟩) 2 [v1, v2] [xs, ys] (w.alloc (.cells #[v1, v2] 25))
    ⟨_, _, rfl, Nat.le_refl _, rfl, .inr ⟨w.heap.size, 0, rfl, by simp, fun j u hu => by rw [Nat.zero_add, (Blk.new w 25 #[v1, v2]).cell]; simpa using hu⟩⟩ rfl
    (fun j hj hj' => by
      match j, hj with
      | 0, _ => exact h1.below hb
      | 1, _ => exact h2.below hb) (by rw [hc, List.length_append]; exact hl) (by simp)
  rw [hc] at this
  exact this.mono fun e w' ⟨v', he, hB⟩ => ⟨v', he, hB.own.le hb.size, hb.trans (hB.bel.mono hb.size), Nat.le_trans hb.size hB.le⟩

set_option maxHeartbeats 1000000 in
set_option maxRecDepth 100000 in
theorem sput_any (v : Value) (bs : List Int) (w : World) (h : Bs w v bs) (hby : ∀ c ∈ bs, byt c) (T : Tab w) (hl : bs.length ≤ 140737488355000) :
    Calls Tryd.prog 91 #[v] w fun e w' => ∃ v', e = .returned v' ∧ Bo w.heap.size w' v' (sumB bs) ∧ Below w.heap.size w w' := by
  have H := Lib.hid h
  have BY := Lib.hid hby
  have TT := Lib.hid T
  obtain ⟨A0, c0, rfl, -⟩ := id h
  clear h hby T
  go_enter Tryd.func91, Tryd.ntmps91
  go_wp2_with fail
  refine (of_any _ bs _ H.out BY.out TT.out (by omega)).mono ?_
  rintro e w1 ⟨rfl, rfl⟩
  go_wp2_with fail
  refine (four_any _ _ (moreS_in 0 bs)).mono ?_
  rintro e w1 ⟨v1, rfl, h1, b1⟩
  obtain ⟨A1, n1, c1, rfl⟩ := h1.sl
  have H1 := Lib.hid h1
  have B1 := Lib.hid b1
  clear h1 b1
  go_wp2_with fail
  refine (concat2 _ _ bs (fourS (moreS 0 bs)) w1 (H.out.below B1.out) H1.out.bs (by simp [fourS]; omega)).mono ?_
  rintro e w2 ⟨v2, rfl, h2⟩
  have hlen : (bs ++ fourS (moreS 0 bs)).length ≤ 4611686018427387904 := by simp [fourS]; omega
  obtain ⟨A, c, rfl, hc, ho⟩ := h2.own.clip
  have H2 := Lib.hid h2
  have HO := Lib.hid ho
  clear h2 ho
  obtain ⟨L, hL⟩ : ∃ L, L = (bs ++ fourS (moreS 0 bs)).length := ⟨_, rfl⟩
  rw [← hL] at hc hlen ⊢
  have LL := Lib.hid hL
  clear hL
  go_wp2_with fail
  refine (byt_clip A _ c w2 hc hlen).mono ?_
  rintro e w3 ⟨rfl, rfl⟩
  go_wp2
  go_ret
  exact ⟨_, rfl, by rw [LL.out]; exact Ow.le HO.out B1.out.size, B1.out.trans (H2.out.bel.mono B1.out.size)⟩

set_option maxHeartbeats 1000000 in
set_option maxRecDepth 100000 in
theorem fput_any (v1 v2 : Value) (xs bs : List Int) (w : World) (h1 : Bs w v1 xs) (h2 : Bs w v2 bs) (hby : ∀ c ∈ bs, byt c) (T : Tab w) (hx : xs.length ≤ 70368744177664) (hl : bs.length ≤ 8192) :
    Calls Tryd.prog 61 #[v1, v2] w fun e w' => ∃ v', e = .returned (.tuple #[v', .int .i64 0]) ∧ Bo w.heap.size w' v' (xs ++ frameB bs) ∧ Below w.heap.size w w' := by
  have HA := Lib.hid h1
  have HB := Lib.hid h2
  have BY := Lib.hid hby
  have TT := Lib.hid T
  obtain ⟨A0, c0, rfl, -⟩ := id h1
  obtain ⟨A1, c1, rfl, -⟩ := id h2
  clear h1 h2 hby T
  have hl' : ¬ (8192 : Int) < (bs.length : Int) := by omega
  have hw : IntKind.u64.wrap (bs.length : Int) = bs.length := by rw [IntKind.wrap_u64]; omega
  go_enter Tryd.func61, Tryd.ntmps61
  go_wp2_with fail
  refine (num_any (.slice none 0 0) [] bs.length _ (Bo.nil_ 0 _).bs (by omega) (by simp)).mono ?_
  rintro e w1 ⟨v3, rfl, h3, b3⟩
  obtain ⟨A3, n3, c3, rfl⟩ := h3.sl
  have h3' := h3.bs
  rw [List.nil_append] at h3'
  have H3 := Lib.hid h3'
  have B3 := Lib.hid b3
  clear h3 h3' b3
  have hnb := nb_ten (n := bs.length) (by omega)
  go_wp2_with fail
  refine (concat2 _ _ (nb bs.length) bs w1 H3.out (HB.out.below B3.out) (by omega)).mono ?_
  rintro e w2 ⟨v4, rfl, h4⟩
  obtain ⟨A4, n4, c4, rfl⟩ := h4.own.sl
  have B4 := Lib.hid (B3.out.trans (h4.bel.mono B3.out.size))
  have H4 := Lib.hid h4
  clear h4
  go_wp2_with fail
  refine (sput_any _ (nb bs.length ++ bs) w2 H4.out.own.bs (by
    intro c hc
    rcases List.mem_append.1 hc with hc | hc
    · exact nb_byt _ c hc
    · exact BY.out c hc) (TT.out.below B4.out) (by rw [List.length_append]; omega)).mono ?_
  rintro e w3 ⟨v5, rfl, h5, b5⟩
  obtain ⟨A5, n5, c5, rfl⟩ := h5.sl
  have H5 := Lib.hid (show Bs w3 _ (frameB bs) from h5.bs)
  have B5 := Lib.hid (B4.out.trans (b5.mono B4.out.size))
  clear h5 b5
  have hfl : (frameB bs).length ≤ 8300 := by unfold frameB; rw [sumB_len, List.length_append]; omega
  go_wp2_with fail
  refine (concat2 _ _ xs (frameB bs) w3 (HA.out.below B5.out) H5.out (by omega)).mono ?_
  rintro e w4 ⟨v6, rfl, h6⟩
  have hlen : (xs ++ frameB bs).length ≤ 4611686018427387904 := by rw [List.length_append]; omega
  obtain ⟨A, c, rfl, hc, ho⟩ := h6.own.clip
  have H6 := Lib.hid h6
  have HO := Lib.hid ho
  clear h6 ho
  obtain ⟨L, hL⟩ : ∃ L, L = (xs ++ frameB bs).length := ⟨_, rfl⟩
  rw [← hL] at hc hlen ⊢
  have LL := Lib.hid hL
  clear hL
  go_wp2_with fail
  refine (byt_clip A _ c w4 hc hlen).mono ?_
  rintro e w5 ⟨rfl, rfl⟩
  go_wp2
  go_ret2
  exact ⟨_, rfl, by rw [LL.out]; exact Ow.le HO.out B5.out.size, B5.out.trans (H6.out.bel.mono B5.out.size)⟩
end Go.Proofs.YtnegondlkfeleaaDoor
