/- slices.Grow of nothing, slices.Concat, of bytes. -/
import Derived.Test.YtnegondlkfeleaaDoorNum
import Derived.Lib.AppendZeros
namespace Go.Proofs.YtnegondlkfeleaaDoor
open Go.RowKit

theorem Bf.start (w : World) : Bf w.heap.size w w (.slice none 0 0) [] := ⟨Bo.nil_ _ _, Below.refl _ _, Nat.le_refl _⟩
set_option maxRecDepth 100000 in
theorem grow_nil (n : Nat) (w : World) (hn : n ≤ 140737488355328) :
    Calls Tryd.prog 106 #[.slice none 0 0, .int .i64 n] w fun e w' => ∃ v', e = .returned v' ∧ Bf w.heap.size w w' v' [] := by
  obtain ⟨i0, hi, hz0, hz1, hz2⟩ := info_parts byt_info
  go_enter Tryd.func106, Tryd.ntmps106
  by_cases h0 : 0 < n
  · have h0' : 0 < (n : Int) := by omega
    have hneg : ¬ (n : Int) < 0 := by omega
    go_wp2_with (at_builtin; refine Lib.wpList_append_run _ rfl _ _ _ _ rfl _ _ rfl rfl _ _ (Lib.run_append_nil_zeros (P := Tryd.prog) _ 25 3 _ 5 i0 (.int .u8 0) .i64 .i64 Tryd.underlying25 Tryd.underlying3 hi hz0 n h0 (by rw [hz1]; decide) (by omega) (by rw [hz2]; omega)) ?_)
    go_ret
    refine ⟨_, rfl, .inr ⟨w.heap.size, grownCap w n 0 5, _, rfl, Nat.le_refl _, Blk.new _ _ _, Nat.zero_le _, rfl, ?_, rfl⟩, ?_, ?_⟩
    · simp [size_zeroCells]
      have := grownCap_ge w n 0 5
      omega
    · exact (below_alloc_ _ _).drew
    · simp
  · obtain rfl : n = 0 := by omega
    go_wp2
    go_ret
    exact ⟨_, rfl, Bf.start w⟩

/-- The parts' bytes, end to end. -/
def cat (xss : List (List Int)) : List Int := xss.flatten
theorem cat_take (xss : List (List Int)) (i : Nat) (h : i < xss.length) : cat (xss.take (i + 1)) = cat (xss.take i) ++ xss[i] := by
  unfold cat
  rw [List.take_succ_eq_append_getElem h, List.flatten_append]
  simp
theorem cat_len (xss : List (List Int)) (i : Nat) : (cat (xss.take i)).length ≤ (cat xss).length := by
  unfold cat
  conv => rhs; rw [← List.take_append_drop i xss, List.flatten_append, List.length_append]
  omega

set_option maxHeartbeats 1000000 in
set_option maxRecDepth 100000 in
theorem concat_any (A : Option Addr) (c : Nat) (vs : List Value) (xss : List (List Int)) (w : World) (h : Rd w 1 (.slice A vs.length c) vs.length vs) (hvl : vs.length = xss.length)
    (hvs : ∀ (j : Nat) (hj : j < vs.length) (hj' : j < xss.length), Bs w vs[j] xss[j]) (hl : (cat xss).length ≤ 140737488355328) (hk : vs.length ≤ 4611686018427387904) :
    Calls Tryd.prog 90 #[.slice A vs.length c] w fun e w' => ∃ v', e = .returned v' ∧ Bf w.heap.size w w' v' (cat xss) := by
  have H := Lib.hid h
  have VS := Lib.hid hvs
  obtain ⟨n, hn⟩ : ∃ n, n = vs.length := ⟨_, rfl⟩
  have NX := Lib.hid (hn.trans hvl)
  have NV := Lib.hid hn
  rw [← hn] at hk ⊢
  have hc : n ≤ c := by obtain ⟨_, _, hv, hc, _⟩ := h; injection hv with _ h2 h3; omega
  clear h hvs hn hvl
  go_enter Tryd.func90, Tryd.ntmps90
  go_wp2
  go_loopg [3, 5, 11] n (fun g c3 c5 c11 wr => wr = w ∧ ∃ i : Nat, i ≤ n ∧ g = n - i ∧ c11 = .int .i64 i ∧ c3 = .int .i64 ((cat (xss.take i)).length : Nat))
  case atStart => exact ⟨rfl, 0, by omega, rfl, rfl, rfl⟩
  case round =>
    obtain ⟨rfl, i, hi, hg, rfl, rfl⟩ := hrel
    have G := Lib.hid hg
    clear hg
    by_cases hin : i < n
    · have hiv : i < vs.length := by have := NV.out; omega
      have hix : i < xss.length := by have := NX.out; omega
      obtain ⟨A', c', hv, -, -, hr⟩ := id H.out
      obtain ⟨g0, o0, rfl, -, hh⟩ : ∃ g o, A = some ⟨g, o, none⟩ ∧ g < wr.heap.size ∧ ∀ j u, vs[j]? = some u → wr.cell? ⟨g, o + j, none⟩ = some u := by
        rcases hr with h | ⟨g, o, hA, hg, hh⟩
        · omega
        · injection hv with h1 h2 h3; exact ⟨g, o, h1.trans hA, hg, hh⟩
      obtain ⟨B, d, hB, -⟩ := id (VS.out i hiv hix)
      have ci := hh i _ (List.getElem?_eq_getElem hiv)
      rw [hB] at ci
      have hct := congrArg List.length (cat_take xss i hix)
      rw [List.length_append] at hct
      have hcl := cat_len xss (i + 1)
      obtain ⟨m, hm⟩ : ∃ m, m = xss[i].length := ⟨_, rfl⟩
      rw [← hm] at ci hct
      obtain ⟨s0, hs0⟩ : ∃ s0, s0 = (cat (xss.take i)).length := ⟨_, rfl⟩
      rw [← hs0] at hct ⊢
      have hb1 : s0 + m ≤ 140737488355328 := by omega
      have HC := Lib.hid hct
      clear hh hr hv hB hm hs0 hct hcl
      have n1 : ¬ ((s0 + m : Nat) : Int) < 0 := by omega
      have n2 : ¬ ((s0 : Int) + (m : Int)) < 0 := by omega
      go_wp2
      go_roundg (n - (i + 1))
      case measure => have := G.out; omega
      case rel => exact ⟨rfl, i + 1, by omega, rfl, by go_num, by rw [HC.out, Int.natCast_add]⟩
    · obtain rfl : i = n := by omega
      have ht : xss.take i = xss := by rw [NX.out, List.take_length]
      rw [ht]
      obtain ⟨W0, hW0⟩ : ∃ W0, W0 = wr := ⟨_, rfl⟩
      subst hW0
      go_wp2_with fail
      refine (grow_nil _ _ hl).mono ?_
      rintro e w1 ⟨v1, rfl, h1⟩
      have B1 := Lib.hid h1
      clear h1
      go_wp2
      go_loopg [6, 8, 27] i (fun g c6 c8 c27 wr' => ∃ k : Nat, k ≤ i ∧ g = i - k ∧ c27 = .int .i64 k ∧ Bf W0.heap.size W0 wr' c6 (cat (xss.take k)))
      case atStart => exact ⟨0, by omega, rfl, rfl, B1.out⟩
      case round =>
        obtain ⟨k, hk', hg, rfl, hB⟩ := hrel
        have G' := Lib.hid hg
        have HB := Lib.hid hB
        clear hg hB
        by_cases hki : k < i
        · have hkv : k < vs.length := by have := NV.out; omega
          have hkx : k < xss.length := by have := NX.out; omega
          obtain ⟨A', c', hv, -, -, hr⟩ := id H.out
          obtain ⟨g0, o0, rfl, hg0, hh⟩ : ∃ g o, A = some ⟨g, o, none⟩ ∧ g < W0.heap.size ∧ ∀ j u, vs[j]? = some u → W0.cell? ⟨g, o + j, none⟩ = some u := by
            rcases hr with h | ⟨g, o, hA, hg, hh⟩
            · omega
            · injection hv with h1 h2 h3; exact ⟨g, o, h1.trans hA, hg, hh⟩
          have ci := (HB.out.bel.cell hg0).trans (hh k _ (List.getElem?_eq_getElem hkv))
          have YB := Lib.hid ((VS.out k hkv hkx).below HB.out.bel)
          have hct := cat_take xss k hkx
          have hcl := cat_len xss (k + 1)
          rw [hct, List.length_append] at hcl
          have hsum : (cat (xss.take k)).length + xss[k].length ≤ 140737488355328 := by omega
          have HC := Lib.hid hct
          clear hh hr hv hct hcl
          go_wp2_with (at_builtin; refine wpList_bf_bytes rfl _ _ 25 rfl Tryd.underlying25 rfl HB.out YB.out rfl hsum ?_; intro v2 w2 hB2)
          go_roundg (i - (k + 1))
          case measure => have := G'.out; omega
          case rel => exact ⟨k + 1, by omega, rfl, by go_num, by rw [HC.out]; exact hB2⟩
        · obtain rfl : k = i := by omega
          go_wp2
          go_ret
          refine ⟨_, rfl, ?_⟩
          have := HB.out
          rw [ht] at this
          exact this
end Go.Proofs.YtnegondlkfeleaaDoor
