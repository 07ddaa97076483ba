import Derived.Test.YtenobcfgapolhaaMemB
/- Lists, one more of each. -/
namespace Go.Proofs.Ytenobcfgapolhaa
open Go.RowKit

theorem take_snoc_same {α : Type} (xs ys : List α) (k : Nat) (hx : k < xs.length) (hy : k < ys.length) (h : xs.take k = ys.take k) (he : xs[k] = ys[k]) : xs.take (k + 1) = ys.take (k + 1) := by
  rw [List.take_succ_eq_append_getElem hx, List.take_succ_eq_append_getElem hy, h, he]
end Go.Proofs.Ytenobcfgapolhaa

/- law01: whether two lists of bytes are the same. -/
namespace Go.Proofs.Ytenobcfgapolhaa
open Go.RowKit

theorem Bs.old {w : World} {v : Value} {xs : List Int} (h : Bs w v xs) : ∃ A c, v = .slice A xs.length c ∧ xs.length ≤ c ∧ (xs = [] ∨ ∃ g o, A = some ⟨g, o, none⟩ ∧ ∀ j (h : j < xs.length), w.cell? ⟨g, o + j, none⟩ = some (.int .u8 xs[j])) := by
  obtain ⟨A, c, rfl, hc, hl, h0 | ⟨g, o, rfl, hg, hh⟩⟩ := h
  · exact ⟨A, c, rfl, hc, .inl (List.eq_nil_of_length_eq_zero h0)⟩
  · exact ⟨_, c, rfl, hc, .inr ⟨g, o, rfl, fun j hj => hh j _ (by simp [bc, hj])⟩⟩

set_option maxHeartbeats 2000000 in
theorem same_bytes (xs ys : List Int) (v u : Value) (w : World) (hv : Bs w v xs) (hu : Bs w u ys) (hb : xs.length ≤ 4611686018427387904) :
    Calls Try.prog 46 #[v, u] w fun e w' => e = .returned (.bool (decide (xs = ys))) ∧ ∃ m, w' = w.drewN m := by
  obtain ⟨A, c, rfl, hc, hA⟩ := hv.old
  obtain ⟨B, d, rfl, hd, hB⟩ := hu.old
  clear hv hu
  by_cases hl : xs.length = ys.length
  · by_cases h0 : xs = []
    · subst h0
      have hy : ys = [] := List.eq_nil_of_length_eq_zero (by simpa using hl.symm)
      subst hy
      clear hA hB
      go_enter Try.func46, Try.ntmps46
      go_wp2
      refine wp_loop_rounds 1 ?_
      rw [rounds_succ]
      go_wp2
      go_ret
      exact ⟨by simp, 0, rfl⟩
    · rcases hA with h | ⟨g, o, rfl, hcell⟩
      · exact absurd h h0
      rcases hB with rfl | ⟨g', o', rfl, hcell'⟩
      · exact absurd (List.eq_nil_of_length_eq_zero (by simpa using hl)) h0
      obtain ⟨n, hn⟩ : ∃ n, n = xs.length := ⟨_, rfl⟩
      have hn' : n = ys.length := hn.trans hl
      have HN := Lib.hid hn
      have HN' := Lib.hid hn'
      have hb' : (n : Int) ≤ 4611686018427387904 := by omega
      have HC := Lib.hid hcell
      have HC' := Lib.hid hcell'
      rw [← hn, ← hn']
      have hcn : n ≤ c := by omega
      have hdn : n ≤ d := by omega
      clear hcell hcell' hn hn' hl h0 hc hd hb
      go_enter Try.func46, Try.ntmps46
      go_wp2
      go_loopw [5] (fun i wr => ∃ k m : Nat, k ≤ n ∧ i = .int .i64 k ∧ wr = w.drewN m ∧ xs.take k = ys.take k) (fun i _ => n - (intOf i).toNat)
      case atStart => exact ⟨0, 0, Nat.zero_le _, rfl, rfl, rfl⟩
      case round =>
        obtain ⟨k, m, hk, rfl, rfl, ht⟩ := hrel
        have HT := Lib.hid ht
        clear ht
        by_cases hkn : k < n
        · have hx : k < xs.length := by have := HN.out; omega
          have hy : k < ys.length := by have := HN'.out; omega
          have c1 := HC.out k hx
          have d1 := HC'.out k hy
          obtain ⟨p, hp⟩ : ∃ p, p = xs[k] := ⟨_, rfl⟩
          obtain ⟨q, hq⟩ : ∃ q, q = ys[k] := ⟨_, rfl⟩
          rw [← hp] at c1
          rw [← hq] at d1
          have HP := Lib.hid hp
          have HQ := Lib.hid hq
          clear hp hq
          by_cases hpq : p = q
          · subst hpq
            go_wp2_with fail
            go_quiet (fail)
            go_wp2
            exact ⟨⟨k + 1, _, by omega, by go_num, rfl, take_snoc_same xs ys k hx hy HT.out (by rw [← HP.out, ← HQ.out])⟩, by simp [intOf]; omega⟩
          · have hne : (p != q) = true := by simpa using hpq
            go_wp2_with fail
            go_quiet (fail)
            go_wp2
            go_ret
            refine ⟨?_, _, World.drewN_drewN _ _ _⟩
            have : ¬ xs = ys := fun e => by
              have h1 : xs[k] = ys[k] := by subst e; rfl
              rw [← HP.out, ← HQ.out] at h1
              exact hpq h1
            rw [decide_eq_false this]; rfl
        · obtain rfl : k = n := by omega
          go_wp2
          go_ret
          refine ⟨?_, _, rfl⟩
          have : xs = ys := by
            have h1 := HT.out
            rw [List.take_of_length_le (by have := HN.out; omega), List.take_of_length_le (by have := HN'.out; omega)] at h1
            exact h1
          rw [decide_eq_true this]; rfl
  · have hl' : ¬ (xs.length : Int) = (ys.length : Int) := by omega
    have hne : ¬ xs = ys := fun e => hl (by rw [e])
    have D := Lib.hid (decide_eq_false hne)
    clear hA hB hne
    go_enter Try.func46, Try.ntmps46
    go_wp2
    go_ret
    exact ⟨by rw [D.out]; rfl, 0, rfl⟩
theorem sameb_any (xs ys : List Int) (v u : Value) (w : World) (hv : Bs w v xs) (hu : Bs w u ys) (hb : xs.length ≤ 4611686018427387904) :
    Calls Try.prog 26 #[v, u] w fun e w' => e = .returned (.bool (decide (xs = ys))) ∧ ∃ m, w' = w.drewN m := by
  have C := Lib.hid (same_bytes xs ys v u w hv hu hb)
  obtain ⟨t, ht⟩ : ∃ t, t = decide (xs = ys) := ⟨_, rfl⟩
  rw [← ht] at C ⊢
  have T := Lib.hid ht
  obtain ⟨A, c, rfl, -⟩ := id hv
  obtain ⟨B, d, rfl, -⟩ := id hu
  clear hv hu ht
  go_enter Try.func26, Try.ntmps26
  go_wp2_with fail
  refine C.out.mono ?_
  rintro e w1 ⟨rfl, m, rfl⟩
  go_wp2
  go_ret
  exact ⟨rfl, m, rfl⟩
end Go.Proofs.Ytenobcfgapolhaa
