/- Slices of api.Got: what reads as a list; whether two are the same; a copy in new memory. -/
import Derived.Test.YtielnocnnffdfaaMem
import Derived.Laws.StructEq
namespace Go.Proofs.Ytielnocnnffdfaa
open Go.RowKit

def gcell (p : Int × Int) : List Value := [.int .i64 p.1, .int .i64 p.2]
theorem gcell_len (p : Int × Int) : (gcell p).length = 2 := rfl
def gcells (gs : List (Int × Int)) : List Value := gs.flatMap gcell
theorem gcells_one (gs : List (Int × Int)) : ∀ u ∈ gcells gs, u.oneCell' = true := by
  intro u hu
  obtain ⟨p, _, hp⟩ := List.mem_flatMap.1 hu
  simp [gcell] at hp
  rcases hp with rfl | rfl <;> rfl
theorem gcells_len (gs : List (Int × Int)) : (gcells gs).length = gs.length * 2 := flatMap_len gcell 2 gcell_len gs

/-- The slice value v holds the pairs gs. -/
def Gs (w : World) (v : Value) (gs : List (Int × Int)) : Prop := Rd w 2 v gs.length (gcells gs)
theorem Gs.below {w w' : World} {v : Value} {gs : List (Int × Int)} (h : Gs w v gs) (hb : Below w.heap.size w w') : Gs w' v gs := Rd.below h hb
theorem Gs.alloc {w : World} {v : Value} {gs : List (Int × Int)} (h : Gs w v gs) (o : Obj) : Gs (w.alloc o) v gs := Rd.alloc h o
theorem Gs.none_ (w : World) : Gs w (.slice none 0 0) [] := ⟨none, 0, rfl, Nat.le_refl _, rfl, .inl rfl⟩
theorem Gs.old {w : World} {v : Value} {gs : List (Int × Int)} (h : Gs w v gs) : ∃ A c, v = .slice A gs.length c ∧ gs.length ≤ c ∧ (gs = [] ∨ ∃ g o, A = some ⟨g, o, none⟩ ∧ g < w.heap.size ∧
    ∀ j (h : j < gs.length), w.cell? ⟨g, o + j * 2, none⟩ = some (.int .i64 gs[j].1) ∧ w.cell? ⟨g, o + j * 2 + 1, none⟩ = some (.int .i64 gs[j].2)) := by
  rcases Nat.eq_zero_or_pos gs.length with h0 | h0
  · obtain ⟨A, c, rfl, hc, hl, _⟩ := h
    exact ⟨A, c, rfl, hc, .inl (List.eq_nil_of_length_eq_zero h0)⟩
  · obtain ⟨g, o, c, rfl, hc, hg, hh⟩ := Rd.at_ gcell_len h h0
    exact ⟨_, c, rfl, hc, .inr ⟨g, o, rfl, hg, fun j hj => ⟨hh j hj 0 _ (by omega) rfl, hh j hj 1 _ (by omega) rfl⟩⟩⟩

theorem run_neq_got (a b c d : Int) (w : World) : (binOp .neq 42 (.agg #[.int .i64 a, .int .i64 b]) (.agg #[.int .i64 c, .int .i64 d])).run Try.prog w = .ok (.bool (!(a == c && b == d))) w := by
  have u2 := Try.underlying2
  have a2 := Try.isAgg2
  have z2 := Try.sizeOf2
  have hS : Try.prog.underlying 42 = some (.struct (Try.prog.fieldsOf 42)) := by kernel_rfl
  have hp : Try.prog.stoodInHeld 42 = false := by kernel_rfl
  rw [run_neq_struct, show (10000 : Nat) = 9999 + 1 from rfl, run_equalIn_agg w 9999 42 _ _ hS hp]
  simp only [Program.fieldsOf, Try.underlying42]
  go_simp
  by_cases h1 : a = c <;> by_cases h2 : b = d <;> simp [h1, h2]

theorem take_snoc_eq {α : Type} (xs ys : List α) (k : Nat) (hx : k < xs.length) (hy : k < ys.length) (h : xs.take k = ys.take k) (he : xs[k] = ys[k]) : xs.take (k + 1) = ys.take (k + 1) := by
  rw [List.take_succ_eq_append_getElem hx, List.take_succ_eq_append_getElem hy, h, he]

set_option maxHeartbeats 1000000 in
theorem same_gots (xs ys : List (Int × Int)) (v u : Value) (w : World) (hv : Gs w v xs) (hu : Gs w u ys) (hb : xs.length ≤ 4611686018427387904) :
    Calls Try.prog 60 #[v, u] w fun e w' => e = .returned (.bool (decide (xs = ys))) ∧ ∃ m, w' = w.drewN m := by
  obtain ⟨A, c, rfl, hc, hA⟩ := hv.old
  obtain ⟨B, d, rfl, hd, hB⟩ := hu.old
  clear hv hu
  by_cases hl : xs.length = ys.length
  · rcases hA with rfl | ⟨g, o, rfl, hg, hcell⟩
    · have hy : ys = [] := List.eq_nil_of_length_eq_zero (by simpa using hl.symm)
      subst hy
      clear hB
      go_enter Try.func60, Try.ntmps60
      go_wp2
      refine wp_loop_rounds 1 ?_
      rw [rounds_succ]
      go_wp2
      go_ret
      exact ⟨by simp, 0, rfl⟩
    · by_cases h0 : xs = []
      · subst h0
        have hy : ys = [] := List.eq_nil_of_length_eq_zero (by simpa using hl.symm)
        subst hy
        clear hB hcell
        go_enter Try.func60, Try.ntmps60
        go_wp2
        refine wp_loop_rounds 1 ?_
        rw [rounds_succ]
        go_wp2
        go_ret
        exact ⟨by simp, 0, rfl⟩
      · rcases hB with rfl | ⟨g', o', rfl, hg', hcell'⟩
        · exact absurd (List.eq_nil_of_length_eq_zero (by simpa using hl)) h0
        · obtain ⟨n, hn⟩ : ∃ n, n = xs.length := ⟨_, rfl⟩
          have hn' : n = ys.length := hn.trans hl
          have HN := Lib.hid hn
          have HN' := Lib.hid hn'
          have hb' : (n : Int) ≤ 4611686018427387904 := by omega
          have HC := Lib.hid hcell
          have HC' := Lib.hid hcell'
          rw [← hn, ← hn']
          have hcn : n ≤ c := by omega
          have hdn : n ≤ d := by omega
          clear hcell hcell' hn hn' hl h0 hc hd hb
          go_enter Try.func60, Try.ntmps60
          go_wp2
          go_loopw [5] (fun i wr => ∃ k m : Nat, k ≤ n ∧ i = .int .i64 k ∧ wr = w.drewN m ∧ xs.take k = ys.take k) (fun i _ => n - (intOf i).toNat)
          case atStart => exact ⟨0, 0, Nat.zero_le _, rfl, rfl, rfl⟩
          case round =>
            obtain ⟨k, m, hk, rfl, rfl, ht⟩ := hrel
            have HT := Lib.hid ht
            clear ht
            by_cases hkn : k < n
            · have hx : k < xs.length := by have := HN.out; omega
              have hy : k < ys.length := by have := HN'.out; omega
              obtain ⟨c1, c2⟩ := HC.out k hx
              obtain ⟨d1, d2⟩ := HC'.out k hy
              obtain ⟨p, hp⟩ : ∃ p, p = xs[k] := ⟨_, rfl⟩
              obtain ⟨q, hq⟩ : ∃ q, q = ys[k] := ⟨_, rfl⟩
              rw [← hp] at c1 c2
              rw [← hq] at d1 d2
              have HP := Lib.hid hp
              have HQ := Lib.hid hq
              clear hp hq
              obtain ⟨p1, p2⟩ := p
              obtain ⟨q1, q2⟩ := q
              simp only at c1 c2 d1 d2
              obtain ⟨t, ht⟩ : ∃ t, (!(p1 == q1 && p2 == q2)) = t := ⟨_, rfl⟩
              have hneq : ∀ W, (binOp .neq 42 (.agg #[.int .i64 p1, .int .i64 p2]) (.agg #[.int .i64 q1, .int .i64 q2])).run Try.prog W = .ok (.bool t) W := fun W => by
                rw [← ht]; exact run_neq_got _ _ _ _ W
              have HTT := Lib.hid ht
              clear ht
              go_wp2_with fail
              go_quiet (fail)
              cases t
              · go_wp2
                have he := HTT.out
                simp at he
                exact ⟨⟨k + 1, _, by omega, by go_num, rfl, take_snoc_eq xs ys k hx hy HT.out (by rw [← HP.out, ← HQ.out, he.1, he.2])⟩, by simp [intOf]; omega⟩
              · go_wp2
                go_ret
                refine ⟨?_, _, World.drewN_drewN _ _ _⟩
                have : ¬ xs = ys := fun e => by
                  have h1 : xs[k] = ys[k] := by subst e; rfl
                  rw [← HP.out, ← HQ.out] at h1
                  injection h1 with e1 e2
                  subst e1; subst e2
                  have he := HTT.out
                  simp at he
                rw [decide_eq_false this]; rfl
            · obtain rfl : k = n := by omega
              go_wp2
              go_ret
              refine ⟨?_, _, rfl⟩
              have : xs = ys := by
                have := HT.out
                rwa [List.take_of_length_le (by have := HN.out; omega), List.take_of_length_le (by have := HN'.out; omega)] at this
              rw [decide_eq_true this]; rfl
  · have hl' : ((xs.length : Int) != (ys.length : Int)) = true := by rw [bne_iff_ne]; omega
    have hne : decide (xs = ys) = false := decide_eq_false (fun e => hl (by rw [e]))
    have HNE := Lib.hid hne
    clear hA hB hl hne
    go_enter Try.func60, Try.ntmps60
    go_wp2
    go_ret
    exact ⟨by rw [HNE.out]; rfl, 0, rfl⟩
end Go.Proofs.Ytielnocnnffdfaa
