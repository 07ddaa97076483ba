/- The document's Num and Sign. -/
import Derived.Test.YtnegondlkfeleaaDoorPlw
namespace Go.Proofs.YtnegondlkfeleaaDoor
open Go.RowKit

theorem Bf.start_ (w : World) : Bf w.heap.size w w (.slice none 0 0) [] := ⟨Bo.nil_ _ _, Below.refl _ _, Nat.le_refl _⟩

set_option maxHeartbeats 1000000 in
theorem rnum_any (v : Value) (xs : List Int) (n : Nat) (w : World) (h : Bs w v xs) (hn : n < 18446744073709551616) (hl : xs.length ≤ 70368744177664) :
    Calls Tryd.prog 64 #[v, .int .u64 n] w fun e w' => ∃ v', e = .returned v' ∧ Bo w.heap.size w' v' (xs ++ nb n) ∧ Below w.heap.size w w' := by
  have H := Lib.hid h
  have HL := Lib.hid hl
  have HN := Lib.hid hn
  have hl0 : ([] : List Int).length + xs.length ≤ 140737488355328 := by simp; omega
  clear h hl hn
  go_enter Tryd.func64, Tryd.ntmps64
  go_wp2_with (at_builtin; refine wpList_bf_bytes rfl _ _ 25 rfl Tryd.underlying25 rfl (Bf.start_ w) H.out rfl hl0 ?_; intro v1 w1 hB1)
  have HB := Lib.hid hB1
  clear hB1 hl0
  go_loopg [1, 5] n (fun g c1 c5 wr => ∃ ys, c1 = .int .u64 g ∧ g < 18446744073709551616 ∧ Bf w.heap.size w wr c5 ys ∧ ys ++ nb g = xs ++ nb n)
  case atStart => exact ⟨_, rfl, HN.out, HB.out, rfl⟩
  case round =>
    obtain ⟨ys, rfl, hg, hB, he⟩ := hrel
    have HE := Lib.hid he
    have HB' := Lib.hid hB
    have hlen : ys.length ≤ 140737488355000 := by
      have h1 := congrArg List.length he
      simp only [List.length_append] at h1
      have h2 := nb_ten HN.out
      have h3 := HL.out
      omega
    clear he hB HB
    by_cases h1 : gk < 128
    · have h1' : ¬ (128 : Int) ≤ (gk : Int) := by omega
      have hgb : IntKind.u8.wrap (gk : Int) = gk := IntWalk.u8_in _ (by omega)
      go_wp2_with (at_builtin; refine wpList_bf_byte rfl _ _ 25 rfl Tryd.underlying25 rfl HB'.out rfl (by omega) ?_; intro v2 w2 hB2)
      go_ret
      refine ⟨_, rfl, ?_, hB2.bel⟩
      rw [← HE.out, nb_lt h1]
      exact hB2.own
    · have h1' : (128 : Int) ≤ (gk : Int) := by omega
      go_wp2_with (at_builtin; refine wpList_bf_byte rfl _ _ 25 rfl Tryd.underlying25 rfl HB'.out rfl (by omega) ?_; intro v2 w2 hB2)
      go_roundg (gk / 128)
      case measure => omega
      case rel =>
        refine ⟨_, by go_num, by omega, hB2, ?_⟩
        rw [← HE.out, nb_ge h1]
        simp
        omega

theorem zz_pos_eq {n : Int} (h : 0 ≤ n) : ((zz n : Nat) : Int) = 2 * n := by rw [zz, if_pos h]; omega
theorem zz_neg_eq {n : Int} (h : ¬ 0 ≤ n) : ((zz n : Nat) : Int) = 2 * (-(n + 1)) + 1 := by rw [zz, if_neg h]; omega

end Go.Proofs.YtnegondlkfeleaaDoor
