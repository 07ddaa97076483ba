/- A number's bytes: the code's Num and the document's. -/
import Derived.Test.YtnegondlkfeleaaDoorMemB
import Derived.Test.YtnegondlkfeleaaDoorCloB
namespace Go.Proofs.YtnegondlkfeleaaDoor
open Go.RowKit

/-- A number's bytes. -/
def nb (n : Nat) : List Int := if n < 128 then [(n : Int)] else ((n % 128 + 128 : Nat) : Int) :: nb (n / 128)
termination_by n
theorem nb_lt {n : Nat} (h : n < 128) : nb n = [(n : Int)] := by rw [nb, if_pos h]
theorem nb_ge {n : Nat} (h : ¬ n < 128) : nb n = ((n % 128 + 128 : Nat) : Int) :: nb (n / 128) := by rw [nb, if_neg h]
theorem nb_len_pos (n : Nat) : 0 < (nb n).length := by rw [nb]; split <;> simp
theorem nb_len_le : ∀ (k n : Nat), n < 128 ^ (k + 1) → (nb n).length ≤ k + 1
  | 0, n, h => by rw [nb_lt (by simpa using h)]; simp
  | k + 1, n, h => by
    by_cases h1 : n < 128
    · rw [nb_lt h1]; simp
    · rw [nb_ge h1]
      have := nb_len_le k (n / 128) (by rw [Nat.div_lt_iff_lt_mul (by omega)]; rw [Nat.pow_succ] at h; exact h)
      simp; omega
theorem nb_ten {n : Nat} (h : n < 18446744073709551616) : (nb n).length ≤ 10 := nb_len_le 9 n (by omega)
theorem nb_byt (n : Nat) : ∀ c ∈ nb n, byt c := by
  rw [nb]
  split
  · rename_i h; intro c hc; simp at hc; subst hc; exact ⟨by omega, by omega⟩
  · intro c hc
    rcases List.mem_cons.1 hc with rfl | hc
    · exact ⟨by omega, by omega⟩
    · exact nb_byt (n / 128) c hc
termination_by n
decreasing_by omega

set_option maxRecDepth 100000 in
theorem or128_ : ∀ j : Fin 256, bits .or .u8 (j.val : Int) 128 = ((j.val % 128 + 128 : Nat) : Int) := by decide
theorem or128 (k : Nat) : bits .or .u8 ((k : Int) % 256) 128 = ((k % 128 + 128 : Nat) : Int) := by
  have h := or128_ ⟨k % 256, Nat.mod_lt _ (by omega)⟩
  simp only at h
  rw [show (k : Int) % 256 = ((k % 256 : Nat) : Int) from by omega, h, show k % 256 % 128 = k % 128 from by omega]

set_option maxHeartbeats 1000000 in
theorem num_any (v : Value) (xs : List Int) (n : Nat) (w : World) (h : Bs w v xs) (hn : n < 18446744073709551616) (hl : xs.length ≤ 70368744177664) :
    Calls Tryd.prog 62 #[v, .int .u64 n] w fun e w' => ∃ v', e = .returned v' ∧ Bo w.heap.size w' v' (xs ++ nb n) ∧ Below w.heap.size w w' := by
  have H := Lib.hid h
  have HL := Lib.hid hl
  have HN := Lib.hid hn
  clear h hl hn
  go_enter Tryd.func62, Tryd.ntmps62
  go_wp2_with fail
  refine (byt_clone_any v _ _ w H.out (bc_one _) (by have := HL.out; omega) (by have := HL.out; omega)).mono ?_
  rintro e w1 ⟨v1, rfl, ho, hb⟩
  have HB := Lib.hid (show Bf w.heap.size w w1 v1 xs from ⟨ho, hb, hb.size⟩)
  clear ho hb
  go_wp2
  go_loopg [1, 5] n (fun g c1 c5 wr => ∃ ys, c1 = .int .u64 g ∧ g < 18446744073709551616 ∧ Bf w.heap.size w wr c5 ys ∧ ys ++ nb g = xs ++ nb n)
  case atStart => exact ⟨xs, rfl, HN.out, HB.out, rfl⟩
  case round =>
    obtain ⟨ys, rfl, hg, hB, he⟩ := hrel
    have HE := Lib.hid he
    have HB' := Lib.hid hB
    have hlen : ys.length ≤ 140737488355000 := by
      have h1 := congrArg List.length he
      simp only [List.length_append] at h1
      have h2 := nb_ten HN.out
      have h3 := HL.out
      omega
    clear he hB HB
    by_cases h1 : gk < 128
    · have h1' : ¬ (128 : Int) ≤ (gk : Int) := by omega
      have hgb : IntKind.u8.wrap (gk : Int) = gk := IntWalk.u8_in _ (by omega)
      go_wp2_with (at_builtin; refine wpList_bf_byte rfl _ _ 25 rfl Tryd.underlying25 rfl HB'.out rfl (by omega) ?_; intro v2 w2 hB2)
      obtain ⟨A, c, rfl, hc, ho⟩ := hB2.own.clip
      refine (byt_clip A _ c w2 hc (by simp; omega)).mono ?_
      rintro e w3 ⟨rfl, rfl⟩
      have HO := Lib.hid ho
      have HD := Lib.hid hB2.bel
      clear hB2 ho
      go_wp2
      go_ret
      refine ⟨_, rfl, ?_, HD.out⟩
      rw [← HE.out, nb_lt h1]
      have := HO.out
      simp only [List.length_append, List.length_cons, List.length_nil, Nat.zero_add] at this
      exact this
    · have h1' : (128 : Int) ≤ (gk : Int) := by omega
      go_wp2_with (at_builtin; refine wpList_bf_byte rfl _ _ 25 rfl Tryd.underlying25 rfl HB'.out rfl (by omega) ?_; intro v2 w2 hB2)
      go_roundg (gk / 128)
      case measure => omega
      case rel =>
        refine ⟨_, by go_num, by omega, hB2, ?_⟩
        rw [or128, ← HE.out, nb_ge h1]
        simp

end Go.Proofs.YtnegondlkfeleaaDoor
