/- Small facts on bytes that the packs' laws share. -/
import Derived.Test.YtenobcfgapolhaaStr
namespace Go.Proofs.Ytenobcfgapolhaa
open Go.RowKit

/-- Bytes, written out. -/
theorem Bs.lits (w : World) (bs : List Int) : Bs (w.alloc (.cells (bc bs).toArray 5)) (.slice (some ⟨w.heap.size, 0, none⟩) bs.length bs.length) bs := by
  have hk := Blk.new w 5 (bc bs).toArray
  refine ⟨_, _, rfl, Nat.le_refl _, by simp, .inr ⟨w.heap.size, 0, rfl, by simp, fun j u hu => ?_⟩⟩
  rw [Nat.zero_add, hk.cell]
  simpa using hu
theorem Bs.nils (w : World) (A : Option Addr) (c : Nat) : Bs w (.slice A 0 c) [] := ⟨A, c, rfl, Nat.zero_le _, rfl, .inl rfl⟩
theorem Bf.begin_ (w : World) : Bf w.heap.size w w (.slice none 0 0) [] := ⟨Bo.nil_ _ _, Below.refl _ _, Nat.le_refl _⟩
/-- One byte at least. -/
theorem Bo.one {B : Nat} {w : World} {v : Value} {x : Int} {xs : List Int} (h : Bo B w v (x :: xs)) : ∃ g c, v = .slice (some ⟨g, 0, none⟩) (xs.length + 1) c ∧ xs.length + 1 ≤ c ∧ B ≤ g ∧ w.cell? ⟨g, 0, none⟩ = some (.int .u8 x) := by
  rcases h with ⟨_, h0, _⟩ | ⟨g, c, cur, rfl, hB, hg, hc, hl, hs, ht⟩
  · simp at h0
  · refine ⟨g, c, rfl, by simpa using hc, hB, ?_⟩
    rw [hg.cell]
    have h1 : (cur.toList.take ((x :: xs).length * 1))[0]? = some (.int .u8 x) := by rw [ht]; rfl
    rw [List.getElem?_take, if_pos (by simp)] at h1
    simpa using h1
/-- The first ones. -/
theorem Bs.takes {w : World} {A : Option Addr} {n c : Nat} {xs : List Int} (h : Bs w (.slice A n c) xs) (k c' : Nat) (hk : k ≤ n) (hc : k ≤ c') : Bs w (.slice A k c') (xs.take k) := by
  obtain ⟨A', c0, hv, hc0, hl, hh⟩ := h
  injection hv with h1 h2 h3
  subst h1; subst h2; subst h3
  have hkl : (xs.take k).length = k := by rw [List.length_take]; omega
  refine ⟨_, c', by rw [hkl], by omega, by simp, ?_⟩
  rcases hh with h0 | ⟨g, o, hA, hg, hcell⟩
  · left; omega
  · refine .inr ⟨g, o, hA, hg, fun j u hu => hcell j u ?_⟩
    rw [← hu]
    have hj : j < k := by
      rcases Nat.lt_or_ge j k with h | h
      · exact h
      · rw [List.getElem?_eq_none (by rw [bc_len]; omega)] at hu; cases hu
    simp [bc, hj]
theorem str_ne {xs ys : List Int} (hx : ∀ c ∈ xs, byt c) (hy : ∀ c ∈ ys, byt c) (h : xs ≠ ys) : strOfNums xs ≠ strOfNums ys := fun e => h (str_inj hx hy e)
theorem str_nbeq {S1 S2 : ByteArray} (h : S1 ≠ S2) : (S1.toList == S2.toList) = false := by
  rw [ByteArray.toList_eq, ByteArray.toList_eq]
  refine beq_eq_false_iff_ne.2 fun e => h ?_
  obtain ⟨d1⟩ := S1
  obtain ⟨d2⟩ := S2
  have e' : d1 = d2 := Array.toList_inj.1 e
  rw [e']
end Go.Proofs.Ytenobcfgapolhaa
