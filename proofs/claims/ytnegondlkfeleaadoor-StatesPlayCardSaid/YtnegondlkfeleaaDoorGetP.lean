/- Frames taken off bytes: the plain laws. -/
import Derived.Test.YtnegondlkfeleaaDoorTak
import Derived.Test.YtnegondlkfeleaaDoorFrm
namespace Go.Proofs.YtnegondlkfeleaaDoor
open Go.RowKit

/-- Do bytes end with their sum? -/
def endsB (bs : List Int) : Bool := decide (4 ≤ bs.length) && decide (bs.drop (bs.length - 4) = fourS (moreS 0 (bs.take (bs.length - 4))))
/-- A frame's size: the body's, its number's, what is wrong. -/
def sizeF (bs : List Int) : Nat × Nat × Int :=
  if (tk bs).2.1 = 0 then (if bs.length < 10 ∧ ∀ c ∈ bs, 128 ≤ c then (0, 0, 5) else (0, 0, 4)) else if 8192 < (tk bs).1 then (0, 0, 4) else ((tk bs).1, (tk bs).2.1, 0)
/-- The first frame: its body, how long it is, what is wrong. -/
def getF (bs : List Int) : List Int × Nat × Int :=
  if (sizeF bs).2.2 ≠ 0 then ([], 0, (sizeF bs).2.2)
  else if bs.length < (sizeF bs).2.1 + (sizeF bs).1 + 4 then ([], 0, 5)
  else if endsB (bs.take ((sizeF bs).2.1 + (sizeF bs).1 + 4)) = false then ([], 0, 6)
  else ((bs.drop (sizeF bs).2.1).take (sizeF bs).1, (sizeF bs).2.1 + (sizeF bs).1 + 4, 0)

theorem endsB_sumB (bs : List Int) : endsB (sumB bs) = true := by
  have hl := sumB_len bs
  have h1 : (sumB bs).drop ((sumB bs).length - 4) = fourS (moreS 0 bs) := by
    rw [hl, Nat.add_sub_cancel]
    exact List.drop_left' rfl
  have h2 : (sumB bs).take ((sumB bs).length - 4) = bs := by
    rw [hl, Nat.add_sub_cancel]
    exact List.take_left' rfl
  unfold endsB
  rw [h1, h2, hl]
  simp
theorem sizeF_frame (bs rest : List Int) (hl : bs.length ≤ 8192) : sizeF (frameB bs ++ rest) = (bs.length, (nb bs.length).length, 0) := by
  have h : tk (frameB bs ++ rest) = (bs.length, (nb bs.length).length, 0) := by
    unfold frameB sumB
    rw [List.append_assoc, List.append_assoc]
    exact tk_nb (by omega) _
  have := nb_len_pos bs.length
  unfold sizeF
  rw [h]
  simp only
  rw [if_neg (by omega), if_neg (by omega)]
theorem frameB_len (bs : List Int) : (frameB bs).length = (nb bs.length).length + bs.length + 4 := by
  unfold frameB
  rw [sumB_len, List.length_append]
theorem getF_frame (bs rest : List Int) (hl : bs.length ≤ 8192) : getF (frameB bs ++ rest) = (bs, (frameB bs).length, 0) := by
  unfold getF
  rw [sizeF_frame bs rest hl]
  simp only
  rw [if_neg (by simp), ← frameB_len, if_neg (by rw [List.length_append]; omega), List.take_left' rfl,
    if_neg (by unfold frameB; rw [endsB_sumB]; simp)]
  have h1 : (frameB bs ++ rest).drop (nb bs.length).length = bs ++ (fourS (moreS 0 (nb bs.length ++ bs)) ++ rest) := by
    unfold frameB sumB
    rw [List.append_assoc, List.append_assoc]
    exact List.drop_left' rfl
  rw [h1, List.take_left' rfl]
theorem sizeF_err (bs : List Int) : (sizeF bs).2.2 = 0 ∨ ((sizeF bs).2.2 = 5 ∨ (sizeF bs).2.2 = 4) ∧ (sizeF bs).1 = 0 ∧ (sizeF bs).2.1 = 0 := by
  unfold sizeF
  split
  · split <;> simp
  · split <;> simp
theorem sizeF_ok {bs : List Int} (h : (sizeF bs).2.2 = 0) : sizeF bs = ((tk bs).1, (tk bs).2.1, 0) ∧ 0 < (tk bs).2.1 ∧ (tk bs).1 ≤ 8192 := by
  unfold sizeF at h ⊢
  split at h
  · split at h <;> simp at h
  · rename_i h1
    split at h
    · simp at h
    · rename_i h2
      rw [if_neg h1, if_neg h2]
      exact ⟨rfl, by omega, by omega⟩
theorem getF_len {bs : List Int} : (getF bs).1.length ≤ 8192 ∧ (getF bs).2.1 ≤ bs.length := by
  unfold getF
  split
  · simp
  · rename_i h0
    split
    · simp
    · split
      · simp
      · rename_i h1 h2
        have := (sizeF_ok (by simpa using h0)).2.2
        have e := (sizeF_ok (bs := bs) (by simpa using h0)).1
        rw [e]
        rw [e] at h1
        simp only at h1 ⊢
        simp only [List.length_take, List.length_drop]
        omega
theorem getF_byt {bs : List Int} (h : ∀ c ∈ bs, byt c) : ∀ c ∈ (getF bs).1, byt c := by
  unfold getF
  intro c hc
  split at hc
  · simp at hc
  · split at hc
    · simp at hc
    · split at hc
      · simp at hc
      · exact h c (List.mem_of_mem_drop (List.mem_of_mem_take hc))

/-- A part of bytes. -/
theorem Bs.sub {w : World} {g o n c : Nat} {xs : List Int} (h : Bs w (.slice (some ⟨g, o, none⟩) n c) xs) (lo k c' : Nat) (hn : lo + k ≤ n) (hc : k ≤ c') :
    Bs w (.slice (some ⟨g, o + lo, none⟩) k c') ((xs.drop lo).take k) := by
  obtain ⟨A', c0, hv, hc0, hl, hh⟩ := h
  injection hv with h1 h2 h3
  subst h1; subst h2; subst h3
  have hk : ((xs.drop lo).take k).length = k := by rw [List.length_take, List.length_drop]; omega
  refine ⟨_, c', by rw [hk], by omega, by simp, ?_⟩
  rcases hh with h0 | ⟨g', o', hA', hg, hcell⟩
  · left; omega
  · injection hA' with hA
    injection hA with e1 e2
    subst e1; subst e2
    right
    refine ⟨g, o + lo, rfl, hg, fun j u hu => ?_⟩
    rw [Nat.add_assoc]
    refine hcell (lo + j) u ?_
    rw [← hu]
    have hj : j < k := by
      rcases Nat.lt_or_ge j k with h | h
      · exact h
      · rw [List.getElem?_eq_none (by rw [bc_len]; omega)] at hu; cases hu
    simp [bc, List.getElem?_take, hj]
theorem Bs.some_ {w : World} {A : Option Addr} {n c : Nat} {xs : List Int} (h : Bs w (.slice A n c) xs) (h0 : 0 < n) : ∃ g o, A = some ⟨g, o, none⟩ := by
  obtain ⟨A', c0, hv, hc0, hl, hh⟩ := h
  injection hv with h1 h2 h3
  rcases hh with h | ⟨g, o, hA, _⟩
  · omega
  · exact ⟨g, o, h1.trans hA⟩
theorem Bs.len_ {w : World} {A : Option Addr} {n c : Nat} {xs : List Int} (h : Bs w (.slice A n c) xs) : xs.length = n ∧ n ≤ c := by
  obtain ⟨A', c0, hv, hc0, hl, hh⟩ := h
  injection hv with h1 h2 h3
  subst h2; subst h3
  exact ⟨rfl, hc0⟩
theorem Bs.nil_ (w : World) (A : Option Addr) (c : Nat) : Bs w (.slice A 0 c) [] := ⟨A, c, rfl, Nat.zero_le _, rfl, .inl rfl⟩
end Go.Proofs.YtnegondlkfeleaaDoor
