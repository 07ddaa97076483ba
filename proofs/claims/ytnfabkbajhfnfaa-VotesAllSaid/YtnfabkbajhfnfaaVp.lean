/- What most of some numbers reach, plainly: by counts; the document's reckoning comes to it. -/
import Derived.Test.YtnfabkbajhfnfaaVr
namespace Go.Proofs.Ytnfabkbajhfnfaa

/-- One of them; most of them are that, or above; fewer than most are above it. -/
structure Rch (zs : List Int) (v : Int) : Prop where
  mem : v ∈ zs
  ge : zs.length / 2 + 1 ≤ zs.countP (fun x => decide (v ≤ x))
  gt : zs.countP (fun x => decide (v < x)) ≤ zs.length / 2
theorem srt_at {s : List Int} (h : s.Pairwise (· ≤ ·)) {p : Nat} (hp : p < s.length) :
    s.length - p ≤ s.countP (fun x => decide (s[p] ≤ x)) ∧ s.countP (fun x => decide (s[p] < x)) ≤ s.length - p - 1 := by
  rw [List.pairwise_iff_getElem] at h
  have e1 : s = s.take p ++ s.drop p := (List.take_append_drop p s).symm
  have e2 : s = s.take (p + 1) ++ s.drop (p + 1) := (List.take_append_drop (p + 1) s).symm
  obtain ⟨v, hv⟩ : ∃ v, v = s[p] := ⟨_, rfl⟩
  rw [← hv]
  have a1 : (s.drop p).countP (fun x => decide (v ≤ x)) = (s.drop p).length := by
    rw [List.countP_eq_length]
    intro x hx
    obtain ⟨i, hi, rfl⟩ := List.mem_iff_getElem.1 hx
    rw [List.length_drop] at hi
    rw [List.getElem_drop, hv, decide_eq_true_eq]
    rcases Nat.eq_zero_or_pos i with h0 | h0
    · subst h0; exact Int.le_refl _
    · exact h p (p + i) hp (by omega) (by omega)
  have a2 : (s.take (p + 1)).countP (fun x => decide (v < x)) = 0 := by
    rw [List.countP_eq_zero]
    intro x hx
    obtain ⟨i, hi, rfl⟩ := List.mem_iff_getElem.1 hx
    rw [List.length_take] at hi
    rw [List.getElem_take, hv, decide_eq_true_eq]
    rcases Nat.lt_or_ge i p with h0 | h0
    · have := h i p (by omega) hp h0
      omega
    · have : i = p := by omega
      subst this
      omega
  refine ⟨?_, ?_⟩
  · have : s.countP (fun x => decide (v ≤ x)) = (s.take p).countP (fun x => decide (v ≤ x)) + (s.drop p).countP (fun x => decide (v ≤ x)) := by
      rw [← List.countP_append, List.take_append_drop]
    rw [this, a1, List.length_drop]
    omega
  · have : s.countP (fun x => decide (v < x)) = (s.take (p + 1)).countP (fun x => decide (v < x)) + (s.drop (p + 1)).countP (fun x => decide (v < x)) := by
      rw [← List.countP_append, List.take_append_drop]
    rw [this, a2, Nat.zero_add]
    have := List.countP_le_length (p := fun x => decide (v < x)) (l := s.drop (p + 1))
    rw [List.length_drop] at this
    omega
theorem rch_of {zs : List Int} {ds : Array Int} (h : SrtOf zs ds) (h0 : 0 < zs.length) : Rch zs ds[zs.length - (zs.length / 2 + 1)]! := by
  have hl : ds.toList.length = zs.length := h.1.length_eq
  obtain ⟨p, hp⟩ : ∃ p, p = zs.length - (zs.length / 2 + 1) := ⟨_, rfl⟩
  rw [← hp]
  have hpl : p < ds.toList.length := by omega
  have e : ds[p]! = ds.toList[p] := by
    rw [getElem!_pos ds p (by simpa using hpl)]
    simp
  have := srt_at h.2 hpl
  rw [e]
  refine ⟨h.1.mem_iff.1 (List.getElem_mem _), ?_, ?_⟩
  · rw [← h.1.countP_eq]; omega
  · rw [← h.1.countP_eq]; omega
/-- The document's step and its whole reckoning. -/
def refStep (zs : List Int) (best x : Int) : Int := if zs.length < 2 * zs.countP (fun y => decide (x ≤ y)) ∧ best < x then x else best
def refS (zs l : List Int) : Int := l.foldl (refStep zs) 0
theorem refS_snoc (zs l : List Int) (x : Int) : refS zs (l ++ [x]) = refStep zs (refS zs l) x := by
  unfold refS; rw [List.foldl_append]; rfl
theorem refS_is (zs : List Int) : ∀ (k : Nat) (l : List Int), l.length = k → (refS zs l = 0 ∨ (refS zs l ∈ l ∧ zs.length < 2 * zs.countP (fun y => decide (refS zs l ≤ y)))) ∧ 0 ≤ refS zs l ∧ ∀ x ∈ l, zs.length < 2 * zs.countP (fun y => decide (x ≤ y)) → x ≤ refS zs l := by
  intro k
  induction k with
  | zero =>
    intro l hl
    obtain rfl := List.eq_nil_of_length_eq_zero hl
    exact ⟨.inl rfl, Int.le_refl _, fun x hx => by cases hx⟩
  | succ k ih =>
    intro l hl
    have hne : l ≠ [] := by intro h; subst h; cases hl
    obtain ⟨l', x, rfl⟩ : ∃ l' x, l = l' ++ [x] := ⟨l.dropLast, l.getLast hne, (List.dropLast_concat_getLast hne).symm⟩
    obtain ⟨h1, h2, h3⟩ := ih l' (by simpa using hl)
    rw [refS_snoc]
    unfold refStep
    split
    · rename_i hc
      refine ⟨.inr ⟨by simp, hc.1⟩, by omega, fun y hy hq => ?_⟩
      rcases List.mem_append.1 hy with hy | hy
      · have := h3 y hy hq; omega
      · simp at hy; omega
    · rename_i hc
      refine ⟨h1.imp id fun h => ⟨List.mem_append_left _ h.1, h.2⟩, h2, fun y hy hq => ?_⟩
      rcases List.mem_append.1 hy with hy | hy
      · exact h3 y hy hq
      · simp at hy
        subst hy
        have : ¬ refS zs l' < y := fun h => hc ⟨hq, h⟩
        omega
theorem refS_rch {zs : List Int} {v : Int} (h : Rch zs v) (h0 : ∀ x ∈ zs, 0 ≤ x) : refS zs zs = v := by
  obtain ⟨h1, h2, h3⟩ := refS_is zs _ zs rfl
  have hv := h3 v h.mem (by have := h.ge; omega)
  rcases h1 with h1 | ⟨h1, h4⟩
  · have := h0 v h.mem
    omega
  · obtain ⟨b, hb⟩ : ∃ b, b = refS zs zs := ⟨_, rfl⟩
    rw [← hb] at hv h4 ⊢
    rcases Int.lt_or_le v b with hlt | hle
    · have : zs.countP (fun y => decide (b ≤ y)) ≤ zs.countP (fun x => decide (v < x)) := by
        apply List.countP_mono_left
        intro x _ hx
        rw [decide_eq_true_eq] at hx ⊢
        omega
      have := h.gt
      omega
    · omega
theorem refS_nil : refS [] [] = 0 := rfl
end Go.Proofs.Ytnfabkbajhfnfaa
