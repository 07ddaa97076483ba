/- A rate, put and got; what is shared by the lists. -/
import Derived.Test.YtcpiockmkpdkjaaPut
import Derived.Test.YtcpiockmkpdkjaaGtg
namespace Go.Proofs.Ytcpiockmkpdkjaa
open Go.RowKit

/-- rate: the fields' kinds. -/
def rateK : List IntKind := [.i64, .i64]
theorem rate_of {l : List Int} (h : l.length = 2) : ∃ x0 x1, l = [x0, x1] := by
  match l, h with
  | [x0, x1], _ => exact ⟨x0, x1, rfl⟩
theorem rate_fok {l : List Int} (h : fok rateK l) : ∃ x0 x1, l = [x0, x1] ∧ fok1 .i64 x0 ∧ fok1 .i64 x1 := by
  obtain ⟨x0, x1, rfl⟩ := rate_of (fok_len _ _ h)
  simp only [rateK, fok] at h
  exact ⟨x0, x1, rfl, h.1, h.2.1⟩
abbrev rateV (l : List Int) : Value := .agg (fc rateK l).toArray
theorem rate_bad {xs : List Int} {k : Int} (h : fP rateK xs = .error k) : signP xs = .error k ∨ ∃ a r, signP xs = .ok (a, r) ∧ signP r = .error k := by
  simp only [rateK, fP, fp1, bindP] at h
  split at h
  · rename_i a r e1
    refine .inr ⟨a, r, e1, ?_⟩
    split at h
    · rename_i e2; split at e2
      · cases h
      · cases e2
    · rename_i e2; split at e2
      · cases e2
      · rename_i e3; injection e2 with e2; injection h with h; subst e2; subst h; exact e3
  · rename_i e1; injection h with h; subst h; exact .inl e1
theorem rate_ok {xs r : List Int} {l : List Int} (h : fP rateK xs = .ok (l, r)) : ∃ a d ra, l = [a, d] ∧ signP xs = .ok (a, ra) ∧ signP ra = .ok (d, r) := by
  simp only [rateK, fP, fp1, bindP] at h
  split at h
  · rename_i a ra e1
    split at h
    · rename_i l2 r2 e2
      split at e2
      · rename_i d r3 e3
        injection e2 with e2; injection e2 with e2 e2'
        injection h with h; injection h with h h'
        subst e2; subst e2'; subst h; subst h'
        exact ⟨a, d, ra, rfl, e1, e3⟩
      · cases e2
    · cases h
  · cases h
/-- What reads outside of what is being put goes on to read so. -/
theorem Tn.rd {W0 w : World} {p : Nat} {b : Option Nat} {size n : Nat} {v : Value} {xs : List Value} (ht : Tn W0 p b w) (h : Rd W0 size v n xs) (hne : n = 0 ∨ ∀ k, v.ownBlock = some k → k ≠ p ∧ some k ≠ b) : Rd w size v n xs := by
  obtain ⟨A, c, rfl, hc, hl, hh⟩ := h
  refine ⟨A, c, rfl, hc, hl, ?_⟩
  rcases hne with h0 | hne
  · exact .inl h0
  refine hh.imp id ?_
  rintro ⟨g, o, rfl, hg, hcell⟩
  obtain ⟨h1, h2⟩ := hne g rfl
  exact ⟨g, o, rfl, Nat.lt_of_lt_of_le hg ht.size, fun j u hu => (World.cell?_of_block (a := ⟨g, o + j, none⟩) (ht.block g hg h1 h2)).trans (hcell j u hu)⟩
theorem flat_snoc {α : Type} (f : α → List Int) (gs : List α) (k : Nat) (hk : k < gs.length) : (gs.take (k + 1)).flatMap f = (gs.take k).flatMap f ++ f gs[k] := by
  rw [List.take_succ_eq_append_getElem hk, List.flatMap_append]; simp
theorem flat_len_le {α : Type} (f : α → List Int) (gs : List α) (k : Nat) : ((gs.take k).flatMap f).length ≤ (gs.flatMap f).length := by
  conv => rhs; rw [← List.take_append_drop k gs, List.flatMap_append]
  simp
/-- What is read lies apart from what is being put, from step to step. -/
theorem off_step {_w W : World} {size n p : Nat} {v : Value} {xs : List Value} {b b' : Option Nat} (h : Rd W size v n xs) (hne : n = 0 ∨ ∀ k, v.ownBlock = some k → k ≠ p ∧ some k ≠ b) (hb : b' = b ∨ ∀ k, b' = some k → W.heap.size ≤ k) :
    n = 0 ∨ ∀ k, v.ownBlock = some k → k ≠ p ∧ some k ≠ b' := by
  rcases hne with h0 | hne
  · exact .inl h0
  obtain ⟨A, c, rfl, hc, hl, h0 | ⟨g, o, rfl, hg, _⟩⟩ := h
  · exact .inl h0
  refine .inr fun k hk => ⟨(hne k hk).1, ?_⟩
  have hkg : k = g := by simpa [Value.ownBlock] using hk.symm
  subst hkg
  rcases hb with rfl | hb
  · exact (hne k hk).2
  · intro e; have := hb k e.symm; omega
theorem off_new {w : World} {size n : Nat} {v : Value} {xs : List Value} (h : Rd w size v n xs) : n = 0 ∨ ∀ k, v.ownBlock = some k → k ≠ w.heap.size + 1 ∧ some k ≠ none := by
  obtain ⟨A, c, rfl, hc, hl, h0 | ⟨g, o, rfl, hg, _⟩⟩ := h
  · exact .inl h0
  · exact .inr fun k hk => by
      have hkg : k = g := by simpa [Value.ownBlock] using hk.symm
      subst hkg
      exact ⟨by omega, by simp⟩
/-- All is put: the buffer is of its own. -/
theorem Pv.done {W W0 w : World} {p : Nat} {xs : List Int} (h : Pv W0 p none w xs) (hb : Below W.heap.size W W0) (hp : W.heap.size ≤ p) (hs : W.heap.size ≤ W0.heap.size) :
    ∃ v, Blk w p 101 #[v] ∧ Bo W.heap.size w v xs ∧ Below W.heap.size W w := by
  obtain ⟨⟨b1, hu, h1⟩, ht⟩ := h
  obtain ⟨v, hk, ho, rfl⟩ := hu.ex
  refine ⟨v, hk, ?_, hb.trans (ht.to_below hp (by simp) hs)⟩
  rcases ho with ho | ⟨g, c, cur, rfl, _, h⟩
  · exact .inl ho
  · refine .inr ⟨g, c, cur, rfl, ?_, h⟩
    rcases h1 with h1 | h1
    · simp [Value.ownBlock] at h1
    · have := h1 g rfl; omega
end Go.Proofs.Ytcpiockmkpdkjaa
