/- A disk and the document's disk side by side, whose blocks are a law's own. -/
import Derived.Test.YtnegondlkfeleaaDoorRta
namespace Go.Proofs.YtnegondlkfeleaaDoor
open Go.RowKit

/-- The disk d is in the state sd, the document's disk m in the state sm; the blocks of X are as told; all lie from B on, and below B nothing has turned since W. -/
def Both (X : List (Nat × Obj)) (B : Nat) (W w : World) (d m : Nat) (nm : ByteArray) (sd sm : Dst) : Prop :=
  ∃ R : List (Nat × Obj), (∀ w' : World, (∀ q ∈ R, w'.heap[q.1]? = some q.2) → RDk w' m nm sm (R.map (·.1))) ∧ (∀ q ∈ R, B ≤ q.1) ∧ (∀ q ∈ X, q.1 ∉ R.map (·.1)) ∧ On (R ++ X) B W w d nm sd
section
variable {X Y : List (Nat × Obj)} {B : Nat} {W w w' : World} {d m : Nat} {nm : ByteArray} {sd sm sd' sm' : Dst}
theorem Both.rdk (h : Both X B W w d m nm sd sm) : ∃ R : List (Nat × Obj), RDk w m nm sm (R.map (·.1)) ∧ (∀ q ∈ R, B ≤ q.1) ∧ (∀ q ∈ X, q.1 ∉ R.map (·.1)) ∧ (∀ w' : World, (∀ q ∈ R, w'.heap[q.1]? = some q.2) → RDk w' m nm sm (R.map (·.1))) ∧ On (R ++ X) B W w d nm sd := by
  obtain ⟨R, h1, h2, h3, h4⟩ := h
  exact ⟨R, h1 w fun q hq => h4.keep q (List.mem_append_left _ hq), h2, h3, h1, h4⟩
theorem Both.below (h : Both X B W w d m nm sd sm) (hb : Below w.heap.size w w') : Both X B W w' d m nm sd sm := by
  obtain ⟨R, h1, h2, h3, h4⟩ := h
  exact ⟨R, h1, h2, h3, h4.below hb⟩
theorem Both.mono (h : Both X B W w d m nm sd sm) (hY : ∀ p ∈ Y, p ∈ X) : Both Y B W w d m nm sd sm := by
  obtain ⟨R, h1, h2, h3, h4⟩ := h
  refine ⟨R, h1, h2, fun q hq => h3 q (hY q hq), h4.mono fun p hp => ?_⟩
  rcases List.mem_append.1 hp with hp | hp
  · exact List.mem_append_left _ hp
  · exact List.mem_append_right _ (hY p hp)
theorem Both.keep (h : Both X B W w d m nm sd sm) : ∀ p ∈ X, w.heap[p.1]? = some p.2 := by
  obtain ⟨R, h1, h2, h3, h4⟩ := h
  exact fun p hp => h4.keep p (List.mem_append_right _ hp)
theorem Both.bel (h : Both X B W w d m nm sd sm) : Below B W w := by obtain ⟨R, h1, h2, h3, h4⟩ := h; exact h4.bel
theorem Both.le (h : Both X B W w d m nm sd sm) : B ≤ w.heap.size := by obtain ⟨R, h1, h2, h3, h4⟩ := h; exact h4.le
/-- A doing of the disk. -/
theorem Both.conc {P : Program} {f : FuncId} {args : Array Value} {e0 : Value} (h : Both X B W w d m nm sd sm)
    (hc : ∀ R, On (R ++ X) B W w d nm sd → Calls P f args w fun e w' => e = .returned e0 ∧ On (R ++ X) B W w' d nm sd') : Calls P f args w fun e w' => e = .returned e0 ∧ Both X B W w' d m nm sd' sm := by
  obtain ⟨R, h1, h2, h3, h4⟩ := h
  exact (hc R h4).mono fun e w' ⟨he, ho⟩ => ⟨he, R, h1, h2, h3, ho⟩
/-- The document's disk goes over. -/
theorem Both.over {R : List (Nat × Obj)} {w' : World} (h2 : ∀ q ∈ R, B ≤ q.1) (h3 : ∀ q ∈ X, q.1 ∉ R.map (·.1)) (h4 : On (R ++ X) B W w d nm sd) (t : RTo w (R.map (·.1)) m nm sm' w') : Both X B W w' d m nm sd sm' := by
  obtain ⟨⟨F', hd', hF'⟩, hk⟩ := t
  obtain ⟨R', hR1, hR2, hR3⟩ := hd'.objs
  subst hR1
  have hn : ∀ q ∈ R', q.1 ∈ R.map (·.1) ∨ w.heap.size ≤ q.1 := fun q hq => hF' q.1 (List.mem_map_of_mem hq)
  refine ⟨R', hR3, fun q hq => ?_, fun q hq hr => ?_, h4.aside hk h3 hR2 hn h2⟩
  · rcases hn q hq with h | h
    · obtain ⟨r, hr, e⟩ := List.mem_map.1 h
      rw [← e]; exact h2 r hr
    · exact Nat.le_trans h4.le h
  · obtain ⟨r, hr', e⟩ := List.mem_map.1 hr
    rcases hn r hr' with h | h
    · rw [e] at h; exact h3 q hq h
    · rw [e] at h
      exact absurd (lt_of_heap (h4.keep q (List.mem_append_right _ hq))) (by omega)
/-- A block is laid beside. -/
theorem Both.put (h : Both X B W w d m nm sd sm) (hb : Below w.heap.size w w') {q : Nat} {o : Obj} (hq : w.heap.size ≤ q) (ho : w'.heap[q]? = some o) : Both ((q, o) :: X) B W w' d m nm sd sm := by
  obtain ⟨R, h1, h2, h3, h4⟩ := h
  have hlt : ∀ r ∈ R ++ X, r.1 < w.heap.size := fun r hr => lt_of_heap (h4.keep r hr)
  obtain ⟨⟨F, hd, hF, hX⟩, hk, hB, hl⟩ := h4
  refine ⟨R, h1, h2, fun p hp hr => ?_, ⟨F, hd.below hb, hF, fun p hp hf => ?_⟩, fun p hp => ?_, hB.trans (hb.mono hl), Nat.le_trans hl hb.size⟩
  · rcases List.mem_cons.1 hp with rfl | hp
    · obtain ⟨r, hr', e⟩ := List.mem_map.1 hr
      have := hlt r (List.mem_append_left _ hr')
      simp at e
      omega
    · exact h3 p hp hr
  · rcases List.mem_append.1 hp with hp | hp
    · exact hX p (List.mem_append_left _ hp) hf
    · rcases List.mem_cons.1 hp with rfl | hp
      · have := hd.lt _ hf; simp at this; omega
      · exact hX p (List.mem_append_right _ hp) hf
  · rcases List.mem_append.1 hp with hp | hp
    · exact (hb.block _ (hlt p (List.mem_append_left _ hp))).trans (hk p (List.mem_append_left _ hp))
    · rcases List.mem_cons.1 hp with rfl | hp
      · exact ho
      · exact (hb.block _ (hlt p (List.mem_append_right _ hp))).trans (hk p (List.mem_append_right _ hp))
/-- A block beside turns. -/
theorem Both.turn {q : Nat} {o o' : Obj} (h : Both ((q, o) :: X) B W w d m nm sd sm) (k : Kp w [q] w') (ho : w'.heap[q]? = some o') (hX : ∀ r ∈ X, r.1 ≠ q) (hq : B ≤ q) : Both ((q, o') :: X) B W w' d m nm sd sm := by
  obtain ⟨R, h1, h2, h3, h4⟩ := h
  have hqR : q ∉ R.map (·.1) := h3 (q, o) (by simp)
  have h5 : On ((q, o) :: (R ++ X)) B W w d nm sd := h4.mono fun p hp => by
    rcases List.mem_cons.1 hp with rfl | hp
    · simp
    · rcases List.mem_append.1 hp with hp | hp <;> simp [hp]
  have h6 := h5.turn o' k ho (fun r hr e => by
    rcases List.mem_append.1 hr with hr | hr
    · exact hqR (e ▸ List.mem_map_of_mem hr)
    · exact hX r hr e) hq
  refine ⟨R, h1, h2, fun p hp => ?_, h6.mono fun p hp => ?_⟩
  · rcases List.mem_cons.1 hp with rfl | hp
    · exact hqR
    · exact h3 p (by simp [hp])
  · rcases List.mem_append.1 hp with hp | hp
    · simp [hp]
    · rcases List.mem_cons.1 hp with rfl | hp <;> simp [*]
end
end Go.Proofs.YtnegondlkfeleaaDoor
