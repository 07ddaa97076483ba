/- The document's disk beside the disk: its blocks as objects. -/
import Derived.Test.YtnegondlkfeleaaDoorRdx
import Derived.Test.YtnegondlkfeleaaDoorSta
namespace Go.Proofs.YtnegondlkfeleaaDoor
open Go.RowKit

theorem RDk.objs {w : World} {m : Nat} {nm : ByteArray} {s : Dst} {F : List Nat} (h : RDk w m nm s F) :
    ∃ R : List (Nat × Obj), R.map (·.1) = F ∧ (∀ q ∈ R, w.heap[q.1]? = some q.2) ∧ ∀ w' : World, (∀ q ∈ R, w'.heap[q.1]? = some q.2) → RDk w' m nm s F := by
  obtain ⟨lo, hi, hx⟩ := h
  rcases hx with ⟨hf, hk, rfl⟩ | ⟨xs, su, r, c, cur, v, hf, hk, hr, hc, h0, h1, h2, hb, hy, hs, hl, rfl⟩
  · refine ⟨[(m, .cells (rm s (.slice none 0 0)) 68 (0, 0))], rfl, ?_, fun w' hw => ⟨lo, hi, .inl ⟨hf, hw (m, _) (by simp), rfl⟩⟩⟩
    intro q hq
    simp at hq
    subst hq
    exact hk
  · rcases hb with ⟨rfl, hn, hx0⟩ | ⟨g, cb, cur2, rfl, hB, hg, hrest⟩
    · refine ⟨[(m, .cells (rm s (.slice (some ⟨r, 0, none⟩) 1 c)) 68 (0, 0)), (r, .cells cur 129 (0, 0))], rfl, ?_, fun w' hw => ⟨lo, hi, .inr ⟨xs, su, r, c, cur, _, hf, hw (m, _) (by simp), hw (r, _) (by simp), hc, h0, h1, h2, .inl ⟨rfl, hn, hx0⟩, hy, hs, hl, rfl⟩⟩⟩
      intro q hq
      simp at hq
      rcases hq with rfl | rfl
      · exact hk
      · exact hr
    · refine ⟨[(m, .cells (rm s (.slice (some ⟨r, 0, none⟩) 1 c)) 68 (0, 0)), (r, .cells cur 129 (0, 0)), (g, .cells cur2 5 (0, 0))], rfl, ?_, fun w' hw => ⟨lo, hi, .inr ⟨xs, su, r, c, cur, _, hf, hw (m, _) (by simp), hw (r, _) (by simp), hc, h0, h1, h2, .inr ⟨g, cb, cur2, rfl, hB, hw (g, _) (by simp), hrest⟩, hy, hs, hl, rfl⟩⟩⟩
      intro q hq
      simp at hq
      rcases hq with rfl | rfl | rfl
      · exact hk
      · exact hr
      · exact hg

theorem On.aside {X R R' : List (Nat × Obj)} {B : Nat} {W w w' : World} {d : Nat} {nm : ByteArray} {s : Dst} (h : On (R ++ X) B W w d nm s) (k : Kp w (R.map (·.1)) w') (hX : ∀ q ∈ X, q.1 ∉ R.map (·.1))
    (hR' : ∀ q ∈ R', w'.heap[q.1]? = some q.2) (hn : ∀ q ∈ R', q.1 ∈ R.map (·.1) ∨ w.heap.size ≤ q.1) (hB : ∀ q ∈ R, B ≤ q.1) : On (R' ++ X) B W w' d nm s := by
  obtain ⟨⟨F, hd, hF, hX'⟩, hk, h1, h2⟩ := h
  have hRF : ∀ i ∈ F, i ∉ R.map (·.1) := fun i hi hr => by
    obtain ⟨q, hq, rfl⟩ := List.mem_map.1 hr
    exact hX' q (List.mem_append_left _ hq) hi
  refine ⟨⟨F, hd.kp k hRF, hF, fun q hq hf => ?_⟩, fun q hq => ?_, h1.trans (k.to_below (fun i hi => by
    obtain ⟨q, hq, rfl⟩ := List.mem_map.1 hi
    exact hB q hq) h2), Nat.le_trans h2 k.size⟩
  · rcases List.mem_append.1 hq with hq | hq
    · rcases hn q hq with h | h
      · exact hRF _ hf h
      · exact absurd (hd.lt _ hf) (by omega)
    · exact hX' q (List.mem_append_right _ hq) hf
  · rcases List.mem_append.1 hq with hq | hq
    · exact hR' q hq
    · exact (k.block _ (lt_of_heap (hk q (List.mem_append_right _ hq))) (hX q hq)).trans (hk q (List.mem_append_right _ hq))
end Go.Proofs.YtnegondlkfeleaaDoor
