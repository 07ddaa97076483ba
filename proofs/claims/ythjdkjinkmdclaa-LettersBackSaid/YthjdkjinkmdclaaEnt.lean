/- Slices of entries: what reads as a list; SameEntries of the same ones. -/
import Derived.Test.YthjdkjinkmdclaaSmc
import Derived.Test.YthjdkjinkmdclaaPce
namespace Go.Proofs.Ythjdkjinkmdclaa
open Go.RowKit

/-- An entry: its fields, its steps. -/
abbrev Ent := List Int × List (List Int)
def ecells (p : Ent × Value) : List Value := fc entryK p.1.1 ++ [p.2]
theorem ecells_len (p : Ent × Value) : (ecells p).length = 5 := by simp [ecells, fc_len, entryK]
/-- The slice v holds these entries. -/
def Ents (w : World) (v : Value) (es : List Ent) : Prop :=
  ∃ ss : List Value, ss.length = es.length ∧ Rd w 5 v es.length ((es.zip ss).flatMap ecells) ∧ ∀ (j : Nat) (h : j < es.length) (h' : j < ss.length), Steps w ss[j] es[j].2
theorem Ents.below {w w' : World} {v : Value} {es : List Ent} (h : Ents w v es) (hb : Below w.heap.size w w') : Ents w' v es := by
  obtain ⟨ss, h1, h2, h3⟩ := h
  exact ⟨ss, h1, h2.below hb, fun j a b => Rd.below (h3 j a b) hb⟩
theorem Ents.alloc {w : World} {v : Value} {es : List Ent} (h : Ents w v es) (o : Obj) : Ents (w.alloc o) v es := h.below (below_alloc_ _ _)
theorem Ents.at_ {w : World} {v : Value} {es : List Ent} (h : Ents w v es) (h0 : 0 < es.length) :
    ∃ g o c, v = .slice (some ⟨g, o, none⟩) es.length c ∧ es.length ≤ c ∧ g < w.heap.size ∧ ∀ (j : Nat) (hj : j < es.length), ∃ s, Steps w s es[j].2 ∧ ∀ i u, i < 5 → (ecells (es[j], s))[i]? = some u → w.cell? ⟨g, o + j * 5 + i, none⟩ = some u := by
  obtain ⟨ss, h1, h2, h3⟩ := h
  have hz : (es.zip ss).length = es.length := by rw [List.length_zip]; omega
  rw [← hz] at h2
  obtain ⟨g, o, c, rfl, hc, hg, hh⟩ := Rd.at_ ecells_len h2 (by omega)
  rw [hz] at hc ⊢
  refine ⟨g, o, c, rfl, hc, hg, fun j hj => ⟨ss[j]'(by omega), h3 j hj (by omega), fun i u hi hu => hh j (by omega) i u hi ?_⟩⟩
  rw [List.getElem_zip]; exact hu
/-- One entry, written out. -/
theorem Ents.one {w : World} {e : Ent} {s : Value} (h : Steps w s e.2) : Ents (w.alloc (.cells (ecells (e, s)).toArray 47)) (.slice (some ⟨w.heap.size, 0, none⟩) 1 1) [e] := by
  have hk := Blk.new w 47 (ecells (e, s)).toArray
  refine ⟨[s], rfl, ⟨_, _, rfl, Nat.le_refl _, by simp [ecells_len], .inr ⟨w.heap.size, 0, rfl, by simp, fun j u hu => ?_⟩⟩, fun j h1 h2 => ?_⟩
  · rw [Nat.zero_add, hk.cell]
    simpa using hu
  · obtain rfl : j = 0 := by simp at h1; exact h1
    exact Rd.alloc h _

end Go.Proofs.Ythjdkjinkmdclaa
