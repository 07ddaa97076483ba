/- Small facts on arrays' cells. -/
import Derived.Test.YtcpiockmkpdkjaaMem
namespace Go.Proofs.Ytcpiockmkpdkjaa
open Go.RowKit

theorem set_ne_ {cur : Array Value} {a i : Nat} {u : Value} (h : a ≠ i) : (cur.setIfInBounds a u)[i]? = cur[i]? := Array.getElem?_setIfInBounds_ne h
theorem set_eq_ {cur : Array Value} {a : Nat} {u : Value} (h : a < cur.size) : (cur.setIfInBounds a u)[a]? = some u := by
  rw [Array.getElem?_setIfInBounds]; simp [h]
theorem one_of {α : Type} : ∀ {l : List α}, l.length = 1 → ∃ a, l = [a]
  | [a], _ => ⟨a, rfl⟩
end Go.Proofs.Ytcpiockmkpdkjaa
