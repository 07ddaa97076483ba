/- Regions that only read, beside callees that make memory and leave the old as it was: one walk, in the order of the text. -/
import Derived.Test.YtcpiockmkpdkjaaMemB
import Derived.Deep.QuietTactic
namespace Go.Proofs.Ytcpiockmkpdkjaa
open Go.RowKit

/-- A world in which all that stood in W is as it was. -/
structure Bel (W : World) where
  w : World
  h : Below W.heap.size W w
instance Bel.ne (W : World) : Nonempty (Bel W) := ⟨⟨W, Below.refl _ _⟩⟩
theorem wp_region_bel {P : Program} {id : Nat} {Q : Exit → Act → World → Prop} {a : Act} {W : World} {l : List Oper} (hm : P.follows .mixedOrders = true) (hB : Region.lexB .any l.toArray = true)
    (h : wpQuiet P l.toArray (fun w' => ∃ p : Bel W, w' = p.w) (fun a' => ∀ w', (∃ p : Bel W, w' = p.w) → Q .normal a' w') l a) : (Code.region id l.toArray true).wp P Q a W :=
  wp_region_quiet (C := fun w' => ∃ p : Bel W, w' = p.w) hm hB ⟨⟨W.drew, (Below.refl _ _).drew⟩, rfl⟩ (by simpa using h)
theorem Bel.cell {W : World} {a : Addr} {v : Value} (hb : a.block < W.heap.size) (h : W.cell? a = some v) : ∀ p : Bel W, p.w.cell? a = some v :=
  fun p => (p.h.cell hb).trans h
theorem Calls.bel {P : Program} {f : FuncId} {args : Array Value} {W : World} {p : Bel W} {v : Value}
    (h : Calls P f args p.w fun e w' => e = .returned v ∧ Below p.w.heap.size p.w w') : Calls P f args p.w fun e w'' => e = .returned v ∧ ∃ q : Bel W, w'' = q.w :=
  h.mono fun _ w' ⟨he, hb⟩ => ⟨he, ⟨w', p.h.trans (hb.mono p.h.size)⟩, rfl⟩
end Go.Proofs.Ytcpiockmkpdkjaa
