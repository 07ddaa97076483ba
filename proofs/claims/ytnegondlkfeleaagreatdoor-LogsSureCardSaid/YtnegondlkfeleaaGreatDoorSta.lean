/- A promise: Term, Vote, may. -/
import Derived.Test.YtnegondlkfeleaaGreatDoorFoz
import Derived.Test.YtnegondlkfeleaaGreatDoorDskO
namespace Go.Proofs.YtnegondlkfeleaaGreatDoor
open Go.RowKit

theorem nm_state : Nm ⟨#[115, 116, 97, 116, 101]⟩ := ⟨by decide +kernel, by decide⟩

/-- A promise's block. -/
def prC (term vote : Int) (d : Value) (lost : Bool) : Array Value := #[.int .u64 term, .int .u8 vote, d, .bool lost]

/-- May it become another? -/
def mayB (t v t' v' : Int) : Bool := decide (t < t') || (decide (t' = t) && decide (v' = v)) || (decide (t' = t) && decide (v = 0))
theorem On.allocX {X : List (Nat × Obj)} {B : Nat} {W w : World} {d : Nat} {nm : ByteArray} {s : Dst} (h : On X B W w d nm s) (o : Obj) : On ((w.heap.size, o) :: X) B W (w.alloc o) d nm s := by
  obtain ⟨⟨F, hd, hF, hX⟩, hk, h1, h2⟩ := h
  have hb := below_alloc_ w o
  refine ⟨⟨F, hd.below hb, hF, fun p hp hf => ?_⟩, fun p hp => ?_, h1.trans (hb.mono h2), Nat.le_trans h2 hb.size⟩
  · rcases List.mem_cons.1 hp with rfl | hp
    · exact Nat.lt_irrefl _ (hd.lt _ hf)
    · exact hX p hp hf
  · rcases List.mem_cons.1 hp with rfl | hp
    · exact heap_alloc_new w o
    · exact (hb.block _ (lt_of_heap (hk p hp))).trans (hk p hp)
/-- A block beside the disk turns. -/
theorem On.turn {X : List (Nat × Obj)} {B : Nat} {W w w' : World} {d p : Nat} {nm : ByteArray} {s : Dst} {o : Obj} (o' : Obj) (h : On ((p, o) :: X) B W w d nm s) (k : Kp w [p] w') (hp : w'.heap[p]? = some o') (hX : ∀ q ∈ X, q.1 ≠ p) (hB : B ≤ p) :
    On ((p, o') :: X) B W w' d nm s := by
  obtain ⟨⟨F, hd, hF, hX'⟩, hk, h1, h2⟩ := h
  have hpF : p ∉ F := hX' (p, o) (by simp)
  refine ⟨⟨F, hd.kp k (fun i hi hip => by simp at hip; subst hip; exact hpF hi), hF, fun q hq hf => ?_⟩, fun q hq => ?_, h1.trans (k.to_below (fun i hi => by simp at hi; omega) h2), Nat.le_trans h2 k.size⟩
  · rcases List.mem_cons.1 hq with rfl | hq
    · exact hpF hf
    · exact hX' q (by simp [hq]) hf
  · rcases List.mem_cons.1 hq with rfl | hq
    · exact hp
    · exact (k.block _ (lt_of_heap (hk q (by simp [hq]))) (by simpa using hX q hq)).trans (hk q (by simp [hq]))
end Go.Proofs.YtnegondlkfeleaaGreatDoor
