/- A promise: Term, Vote, may. -/
import Derived.Test.YtnegondlkfeleaaDoorFrm
import Derived.Test.YtnegondlkfeleaaDoorDskO
namespace Go.Proofs.YtnegondlkfeleaaDoor
open Go.RowKit

theorem nm_state : Nm ⟨#[115, 116, 97, 116, 101]⟩ := ⟨by decide +kernel, by decide⟩

/-- A promise's block. -/
def prC (term vote : Int) (d : Value) (lost : Bool) : Array Value := #[.int .u64 term, .int .u8 vote, d, .bool lost]

theorem term_any (p : Nat) (term vote : Int) (d : Value) (lost : Bool) (w : World) (h : Blk w p 114 (prC term vote d lost)) :
    Calls Tryd.prog 32 #[.pointer (some ⟨p, 0, none⟩)] w fun e w' => e = .returned (.int .u64 term) ∧ w = w' := by
  have c0 := h.cell 0
  simp [prC] at c0
  clear h
  go_enter Tryd.func32, Tryd.ntmps32
  go_wp2
  go_ret
  exact ⟨rfl, rfl⟩
theorem term_nil (w : World) : Calls Tryd.prog 32 #[.pointer none] w fun e w' => e = .returned (.int .u64 0) ∧ w = w' := by
  go_enter Tryd.func32, Tryd.ntmps32
  go_wp2
  go_ret
  exact ⟨rfl, rfl⟩
theorem vote_any (p : Nat) (term vote : Int) (d : Value) (lost : Bool) (w : World) (h : Blk w p 114 (prC term vote d lost)) :
    Calls Tryd.prog 33 #[.pointer (some ⟨p, 0, none⟩)] w fun e w' => e = .returned (.int .u8 vote) ∧ w = w' := by
  have c1 := h.cell 1
  simp [prC] at c1
  clear h
  go_enter Tryd.func33, Tryd.ntmps33
  go_wp2
  go_ret
  exact ⟨rfl, rfl⟩
theorem vote_nil (w : World) : Calls Tryd.prog 33 #[.pointer none] w fun e w' => e = .returned (.int .u8 0) ∧ w = w' := by
  go_enter Tryd.func33, Tryd.ntmps33
  go_wp2
  go_ret
  exact ⟨rfl, rfl⟩
theorem open_nil (w : World) : Calls Tryd.prog 21 #[.pointer none] w fun e w' => e = .returned (.tuple #[.pointer none, .int .i64 2]) ∧ w = w' := by
  go_enter Tryd.func21, Tryd.ntmps21
  go_wp2
  go_ret2
  exact ⟨rfl, rfl⟩
/-- May it become another? -/
def mayB (t v t' v' : Int) : Bool := decide (t < t') || (decide (t' = t) && decide (v' = v)) || (decide (t' = t) && decide (v = 0))
set_option maxHeartbeats 1000000 in
set_option maxRecDepth 100000 in
theorem may_any (t v t' v' : Int) (w : World) :
    Calls Tryd.prog 60 #[.agg #[.int .u64 t, .int .u8 v], .agg #[.int .u64 t', .int .u8 v']] w fun e w' => e = .returned (.bool (mayB t v t' v')) ∧ Below w.heap.size w w' := by
  obtain ⟨b, hb⟩ : ∃ b, b = mayB t v t' v' := ⟨_, rfl⟩
  rw [← hb]
  have HB := Lib.hid hb
  clear hb
  have BW := Lib.hid ((below_alloc_ w (.cells #[.int .u64 t, .int .u8 v] 110)).trans ((below_alloc_ (w.alloc (.cells #[.int .u64 t, .int .u8 v] 110)) (.cells #[.int .u64 t', .int .u8 v'] 110)).mono (by simp)))
  by_cases h1 : t < t'
  · go_enter Tryd.func60, Tryd.ntmps60
    go_wp2
    go_ret
    exact ⟨by rw [HB.out]; simp [mayB, h1], BW.out⟩
  · by_cases h2 : t' = t
    · subst h2
      by_cases h3 : v' = v
      · subst h3
        go_enter Tryd.func60, Tryd.ntmps60
        go_wp2
        go_ret
        exact ⟨by rw [HB.out]; simp [mayB], BW.out⟩
      · have h3' : ¬ v = v' := fun e => h3 e.symm
        by_cases h4 : v = 0
        · subst h4
          go_enter Tryd.func60, Tryd.ntmps60
          go_wp2
          go_ret
          exact ⟨by rw [HB.out]; simp [mayB], BW.out⟩
        · go_enter Tryd.func60, Tryd.ntmps60
          go_wp2
          go_ret
          exact ⟨by rw [HB.out]; simp [mayB, h3, h4], BW.out⟩
    · have h2' : ¬ t = t' := fun e => h2 e.symm
      go_enter Tryd.func60, Tryd.ntmps60
      go_wp2
      go_ret
      exact ⟨by rw [HB.out]; simp [mayB, h1, h2], BW.out⟩

theorem On.allocX {X : List (Nat × Obj)} {B : Nat} {W w : World} {d : Nat} {nm : ByteArray} {s : Dst} (h : On X B W w d nm s) (o : Obj) : On ((w.heap.size, o) :: X) B W (w.alloc o) d nm s := by
  obtain ⟨⟨F, hd, hF, hX⟩, hk, h1, h2⟩ := h
  have hb := below_alloc_ w o
  refine ⟨⟨F, hd.below hb, hF, fun p hp hf => ?_⟩, fun p hp => ?_, h1.trans (hb.mono h2), Nat.le_trans h2 hb.size⟩
  · rcases List.mem_cons.1 hp with rfl | hp
    · exact Nat.lt_irrefl _ (hd.lt _ hf)
    · exact hX p hp hf
  · rcases List.mem_cons.1 hp with rfl | hp
    · exact heap_alloc_new w o
    · exact (hb.block _ (lt_of_heap (hk p hp))).trans (hk p hp)
/-- A block beside the disk turns. -/
theorem On.turn {X : List (Nat × Obj)} {B : Nat} {W w w' : World} {d p : Nat} {nm : ByteArray} {s : Dst} {o : Obj} (o' : Obj) (h : On ((p, o) :: X) B W w d nm s) (k : Kp w [p] w') (hp : w'.heap[p]? = some o') (hX : ∀ q ∈ X, q.1 ≠ p) (hB : B ≤ p) :
    On ((p, o') :: X) B W w' d nm s := by
  obtain ⟨⟨F, hd, hF, hX'⟩, hk, h1, h2⟩ := h
  have hpF : p ∉ F := hX' (p, o) (by simp)
  refine ⟨⟨F, hd.kp k (fun i hi hip => by simp at hip; subst hip; exact hpF hi), hF, fun q hq hf => ?_⟩, fun q hq => ?_, h1.trans (k.to_below (fun i hi => by simp at hi; omega) h2), Nat.le_trans h2 k.size⟩
  · rcases List.mem_cons.1 hq with rfl | hq
    · exact hpF hf
    · exact hX' q (by simp [hq]) hf
  · rcases List.mem_cons.1 hq with rfl | hq
    · exact hp
    · exact (k.block _ (lt_of_heap (hk q (by simp [hq]))) (by simpa using hX q hq)).trans (hk q (by simp [hq]))
end Go.Proofs.YtnegondlkfeleaaDoor
