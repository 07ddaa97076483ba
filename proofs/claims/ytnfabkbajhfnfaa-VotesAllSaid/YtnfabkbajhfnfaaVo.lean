/- How an argument that is a slice of uint64 reads. -/
import Derived.Test.YtnfabkbajhfnfaaVw
import Derived.ProofKit
import Derived.OpenShut
import Derived.ChangeSlices
namespace Go.Proofs.Ytnfabkbajhfnfaa
open Go.ChangeShapes Go.WideShapes Go.ChangeAt Go.RowKit

section
variable {H : Type} {enc : TypeId × Value → H} {P : Program} {w : World} {base : Nat} {spare : Nat → Bool} {held : Bool}
theorem open_us {t e : TypeId} {fuel : Nat} {cs : List Value} {x : DataW H × List MemPlace} (ht : P.underlying t = some (.slice e)) (he : P.underlying e = some (.int .u64)) (hc : P.cellsOf e = 1)
    (h : DataW.trod enc P w base spare held fuel t cs = some x) :
    cs = [.slice none 0 0] ∨ (∃ a c, cs = [.slice (some a) 0 c]) ∨ ∃ b off c, ∃ zs : List Int, cs = [.slice (some ⟨b, off, none⟩) zs.length c] ∧ 0 < zs.length ∧ Us w b off zs ∧ ∀ z ∈ zs, 0 ≤ z := by
  rcases open_ints ht he hc h with ⟨rfl, _⟩ | ⟨a, len, cap, zs, rfl, hb, hl, hm, hz, _, hcell, hwf⟩
  · exact .inl rfl
  · have hzl : len ≤ zs.length := by rw [hz]; split <;> omega
    have hlt : (zs.take len).length = len := by simp; omega
    rcases Nat.eq_zero_or_pos len with h0 | h0
    · subst h0
      exact .inr (.inl ⟨a, cap, rfl⟩)
    · obtain ⟨b, o, spot⟩ := a
      have hspot : spot = none := by
        have := hcell 0 (by omega)
        simpa [Addr.add] using World.cell?_spot this
      subst hspot
      have h1 := hcell 0 (by omega)
      refine .inr (.inr ⟨b, o, cap, zs.take len, by rw [hlt], by omega, ⟨block_lt_of_cell (by simpa [Addr.add] using h1), fun j hj => ?_⟩, fun z hz => (bounds_u64 (hwf z (List.mem_of_mem_take hz))).1⟩)
      rw [hlt] at hj
      have h2 := hcell j (by omega)
      rw [Addr.add_lit] at h2
      rw [h2]
      simp [hj, List.getD, List.getElem?_eq_getElem (show j < zs.length by omega)]
end
theorem rl_any {W : World} {A : Option Addr} {n c : Nat} (h : Value.slice A n c = .slice none 0 0 ∨ (∃ a c', Value.slice A n c = .slice (some a) 0 c') ∨ ∃ b off c', ∃ zs : List Int, Value.slice A n c = .slice (some ⟨b, off, none⟩) zs.length c' ∧ 0 < zs.length ∧ Us W b off zs ∧ ∀ z ∈ zs, 0 ≤ z) (f : Nat) (hf : f = 3 ∨ f = 4) :
    Calls Try.prog f #[.slice A n c] W fun e w' => e = .returned (.bool true) ∧ Below W.heap.size W w' := by
  rcases h with h | ⟨a, c', h⟩ | ⟨b, off, c', zs, h, h0, hU, hz⟩
  · cases h
    rcases hf with rfl | rfl
    · exact rl_nil W
    · exact al_none none 0 W
  · cases h
    rcases hf with rfl | rfl
    · exact rl_none a c W
    · exact al_none (some a) c W
  · cases h
    by_cases h3 : 300 < zs.length
    · rcases hf with rfl | rfl
      · exact rl_long _ _ c W h3
      · exact al_long _ _ c W h3
    · rcases hf with rfl | rfl
      · exact rl_walk b off c zs W h0 (by omega) hU hz
      · exact al_walk b off c zs W h0 (by omega) hU
end Go.Proofs.Ytnfabkbajhfnfaa
