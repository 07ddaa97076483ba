/- slices.Clone and slices.Clip at one element type: the same elements in new memory; no room behind. -/
import Derived.Test.YtoiclicechfmgaaGreatDoorMem
import Derived.Laws.AppendOwnNone
namespace Go.Proofs.YtoiclicechfmgaaGreatDoor
open Go.RowKit

theorem byt_info : (Tryz.prog.info? 5).map (fun i => (i.zero, i.size, i.bytes)) = some (some (.int .u8 0), 1, 1) := by kernel_rfl

theorem byt_clip (A : Option Addr) (n c : Nat) (w : World) (hc : n ≤ c) (hn : n ≤ 4611686018427387904) :
    Calls Tryz.prog 55 #[.slice A n c] w fun e w' => e = .returned (.slice A n n) ∧ w = w' := by
  have h1 : (n : Int) ≤ (c : Int) := by omega
  have h2 : (n : Int) ≤ 4611686018427387904 := by omega
  have h3 : ¬ (c : Int) < (n : Int) := by omega
  go_enter Tryz.func55, Tryz.ntmps55
  go_wp2
  go_ret
  exact ⟨by cases A <;> simp, rfl⟩

theorem byt_clone_nil (w : World) : Calls Tryz.prog 44 #[.slice none 0 0] w fun e w' => e = .returned (.slice none 0 0) ∧ w = w' := by
  have q := fun (w : World) (a : Option Addr) (n c n' c' : Nat) => Lib.run_eql_slice_nil (P := Tryz.prog) w _ _ a n c n' c' Tryz.underlying22
  go_enter Tryz.func44, Tryz.ntmps44
  go_wp2
  go_ret
  exact ⟨rfl, rfl⟩

set_option maxHeartbeats 400000 in
theorem byt_clone_any (v : Value) (n : Nat) (xs : List Value) (w : World) (h : Rd w 1 v n xs) (h1 : ∀ u ∈ xs, u.oneCell' = true) (hn : n * 1 ≤ 140737488355328) (hn2 : n ≤ 4611686018427387904) :
    Calls Tryz.prog 44 #[v] w fun e w' => ∃ v', e = .returned v' ∧ Ow w.heap.size w' 5 1 v' n xs ∧ Below w.heap.size w w' := by
  obtain ⟨A, c, rfl, hc, hl, hcell⟩ := h
  have q := fun (w : World) (a : Option Addr) (n c n' c' : Nat) => Lib.run_eql_slice_nil (P := Tryz.prog) w _ _ a n c n' c' Tryz.underlying22
  obtain ⟨i0, hi, hz0, hz1, hz2⟩ := info_parts byt_info
  have hnm : n ≤ maxLen := by unfold maxLen; omega
  cases A with
  | none =>
    rcases hcell with rfl | ⟨g, o, hA, _⟩
    · have hx : xs = [] := List.eq_nil_of_length_eq_zero (by simpa using hl)
      subst hx
      go_enter Tryz.func44, Tryz.ntmps44
      go_wp2
      go_ret
      exact ⟨_, rfl, .inl ⟨rfl, rfl, rfl⟩, Below.refl _ _⟩
    · cases hA
  | some ad =>
    rcases Nat.eq_zero_or_pos n with h0 | h0
    · subst h0
      have hx : xs = [] := List.eq_nil_of_length_eq_zero (by simpa using hl)
      subst hx
      clear hcell
      go_enter Tryz.func44, Tryz.ntmps44
      go_wp2
      go_ret
      exact ⟨_, rfl, .inr ⟨w.heap.size, 0, #[], rfl, Nat.le_refl _, Blk.new _ _ _, Nat.le_refl _, by simp, by simp, by simp⟩, below_alloc_ _ _⟩
    · rcases hcell with h | ⟨g, o, hA, hg, hcells⟩
      · omega
      · injection hA with hA
        subst hA
        have hown : (w.alloc (.cells #[] 5)).ownsRow w.heap.size 5 1 (.slice (some ⟨w.heap.size, 0, none⟩) 0 0) 0 [] :=
          ⟨by simp, .inr ⟨w.heap.size, 0, #[], rfl, Nat.le_refl _, heap_alloc_new _ _, Nat.le_refl _, by unfold maxLen; omega, by simp, by simp⟩⟩
        have hnews : ∀ j u, xs[j]? = some u → (w.alloc (.cells #[] 5)).cell? ((⟨g, o, none⟩ : Addr).add j) = some u := fun j u hu => by
          have := hcells j u hu
          rw [World.cell?_alloc_lt _ _ _ (by simp [Addr.add]; split <;> exact hg)]
          rcases Nat.eq_zero_or_pos j with hj | hj
          · subst hj; simpa [Addr.add] using this
          · have hj' : ¬ j = 0 := by omega
            simpa [Addr.add, hj'] using this
        have HO := Lib.hid hown
        have HN := Lib.hid hnews
        have HL := Lib.hid hl
        have H1 := Lib.hid h1
        clear hown hnews hl h1 hcells
        go_enter Tryz.func44, Tryz.ntmps44
        go_wp2_with (at_builtin; refine wpList_append_lies _ rfl _ _ 22 rfl w.heap.size 5 i0 (.int .u8 0) 1 1 Tryz.underlying22 hi hz0 hz1 hz2 rfl (by decide) _ _ _ rfl HO.out ⟨g, o, none⟩ n c xs rfl HL.out HN.out H1.out h0 (by simpa using hnm) (by simpa using hn) (by simp) (w.heap.size + 1) (by simp) ?_; intro g' cap' w1 hown' hgrow _ _)
        go_ret
        refine ⟨_, rfl, ?_, ?_⟩
        · have := Ow.of_own hown'
          simpa using this
        · exact (below_alloc_ w _).grown hgrow (by simp) (fun k e => by cases e; exact Nat.le_refl _)
end Go.Proofs.YtoiclicechfmgaaGreatDoor
