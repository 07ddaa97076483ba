/- Countinghouse's statement VotesPlay holds: for every number of nodes and every slice of says the law returns true; no condition. -/
import Derived.Test.YtameheoiaajmkaaRows
import Derived.Test.YtameheoiaajmkaaPlayW
import Derived.Test.YtameheoiaajmkaaPlayX
import Derived.Test.YtameheoiaajmkaaLives
import Derived.Deep.SlicePairs
import Derived.WalkKit
import Derived.ProofKit
import Derived.OpenShut
import Derived.ShutString
import Derived.ChangeOld
import Derived.Below
namespace Go.Proofs.Ytameheoiaajmkaa.votesPlay
open Go.ChangeShapes Go.WideShapes Go.ChangeAt Go.RowKit
open Go.ChangeMaps (open_string shut_string)
set_option linter.unusedVariables false

theorem own : ownKnob Try.prog.godebug = none := by kernel_rfl
theorem laidOut : laidOutB Try.prog = true := by kernel_rfl
theorem cells30 : Try.prog.cellsOf 30 = 2 := by kernel_rfl

set_option maxRecDepth 100000 in
theorem lifted (os : Os) (started : os.Started) (H : Type) (enc : TypeId × Value → H) :
    ReturnsInHanded {} Try.checked os 3 .any (Rows.votesPlaySpec.pre6 enc Try.prog Try.f3 Rows.votesPlayRow.domain false) (Rows.votesPlaySpec.post enc Try.prog Try.f3 false true false false) := by
  refine returnsInHanded_of_change (C := Try.checked) own started (by kernel_rfl) Try.func3
    (ChangeSpec.witness6 (enc := enc) (C := Try.checked) false ⟨#[], #[.int .i64 0, .slice none 0 0], []⟩ 8 (by kernel_rfl) (by kernel_rfl) (by kernel_rfl) (by kernel_rfl)) ?_
  intro W base args ds gs before hval0 hW hcnd _
  have hval : ∀ (j : Nat) t v, Try.f3.params[j]? = some t → args[j]? = some v → Value.okWide Try.prog W .any base t v := hval0
  have hW' := hW
  obtain ⟨p, q, hA0, hV, rfl, hfz, hnd⟩ := hW
  have hA : DataW.TrodAll enc Try.prog W 0 (fun _ => true) true Try.f3.params.toList args.toList ds p := hA0
  rw [Try.params3] at hA hval
  obtain ⟨v0, vs0, d0, ds0, p0, q0, hargs, rfl, rfl, h0, r0⟩ := trodAll_cons hA
  obtain ⟨v1, vs1, d1, ds1, p1, q1, rfl, rfl, rfl, h1, r1⟩ := trodAll_cons r0
  obtain ⟨rfl, rfl, rfl⟩ := trodAll_nil r1
  obtain rfl : args = #[v0, v1] := by cases args; simp_all
  obtain ⟨rfl, rfl⟩ := trodVars_none hV
  have k0 := h0
  have lt0 : ∀ x ∈ p0, x.block < W.heap.size := by obtain ⟨m, hm⟩ := k0; exact DataW.trod_lt m _ _ _ hm
  have k1 := h1
  have lt1 : ∀ x ∈ p1, x.block < W.heap.size := by obtain ⟨m, hm⟩ := k1; exact DataW.trod_lt m _ _ _ hm
  obtain ⟨n, rfl, rfl, rfl, w0⟩ := open_int Try.underlying3 (hval 0 3 v0 rfl rfl) h0
  obtain ⟨a0, len0, cap0, rfl⟩ := okWide_slice Try.underlying22 (hval 1 22 v1 rfl rfl)
  have main : Calls Try.prog 3 #[.int .i64 n, .slice a0 len0 cap0] W fun e w' => e = .returned (.bool true) ∧ Below W.heap.size W w' := by
    by_cases hl : 200 < len0
    · exact play_long lives_any n a0 len0 cap0 W hl
    · by_cases hn : n < 1 ∨ 7 < n
      · exact play_off lives_any n a0 len0 cap0 W (by omega) hn
      · obtain ⟨N, hN⟩ : ∃ N : Nat, n = (N : Int) := ⟨n.toNat, by omega⟩
        subst hN
        obtain ⟨fuel, hf⟩ := h1
        rcases Go.Deep.open_slice_pairs Try.underlying22 Try.underlying30 cells30 rfl rfl (by kernel_rfl) (by kernel_rfl) hf with ⟨hcs, _⟩ | ⟨a, l, c, m, nn, V0, V1, D0, D1, P0, P1, hcs, _, hlc, hm, hmm, _, hcell⟩
        · simp [Value.cells] at hcs
          obtain ⟨rfl, rfl, rfl⟩ := hcs
          exact play_empty lives_any N none 0 W (by omega) (by omega)
        · simp [Value.cells] at hcs
          obtain ⟨rfl, rfl, rfl⟩ := hcs
          have hlm : len0 ≤ m := by rw [hmm]; split <;> omega
          rcases Nat.eq_zero_or_pos len0 with hz | hpos
          · subst hz
            exact play_empty lives_any N (some a) cap0 W (by omega) (by omega)
          · obtain ⟨lb, off, spot⟩ := a
            have hspot : spot = none := by
              have := (hcell 0 (by omega)).1
              simpa [Addr.add] using World.cell?_spot this
            subst hspot
            have each : ∀ k, k < len0 → ∃ q : Int × Bool, W.cell? ⟨lb, off + k * 2, none⟩ = some (.int .u8 q.1) ∧ W.cell? ⟨lb, off + k * 2 + 1, none⟩ = some (.bool q.2) ∧ 0 ≤ q.1 ∧ q.1 ≤ 255 := by
              intro k hk
              obtain ⟨c0, c1, t0, t1⟩ := hcell k (by omega)
              obtain ⟨x, e0, _, wx⟩ := DataW.trod_int Try.underlying5 t0
              obtain ⟨y, e1, _⟩ := DataW.trod_bool Try.underlying4 t1
              simp at e0 e1
              refine ⟨(x, y), ?_, ?_, (bounds_u8 wx).1, (bounds_u8 wx).2⟩
              · rw [e0] at c0
                by_cases hk0 : k = 0
                · subst hk0; simpa [Addr.add] using c0
                · have : ¬ k * 2 = 0 := by omega
                  simpa [Addr.add, this, hk0] using c0
              · rw [e1] at c1
                have : ¬ k * 2 + 1 = 0 := by omega
                simpa [Addr.add, this, Nat.add_assoc] using c1
            obtain ⟨F, hF⟩ := Go.Deep.choose_lt each
            refine play_walk lives_any N lb off len0 cap0 (fun k => (F k).1) (fun k => (F k).2) W ⟨by omega, by omega⟩ (by omega) ?_ hF
            exact block_lt_of_cell (hF 0 hpos).1
  clear hA0 hval0
  refine (main).mono fun e W' ⟨he, bel⟩ => ?_
  subst he
  exact ⟨_, rfl, _, _, _, [], _, [], hW', trodAll_mk1 (shut_bool Try.underlying4 _), (trodAll_cons_mk (Below.trod laidOut (by kernel_rfl) (of_decide_eq_true (by kernel_rfl)) k0 bel lt0) (trodAll_cons_mk (Below.trod laidOut (by kernel_rfl) (of_decide_eq_true (by kernel_rfl)) k1 bel lt1) trodAll_mk0)), rfl, bel.frame _, fun h => by cases h⟩

theorem over : Rows.votesPlayRow.holds Try.pinned (OpenSpec.ofChange Rows.votesPlaySpec) :=
  OpenClaim.holds_of_wide 3 Try.f3 rfl rfl rfl rfl rfl rfl rfl ⟨rfl, rfl, rfl, rfl, rfl⟩ rfl rfl rfl rfl rfl (by kernel_rfl) Try.func3 (by kernel_rfl)
    (of_decide_eq_true (by kernel_rfl)) (by unfold Func.isWrapper; first | (rw [if_pos (by decide +kernel)]; kernel_rfl) | (rw [if_neg (by decide +kernel)]; exact ⟨rfl, rfl⟩))
    (fun os started H enc _ => lifted os started H enc)

theorem proved : Rows.VotesPlaySaid := over
end Go.Proofs.Ytameheoiaajmkaa.votesPlay
