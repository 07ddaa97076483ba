/- Countinghouse's statement DisksVoid holds: for every act the law returns true; no condition. -/
import Derived.Test.YtojafgijhbnjoaaRows
import Derived.Test.YtojafgijhbnjoaaDvw
import Derived.Test.YtojafgijhbnjoaaOpnB
import Derived.WalkKit
import Derived.ProofKit
import Derived.OpenShut
import Derived.ShutString
import Derived.ChangeOld
import Derived.Below
namespace Go.Proofs.Ytojafgijhbnjoaa.disksVoid
open Go.ChangeShapes Go.WideShapes Go.ChangeAt Go.RowKit
open Go.ChangeMaps (open_string shut_string)
set_option linter.unusedVariables false

theorem own : ownKnob Try.prog.godebug = none := by kernel_rfl
theorem laidOut : laidOutB Try.prog = true := by kernel_rfl

set_option maxRecDepth 100000 in
theorem lifted (os : Os) (started : os.Started) (H : Type) (enc : TypeId × Value → H) :
    ReturnsInHanded {} Try.checked os 5 .any (Rows.disksVoidSpec.pre6 enc Try.prog Try.f5 Rows.disksVoidRow.domain false) (Rows.disksVoidSpec.post enc Try.prog Try.f5 false true false false) := by
  refine returnsInHanded_of_change_sized (C := Try.checked) own started (by kernel_rfl) Try.func5
    (ChangeSpec.witness6 (enc := enc) (C := Try.checked) false ⟨#[], #[.agg #[.int .u8 0, .string ⟨#[]⟩, .slice none 0 0, .int .i64 0, .slice none 0 0]], []⟩ 8 (by kernel_rfl) (by kernel_rfl) (by kernel_rfl) (by kernel_rfl)) ?_
  intro W base args ds gs before hval0 hW hcnd _ hsz0
  have hval : ∀ (j : Nat) t v, Try.f5.params[j]? = some t → args[j]? = some v → Value.okWide Try.prog W .any base t v := hval0
  have hW' := hW
  obtain ⟨p, q, hA0, hV, rfl, hfz, hnd⟩ := hW
  have hA : DataW.TrodAll enc Try.prog W 0 (fun _ => true) true Try.f5.params.toList args.toList ds p := hA0
  rw [Try.params5] at hA hval
  obtain ⟨v0, vs0, d0, ds0, p0, q0, hargs, rfl, rfl, h0, r0⟩ := trodAll_cons hA
  obtain ⟨rfl, rfl, rfl⟩ := trodAll_nil r0
  obtain rfl : args = #[v0] := by cases args; simp_all
  obtain ⟨rfl, rfl⟩ := trodVars_none hV
  have k0 := h0
  have lt0 : ∀ x ∈ p0, x.block < W.heap.size := by obtain ⟨m, hm⟩ := k0; exact DataW.trod_lt m _ _ _ hm
  obtain ⟨cs, rfl, hsz⟩ := okWide_struct Try.underlying43 (hval 0 43 v0 rfl rfl)
  have cA : Try.prog.cellsOf 43 = 5 := by kernel_rfl
  have c3 : Try.prog.cellsOf 3 = 1 := by kernel_rfl
  have c5 : Try.prog.cellsOf 5 = 1 := by kernel_rfl
  have c9 : Try.prog.cellsOf 9 = 1 := by kernel_rfl
  have cB : Try.prog.cellsOf 28 = 1 := by kernel_rfl
  have cI : Try.prog.cellsOf 33 = 1 := by kernel_rfl
  obtain ⟨a0, a1, a2, a3, a4, hcs⟩ := len5 (l := cs.toList) (by simpa [cA] using hsz)
  have hcs' := arr_of hcs
  subst hcs'
  obtain ⟨fuel, hf⟩ := h0
  obtain ⟨_, fields⟩ := open_fields Try.underlying43 hf
  obtain ⟨n0, y0, e0⟩ := fields 0 _ rfl
  obtain ⟨n1, y1, e1⟩ := fields 1 _ rfl
  obtain ⟨n2, y2, e2⟩ := fields 2 _ rfl
  obtain ⟨n3, y3, e3⟩ := fields 3 _ rfl
  obtain ⟨n4, y4, e4⟩ := fields 4 _ rfl
  simp [Value.cells, c3, c5, c9, cB, cI] at e0 e1 e2 e3 e4
  obtain ⟨kd, q0, _⟩ := DataW.trod_int Try.underlying5 e0
  obtain ⟨nm, q1, _⟩ := DataW.trod_string Try.underlying9 e1
  obtain ⟨PB, nb, cb, zb, q2, hzb, hnb, hcb, -⟩ := open_rd Try.underlying28 Try.underlying5 c5 e2
  obtain ⟨n, q3, _⟩ := DataW.trod_int Try.underlying3 e3
  obtain ⟨PL, nl, cl, zl, q4, -⟩ := open_rd Try.underlying33 Try.underlying3 c3 e4
  simp at q0 q1 q2 q3 q4
  subst q0 q1 q2 q3 q4
  unfold maxLen at hcb
  clear hA0 hval0
  refine (dvoid_walk kd n nm PB PL nb cb nl cl (by omega) W).mono fun e W' ⟨he, bel⟩ => ?_
  subst he
  exact ⟨_, rfl, _, _, _, [], _, [], hW', trodAll_mk1 (shut_bool Try.underlying4 _), (trodAll_cons_mk (Below.trod laidOut (by kernel_rfl) (of_decide_eq_true (by kernel_rfl)) k0 bel lt0) trodAll_mk0), rfl, bel.frame _, fun h => by cases h⟩

theorem over : Rows.disksVoidRow.holds Try.pinned (OpenSpec.ofChange Rows.disksVoidSpec) :=
  OpenClaim.holds_of_wide 5 Try.f5 rfl rfl rfl rfl rfl rfl rfl ⟨rfl, rfl, rfl, rfl, rfl⟩ rfl rfl rfl rfl rfl (by kernel_rfl) Try.func5 (by kernel_rfl)
    (of_decide_eq_true (by kernel_rfl)) (by unfold Func.isWrapper; first | (rw [if_pos (by decide +kernel)]; kernel_rfl) | (rw [if_neg (by decide +kernel)]; exact ⟨rfl, rfl⟩))
    (fun os started H enc _ => lifted os started H enc)

theorem proved : Rows.DisksVoidSaid := over
end Go.Proofs.Ytojafgijhbnjoaa.disksVoid
