/- Countinghouse's statement DisksPlay holds: for every slice of acts the law returns true; no condition. -/
import Derived.Test.YtenobcfgapolhaaRows
import Derived.Test.YtenobcfgapolhaaRpe
import Derived.Test.YtenobcfgapolhaaOpz
import Derived.WalkKit
import Derived.ProofKit
import Derived.OpenShut
import Derived.ShutString
import Derived.ChangeOld
import Derived.Below
namespace Go.Proofs.Ytenobcfgapolhaa.disksPlay
open Go.ChangeShapes Go.WideShapes Go.ChangeAt Go.RowKit
open Go.ChangeMaps (open_string shut_string)
set_option linter.unusedVariables false

theorem own : ownKnob Try.prog.godebug = none := by kernel_rfl
theorem laidOut : laidOutB Try.prog = true := by kernel_rfl

theorem cellsA : Try.prog.cellsOf 35 = 5 := by kernel_rfl
instance : Inhabited ActR := ⟨⟨0, ⟨#[]⟩, .slice none 0 0, [], 0, .slice none 0 0, []⟩⟩
/-- One act. -/
theorem act_row {H : Type} {enc : TypeId × Value → H} {w : World} {base : Nat} {spare : Nat → Bool} {held : Bool} {n : Nat} {cs : List Value} {y : DataW H × List MemPlace} (hl : cs.length = 5)
    (h : DataW.trod enc Try.prog w base spare held n 35 cs = some y) (hw : ∀ m ∈ y.1.weights Try.prog 35, m ≤ reachBytes) : ∃ r : ActR, cs = actC r ∧ ActOk w r ∧ ActSz r := by
  have c3 : Try.prog.cellsOf 3 = 1 := by kernel_rfl
  have c5 : Try.prog.cellsOf 5 = 1 := by kernel_rfl
  have c9 : Try.prog.cellsOf 9 = 1 := by kernel_rfl
  have cB : Try.prog.cellsOf 32 = 1 := by kernel_rfl
  have cI : Try.prog.cellsOf 33 = 1 := by kernel_rfl
  obtain ⟨a0, a1, a2, a3, a4, rfl⟩ := len5 hl
  obtain ⟨_, fields⟩ := open_fields Try.underlying35 h
  obtain ⟨n0, y0, e0⟩ := fields 0 _ rfl
  obtain ⟨n1, y1, e1, s1⟩ := fields_w Try.underlying35 h 1 _ rfl
  obtain ⟨n2, y2, e2, s2⟩ := fields_w Try.underlying35 h 2 _ rfl
  obtain ⟨n3, y3, e3⟩ := fields 3 _ rfl
  obtain ⟨n4, y4, e4, s4⟩ := fields_w Try.underlying35 h 4 _ rfl
  simp [c3, c5, c9, cB, cI] at e0 e1 e2 e3 e4
  obtain ⟨kd, q0, _, w0⟩ := DataW.trod_int Try.underlying5 e0
  obtain ⟨nm, q1, hy1, _⟩ := DataW.trod_string Try.underlying9 e1
  obtain ⟨PB, nb, cb, zb, q2, hzb, hnb, hcb, rb, wb, -⟩ := open_rd Try.underlying32 Try.underlying5 c5 e2
  obtain ⟨n, q3, _, w3⟩ := DataW.trod_int Try.underlying3 e3
  obtain ⟨PL, nl, cl, zl, q4, hzl, hnl, hcl, rl, wl, -⟩ := open_rd Try.underlying33 Try.underlying3 c3 e4
  simp at q0 q1 q2 q3 q4
  subst q0 q1 q2 q3 q4
  subst hzb hzl
  have hlb := slice_w Try.underlying32 (of_decide_eq_true (by kernel_rfl)) e2 (fun m hm => hw m (s2 m hm))
  have hll := slice_w Try.underlying33 (of_decide_eq_true (by kernel_rfl)) e4 (fun m hm => hw m (s4 m hm))
  have hnz := hw nm.data.toList.length (s1 _ (by rw [hy1, DataW.weights]; exact List.mem_singleton.2 rfl))
  unfold reachBytes at hlb hll hnz
  have hns : nm.data.toList.length = nm.size := Array.length_toList
  exact ⟨⟨kd, nm, _, zb, n, _, zl⟩, rfl, ⟨rb, fun c hc => wf_byt (wb c hc), rl, fun x hx => wf_i64 (wl x hx), wf_byt w0, (wf_i64 w3).2, by simp only; omega⟩, by simp only [ActSz]; omega⟩

set_option maxRecDepth 100000 in
theorem lifted (os : Os) (started : os.Started) (H : Type) (enc : TypeId × Value → H) :
    ReturnsInHanded {} Try.checked os 3 .any (Rows.disksPlaySpec.pre6 enc Try.prog Try.f3 Rows.disksPlayRow.domain false) (Rows.disksPlaySpec.post enc Try.prog Try.f3 false true false false) := by
  refine returnsInHanded_of_change_sized (C := Try.checked) own started (by kernel_rfl) Try.func3
    (ChangeSpec.witness6 (enc := enc) (C := Try.checked) false ⟨#[], #[.slice none 0 0], []⟩ 8 (by kernel_rfl) (by kernel_rfl) (by kernel_rfl) (by kernel_rfl)) ?_
  intro W base args ds gs before hval0 hW hcnd hsz0 _
  have hval : ∀ (j : Nat) t v, Try.f3.params[j]? = some t → args[j]? = some v → Value.okWide Try.prog W .any base t v := hval0
  have hW' := hW
  obtain ⟨p, q, hA0, hV, rfl, hfz, hnd⟩ := hW
  have hA : DataW.TrodAll enc Try.prog W 0 (fun _ => true) true Try.f3.params.toList args.toList ds p := hA0
  rw [Try.params3] at hA hval
  obtain ⟨v0, vs0, d0, ds0, p0, q0, hargs, rfl, rfl, h0, r0⟩ := trodAll_cons hA
  obtain ⟨rfl, rfl, rfl⟩ := trodAll_nil r0
  obtain rfl : args = #[v0] := by cases args; simp_all
  obtain ⟨rfl, rfl⟩ := trodVars_none hV
  have k0 := h0
  have lt0 : ∀ x ∈ p0, x.block < W.heap.size := by obtain ⟨m, hm⟩ := k0; exact DataW.trod_lt m _ _ _ hm
  obtain ⟨a0, len0, cap0, rfl⟩ := okWide_slice Try.underlying22 (hval 0 22 v0 rfl rfl)
  obtain ⟨fuel, hf⟩ := h0
  obtain ⟨A, n, c, rs, hcs, hn, hrd, hok⟩ := open_rows actC (fun r => ActOk W r ∧ ActSz r) actC_len (by decide) Try.underlying22 cellsA (fun cs' n y hl hy hw => act_row hl hy hw) hf (fun k hk => by simpa using List.all_eq_true.1 hsz0 k (DataW.weights_mem_each (j := 0) rfl rfl k hk))
  simp [Value.cells] at hcs
  obtain ⟨rfl, rfl, rfl⟩ := hcs
  subst hn
  clear hA0 hval0
  refine (dplay_walk _ rs W ⟨hrd, fun r hr => (hok r hr).1⟩ fun r hr => (hok r hr).2).mono fun e W' ⟨he, bel⟩ => ?_
  subst he
  exact ⟨_, rfl, _, _, _, [], _, [], hW', trodAll_mk1 (shut_bool Try.underlying4 _), (trodAll_cons_mk (Below.trod laidOut (by kernel_rfl) (of_decide_eq_true (by kernel_rfl)) k0 bel lt0) trodAll_mk0), rfl, bel.frame _, fun h => by cases h⟩

theorem over : Rows.disksPlayRow.holds Try.pinned (OpenSpec.ofChange Rows.disksPlaySpec) :=
  OpenClaim.holds_of_wide 3 Try.f3 rfl rfl rfl rfl rfl rfl rfl ⟨rfl, rfl, rfl, rfl, rfl⟩ rfl rfl rfl rfl rfl (by kernel_rfl) Try.func3 (by kernel_rfl)
    (of_decide_eq_true (by kernel_rfl)) (by unfold Func.isWrapper; first | (rw [if_pos (by decide +kernel)]; kernel_rfl) | (rw [if_neg (by decide +kernel)]; exact ⟨rfl, rfl⟩))
    (fun os started H enc _ => lifted os started H enc)

theorem proved : Rows.DisksPlaySaid := over
end Go.Proofs.Ytenobcfgapolhaa.disksPlay
