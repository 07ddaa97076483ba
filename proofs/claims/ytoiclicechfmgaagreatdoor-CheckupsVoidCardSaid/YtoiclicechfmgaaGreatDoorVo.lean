/- How a file of the law reads. -/
import Derived.Test.YtoiclicechfmgaaGreatDoorLai
import Derived.Test.YtoiclicechfmgaaGreatDoorVa
import Derived.Test.YtoiclicechfmgaaGreatDoorOpz
import Derived.ChangeOld
namespace Go.Proofs.YtoiclicechfmgaaGreatDoor
open Go.ChangeShapes Go.WideShapes Go.ChangeAt Go.RowKit

theorem cellsFl : Tryz.prog.cellsOf 24 = 2 := by kernel_rfl
theorem len2_ {α : Type} : ∀ {l : List α}, l.length = 2 → ∃ a b, l = [a, b]
  | [a, b], _ => ⟨a, b, rfl⟩
instance : Inhabited FlR := ⟨⟨⟨#[]⟩, .slice none 0 0, []⟩⟩
/-- One file. -/
theorem file_row {H : Type} {enc : TypeId × Value → H} {w : World} {base : Nat} {spare : Nat → Bool} {held : Bool} {n : Nat} {cs : List Value} {y : DataW H × List MemPlace} (hl : cs.length = 2)
    (h : DataW.trod enc Tryz.prog w base spare held n 24 cs = some y) (hw : ∀ m ∈ y.1.weights Tryz.prog 24, m ≤ reachBytes) : ∃ r : FlR, cs = flR r ∧ FrOk w r := by
  have c5 : Tryz.prog.cellsOf 5 = 1 := by kernel_rfl
  have c9 : Tryz.prog.cellsOf 9 = 1 := by kernel_rfl
  have cB : Tryz.prog.cellsOf 22 = 1 := by kernel_rfl
  obtain ⟨a0, a1, rfl⟩ := len2_ hl
  obtain ⟨n0, y0, e0, s0⟩ := fields_w Tryz.underlying24 h 0 _ rfl
  obtain ⟨n1, y1, e1, s1⟩ := fields_w Tryz.underlying24 h 1 _ rfl
  simp [c9, cB] at e0 e1
  obtain ⟨nm, q0, hy0, _⟩ := DataW.trod_string Tryz.underlying9 e0
  obtain ⟨PB, nb, cb, zb, q1, hzb, hnb, hcb, rb, wb, -⟩ := open_rd Tryz.underlying22 Tryz.underlying5 c5 e1
  simp at q0 q1
  subst q0 q1
  subst hzb
  have hlb := slice_w Tryz.underlying22 (of_decide_eq_true (by kernel_rfl)) e1 (fun m hm => hw m (s1 m hm))
  have hnz := hw nm.data.toList.length (s0 _ (by rw [hy0, DataW.weights]; exact List.mem_singleton.2 rfl))
  unfold reachBytes at hlb hnz
  have hns : nm.data.toList.length = nm.size := Array.length_toList
  exact ⟨⟨nm, _, zb⟩, rfl, ⟨rb, fun c hc => wf_byt (wb c hc), by simp only; omega, by simp only; omega⟩⟩
end Go.Proofs.YtoiclicechfmgaaGreatDoor
