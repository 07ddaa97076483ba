/- The table of sums, laid: what each statement of the seat begins with. -/
import Derived.Test.YtoiclicechfmgaaGreatDoorCards
import Derived.Test.YtoiclicechfmgaaGreatDoorTie
import Derived.Test.YtoiclicechfmgaaGreatDoorNuz
import Derived.WalkKit
import Derived.ProofKit
import Derived.OpenShut
import Derived.LaidMore
import Derived.Stop.Joined
import Derived.SevenTiedAt
import Derived.ChangeOld
import Derived.Below
namespace Go.Proofs.YtoiclicechfmgaaGreatDoor
open Go.ChangeShapes Go.WideShapes Go.ChangeAt Go.RowKit

theorem own : ownKnob Tryz.prog.godebug = none := by kernel_rfl
theorem laidOut : laidOutB Tryz.prog = true := by kernel_rfl
theorem gTab : Tryz.prog.globalNamed "countinghouse/sums.table" = some 0 := by kernel_rfl
abbrev laid1 : List (String × DataW Unit) := [("countinghouse/sums.table", Rows.laid_countinghouse_sums_table)]
theorem door_met (os : Os) (args : Array Value) : laidMetH Tryz.prog laid1 ((World.doorLaid Tryz.prog 400 os).forCall (fun _ _ => 0) ⟨#[], args, []⟩).memory :=
  laidMetH_of_parts3 (fuel := 8) (laidMet_of_run' 8 (by kernel_rfl) (by kernel_rfl)) (by kernel_rfl) (by kernel_rfl)

set_option maxRecDepth 100000 in
theorem of_laid {W : World} (h : laidMetH Tryz.prog laid1 W) : Tab W := by
  rw [MakeChecks.laidMetH_plain _ _ _ (by kernel_rfl)] at h
  obtain ⟨ps, ⟨g0, t0, cs0, f0, p0, q0, hg0, ht0, hv0, hd0, _⟩, _⟩ := h
  obtain rfl := Option.some.inj (gTab.symm.trans hg0)
  have tT : (Tryz.prog.globals[0]?).map (·.type) = some 274 := by kernel_rfl
  obtain rfl := Option.some.inj (tT.symm.trans ht0)
  obtain ⟨xs, m, _, hx, hl, hn, hh⟩ := DataW.trod_array Tryz.underlying274 hd0
  have cU : Tryz.prog.cellsOf 191 = 1 := by kernel_rfl
  have cT : Tryz.prog.cellsOf 274 = 16 := by kernel_rfl
  have hL : xs.map (·.1) = tabL.map fun z => DataW.lit (.int .u32 z) := by
    have h1 := congrArg Prod.fst hx
    have h2 : (Rows.laid_countinghouse_sums_table : DataW Unit) = .agg (tabL.map fun z => DataW.lit (.int .u32 z)) := rfl
    simp only at h1
    rw [h2] at h1
    injection h1 with h1
    exact h1.symm
  intro i hi
  rw [World.var?_cell hg0 hv0 i]
  have h1 := hh i hi
  have hcs : i < cs0.toList.length := by omega
  have hxi : i < xs.length := by omega
  rw [cU, Nat.mul_one, List.getElem?_eq_getElem hxi, List.drop_eq_getElem_cons hcs, List.take_succ_cons, List.take_zero] at h1
  obtain ⟨n, e1, e2, _⟩ := DataW.trod_int Tryz.underlying191 h1
  have h3 := congrArg (fun l => l[i]?) hL
  simp only [List.getElem?_map, List.getElem?_eq_getElem hxi, Option.map_some, e2] at h3
  have hi2 : i < tabL.length := hi
  rw [List.getElem?_eq_getElem hi2, Option.map_some] at h3
  injection h3 with h3
  injection h3 with h3
  injection h3 with _ h3
  injection e1 with e1
  rw [Array.getElem?_eq_getElem (by simpa using hcs), List.getD_eq_getElem?_getD, List.getElem?_eq_getElem hi2, Option.getD_some, ← h3, ← e1]
  simp
end Go.Proofs.YtoiclicechfmgaaGreatDoor
