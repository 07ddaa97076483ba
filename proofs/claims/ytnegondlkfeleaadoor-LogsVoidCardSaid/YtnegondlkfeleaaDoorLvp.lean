/- Countinghouse's statement LogsVoid holds (the card): for every act the law returns true, and the argument stays; no condition. -/
import Derived.Test.YtnegondlkfeleaaDoorCards
import Derived.Test.YtnegondlkfeleaaDoorTie
import Derived.Test.YtnegondlkfeleaaDoorLvw
import Derived.Test.YtnegondlkfeleaaDoorOpz
import Derived.WalkKit
import Derived.ProofKit
import Derived.OpenShut
import Derived.LaidMore
import Derived.Stop.Joined
import Derived.SevenTiedAt
import Derived.ChangeOld
import Derived.Below
namespace Go.Proofs.YtnegondlkfeleaaDoor.logsVoid
open Go.ChangeShapes Go.WideShapes Go.ChangeAt Go.RowKit
set_option linter.unusedVariables false

theorem own : ownKnob Tryd.prog.godebug = none := by kernel_rfl
theorem laidOut : laidOutB Tryd.prog = true := by kernel_rfl
theorem gTab : Tryd.prog.globalNamed "countinghouse/sums.table" = some 0 := by kernel_rfl
abbrev laid1 : List (String × DataW Unit) := [("countinghouse/sums.table", Rows.laid_countinghouse_sums_table)]
theorem door_met (os : Os) (args : Array Value) : laidMetH Tryd.prog laid1 ((World.doorLaid Tryd.prog 400 os).forCall (fun _ _ => 0) ⟨#[], args, []⟩).memory :=
  laidMetH_of_parts3 (fuel := 8) (laidMet_of_run' 8 (by kernel_rfl) (by kernel_rfl)) (by kernel_rfl) (by kernel_rfl)

set_option maxRecDepth 100000 in
theorem of_laid {W : World} (h : laidMetH Tryd.prog laid1 W) : Tab W := by
  rw [MakeChecks.laidMetH_plain _ _ _ (by kernel_rfl)] at h
  obtain ⟨ps, ⟨g0, t0, cs0, f0, p0, q0, hg0, ht0, hv0, hd0, _⟩, _⟩ := h
  obtain rfl := Option.some.inj (gTab.symm.trans hg0)
  have tT : (Tryd.prog.globals[0]?).map (·.type) = some 213 := by kernel_rfl
  obtain rfl := Option.some.inj (tT.symm.trans ht0)
  obtain ⟨xs, m, _, hx, hl, hn, hh⟩ := DataW.trod_array Tryd.underlying213 hd0
  have cU : Tryd.prog.cellsOf 173 = 1 := by kernel_rfl
  have cT : Tryd.prog.cellsOf 213 = 16 := by kernel_rfl
  have hL : xs.map (·.1) = tabL.map fun z => DataW.lit (.int .u32 z) := by
    have h1 := congrArg Prod.fst hx
    have h2 : (Rows.laid_countinghouse_sums_table : DataW Unit) = .agg (tabL.map fun z => DataW.lit (.int .u32 z)) := rfl
    simp only at h1
    rw [h2] at h1
    injection h1 with h1
    exact h1.symm
  intro i hi
  rw [World.var?_cell hg0 hv0 i]
  have h1 := hh i hi
  have hcs : i < cs0.toList.length := by omega
  have hxi : i < xs.length := by omega
  rw [cU, Nat.mul_one, List.getElem?_eq_getElem hxi, List.drop_eq_getElem_cons hcs, List.take_succ_cons, List.take_zero] at h1
  obtain ⟨n, e1, e2, _⟩ := DataW.trod_int Tryd.underlying173 h1
  have h3 := congrArg (fun l => l[i]?) hL
  simp only [List.getElem?_map, List.getElem?_eq_getElem hxi, Option.map_some, e2] at h3
  have hi2 : i < tabL.length := hi
  rw [List.getElem?_eq_getElem hi2, Option.map_some] at h3
  injection h3 with h3
  injection h3 with h3
  injection h3 with _ h3
  injection e1 with e1
  rw [Array.getElem?_eq_getElem (by simpa using hcs), List.getD_eq_getElem?_getD, List.getElem?_eq_getElem hi2, Option.getD_some, ← h3, ← e1]
  simp

set_option maxRecDepth 100000 in
theorem lifted (os : Os) (started : os.Started) (H : Type) (enc : TypeId × Value → H) :
    ReturnsInHanded {} Tryd.checked os 3 .any (fun w args => (Rows.logsVoidSpec.pre enc Tryd.prog Tryd.f3 [] false w args ∧ laidMetH Tryd.prog laid1 w) ∧ sizedMet enc Tryd.prog Tryd.f3 (OpenSpec.ofChange Rows.logsVoidSpec) false w args)
      (Rows.logsVoidSpec.post enc Tryd.prog Tryd.f3 false true false false) := by
  refine returnsInHanded_of_change_and (C := Tryd.checked) (X := fun w _ => laidMetH Tryd.prog laid1 w) (fun _ _ _ hh h => h.of_heap hh) own started (by kernel_rfl) Tryd.func3
    (ChangeSpec.witness_shaped (enc := enc) (C := Tryd.checked) (os := os) (X := fun w _ => laidMetH Tryd.prog laid1 w) false (World.doorLaid Tryd.prog 400 os) #[.agg #[.int .u8 0, .slice none 0 0, .bool false, .int .u64 0, .int .u64 0, .int .i64 0, .slice none 0 0, .slice none 0 0]] 8 rfl (World.shaped_of_RefB (by kernel_rfl) (by kernel_rfl)) (by kernel_rfl) (by kernel_rfl) (by kernel_rfl) (door_met os _)) ?_
  intro W base args ds gs before hval0 hW _ hszd hL _
  have hval : ∀ (j : Nat) t v, Tryd.f3.params[j]? = some t → args[j]? = some v → Value.okWide Tryd.prog W .any base t v := hval0
  have hW' := hW
  obtain ⟨p, q, hA0, hV, rfl, hfz, hnd⟩ := hW
  have hA : DataW.TrodAll enc Tryd.prog W 0 (fun _ => true) true Tryd.f3.params.toList args.toList ds p := hA0
  rw [Tryd.params3] at hA hval
  obtain ⟨v0, vs0, d0, ds0, p0, q0, hargs, rfl, rfl, h0, r0⟩ := trodAll_cons hA
  obtain ⟨rfl, rfl, rfl⟩ := trodAll_nil r0
  obtain rfl : args = #[v0] := by cases args; simp_all
  obtain ⟨rfl, rfl⟩ := trodVars_none hV
  have k0 := h0
  have lt0 : ∀ x ∈ p0, x.block < W.heap.size := by obtain ⟨m, hm⟩ := k0; exact DataW.trod_lt m _ _ _ hm
  obtain ⟨cs0, rfl, hsz0⟩ := okWide_struct Tryd.underlying27 (hval 0 27 v0 rfl rfl)
  have cA0 : Tryd.prog.cellsOf 27 = 8 := by kernel_rfl
  have c5_0 : Tryd.prog.cellsOf 5 = 1 := by kernel_rfl
  have c4_0 : Tryd.prog.cellsOf 4 = 1 := by kernel_rfl
  have c3_0 : Tryd.prog.cellsOf 3 = 1 := by kernel_rfl
  have cW0 : Tryd.prog.cellsOf 23 = 1 := by kernel_rfl
  have cB0 : Tryd.prog.cellsOf 25 = 1 := by kernel_rfl
  have cL0 : Tryd.prog.cellsOf 24 = 1 := by kernel_rfl
  have cE0 : Tryd.prog.cellsOf 22 = 1 := by kernel_rfl
  obtain ⟨a0, a1, a2, a3, a4, a5, a6, a7, hcs0⟩ := Entries.len8 (l := cs0.toList) (by simpa [cA0] using hsz0)
  have hcs'0 := arr_of hcs0
  subst hcs'0
  have hszz0 : ∀ k ∈ d0.weights Tryd.prog 27, k ≤ reachBytes := fun k hk => by simpa using List.all_eq_true.1 hszd k (DataW.weights_mem_each (j := 0) rfl rfl k hk)
  obtain ⟨fuel0, hf0⟩ := h0
  obtain ⟨_, fields0⟩ := open_fields Tryd.underlying27 hf0
  obtain ⟨n0, y0, e0⟩ := fields0 0 _ rfl
  obtain ⟨n1, y1, e1, s1⟩ := fields_w Tryd.underlying27 hf0 1 _ rfl
  obtain ⟨n2, y2, e2⟩ := fields0 2 _ rfl
  obtain ⟨n3, y3, e3⟩ := fields0 3 _ rfl
  obtain ⟨n4, y4, e4⟩ := fields0 4 _ rfl
  obtain ⟨n5, y5, e5⟩ := fields0 5 _ rfl
  obtain ⟨n6, y6, e6⟩ := fields0 6 _ rfl
  obtain ⟨n7, y7, e7⟩ := fields0 7 _ rfl
  simp [Value.cells, c5_0, c4_0, c3_0, cW0, cB0, cL0, cE0] at e0 e1 e2 e3 e4 e5 e6 e7
  obtain ⟨kd, q0, _⟩ := DataW.trod_int Tryd.underlying5 e0
  obtain ⟨Ae, ce, es, q1, hE, hEl⟩ := Entries.open_es e1 (fun m hm => hszz0 m (s1 m hm))
  obtain ⟨nr, rfl⟩ := Entries.open_bool e2
  obtain ⟨tO, q3, _, w3⟩ := DataW.trod_int Tryd.underlying23 e3
  obtain ⟨tm, q4, _⟩ := DataW.trod_int Tryd.underlying23 e4
  obtain ⟨nn, q5, _⟩ := DataW.trod_int Tryd.underlying3 e5
  obtain ⟨Al, nl, cl, zl, q6, hzl, -⟩ := open_rd Tryd.underlying24 Tryd.underlying3 c3_0 e6
  obtain ⟨Ab, nb, cb, zb, q7, hzb, -⟩ := open_rd Tryd.underlying25 Tryd.underlying5 c5_0 e7
  have w3' := Entries.wf_u64 w3
  simp at q0 q1 q3 q4 q5 q6 q7
  subst q0 q1 q3 q4 q5 q6 q7
  have T := of_laid hL
  clear hA0 hval0
  refine (lvoid_walk kd tO tm nn nr Ae Al Ab nl cl nb cb ce es W hE hEl w3'.1 T).mono fun e W' ⟨he, bel⟩ => ?_
  subst he
  exact ⟨_, rfl, _, _, _, [], _, [], hW', trodAll_mk1 (shut_bool Tryd.underlying4 _), (trodAll_cons_mk (Below.trod laidOut (by kernel_rfl) (of_decide_eq_true (by kernel_rfl)) k0 bel lt0) trodAll_mk0), rfl, bel.frame _, fun h => by cases h⟩

theorem over : Rows.LogsVoidSaid :=
  OpenClaim.holds_of_wide 3 Tryd.f3 rfl rfl rfl rfl rfl rfl rfl ⟨rfl, rfl, rfl, rfl, rfl⟩ rfl rfl rfl rfl rfl (by kernel_rfl) Tryd.func3 (by kernel_rfl)
    (of_decide_eq_true (by kernel_rfl)) (by unfold Func.isWrapper; first | (rw [if_pos (by decide +kernel)]; kernel_rfl) | (rw [if_neg (by decide +kernel)]; exact ⟨rfl, rfl⟩))
    (fun os started H enc _ => lifted os started H enc)

/-- The tied card. -/
theorem proved : Rows.LogsVoidCardSaid :=
  Claim7.holds_tied_plain_at .later [] [.data] true _ true
    over (fun _ h => by cases h) (by kernel_rfl) (fun _ h => by cases h) logsVoid_row_tie rfl ⟨rfl, rfl⟩ (by kernel_rfl) rfl
    (fun f fn hf hfn => by
      obtain rfl : f = 3 := Option.some.inj ((show Tryd.prog.funcNamed "countinghouse/countinghouselaw19.LogsVoid" = some 3 by kernel_rfl).symm.trans hf) |>.symm
      obtain rfl : fn = Tryd.f3 := (Option.some.inj (Tryd.func3.symm.trans hfn)).symm
      exact ⟨by kernel_rfl, fun j t ht => by
        rw [Tryd.params3] at ht
        have hm : t ∈ [27] := by simpa using Array.mem_of_getElem? ht
        have hall : ([27].all fun u => !Tryd.prog.wantsStandIn u) = true := by kernel_rfl
        exact (show Tryd.prog.wantsStandIn t = false by simpa using List.all_eq_true.1 hall t hm)⟩)
    (by kernel_rfl)
end Go.Proofs.YtnegondlkfeleaaDoor.logsVoid
