/- Countinghouse's statement LogsOpened holds (the card): for all numbers and bytes the law returns true, and the arguments stay; no condition. -/
import Derived.Test.YtnegondlkfeleaaDoorCards
import Derived.Test.YtnegondlkfeleaaDoorTie
import Derived.Test.YtnegondlkfeleaaDoorLnw
import Derived.Test.YtnegondlkfeleaaDoorOpz
import Derived.WalkKit
import Derived.ProofKit
import Derived.OpenShut
import Derived.LaidMore
import Derived.Stop.Joined
import Derived.SevenTiedAt
import Derived.ChangeOld
import Derived.Below
namespace Go.Proofs.YtnegondlkfeleaaDoor.logsOpened
open Go.ChangeShapes Go.WideShapes Go.ChangeAt Go.RowKit
set_option linter.unusedVariables false

theorem own : ownKnob Tryd.prog.godebug = none := by kernel_rfl
theorem laidOut : laidOutB Tryd.prog = true := by kernel_rfl
theorem gTab : Tryd.prog.globalNamed "countinghouse/sums.table" = some 0 := by kernel_rfl
abbrev laid1 : List (String × DataW Unit) := [("countinghouse/sums.table", Rows.laid_countinghouse_sums_table)]
theorem door_met (os : Os) (args : Array Value) : laidMetH Tryd.prog laid1 ((World.doorLaid Tryd.prog 400 os).forCall (fun _ _ => 0) ⟨#[], args, []⟩).memory :=
  laidMetH_of_parts3 (fuel := 8) (laidMet_of_run' 8 (by kernel_rfl) (by kernel_rfl)) (by kernel_rfl) (by kernel_rfl)

set_option maxRecDepth 100000 in
theorem of_laid {W : World} (h : laidMetH Tryd.prog laid1 W) : Tab W := by
  rw [MakeChecks.laidMetH_plain _ _ _ (by kernel_rfl)] at h
  obtain ⟨ps, ⟨g0, t0, cs0, f0, p0, q0, hg0, ht0, hv0, hd0, _⟩, _⟩ := h
  obtain rfl := Option.some.inj (gTab.symm.trans hg0)
  have tT : (Tryd.prog.globals[0]?).map (·.type) = some 213 := by kernel_rfl
  obtain rfl := Option.some.inj (tT.symm.trans ht0)
  obtain ⟨xs, m, _, hx, hl, hn, hh⟩ := DataW.trod_array Tryd.underlying213 hd0
  have cU : Tryd.prog.cellsOf 173 = 1 := by kernel_rfl
  have cT : Tryd.prog.cellsOf 213 = 16 := by kernel_rfl
  have hL : xs.map (·.1) = tabL.map fun z => DataW.lit (.int .u32 z) := by
    have h1 := congrArg Prod.fst hx
    have h2 : (Rows.laid_countinghouse_sums_table : DataW Unit) = .agg (tabL.map fun z => DataW.lit (.int .u32 z)) := rfl
    simp only at h1
    rw [h2] at h1
    injection h1 with h1
    exact h1.symm
  intro i hi
  rw [World.var?_cell hg0 hv0 i]
  have h1 := hh i hi
  have hcs : i < cs0.toList.length := by omega
  have hxi : i < xs.length := by omega
  rw [cU, Nat.mul_one, List.getElem?_eq_getElem hxi, List.drop_eq_getElem_cons hcs, List.take_succ_cons, List.take_zero] at h1
  obtain ⟨n, e1, e2, _⟩ := DataW.trod_int Tryd.underlying173 h1
  have h3 := congrArg (fun l => l[i]?) hL
  simp only [List.getElem?_map, List.getElem?_eq_getElem hxi, Option.map_some, e2] at h3
  have hi2 : i < tabL.length := hi
  rw [List.getElem?_eq_getElem hi2, Option.map_some] at h3
  injection h3 with h3
  injection h3 with h3
  injection h3 with _ h3
  injection e1 with e1
  rw [Array.getElem?_eq_getElem (by simpa using hcs), List.getD_eq_getElem?_getD, List.getElem?_eq_getElem hi2, Option.getD_some, ← h3, ← e1]
  simp

set_option maxHeartbeats 1000000 in
set_option maxRecDepth 100000 in
theorem lifted (os : Os) (started : os.Started) (H : Type) (enc : TypeId × Value → H) :
    ReturnsInHanded {} Tryd.checked os 4 .any (fun w args => (Rows.logsOpenedSpec.pre enc Tryd.prog Tryd.f4 [] false w args ∧ laidMetH Tryd.prog laid1 w) ∧ sizedMet enc Tryd.prog Tryd.f4 (OpenSpec.ofChange Rows.logsOpenedSpec) false w args)
      (Rows.logsOpenedSpec.post enc Tryd.prog Tryd.f4 false true false false) := by
  refine returnsInHanded_of_change_and (C := Tryd.checked) (X := fun w _ => laidMetH Tryd.prog laid1 w) (fun _ _ _ hh h => h.of_heap hh) own started (by kernel_rfl) Tryd.func4
    (ChangeSpec.witness_shaped (enc := enc) (C := Tryd.checked) (os := os) (X := fun w _ => laidMetH Tryd.prog laid1 w) false (World.doorLaid Tryd.prog 400 os) #[.int .u8 0, .int .u8 0, .slice none 0 0] 8 rfl (World.shaped_of_RefB (by kernel_rfl) (by kernel_rfl)) (by kernel_rfl) (by kernel_rfl) (by kernel_rfl) (door_met os _)) ?_
  intro W base args ds gs before hval0 hW _ hszd hL _
  have hval : ∀ (j : Nat) t v, Tryd.f4.params[j]? = some t → args[j]? = some v → Value.okWide Tryd.prog W .any base t v := hval0
  have hW' := hW
  obtain ⟨p, q, hA0, hV, rfl, hfz, hnd⟩ := hW
  have hA : DataW.TrodAll enc Tryd.prog W 0 (fun _ => true) true Tryd.f4.params.toList args.toList ds p := hA0
  rw [Tryd.params4] at hA hval
  obtain ⟨v0, vs0, d0, ds0, p0, q0, hargs, rfl, rfl, h0, r0⟩ := trodAll_cons hA
  obtain ⟨v1, vs1, d1, ds1, p1, q1, rfl, rfl, rfl, h1, r1⟩ := trodAll_cons r0
  obtain ⟨v2, vs2, d2, ds2, p2, q2, rfl, rfl, rfl, h2, r2⟩ := trodAll_cons r1
  obtain ⟨rfl, rfl, rfl⟩ := trodAll_nil r2
  obtain rfl : args = #[v0, v1, v2] := by cases args; simp_all
  obtain ⟨rfl, rfl⟩ := trodVars_none hV
  have k0 := h0
  have lt0 : ∀ x ∈ p0, x.block < W.heap.size := by obtain ⟨m, hm⟩ := k0; exact DataW.trod_lt m _ _ _ hm
  have k1 := h1
  have lt1 : ∀ x ∈ p1, x.block < W.heap.size := by obtain ⟨m, hm⟩ := k1; exact DataW.trod_lt m _ _ _ hm
  have k2 := h2
  have lt2 : ∀ x ∈ p2, x.block < W.heap.size := by obtain ⟨m, hm⟩ := k2; exact DataW.trod_lt m _ _ _ hm
  obtain ⟨many, rfl⟩ := okWide_int Tryd.underlying5 (hval 0 5 v0 rfl rfl)
  obtain ⟨fuel0, hf0⟩ := h0
  obtain ⟨fu', q0_, _, w0_⟩ := DataW.trod_int Tryd.underlying5 hf0
  simp [Value.cells] at q0_
  subst q0_
  have hb0 := wf_byt w0_
  obtain ⟨to_, rfl⟩ := okWide_int Tryd.underlying5 (hval 1 5 v1 rfl rfl)
  obtain ⟨fuel1, hf1⟩ := h1
  obtain ⟨fu', q1_, _, w1_⟩ := DataW.trod_int Tryd.underlying5 hf1
  simp [Value.cells] at q1_
  subst q1_
  have hb1 := wf_byt w1_
  have c5_2 : Tryd.prog.cellsOf 5 = 1 := by kernel_rfl
  obtain ⟨a2, len2, cap2, rfl⟩ := okWide_slice Tryd.underlying25 (hval 2 25 v2 rfl rfl)
  obtain ⟨fuel2, hf2⟩ := h2
  obtain ⟨Ab, nb, cb, zb, q2_, hzb, hnb, hcb, hrb, hwb, -⟩ := open_rd Tryd.underlying25 Tryd.underlying5 c5_2 hf2
  simp [Value.cells] at q2_
  obtain ⟨rfl, rfl, rfl⟩ := q2_
  subst hzb
  have hbl : zb.length ≤ 9223372036854775807 := Nat.le_trans (Nat.le_trans hnb hcb) (of_decide_eq_true (by kernel_rfl))
  have T := of_laid hL
  clear hA0 hval0
  refine (lopened_walk zb _ _ many to_ W T hrb (fun c hc => wf_byt (hwb c hc)) hb0 hb1 hbl).mono fun e W' ⟨he, bel⟩ => ?_
  subst he
  exact ⟨_, rfl, _, _, _, [], _, [], hW', trodAll_mk1 (shut_bool Tryd.underlying4 _), (trodAll_cons_mk (Below.trod laidOut (by kernel_rfl) (of_decide_eq_true (by kernel_rfl)) k0 bel lt0) (trodAll_cons_mk (Below.trod laidOut (by kernel_rfl) (of_decide_eq_true (by kernel_rfl)) k1 bel lt1) (trodAll_cons_mk (Below.trod laidOut (by kernel_rfl) (of_decide_eq_true (by kernel_rfl)) k2 bel lt2) trodAll_mk0))), rfl, bel.frame _, fun h => by cases h⟩

theorem over : Rows.LogsOpenedSaid :=
  OpenClaim.holds_of_wide 4 Tryd.f4 rfl rfl rfl rfl rfl rfl rfl ⟨rfl, rfl, rfl, rfl, rfl⟩ rfl rfl rfl rfl rfl (by kernel_rfl) Tryd.func4 (by kernel_rfl)
    (of_decide_eq_true (by kernel_rfl)) (by unfold Func.isWrapper; first | (rw [if_pos (by decide +kernel)]; kernel_rfl) | (rw [if_neg (by decide +kernel)]; exact ⟨rfl, rfl⟩))
    (fun os started H enc _ => lifted os started H enc)

/-- The tied card. -/
theorem proved : Rows.LogsOpenedCardSaid :=
  Claim7.holds_tied_plain_at .later [] [.data] true _ true
    over (fun _ h => by cases h) (by kernel_rfl) (fun _ h => by cases h) logsOpened_row_tie rfl ⟨rfl, rfl⟩ (by kernel_rfl) rfl
    (fun f fn hf hfn => by
      obtain rfl : f = 4 := Option.some.inj ((show Tryd.prog.funcNamed "countinghouse/countinghouselaw19.LogsOpened" = some 4 by kernel_rfl).symm.trans hf) |>.symm
      obtain rfl : fn = Tryd.f4 := (Option.some.inj (Tryd.func4.symm.trans hfn)).symm
      exact ⟨by kernel_rfl, fun j t ht => by
        rw [Tryd.params4] at ht
        have hm : t ∈ [5, 5, 25] := by simpa using Array.mem_of_getElem? ht
        have hall : ([5, 5, 25].all fun u => !Tryd.prog.wantsStandIn u) = true := by kernel_rfl
        exact (show Tryd.prog.wantsStandIn t = false by simpa using List.all_eq_true.1 hall t hm)⟩)
    (by kernel_rfl)
end Go.Proofs.YtnegondlkfeleaaDoor.logsOpened
