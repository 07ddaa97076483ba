/- Countinghouse's statement LogsSure holds (the card): for all bytes, fuses and losses the law returns true, and the arguments stay; no condition. -/
import Derived.Test.YtnegondlkfeleaaGreatDoorCards
import Derived.Test.YtnegondlkfeleaaGreatDoorTie
import Derived.Test.YtnegondlkfeleaaGreatDoorLmi
import Derived.Test.YtnegondlkfeleaaGreatDoorOpz
import Derived.WalkKit
import Derived.ProofKit
import Derived.OpenShut
import Derived.LaidMore
import Derived.Stop.Joined
import Derived.SevenTiedAt
import Derived.ChangeOld
import Derived.Below
namespace Go.Proofs.YtnegondlkfeleaaGreatDoor.logsSure
open Go.ChangeShapes Go.WideShapes Go.ChangeAt Go.RowKit
set_option linter.unusedVariables false

theorem own : ownKnob Tryz.prog.godebug = none := by kernel_rfl
theorem laidOut : laidOutB Tryz.prog = true := by kernel_rfl
theorem gTab : Tryz.prog.globalNamed "countinghouse/sums.table" = some 0 := by kernel_rfl
abbrev laid1 : List (String × DataW Unit) := [("countinghouse/sums.table", Rows.laid_countinghouse_sums_table)]
theorem door_met (os : Os) (args : Array Value) : laidMetH Tryz.prog laid1 ((World.doorLaid Tryz.prog 400 os).forCall (fun _ _ => 0) ⟨#[], args, []⟩).memory :=
  laidMetH_of_parts3 (fuel := 8) (laidMet_of_run' 8 (by kernel_rfl) (by kernel_rfl)) (by kernel_rfl) (by kernel_rfl)

set_option maxRecDepth 100000 in
theorem of_laid {W : World} (h : laidMetH Tryz.prog laid1 W) : Tab W := by
  rw [MakeChecks.laidMetH_plain _ _ _ (by kernel_rfl)] at h
  obtain ⟨ps, ⟨g0, t0, cs0, f0, p0, q0, hg0, ht0, hv0, hd0, _⟩, _⟩ := h
  obtain rfl := Option.some.inj (gTab.symm.trans hg0)
  have tT : (Tryz.prog.globals[0]?).map (·.type) = some 179 := by kernel_rfl
  obtain rfl := Option.some.inj (tT.symm.trans ht0)
  obtain ⟨xs, m, _, hx, hl, hn, hh⟩ := DataW.trod_array Tryz.underlying179 hd0
  have cU : Tryz.prog.cellsOf 146 = 1 := by kernel_rfl
  have cT : Tryz.prog.cellsOf 179 = 16 := by kernel_rfl
  have hL : xs.map (·.1) = tabL.map fun z => DataW.lit (.int .u32 z) := by
    have h1 := congrArg Prod.fst hx
    have h2 : (Rows.laid_countinghouse_sums_table : DataW Unit) = .agg (tabL.map fun z => DataW.lit (.int .u32 z)) := rfl
    simp only at h1
    rw [h2] at h1
    injection h1 with h1
    exact h1.symm
  intro i hi
  rw [World.var?_cell hg0 hv0 i]
  have h1 := hh i hi
  have hcs : i < cs0.toList.length := by omega
  have hxi : i < xs.length := by omega
  rw [cU, Nat.mul_one, List.getElem?_eq_getElem hxi, List.drop_eq_getElem_cons hcs, List.take_succ_cons, List.take_zero] at h1
  obtain ⟨n, e1, e2, _⟩ := DataW.trod_int Tryz.underlying146 h1
  have h3 := congrArg (fun l => l[i]?) hL
  simp only [List.getElem?_map, List.getElem?_eq_getElem hxi, Option.map_some, e2] at h3
  have hi2 : i < tabL.length := hi
  rw [List.getElem?_eq_getElem hi2, Option.map_some] at h3
  injection h3 with h3
  injection h3 with h3
  injection h3 with _ h3
  injection e1 with e1
  rw [Array.getElem?_eq_getElem (by simpa using hcs), List.getD_eq_getElem?_getD, List.getElem?_eq_getElem hi2, Option.getD_some, ← h3, ← e1]
  simp

set_option maxHeartbeats 1000000 in
set_option maxRecDepth 100000 in
theorem lifted (os : Os) (started : os.Started) (H : Type) (enc : TypeId × Value → H) :
    ReturnsInHanded {} Tryz.checked os 3 .any (fun w args => (Rows.logsSureSpec.pre enc Tryz.prog Tryz.f3 [] false w args ∧ laidMetH Tryz.prog laid1 w) ∧ sizedMet enc Tryz.prog Tryz.f3 (OpenSpec.ofChange Rows.logsSureSpec) false w args)
      (Rows.logsSureSpec.post enc Tryz.prog Tryz.f3 false true false false) := by
  refine returnsInHanded_of_change_and (C := Tryz.checked) (X := fun w _ => laidMetH Tryz.prog laid1 w) (fun _ _ _ hh h => h.of_heap hh) own started (by kernel_rfl) Tryz.func3
    (ChangeSpec.witness_shaped (enc := enc) (C := Tryz.checked) (os := os) (X := fun w _ => laidMetH Tryz.prog laid1 w) false (World.doorLaid Tryz.prog 400 os) #[.slice none 0 0, .int .u16 0, .int .i64 0] 8 rfl (World.shaped_of_RefB (by kernel_rfl) (by kernel_rfl)) (by kernel_rfl) (by kernel_rfl) (by kernel_rfl) (door_met os _)) ?_
  intro W base args ds gs before hval0 hW _ hszd hL _
  have hval : ∀ (j : Nat) t v, Tryz.f3.params[j]? = some t → args[j]? = some v → Value.okWide Tryz.prog W .any base t v := hval0
  have hW' := hW
  obtain ⟨p, q, hA0, hV, rfl, hfz, hnd⟩ := hW
  have hA : DataW.TrodAll enc Tryz.prog W 0 (fun _ => true) true Tryz.f3.params.toList args.toList ds p := hA0
  rw [Tryz.params3] at hA hval
  obtain ⟨v0, vs0, d0, ds0, p0, q0, hargs, rfl, rfl, h0, r0⟩ := trodAll_cons hA
  obtain ⟨v1, vs1, d1, ds1, p1, q1, rfl, rfl, rfl, h1, r1⟩ := trodAll_cons r0
  obtain ⟨v2, vs2, d2, ds2, p2, q2, rfl, rfl, rfl, h2, r2⟩ := trodAll_cons r1
  obtain ⟨rfl, rfl, rfl⟩ := trodAll_nil r2
  obtain rfl : args = #[v0, v1, v2] := by cases args; simp_all
  obtain ⟨rfl, rfl⟩ := trodVars_none hV
  have k0 := h0
  have lt0 : ∀ x ∈ p0, x.block < W.heap.size := by obtain ⟨m, hm⟩ := k0; exact DataW.trod_lt m _ _ _ hm
  have k1 := h1
  have lt1 : ∀ x ∈ p1, x.block < W.heap.size := by obtain ⟨m, hm⟩ := k1; exact DataW.trod_lt m _ _ _ hm
  have k2 := h2
  have lt2 : ∀ x ∈ p2, x.block < W.heap.size := by obtain ⟨m, hm⟩ := k2; exact DataW.trod_lt m _ _ _ hm
  have c5_0 : Tryz.prog.cellsOf 5 = 1 := by kernel_rfl
  obtain ⟨a0, len0, cap0, rfl⟩ := okWide_slice Tryz.underlying22 (hval 0 22 v0 rfl rfl)
  obtain ⟨fuel0, hf0⟩ := h0
  obtain ⟨Ab, nb, cb, zb, q0_, hzb, hnb, hcb, hrb, hwb, -⟩ := open_rd Tryz.underlying22 Tryz.underlying5 c5_0 hf0
  simp [Value.cells] at q0_
  obtain ⟨rfl, rfl, rfl⟩ := q0_
  subst hzb
  have hbl : zb.length ≤ 9223372036854775807 := Nat.le_trans (Nat.le_trans hnb hcb) (of_decide_eq_true (by kernel_rfl))
  obtain ⟨fu, rfl⟩ := okWide_int Tryz.underlying23 (hval 1 23 v1 rfl rfl)
  obtain ⟨fuel1, hf1⟩ := h1
  obtain ⟨fu', q1_, _, w1_⟩ := DataW.trod_int Tryz.underlying23 hf1
  simp [Value.cells] at q1_
  subst q1_
  have hb1 : 0 ≤ fu ∧ fu ≤ 65535 := by
    simp [Lit.wf, IntKind.min, IntKind.max, IntKind.signed, IntKind.bits] at w1_
    omega
  obtain ⟨lo, rfl⟩ := okWide_int Tryz.underlying3 (hval 2 3 v2 rfl rfl)
  obtain ⟨fuel2, hf2⟩ := h2
  obtain ⟨lo', q2_, _, w2_⟩ := DataW.trod_int Tryz.underlying3 hf2
  simp [Value.cells] at q2_
  subst q2_
  have hb2 := wf_i64 w2_
  have T := of_laid hL
  clear hA0 hval0
  refine (lsure_walk zb _ _ fu lo W T hrb (fun c hc => wf_byt (hwb c hc)) hb1 hb2 hbl).mono fun e W' ⟨he, bel⟩ => ?_
  subst he
  exact ⟨_, rfl, _, _, _, [], _, [], hW', trodAll_mk1 (shut_bool Tryz.underlying4 _), (trodAll_cons_mk (Below.trod laidOut (by kernel_rfl) (of_decide_eq_true (by kernel_rfl)) k0 bel lt0) (trodAll_cons_mk (Below.trod laidOut (by kernel_rfl) (of_decide_eq_true (by kernel_rfl)) k1 bel lt1) (trodAll_cons_mk (Below.trod laidOut (by kernel_rfl) (of_decide_eq_true (by kernel_rfl)) k2 bel lt2) trodAll_mk0))), rfl, bel.frame _, fun h => by cases h⟩

theorem over : Rows.LogsSureSaid :=
  OpenClaim.holds_of_wide 3 Tryz.f3 rfl rfl rfl rfl rfl rfl rfl ⟨rfl, rfl, rfl, rfl, rfl⟩ rfl rfl rfl rfl rfl (by kernel_rfl) Tryz.func3 (by kernel_rfl)
    (of_decide_eq_true (by kernel_rfl)) (by unfold Func.isWrapper; first | (rw [if_pos (by decide +kernel)]; kernel_rfl) | (rw [if_neg (by decide +kernel)]; exact ⟨rfl, rfl⟩))
    (fun os started H enc _ => lifted os started H enc)

/-- The tied card. -/
theorem proved : Rows.LogsSureCardSaid :=
  Claim7.holds_tied_plain_at .later [] [.data] true _ true
    over (fun _ h => by cases h) (by kernel_rfl) (fun _ h => by cases h) logsSure_row_tie rfl ⟨rfl, rfl⟩ (by kernel_rfl) rfl
    (fun f fn hf hfn => by
      obtain rfl : f = 3 := Option.some.inj ((show Tryz.prog.funcNamed "countinghouse/countinghouselaw19.LogsSure" = some 3 by kernel_rfl).symm.trans hf) |>.symm
      obtain rfl : fn = Tryz.f3 := (Option.some.inj (Tryz.func3.symm.trans hfn)).symm
      exact ⟨by kernel_rfl, fun j t ht => by
        rw [Tryz.params3] at ht
        have hm : t ∈ [22, 23, 3] := by simpa using Array.mem_of_getElem? ht
        have hall : ([22, 23, 3].all fun u => !Tryz.prog.wantsStandIn u) = true := by kernel_rfl
        exact (show Tryz.prog.wantsStandIn t = false by simpa using List.all_eq_true.1 hall t hm)⟩)
    (by kernel_rfl)
end Go.Proofs.YtnegondlkfeleaaGreatDoor.logsSure
