/- Countinghouse's statement StatesPlay holds (the card): for every slice of acts the law returns true; no condition. -/
import Derived.Test.YtnegondlkfeleaaDoorLai
import Derived.Test.YtnegondlkfeleaaDoorRth
import Derived.Test.YtnegondlkfeleaaDoorOpz
import Derived.WalkKit
import Derived.ProofKit
import Derived.OpenShut
import Derived.LaidMore
import Derived.Stop.Joined
import Derived.SevenTiedAt
import Derived.ChangeOld
import Derived.Below
namespace Go.Proofs.YtnegondlkfeleaaDoor.statesPlay
open Go.ChangeShapes Go.WideShapes Go.ChangeAt Go.RowKit
set_option linter.unusedVariables false

theorem cellsAct : Tryd.prog.cellsOf 76 = 6 := by kernel_rfl
theorem len6 {α : Type} : ∀ {l : List α}, l.length = 6 → ∃ a b c d e f, l = [a, b, c, d, e, f]
  | [a, b, c, d, e, f], _ => ⟨a, b, c, d, e, f, rfl⟩
instance : Inhabited SAct := ⟨⟨0, 0, 0, 0, .slice none 0 0, [], .slice none 0 0, []⟩⟩
theorem wf_u64 {z : Int} (h : (Lit.int .u64 z).wf = true) : 0 ≤ z ∧ z ≤ 18446744073709551615 := by
  simp [Lit.wf, IntKind.min, IntKind.max, IntKind.signed, IntKind.bits] at h
  omega
/-- One act. -/
theorem act_row {H : Type} {enc : TypeId × Value → H} {w : World} {base : Nat} {spare : Nat → Bool} {held : Bool} {n : Nat} {cs : List Value} {y : DataW H × List MemPlace} (hl : cs.length = 6)
    (h : DataW.trod enc Tryd.prog w base spare held n 76 cs = some y) (hw : ∀ m ∈ y.1.weights Tryd.prog 76, m ≤ reachBytes) : ∃ r : SAct, cs = sactC r ∧ SActOk w r := by
  have c3 : Tryd.prog.cellsOf 3 = 1 := by kernel_rfl
  have c5 : Tryd.prog.cellsOf 5 = 1 := by kernel_rfl
  have cU : Tryd.prog.cellsOf 23 = 1 := by kernel_rfl
  have cB : Tryd.prog.cellsOf 25 = 1 := by kernel_rfl
  have cI : Tryd.prog.cellsOf 24 = 1 := by kernel_rfl
  obtain ⟨a0, a1, a2, a3, a4, a5, rfl⟩ := len6 hl
  obtain ⟨_, fields⟩ := open_fields Tryd.underlying76 h
  obtain ⟨n0, y0, e0⟩ := fields 0 _ rfl
  obtain ⟨n1, y1, e1⟩ := fields 1 _ rfl
  obtain ⟨n2, y2, e2⟩ := fields 2 _ rfl
  obtain ⟨n3, y3, e3⟩ := fields 3 _ rfl
  obtain ⟨n4, y4, e4⟩ := fields 4 _ rfl
  obtain ⟨n5, y5, e5, s5⟩ := fields_w Tryd.underlying76 h 5 _ rfl
  simp [c3, c5, cU, cB, cI] at e0 e1 e2 e3 e4 e5
  obtain ⟨kd, q0, _, w0⟩ := DataW.trod_int Tryd.underlying5 e0
  obtain ⟨T, q1, _, w1⟩ := DataW.trod_int Tryd.underlying23 e1
  obtain ⟨V, q2, _, w2⟩ := DataW.trod_int Tryd.underlying5 e2
  obtain ⟨n, q3, _, w3⟩ := DataW.trod_int Tryd.underlying3 e3
  obtain ⟨PL, nl, cl, zl, q4, hzl, hnl, hcl, rl, wl, -⟩ := open_rd Tryd.underlying24 Tryd.underlying3 c3 e4
  obtain ⟨PB, nb, cb, zb, q5, hzb, hnb, hcb, rb, wb, -⟩ := open_rd Tryd.underlying25 Tryd.underlying5 c5 e5
  simp at q0 q1 q2 q3 q4 q5
  subst q0 q1 q2 q3 q4 q5
  subst hzb hzl
  have hlb := slice_w Tryd.underlying25 (of_decide_eq_true (by kernel_rfl)) e5 (fun m hm => hw m (s5 m hm))
  have hlb2 : zb.length ≤ 4611686018427387904 := Nat.le_trans hlb (of_decide_eq_true (by kernel_rfl))
  exact ⟨⟨kd, T, V, n, _, zl, _, zb⟩, rfl, ⟨rb, fun c hc => wf_byt (wb c hc), rl, fun x hx => wf_i64 (wl x hx), wf_byt w0, wf_u64 w1, wf_byt w2, wf_i64 w3, hlb2⟩⟩

set_option maxRecDepth 100000 in
theorem lifted (os : Os) (started : os.Started) (H : Type) (enc : TypeId × Value → H) :
    ReturnsInHanded {} Tryd.checked os 5 .any (fun w args => (Rows.statesPlaySpec.pre enc Tryd.prog Tryd.f5 [] false w args ∧ laidMetH Tryd.prog laid1 w) ∧ sizedMet enc Tryd.prog Tryd.f5 (OpenSpec.ofChange Rows.statesPlaySpec) false w args)
      (Rows.statesPlaySpec.post enc Tryd.prog Tryd.f5 false true false false) := by
  refine returnsInHanded_of_change_and (C := Tryd.checked) (X := fun w _ => laidMetH Tryd.prog laid1 w) (fun _ _ _ hh h => h.of_heap hh) own started (by kernel_rfl) Tryd.func5
    (ChangeSpec.witness_shaped (enc := enc) (C := Tryd.checked) (os := os) (X := fun w _ => laidMetH Tryd.prog laid1 w) false (World.doorLaid Tryd.prog 400 os) #[.slice none 0 0] 8 rfl (World.shaped_of_RefB (by kernel_rfl) (by kernel_rfl)) (by kernel_rfl) (by kernel_rfl) (by kernel_rfl) (door_met os _)) ?_
  intro W base args ds gs before hval0 hW _ hsz0 hL _
  have hval : ∀ (j : Nat) t v, Tryd.f5.params[j]? = some t → args[j]? = some v → Value.okWide Tryd.prog W .any base t v := hval0
  have hW' := hW
  obtain ⟨p, q, hA0, hV, rfl, hfz, hnd⟩ := hW
  have hA : DataW.TrodAll enc Tryd.prog W 0 (fun _ => true) true Tryd.f5.params.toList args.toList ds p := hA0
  rw [Tryd.params5] at hA hval
  obtain ⟨v0, vs0, d0, ds0, p0, q0, hargs, rfl, rfl, h0, r0⟩ := trodAll_cons hA
  obtain ⟨rfl, rfl, rfl⟩ := trodAll_nil r0
  obtain rfl : args = #[v0] := by cases args; simp_all
  obtain ⟨rfl, rfl⟩ := trodVars_none hV
  have k0 := h0
  have lt0 : ∀ x ∈ p0, x.block < W.heap.size := by obtain ⟨m, hm⟩ := k0; exact DataW.trod_lt m _ _ _ hm
  obtain ⟨a0, len0, cap0, rfl⟩ := okWide_slice Tryd.underlying63 (hval 0 63 v0 rfl rfl)
  obtain ⟨fuel, hf⟩ := h0
  obtain ⟨A, n, c, rs, hcs, hn, hrd, hok⟩ := open_rows sactC (SActOk W) sactC_len (by decide) Tryd.underlying63 cellsAct (fun cs' n y hl hy hw => act_row hl hy hw) hf (fun k hk => by simpa using List.all_eq_true.1 hsz0 k (DataW.weights_mem_each (j := 0) rfl rfl k hk))
  simp [Value.cells] at hcs
  obtain ⟨rfl, rfl, rfl⟩ := hcs
  subst hn
  have T := of_laid hL
  clear hA0 hval0
  refine (splay_walk _ rs W ⟨hrd, hok⟩ T).mono fun e W' ⟨he, bel⟩ => ?_
  subst he
  exact ⟨_, rfl, _, _, _, [], _, [], hW', trodAll_mk1 (shut_bool Tryd.underlying4 _), (trodAll_cons_mk (Below.trod laidOut (by kernel_rfl) (of_decide_eq_true (by kernel_rfl)) k0 bel lt0) trodAll_mk0), rfl, bel.frame _, fun h => by cases h⟩
theorem over : Rows.StatesPlaySaid :=
  OpenClaim.holds_of_wide 5 Tryd.f5 rfl rfl rfl rfl rfl rfl rfl ⟨rfl, rfl, rfl, rfl, rfl⟩ rfl rfl rfl rfl rfl (by kernel_rfl) Tryd.func5 (by kernel_rfl)
    (of_decide_eq_true (by kernel_rfl)) (by unfold Func.isWrapper; first | (rw [if_pos (by decide +kernel)]; kernel_rfl) | (rw [if_neg (by decide +kernel)]; exact ⟨rfl, rfl⟩))
    (fun os started H enc _ => lifted os started H enc)

/-- The tied card. -/
theorem proved : Rows.StatesPlayCardSaid :=
  Claim7.holds_tied_plain_at .later [] [.data] true _ true
    over (fun _ h => by cases h) (by kernel_rfl) (fun _ h => by cases h) statesPlay_row_tie rfl ⟨rfl, rfl⟩ (by kernel_rfl) rfl
    (fun f fn hf hfn => by
      obtain rfl : f = 5 := Option.some.inj ((show Tryd.prog.funcNamed "countinghouse/countinghouselaw20.StatesPlay" = some 5 by kernel_rfl).symm.trans hf) |>.symm
      obtain rfl : fn = Tryd.f5 := (Option.some.inj (Tryd.func5.symm.trans hfn)).symm
      exact ⟨by kernel_rfl, fun j t ht => by
        rw [Tryd.params5] at ht
        have hm : t ∈ [63] := by simpa using Array.mem_of_getElem? ht
        have hall : ([63].all fun u => !Tryd.prog.wantsStandIn u) = true := by kernel_rfl
        exact (show Tryd.prog.wantsStandIn t = false by simpa using List.all_eq_true.1 hall t hm)⟩)
    (by kernel_rfl)
end Go.Proofs.YtnegondlkfeleaaDoor.statesPlay
