/- Countinghouse's statement PacksState holds: for every state the law returns true; no condition. -/
import Derived.Test.YtielnocnnffdfaaRows
import Derived.Test.YtielnocnnffdfaaPtw
import Derived.Test.YtielnocnnffdfaaOpnR
import Derived.WalkKit
import Derived.ProofKit
import Derived.OpenShut
import Derived.ShutString
import Derived.ChangeOld
import Derived.Below
namespace Go.Proofs.Ytielnocnnffdfaa.packsState
open Go.ChangeShapes Go.WideShapes Go.ChangeAt Go.RowKit
open Go.ChangeMaps (open_string shut_string)
set_option linter.unusedVariables false

theorem own : ownKnob Try.prog.godebug = none := by kernel_rfl
theorem laidOut : laidOutB Try.prog = true := by kernel_rfl

section
variable {H : Type} {enc : TypeId × Value → H} {w : World} {base : Nat} {spare : Nat → Bool} {held : Bool}
theorem wf_u64 {z : Int} (h : (Lit.int .u64 z).wf = true) : 0 ≤ z ∧ z ≤ 18446744073709551615 := by
  simp [Lit.wf, IntKind.min, IntKind.max, IntKind.signed, IntKind.bits] at h
  omega
theorem len7 {α : Type} : ∀ {l : List α}, l.length = 7 → ∃ a b c d e f g, l = [a, b, c, d, e, f, g]
  | [a, b, c, d, e, f, g], _ => ⟨a, b, c, d, e, f, g, rfl⟩
theorem cU : Try.prog.cellsOf 28 = 1 := by kernel_rfl
theorem cL : Try.prog.cellsOf 2 = 1 := by kernel_rfl
theorem cP : Try.prog.cellsOf 146 = 1 := by kernel_rfl
theorem cC : Try.prog.cellsOf 148 = 1 := by kernel_rfl
theorem cR : Try.prog.cellsOf 153 = 2 := by kernel_rfl
theorem cLn : Try.prog.cellsOf 150 = 5 := by kernel_rfl
theorem cOf : Try.prog.cellsOf 155 = 7 := by kernel_rfl
theorem cSt : Try.prog.cellsOf 93 = 4 := by kernel_rfl
theorem cS0 : Try.prog.cellsOf 89 = 1 := by kernel_rfl
theorem cS1 : Try.prog.cellsOf 90 = 1 := by kernel_rfl
theorem cS2 : Try.prog.cellsOf 91 = 1 := by kernel_rfl
theorem party_row {n : Nat} {cs : List Value} {y : DataW H × List MemPlace} (hl : cs.length = 1) (h : DataW.trod enc Try.prog w base spare held n 146 cs = some y) : ∃ r, cs = fc partyK r ∧ fok partyK r := by
  obtain ⟨a0, rfl⟩ := len1 hl
  obtain ⟨k0, q0, _, w0⟩ := DataW.trod_int Try.underlying146 h
  simp at q0
  subst q0
  exact ⟨[k0], rfl, wf_byt w0, rfl⟩
theorem line_row {n : Nat} {cs : List Value} {y : DataW H × List MemPlace} (hl : cs.length = 5) (h : DataW.trod enc Try.prog w base spare held n 150 cs = some y) : ∃ r, cs = fc lineK r ∧ fok lineK r := by
  obtain ⟨a0, a1, a2, a3, a4, rfl⟩ := len5 hl
  obtain ⟨_, fields⟩ := open_fields Try.underlying150 h
  obtain ⟨n0, y0, e0⟩ := fields 0 _ rfl
  obtain ⟨n1, y1, e1⟩ := fields 1 _ rfl
  obtain ⟨n2, y2, e2⟩ := fields 2 _ rfl
  obtain ⟨n3, y3, e3⟩ := fields 3 _ rfl
  obtain ⟨n4, y4, e4⟩ := fields 4 _ rfl
  simp [cP, cC, cL] at e0 e1 e2 e3 e4
  obtain ⟨k0, q0, _, w0⟩ := DataW.trod_int Try.underlying146 e0
  obtain ⟨k1, q1, _, w1⟩ := DataW.trod_int Try.underlying146 e1
  obtain ⟨k2, q2, _, w2⟩ := DataW.trod_int Try.underlying148 e2
  obtain ⟨k3, q3, _, w3⟩ := DataW.trod_int Try.underlying2 e3
  obtain ⟨k4, q4, _, w4⟩ := DataW.trod_int Try.underlying2 e4
  simp at q0 q1 q2 q3 q4
  subst q0 q1 q2 q3 q4
  exact ⟨[k0, k1, k2, k3, k4], rfl, wf_byt w0, wf_byt w1, wf_byt w2, wf_i64 w3, wf_i64 w4, rfl⟩
theorem offer_row {n : Nat} {cs : List Value} {y : DataW H × List MemPlace} (hl : cs.length = 7) (h : DataW.trod enc Try.prog w base spare held n 155 cs = some y) : ∃ r, cs = fc offerK r ∧ fok offerK r := by
  obtain ⟨a0, a1, a2, a3, a4, a5, a6, rfl⟩ := len7 hl
  obtain ⟨_, fields⟩ := open_fields Try.underlying155 h
  obtain ⟨n0, y0, e0⟩ := fields 0 _ rfl
  obtain ⟨n1, y1, e1⟩ := fields 1 _ rfl
  obtain ⟨n2, y2, e2⟩ := fields 2 _ rfl
  obtain ⟨n3, y3, e3⟩ := fields 3 _ rfl
  obtain ⟨n4, y4, e4⟩ := fields 4 _ rfl
  obtain ⟨n5, y5, e5⟩ := fields 5 _ rfl
  simp [cP, cC, cL, cU, cR] at e0 e1 e2 e3 e4 e5
  obtain ⟨_, rat⟩ := open_fields Try.underlying153 e5
  obtain ⟨n6, y6, e6⟩ := rat 0 _ rfl
  obtain ⟨n7, y7, e7⟩ := rat 1 _ rfl
  simp [cL] at e6 e7
  obtain ⟨k0, q0, _, w0⟩ := DataW.trod_int Try.underlying28 e0
  obtain ⟨k1, q1, _, w1⟩ := DataW.trod_int Try.underlying146 e1
  obtain ⟨k2, q2, _, w2⟩ := DataW.trod_int Try.underlying148 e2
  obtain ⟨k3, q3, _, w3⟩ := DataW.trod_int Try.underlying148 e3
  obtain ⟨k4, q4, _, w4⟩ := DataW.trod_int Try.underlying2 e4
  obtain ⟨k5, q5, _, w5⟩ := DataW.trod_int Try.underlying2 e6
  obtain ⟨k6, q6, _, w6⟩ := DataW.trod_int Try.underlying2 e7
  simp at q0 q1 q2 q3 q4 q5 q6
  subst q0 q1 q2 q3 q4 q5 q6
  exact ⟨[k0, k1, k2, k3, k4, k5, k6], rfl, wf_u64 w0, wf_byt w1, wf_byt w2, wf_byt w3, wf_i64 w4, wf_i64 w5, wf_i64 w6, rfl⟩
theorem open_state {n : Nat} {cs : List Value} {y : DataW H × List MemPlace} (h : DataW.trod enc Try.prog w base spare held n 93 cs = some y) (hw : ∀ m ∈ y.1.weights Try.prog 93, m ≤ reachBytes) :
    ∃ r0 A0 c0 r1 A1 c1 r2 A2 c2 x3, cs = [.slice A0 (List.length r0) c0, .slice A1 (List.length r1) c1, .slice A2 (List.length r2) c2, .int .u64 x3] ∧ (∀ q ∈ r0, fok partyK q) ∧ Partys w (.slice A0 (List.length r0) c0) r0 ∧ (∀ q ∈ r1, fok lineK q) ∧ Lines w (.slice A1 (List.length r1) c1) r1 ∧ (∀ q ∈ r2, fok offerK q) ∧ Offers w (.slice A2 (List.length r2) c2) r2 ∧ fok1 .u64 x3 := by
  obtain ⟨hl, fields⟩ := open_fields Try.underlying93 h
  obtain ⟨a0, a1, a2, a3, rfl⟩ := len4 (hl.trans cSt)
  obtain ⟨n0, y0, e0, s0⟩ := fields_w Try.underlying93 h 0 _ rfl
  obtain ⟨n1, y1, e1, s1⟩ := fields_w Try.underlying93 h 1 _ rfl
  obtain ⟨n2, y2, e2, s2⟩ := fields_w Try.underlying93 h 2 _ rfl
  obtain ⟨n3, y3, e3⟩ := fields 3 _ rfl
  simp [cS0, cS1, cS2, cU] at e0 e1 e2 e3
  obtain ⟨A0, m0, c0, r0, h0, l0, v0, o0⟩ := open_rows (fc partyK) (fok partyK) fcparty_len (by decide) Try.underlying89 cP (fun cs' n y hl hy _ => party_row hl hy) e0 (fun m hm => hw m (s0 m hm))
  obtain ⟨A1, m1, c1, r1, h1, l1, v1, o1⟩ := open_rows (fc lineK) (fok lineK) fcline_len (by decide) Try.underlying90 cLn (fun cs' n y hl hy _ => line_row hl hy) e1 (fun m hm => hw m (s1 m hm))
  obtain ⟨A2, m2, c2, r2, h2, l2, v2, o2⟩ := open_rows (fc offerK) (fok offerK) fcoffer_len (by decide) Try.underlying91 cOf (fun cs' n y hl hy _ => offer_row hl hy) e2 (fun m hm => hw m (s2 m hm))
  obtain ⟨k3, q3, _, w3⟩ := DataW.trod_int Try.underlying28 e3
  simp at h0 h1 h2 q3
  subst q3 h0 h1 h2 l0 l1 l2
  exact ⟨r0, A0, c0, r1, A1, c1, r2, A2, c2, k3, rfl, o0, v0, o1, v1, o2, v2, wf_u64 w3⟩
end

set_option maxRecDepth 100000 in
theorem lifted (os : Os) (started : os.Started) (H : Type) (enc : TypeId × Value → H) :
    ReturnsInHanded {} Try.checked os 8 .any (Rows.packsStateSpec.pre6 enc Try.prog Try.f8 Rows.packsStateRow.domain false) (Rows.packsStateSpec.post enc Try.prog Try.f8 false true false false) := by
  refine returnsInHanded_of_change_sized (C := Try.checked) own started (by kernel_rfl) Try.func8
    (ChangeSpec.witness6 (enc := enc) (C := Try.checked) false ⟨#[], #[.agg #[.slice none 0 0, .slice none 0 0, .slice none 0 0, .int .u64 0]], []⟩ 8 (by kernel_rfl) (by kernel_rfl) (by kernel_rfl) (by kernel_rfl)) ?_
  intro W base args ds gs before hval0 hW hcnd hsz0 _
  have hval : ∀ (j : Nat) t v, Try.f8.params[j]? = some t → args[j]? = some v → Value.okWide Try.prog W .any base t v := hval0
  have hW' := hW
  obtain ⟨p, q, hA0, hV, rfl, hfz, hnd⟩ := hW
  have hA : DataW.TrodAll enc Try.prog W 0 (fun _ => true) true Try.f8.params.toList args.toList ds p := hA0
  rw [Try.params8] at hA hval
  obtain ⟨v0, vs0, d0, ds0, p0, q0, hargs, rfl, rfl, h0, r0⟩ := trodAll_cons hA
  obtain ⟨rfl, rfl, rfl⟩ := trodAll_nil r0
  obtain rfl : args = #[v0] := by cases args; simp_all
  obtain ⟨rfl, rfl⟩ := trodVars_none hV
  have k0 := h0
  have lt0 : ∀ x ∈ p0, x.block < W.heap.size := by obtain ⟨m, hm⟩ := k0; exact DataW.trod_lt m _ _ _ hm
  obtain ⟨cs0, rfl, hs0⟩ := okWide_struct Try.underlying93 (hval 0 93 v0 rfl rfl)
  obtain ⟨fuel0, hf0⟩ := h0
  obtain ⟨r0, A0, q0, r1, A1, q1, r2, A2, q2, x3, hc0, hin0, hv0, hin1, hv1, hin2, hv2, f3⟩ := open_state (by simpa [Value.cells] using hf0) (fun k hk => by simpa using List.all_eq_true.1 hsz0 k (DataW.weights_mem_each (j := 0) rfl rfl k hk))
  obtain rfl := arr_of hc0
  clear hA0 hval0
  refine (pstate_walk A0 A1 A2 q0 q1 q2 r0 r1 r2 x3 hin0 hin1 hin2 f3 W hv0 hv1 hv2).mono fun e W' ⟨he, bel⟩ => ?_
  subst he
  exact ⟨_, rfl, _, _, _, [], _, [], hW', trodAll_mk1 (shut_bool Try.underlying4 _), (trodAll_cons_mk (Below.trod laidOut (by kernel_rfl) (of_decide_eq_true (by kernel_rfl)) k0 bel lt0) trodAll_mk0), rfl, bel.frame _, fun h => by cases h⟩

theorem over : Rows.packsStateRow.holds Try.pinned (OpenSpec.ofChange Rows.packsStateSpec) :=
  OpenClaim.holds_of_wide 8 Try.f8 rfl rfl rfl rfl rfl rfl rfl ⟨rfl, rfl, rfl, rfl, rfl⟩ rfl rfl rfl rfl rfl (by kernel_rfl) Try.func8 (by kernel_rfl)
    (of_decide_eq_true (by kernel_rfl)) (by unfold Func.isWrapper; first | (rw [if_pos (by decide +kernel)]; kernel_rfl) | (rw [if_neg (by decide +kernel)]; exact ⟨rfl, rfl⟩))
    (fun os started H enc _ => lifted os started H enc)

theorem proved : Rows.PacksStateSaid := over
end Go.Proofs.Ytielnocnnffdfaa.packsState

