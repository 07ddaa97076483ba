/- Countinghouse's statement PacksPut holds: for every entry and reply the law returns true; no condition. -/
import Derived.Test.YtielnocnnffdfaaRows
import Derived.Test.YtielnocnnffdfaaPuw
import Derived.Test.YtielnocnnffdfaaOpnR
import Derived.WalkKit
import Derived.ProofKit
import Derived.OpenShut
import Derived.ShutString
import Derived.ChangeOld
import Derived.Below
namespace Go.Proofs.Ytielnocnnffdfaa.packsPut
open Go.ChangeShapes Go.WideShapes Go.ChangeAt Go.RowKit
open Go.ChangeMaps (open_string shut_string)
set_option linter.unusedVariables false

theorem own : ownKnob Try.prog.godebug = none := by kernel_rfl
theorem laidOut : laidOutB Try.prog = true := by kernel_rfl

section
variable {H : Type} {enc : TypeId × Value → H} {w : World} {base : Nat} {spare : Nat → Bool} {held : Bool}
theorem wf_u64 {z : Int} (h : (Lit.int .u64 z).wf = true) : 0 ≤ z ∧ z ≤ 18446744073709551615 := by
  simp [Lit.wf, IntKind.min, IntKind.max, IntKind.signed, IntKind.bits] at h
  omega
theorem len10 {α : Type} : ∀ {l : List α}, l.length = 10 → ∃ a b c d e f g h i j, l = [a, b, c, d, e, f, g, h, i, j]
  | [a, b, c, d, e, f, g, h, i, j], _ => ⟨a, b, c, d, e, f, g, h, i, j, rfl⟩
theorem c5 : Try.prog.cellsOf 5 = 1 := by kernel_rfl
theorem cU : Try.prog.cellsOf 28 = 1 := by kernel_rfl
theorem cI : Try.prog.cellsOf 3 = 1 := by kernel_rfl
theorem cL : Try.prog.cellsOf 2 = 1 := by kernel_rfl
theorem cK : Try.prog.cellsOf 176 = 1 := by kernel_rfl
theorem cP : Try.prog.cellsOf 146 = 1 := by kernel_rfl
theorem cC : Try.prog.cellsOf 148 = 1 := by kernel_rfl
theorem cE : Try.prog.cellsOf 30 = 1 := by kernel_rfl
theorem cR : Try.prog.cellsOf 153 = 2 := by kernel_rfl
theorem cS : Try.prog.cellsOf 65 = 1 := by kernel_rfl
theorem cG : Try.prog.cellsOf 31 = 1 := by kernel_rfl
theorem cCm : Try.prog.cellsOf 67 = 1 := by kernel_rfl
theorem cCl : Try.prog.cellsOf 69 = 3 := by kernel_rfl
theorem cSt : Try.prog.cellsOf 178 = 10 := by kernel_rfl
theorem cGt : Try.prog.cellsOf 42 = 2 := by kernel_rfl
theorem cEn : Try.prog.cellsOf 71 = 5 := by kernel_rfl
theorem cRe : Try.prog.cellsOf 33 = 3 := by kernel_rfl
theorem step_row {n : Nat} {cs : List Value} {y : DataW H × List MemPlace} (hl : cs.length = 10) (h : DataW.trod enc Try.prog w base spare held n 178 cs = some y) : ∃ r, cs = fc stepK r ∧ fok stepK r := by
  obtain ⟨a0, a1, a2, a3, a4, a5, a6, a7, a8, a9, rfl⟩ := len10 hl
  obtain ⟨_, fields⟩ := open_fields Try.underlying178 h
  obtain ⟨n0, y0, e0⟩ := fields 0 _ rfl
  obtain ⟨n1, y1, e1⟩ := fields 1 _ rfl
  obtain ⟨n2, y2, e2⟩ := fields 2 _ rfl
  obtain ⟨n3, y3, e3⟩ := fields 3 _ rfl
  obtain ⟨n4, y4, e4⟩ := fields 4 _ rfl
  obtain ⟨n5, y5, e5⟩ := fields 5 _ rfl
  obtain ⟨n6, y6, e6⟩ := fields 6 _ rfl
  obtain ⟨n7, y7, e7⟩ := fields 7 _ rfl
  obtain ⟨n8, y8, e8⟩ := fields 8 _ rfl
  simp [cK, cP, cC, cL, cR, cU] at e0 e1 e2 e3 e4 e5 e6 e7 e8
  obtain ⟨_, rat⟩ := open_fields Try.underlying153 e7
  obtain ⟨n9, y9, e9⟩ := rat 0 _ rfl
  obtain ⟨n10, y10, e10⟩ := rat 1 _ rfl
  simp [cL] at e9 e10
  obtain ⟨k0, q0, _, w0⟩ := DataW.trod_int Try.underlying176 e0
  obtain ⟨k1, q1, _, w1⟩ := DataW.trod_int Try.underlying146 e1
  obtain ⟨k2, q2, _, w2⟩ := DataW.trod_int Try.underlying146 e2
  obtain ⟨k3, q3, _, w3⟩ := DataW.trod_int Try.underlying148 e3
  obtain ⟨k4, q4, _, w4⟩ := DataW.trod_int Try.underlying148 e4
  obtain ⟨k5, q5, _, w5⟩ := DataW.trod_int Try.underlying2 e5
  obtain ⟨k6, q6, _, w6⟩ := DataW.trod_int Try.underlying2 e6
  obtain ⟨k7, q7, _, w7⟩ := DataW.trod_int Try.underlying2 e9
  obtain ⟨k8, q8, _, w8⟩ := DataW.trod_int Try.underlying2 e10
  obtain ⟨k9, q9, _, w9⟩ := DataW.trod_int Try.underlying28 e8
  simp at q0 q1 q2 q3 q4 q5 q6 q7 q8 q9
  subst q0 q1 q2 q3 q4 q5 q6 q7 q8 q9
  exact ⟨[k0, k1, k2, k3, k4, k5, k6, k7, k8, k9], rfl, wf_byt w0, wf_byt w1, wf_byt w2, wf_byt w3, wf_byt w4, wf_i64 w5, wf_i64 w6, wf_i64 w7, wf_i64 w8, wf_u64 w9, rfl⟩
theorem got_row {n : Nat} {cs : List Value} {y : DataW H × List MemPlace} (hl : cs.length = 2) (h : DataW.trod enc Try.prog w base spare held n 42 cs = some y) : ∃ r, cs = fc gotK r ∧ fok gotK r := by
  obtain ⟨a0, a1, rfl⟩ := len2 hl
  obtain ⟨_, fields⟩ := open_fields Try.underlying42 h
  obtain ⟨n0, y0, e0⟩ := fields 0 _ rfl
  obtain ⟨n1, y1, e1⟩ := fields 1 _ rfl
  simp [cL] at e0 e1
  obtain ⟨k0, q0, _, w0⟩ := DataW.trod_int Try.underlying2 e0
  obtain ⟨k1, q1, _, w1⟩ := DataW.trod_int Try.underlying2 e1
  simp at q0 q1
  subst q0 q1
  exact ⟨[k0, k1], rfl, wf_i64 w0, wf_i64 w1, rfl⟩
theorem open_entry {n : Nat} {cs : List Value} {y : DataW H × List MemPlace} (h : DataW.trod enc Try.prog w base spare held n 71 cs = some y) (hw : ∀ m ∈ y.1.weights Try.prog 71, m ≤ reachBytes) :
    ∃ x0 x1 x2 x3 r4 A4 c4, cs = [.int .u64 x0, .int .u64 x1, .int .u8 x2, .int .u64 x3, .slice A4 (List.length r4) c4] ∧ fok1 .u64 x0 ∧ fok1 .u64 x1 ∧ fok1 .u8 x2 ∧ fok1 .u64 x3 ∧ (∀ q ∈ r4, fok stepK q) ∧ Steps w (.slice A4 (List.length r4) c4) r4 := by
  obtain ⟨hl, fields⟩ := open_fields Try.underlying71 h
  obtain ⟨a0, a1, a2, a3, a4, rfl⟩ := len5 (hl.trans cEn)
  obtain ⟨n0, y0, e0⟩ := fields 0 _ rfl
  obtain ⟨n1, y1, e1⟩ := fields 1 _ rfl
  obtain ⟨n2, y2, e2, s2⟩ := fields_w Try.underlying71 h 2 _ rfl
  simp [cU, cCl] at e0 e1 e2
  obtain ⟨_, cf⟩ := open_fields Try.underlying69 e2
  obtain ⟨n3, y3, e3⟩ := cf 0 _ rfl
  obtain ⟨n4, y4, e4⟩ := cf 1 _ rfl
  obtain ⟨n5, y5, e5, s5⟩ := fields_w Try.underlying69 e2 2 _ rfl
  simp [cU, c5, cCm] at e3 e4 e5
  obtain ⟨n6, y6, e6, s6⟩ := fields_w Try.underlying67 e5 0 _ rfl
  simp [cS] at e6
  obtain ⟨k0, q0, _, w0⟩ := DataW.trod_int Try.underlying28 e0
  obtain ⟨k1, q1, _, w1⟩ := DataW.trod_int Try.underlying28 e1
  obtain ⟨k2, q2, _, w2⟩ := DataW.trod_int Try.underlying5 e3
  obtain ⟨k3, q3, _, w3⟩ := DataW.trod_int Try.underlying28 e4
  obtain ⟨A, n, c, rs, hcs, hn, hrd, hok⟩ := open_rows (fc stepK) (fok stepK) fcstep_len (by decide) Try.underlying65 cSt (fun cs' n y hl hy _ => step_row hl hy) e6 (fun m hm => hw m (s2 m (s5 m (s6 m hm))))
  simp at q0 q1 q2 q3 hcs
  subst q0 q1 q2 q3 hcs hn
  exact ⟨k0, k1, k2, k3, rs, A, c, rfl, wf_u64 w0, wf_u64 w1, wf_byt w2, wf_u64 w3, hok, hrd⟩
theorem open_reply {n : Nat} {cs : List Value} {y : DataW H × List MemPlace} (h : DataW.trod enc Try.prog w base spare held n 33 cs = some y) (hw : ∀ m ∈ y.1.weights Try.prog 33, m ≤ reachBytes) :
    ∃ E At r2 A2 c2, cs = [.int .i64 E, .int .i64 At, .slice A2 (List.length r2) c2] ∧ fok1 .i64 E ∧ fok1 .i64 At ∧ (∀ q ∈ r2, fok gotK q) ∧ Gots w (.slice A2 (List.length r2) c2) r2 := by
  obtain ⟨hl, fields⟩ := open_fields Try.underlying33 h
  obtain ⟨a0, a1, a2, rfl⟩ := len3 (hl.trans cRe)
  obtain ⟨n0, y0, e0⟩ := fields 0 _ rfl
  obtain ⟨n1, y1, e1⟩ := fields 1 _ rfl
  obtain ⟨n2, y2, e2, s2⟩ := fields_w Try.underlying33 h 2 _ rfl
  simp [cE, cI, cG] at e0 e1 e2
  obtain ⟨k0, q0, _, w0⟩ := DataW.trod_int Try.underlying30 e0
  obtain ⟨k1, q1, _, w1⟩ := DataW.trod_int Try.underlying3 e1
  obtain ⟨A, n, c, rs, hcs, hn, hrd, hok⟩ := open_rows (fc gotK) (fok gotK) fcgot_len (by decide) Try.underlying31 cGt (fun cs' n y hl hy _ => got_row hl hy) e2 (fun m hm => hw m (s2 m hm))
  simp at q0 q1 hcs
  subst q0 q1 hcs hn
  exact ⟨k0, k1, rs, A, c, rfl, wf_i64 w0, wf_i64 w1, hok, hrd⟩
end

set_option maxRecDepth 100000 in
theorem lifted (os : Os) (started : os.Started) (H : Type) (enc : TypeId × Value → H) :
    ReturnsInHanded {} Try.checked os 6 .any (Rows.packsPutSpec.pre6 enc Try.prog Try.f6 Rows.packsPutRow.domain false) (Rows.packsPutSpec.post enc Try.prog Try.f6 false true false false) := by
  refine returnsInHanded_of_change_sized (C := Try.checked) own started (by kernel_rfl) Try.func6
    (ChangeSpec.witness6 (enc := enc) (C := Try.checked) false ⟨#[], #[.agg #[.int .u64 0, .int .u64 0, .int .u8 0, .int .u64 0, .slice none 0 0], .agg #[.int .i64 0, .int .i64 0, .slice none 0 0]], []⟩ 8 (by kernel_rfl) (by kernel_rfl) (by kernel_rfl) (by kernel_rfl)) ?_
  intro W base args ds gs before hval0 hW hcnd hsz0 _
  have hval : ∀ (j : Nat) t v, Try.f6.params[j]? = some t → args[j]? = some v → Value.okWide Try.prog W .any base t v := hval0
  have hW' := hW
  obtain ⟨p, q, hA0, hV, rfl, hfz, hnd⟩ := hW
  have hA : DataW.TrodAll enc Try.prog W 0 (fun _ => true) true Try.f6.params.toList args.toList ds p := hA0
  rw [Try.params6] at hA hval
  obtain ⟨v0, vs0, d0, ds0, p0, q0, hargs, rfl, rfl, h0, r0⟩ := trodAll_cons hA
  obtain ⟨v1, vs1, d1, ds1, p1, q1, rfl, rfl, rfl, h1, r1⟩ := trodAll_cons r0
  obtain ⟨rfl, rfl, rfl⟩ := trodAll_nil r1
  obtain rfl : args = #[v0, v1] := by cases args; simp_all
  obtain ⟨rfl, rfl⟩ := trodVars_none hV
  have k0 := h0
  have lt0 : ∀ x ∈ p0, x.block < W.heap.size := by obtain ⟨m, hm⟩ := k0; exact DataW.trod_lt m _ _ _ hm
  have k1 := h1
  have lt1 : ∀ x ∈ p1, x.block < W.heap.size := by obtain ⟨m, hm⟩ := k1; exact DataW.trod_lt m _ _ _ hm
  obtain ⟨cs0, rfl, hs0⟩ := okWide_struct Try.underlying71 (hval 0 71 v0 rfl rfl)
  obtain ⟨fuel0, hf0⟩ := h0
  obtain ⟨x0, x1, x2, x3, r4, A4, c4, hc0, f0, f1, f2, f3, hin4, hv4⟩ := open_entry (by simpa [Value.cells] using hf0) (fun k hk => by simpa using List.all_eq_true.1 hsz0 k (DataW.weights_mem_each (j := 0) rfl rfl k hk))
  obtain rfl := arr_of hc0
  obtain ⟨cs1, rfl, hs1⟩ := okWide_struct Try.underlying33 (hval 1 33 v1 rfl rfl)
  obtain ⟨fuel1, hf1⟩ := h1
  obtain ⟨E, At, r2, A2, c2, hc1, hE, hA2, hin2, hv2⟩ := open_reply (by simpa [Value.cells] using hf1) (fun k hk => by simpa using List.all_eq_true.1 hsz0 k (DataW.weights_mem_each (j := 1) rfl rfl k hk))
  obtain rfl := arr_of hc1
  clear hA0 hval0
  refine (put_walk x0 x1 x2 x3 r4 A4 c4 E At r2 A2 c2 f0 f1 f2 f3 hin4 hE hA2 hin2 W hv4 hv2).mono fun e W' ⟨he, bel⟩ => ?_
  subst he
  exact ⟨_, rfl, _, _, _, [], _, [], hW', trodAll_mk1 (shut_bool Try.underlying4 _), (trodAll_cons_mk (Below.trod laidOut (by kernel_rfl) (of_decide_eq_true (by kernel_rfl)) k0 bel lt0) (trodAll_cons_mk (Below.trod laidOut (by kernel_rfl) (of_decide_eq_true (by kernel_rfl)) k1 bel lt1) trodAll_mk0)), rfl, bel.frame _, fun h => by cases h⟩

theorem over : Rows.packsPutRow.holds Try.pinned (OpenSpec.ofChange Rows.packsPutSpec) :=
  OpenClaim.holds_of_wide 6 Try.f6 rfl rfl rfl rfl rfl rfl rfl ⟨rfl, rfl, rfl, rfl, rfl⟩ rfl rfl rfl rfl rfl (by kernel_rfl) Try.func6 (by kernel_rfl)
    (of_decide_eq_true (by kernel_rfl)) (by unfold Func.isWrapper; first | (rw [if_pos (by decide +kernel)]; kernel_rfl) | (rw [if_neg (by decide +kernel)]; exact ⟨rfl, rfl⟩))
    (fun os started H enc _ => lifted os started H enc)

theorem proved : Rows.PacksPutSaid := over
end Go.Proofs.Ytielnocnnffdfaa.packsPut
