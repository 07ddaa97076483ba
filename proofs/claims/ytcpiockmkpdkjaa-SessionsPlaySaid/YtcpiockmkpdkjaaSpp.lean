/- Countinghouse's statement SessionsPlay holds: for every slice of acts the law returns true; no condition. -/
import Derived.Test.YtcpiockmkpdkjaaRows
import Derived.Test.YtcpiockmkpdkjaaSpw
import Derived.Test.YtcpiockmkpdkjaaOpnR
import Derived.WalkKit
import Derived.ProofKit
import Derived.OpenShut
import Derived.ShutString
import Derived.ChangeOld
import Derived.Below
namespace Go.Proofs.Ytcpiockmkpdkjaa.sessionsPlay
open Go.ChangeShapes Go.WideShapes Go.ChangeAt Go.RowKit
open Go.ChangeMaps (open_string shut_string)
set_option linter.unusedVariables false

theorem own : ownKnob Try.prog.godebug = none := by kernel_rfl
theorem laidOut : laidOutB Try.prog = true := by kernel_rfl

section
variable {H : Type} {enc : TypeId × Value → H} {w : World} {base : Nat} {spare : Nat → Bool} {held : Bool}
theorem wf_u64 {z : Int} (h : (Lit.int .u64 z).wf = true) : 0 ≤ z ∧ z ≤ 18446744073709551615 := by
  simp [Lit.wf, IntKind.min, IntKind.max, IntKind.signed, IntKind.bits] at h
  omega
theorem c4 : Try.prog.cellsOf 4 = 1 := by kernel_rfl
theorem c5 : Try.prog.cellsOf 5 = 1 := by kernel_rfl
theorem cU : Try.prog.cellsOf 28 = 1 := by kernel_rfl
theorem cI : Try.prog.cellsOf 3 = 1 := by kernel_rfl
theorem cL : Try.prog.cellsOf 2 = 1 := by kernel_rfl
theorem cE : Try.prog.cellsOf 30 = 1 := by kernel_rfl
theorem cG : Try.prog.cellsOf 31 = 1 := by kernel_rfl
theorem cGt : Try.prog.cellsOf 42 = 2 := by kernel_rfl
theorem cRe : Try.prog.cellsOf 33 = 3 := by kernel_rfl
theorem cellsA : Try.prog.cellsOf 38 = 6 := by kernel_rfl
instance : Inhabited SaR := ⟨⟨false, 0, 0, 0, 0, .slice none 0 0, []⟩⟩
theorem got_row {n : Nat} {cs : List Value} {y : DataW H × List MemPlace} (hl : cs.length = 2) (h : DataW.trod enc Try.prog w base spare held n 42 cs = some y) : ∃ r, cs = fc gotK r ∧ fok gotK r := by
  obtain ⟨a0, a1, rfl⟩ := len2 hl
  obtain ⟨_, fields⟩ := open_fields Try.underlying42 h
  obtain ⟨n0, y0, e0⟩ := fields 0 _ rfl
  obtain ⟨n1, y1, e1⟩ := fields 1 _ rfl
  simp [cL] at e0 e1
  obtain ⟨k0, q0, _, w0⟩ := DataW.trod_int Try.underlying2 e0
  obtain ⟨k1, q1, _, w1⟩ := DataW.trod_int Try.underlying2 e1
  simp at q0 q1
  subst q0 q1
  exact ⟨[k0, k1], rfl, wf_i64 w0, wf_i64 w1, rfl⟩
theorem open_reply {n : Nat} {cs : List Value} {y : DataW H × List MemPlace} (h : DataW.trod enc Try.prog w base spare held n 33 cs = some y) (hw : ∀ m ∈ y.1.weights Try.prog 33, m ≤ reachBytes) :
    ∃ E At r2 A2 c2, cs = [.int .i64 E, .int .i64 At, .slice A2 (List.length r2) c2] ∧ fok1 .i64 E ∧ fok1 .i64 At ∧ (∀ q ∈ r2, fok gotK q) ∧ Gots w (.slice A2 (List.length r2) c2) r2 := by
  obtain ⟨hl, fields⟩ := open_fields Try.underlying33 h
  obtain ⟨a0, a1, a2, rfl⟩ := len3 (hl.trans cRe)
  obtain ⟨n0, y0, e0⟩ := fields 0 _ rfl
  obtain ⟨n1, y1, e1⟩ := fields 1 _ rfl
  obtain ⟨n2, y2, e2, s2⟩ := fields_w Try.underlying33 h 2 _ rfl
  simp [cE, cI, cG] at e0 e1 e2
  obtain ⟨k0, q0, _, w0⟩ := DataW.trod_int Try.underlying30 e0
  obtain ⟨k1, q1, _, w1⟩ := DataW.trod_int Try.underlying3 e1
  obtain ⟨A, n, c, rs, hcs, hn, hrd, hok⟩ := open_rows (fc gotK) (fok gotK) fcgot_len (by decide) Try.underlying31 cGt (fun cs' n y hl hy _ => got_row hl hy) e2 (fun m hm => hw m (s2 m hm))
  simp at q0 q1 hcs
  subst q0 q1 hcs hn
  exact ⟨k0, k1, rs, A, c, rfl, wf_i64 w0, wf_i64 w1, hok, hrd⟩
/-- One act. -/
theorem sa_row {n : Nat} {cs : List Value} {y : DataW H × List MemPlace} (hl : cs.length = 6)
    (h : DataW.trod enc Try.prog w base spare held n 38 cs = some y) (hw : ∀ m ∈ y.1.weights Try.prog 38, m ≤ reachBytes) : ∃ r : SaR, cs = saC r ∧ SaOk w r := by
  obtain ⟨a0, a1, a2, a3, a4, a5, rfl⟩ := len6 hl
  obtain ⟨_, fields⟩ := open_fields Try.underlying38 h
  obtain ⟨n0, y0, e0⟩ := fields 0 _ rfl
  obtain ⟨n1, y1, e1⟩ := fields 1 _ rfl
  obtain ⟨n2, y2, e2⟩ := fields 2 _ rfl
  obtain ⟨n3, y3, e3, s3⟩ := fields_w Try.underlying38 h 3 _ rfl
  simp [c4, c5, cU, cRe] at e0 e1 e2 e3
  obtain ⟨b, q0, _⟩ := DataW.trod_bool Try.underlying4 e0
  obtain ⟨cl, q1, _, w1⟩ := DataW.trod_int Try.underlying5 e1
  obtain ⟨num, q2, _, w2⟩ := DataW.trod_int Try.underlying28 e2
  obtain ⟨E, At, r2, A2, c2, q3, hE, hA, hg, hv⟩ := open_reply e3 (fun m hm => hw m (s3 m hm))
  simp at q0 q1 q2 q3
  obtain ⟨rfl, rfl, rfl⟩ := q3
  subst q0 q1 q2
  exact ⟨⟨b, cl, num, E, At, _, r2⟩, rfl, ⟨hv, hg, wf_byt w1, wf_u64 w2, hE, hA⟩⟩
end

set_option maxRecDepth 100000 in
theorem lifted (os : Os) (started : os.Started) (H : Type) (enc : TypeId × Value → H) :
    ReturnsInHanded {} Try.checked os 3 .any (Rows.sessionsPlaySpec.pre6 enc Try.prog Try.f3 Rows.sessionsPlayRow.domain false) (Rows.sessionsPlaySpec.post enc Try.prog Try.f3 false true false false) := by
  refine returnsInHanded_of_change_sized (C := Try.checked) own started (by kernel_rfl) Try.func3
    (ChangeSpec.witness6 (enc := enc) (C := Try.checked) false ⟨#[], #[.slice none 0 0], []⟩ 8 (by kernel_rfl) (by kernel_rfl) (by kernel_rfl) (by kernel_rfl)) ?_
  intro W base args ds gs before hval0 hW hcnd hsz0 _
  have hval : ∀ (j : Nat) t v, Try.f3.params[j]? = some t → args[j]? = some v → Value.okWide Try.prog W .any base t v := hval0
  have hW' := hW
  obtain ⟨p, q, hA0, hV, rfl, hfz, hnd⟩ := hW
  have hA : DataW.TrodAll enc Try.prog W 0 (fun _ => true) true Try.f3.params.toList args.toList ds p := hA0
  rw [Try.params3] at hA hval
  obtain ⟨v0, vs0, d0, ds0, p0, q0, hargs, rfl, rfl, h0, r0⟩ := trodAll_cons hA
  obtain ⟨rfl, rfl, rfl⟩ := trodAll_nil r0
  obtain rfl : args = #[v0] := by cases args; simp_all
  obtain ⟨rfl, rfl⟩ := trodVars_none hV
  have k0 := h0
  have lt0 : ∀ x ∈ p0, x.block < W.heap.size := by obtain ⟨m, hm⟩ := k0; exact DataW.trod_lt m _ _ _ hm
  obtain ⟨a0, len0, cap0, rfl⟩ := okWide_slice Try.underlying22 (hval 0 22 v0 rfl rfl)
  obtain ⟨fuel, hf⟩ := h0
  obtain ⟨A, n, c, rs, hcs, hn, hrd, hok⟩ := open_rows saC (SaOk W) saC_len (by decide) Try.underlying22 cellsA (fun cs' n y hl hy hw => sa_row hl hy hw) hf (fun k hk => by simpa using List.all_eq_true.1 hsz0 k (DataW.weights_mem_each (j := 0) rfl rfl k hk))
  simp [Value.cells] at hcs
  obtain ⟨rfl, rfl, rfl⟩ := hcs
  subst hn
  clear hA0 hval0
  refine (splay_walk _ rs W ⟨hrd, hok⟩).mono fun e W' ⟨he, bel⟩ => ?_
  subst he
  exact ⟨_, rfl, _, _, _, [], _, [], hW', trodAll_mk1 (shut_bool Try.underlying4 _), (trodAll_cons_mk (Below.trod laidOut (by kernel_rfl) (of_decide_eq_true (by kernel_rfl)) k0 bel lt0) trodAll_mk0), rfl, bel.frame _, fun h => by cases h⟩

theorem over : Rows.sessionsPlayRow.holds Try.pinned (OpenSpec.ofChange Rows.sessionsPlaySpec) :=
  OpenClaim.holds_of_wide 3 Try.f3 rfl rfl rfl rfl rfl rfl rfl ⟨rfl, rfl, rfl, rfl, rfl⟩ rfl rfl rfl rfl rfl (by kernel_rfl) Try.func3 (by kernel_rfl)
    (of_decide_eq_true (by kernel_rfl)) (by unfold Func.isWrapper; first | (rw [if_pos (by decide +kernel)]; kernel_rfl) | (rw [if_neg (by decide +kernel)]; exact ⟨rfl, rfl⟩))
    (fun os started H enc _ => lifted os started H enc)

theorem proved : Rows.SessionsPlaySaid := over
end Go.Proofs.Ytcpiockmkpdkjaa.sessionsPlay
