/- Countinghouse's statement LettersPut holds: for every letter the law returns true; no condition. -/
import Derived.Test.YthjdkjinkmdclaaGreatRows
import Derived.Test.YthjdkjinkmdclaaGreatLwx
import Derived.Test.YthjdkjinkmdclaaGreatOpz
import Derived.WalkKit
import Derived.ProofKit
import Derived.OpenShut
import Derived.ShutString
import Derived.ChangeOld
import Derived.Below
namespace Go.Proofs.YthjdkjinkmdclaaGreat.lettersPut
open Go.ChangeShapes Go.WideShapes Go.ChangeAt Go.RowKit
open Go.ChangeMaps (open_string shut_string)
set_option linter.unusedVariables false

theorem own : ownKnob Tryz.prog.godebug = none := by kernel_rfl
theorem laidOut : laidOutB Tryz.prog = true := by kernel_rfl

section
variable {H : Type} {enc : TypeId × Value → H} {w : World} {base : Nat} {spare : Nat → Bool} {held : Bool}
theorem wf_u64 {z : Int} (h : (Lit.int .u64 z).wf = true) : 0 ≤ z ∧ z ≤ 18446744073709551615 := by
  simp [Lit.wf, IntKind.min, IntKind.max, IntKind.signed, IntKind.bits] at h
  omega
theorem wf_u16 {z : Int} (h : (Lit.int .u16 z).wf = true) : 0 ≤ z ∧ z ≤ 65535 := by
  simp [Lit.wf, IntKind.min, IntKind.max, IntKind.signed, IntKind.bits] at h
  omega
theorem len10 {α : Type} : ∀ {l : List α}, l.length = 10 → ∃ a b c d e f g h i j, l = [a, b, c, d, e, f, g, h, i, j]
  | [a, b, c, d, e, f, g, h, i, j], _ => ⟨a, b, c, d, e, f, g, h, i, j, rfl⟩
theorem c5 : Tryz.prog.cellsOf 5 = 1 := by kernel_rfl
theorem cU : Tryz.prog.cellsOf 23 = 1 := by kernel_rfl
theorem cI : Tryz.prog.cellsOf 3 = 1 := by kernel_rfl
theorem cL : Tryz.prog.cellsOf 2 = 1 := by kernel_rfl
theorem cK : Tryz.prog.cellsOf 98 = 1 := by kernel_rfl
theorem cP : Tryz.prog.cellsOf 99 = 1 := by kernel_rfl
theorem cC : Tryz.prog.cellsOf 100 = 1 := by kernel_rfl
theorem cE : Tryz.prog.cellsOf 31 = 1 := by kernel_rfl
theorem cR : Tryz.prog.cellsOf 102 = 2 := by kernel_rfl
theorem cS : Tryz.prog.cellsOf 26 = 1 := by kernel_rfl
theorem cG : Tryz.prog.cellsOf 32 = 1 := by kernel_rfl
theorem cCm : Tryz.prog.cellsOf 28 = 1 := by kernel_rfl
theorem cCl : Tryz.prog.cellsOf 30 = 3 := by kernel_rfl
theorem cSt : Tryz.prog.cellsOf 104 = 10 := by kernel_rfl
theorem cGt : Tryz.prog.cellsOf 108 = 2 := by kernel_rfl
theorem cEn : Tryz.prog.cellsOf 63 = 5 := by kernel_rfl
theorem cRe : Tryz.prog.cellsOf 34 = 3 := by kernel_rfl
theorem step_row {n : Nat} {cs : List Value} {y : DataW H × List MemPlace} (hl : cs.length = 10) (h : DataW.trod enc Tryz.prog w base spare held n 104 cs = some y) : ∃ r, cs = fc stepK r ∧ fok stepK r := by
  obtain ⟨a0, a1, a2, a3, a4, a5, a6, a7, a8, a9, rfl⟩ := len10 hl
  obtain ⟨_, fields⟩ := open_fields Tryz.underlying104 h
  obtain ⟨n0, y0, e0⟩ := fields 0 _ rfl
  obtain ⟨n1, y1, e1⟩ := fields 1 _ rfl
  obtain ⟨n2, y2, e2⟩ := fields 2 _ rfl
  obtain ⟨n3, y3, e3⟩ := fields 3 _ rfl
  obtain ⟨n4, y4, e4⟩ := fields 4 _ rfl
  obtain ⟨n5, y5, e5⟩ := fields 5 _ rfl
  obtain ⟨n6, y6, e6⟩ := fields 6 _ rfl
  obtain ⟨n7, y7, e7⟩ := fields 7 _ rfl
  obtain ⟨n8, y8, e8⟩ := fields 8 _ rfl
  simp [cK, cP, cC, cL, cR, cU] at e0 e1 e2 e3 e4 e5 e6 e7 e8
  obtain ⟨_, rat⟩ := open_fields Tryz.underlying102 e7
  obtain ⟨n9, y9, e9⟩ := rat 0 _ rfl
  obtain ⟨n10, y10, e10⟩ := rat 1 _ rfl
  simp [cL] at e9 e10
  obtain ⟨k0, q0, _, w0⟩ := DataW.trod_int Tryz.underlying98 e0
  obtain ⟨k1, q1, _, w1⟩ := DataW.trod_int Tryz.underlying99 e1
  obtain ⟨k2, q2, _, w2⟩ := DataW.trod_int Tryz.underlying99 e2
  obtain ⟨k3, q3, _, w3⟩ := DataW.trod_int Tryz.underlying100 e3
  obtain ⟨k4, q4, _, w4⟩ := DataW.trod_int Tryz.underlying100 e4
  obtain ⟨k5, q5, _, w5⟩ := DataW.trod_int Tryz.underlying2 e5
  obtain ⟨k6, q6, _, w6⟩ := DataW.trod_int Tryz.underlying2 e6
  obtain ⟨k7, q7, _, w7⟩ := DataW.trod_int Tryz.underlying2 e9
  obtain ⟨k8, q8, _, w8⟩ := DataW.trod_int Tryz.underlying2 e10
  obtain ⟨k9, q9, _, w9⟩ := DataW.trod_int Tryz.underlying23 e8
  simp at q0 q1 q2 q3 q4 q5 q6 q7 q8 q9
  subst q0 q1 q2 q3 q4 q5 q6 q7 q8 q9
  exact ⟨[k0, k1, k2, k3, k4, k5, k6, k7, k8, k9], rfl, wf_byt w0, wf_byt w1, wf_byt w2, wf_byt w3, wf_byt w4, wf_i64 w5, wf_i64 w6, wf_i64 w7, wf_i64 w8, wf_u64 w9, rfl⟩
theorem got_row {n : Nat} {cs : List Value} {y : DataW H × List MemPlace} (hl : cs.length = 2) (h : DataW.trod enc Tryz.prog w base spare held n 108 cs = some y) : ∃ r, cs = fc gotK r ∧ fok gotK r := by
  obtain ⟨a0, a1, rfl⟩ := len2 hl
  obtain ⟨_, fields⟩ := open_fields Tryz.underlying108 h
  obtain ⟨n0, y0, e0⟩ := fields 0 _ rfl
  obtain ⟨n1, y1, e1⟩ := fields 1 _ rfl
  simp [cL] at e0 e1
  obtain ⟨k0, q0, _, w0⟩ := DataW.trod_int Tryz.underlying2 e0
  obtain ⟨k1, q1, _, w1⟩ := DataW.trod_int Tryz.underlying2 e1
  simp at q0 q1
  subst q0 q1
  exact ⟨[k0, k1], rfl, wf_i64 w0, wf_i64 w1, rfl⟩
theorem open_entry {n : Nat} {cs : List Value} {y : DataW H × List MemPlace} (h : DataW.trod enc Tryz.prog w base spare held n 63 cs = some y) (hw : ∀ m ∈ y.1.weights Tryz.prog 63, m ≤ reachBytes) :
    ∃ x0 x1 x2 x3 r4 A4 c4, cs = [.int .u64 x0, .int .u64 x1, .int .u8 x2, .int .u64 x3, .slice A4 (List.length r4) c4] ∧ fok1 .u64 x0 ∧ fok1 .u64 x1 ∧ fok1 .u8 x2 ∧ fok1 .u64 x3 ∧ (∀ q ∈ r4, fok stepK q) ∧ Steps w (.slice A4 (List.length r4) c4) r4 := by
  obtain ⟨hl, fields⟩ := open_fields Tryz.underlying63 h
  obtain ⟨a0, a1, a2, a3, a4, rfl⟩ := len5 (hl.trans cEn)
  obtain ⟨n0, y0, e0⟩ := fields 0 _ rfl
  obtain ⟨n1, y1, e1⟩ := fields 1 _ rfl
  obtain ⟨n2, y2, e2, s2⟩ := fields_w Tryz.underlying63 h 2 _ rfl
  simp [cU, cCl] at e0 e1 e2
  obtain ⟨_, cf⟩ := open_fields Tryz.underlying30 e2
  obtain ⟨n3, y3, e3⟩ := cf 0 _ rfl
  obtain ⟨n4, y4, e4⟩ := cf 1 _ rfl
  obtain ⟨n5, y5, e5, s5⟩ := fields_w Tryz.underlying30 e2 2 _ rfl
  simp [cU, c5, cCm] at e3 e4 e5
  obtain ⟨n6, y6, e6, s6⟩ := fields_w Tryz.underlying28 e5 0 _ rfl
  simp [cS] at e6
  obtain ⟨k0, q0, _, w0⟩ := DataW.trod_int Tryz.underlying23 e0
  obtain ⟨k1, q1, _, w1⟩ := DataW.trod_int Tryz.underlying23 e1
  obtain ⟨k2, q2, _, w2⟩ := DataW.trod_int Tryz.underlying5 e3
  obtain ⟨k3, q3, _, w3⟩ := DataW.trod_int Tryz.underlying23 e4
  obtain ⟨A, n, c, rs, hcs, hn, hrd, hok⟩ := open_rows (fc stepK) (fok stepK) fcstep_len (by decide) Tryz.underlying26 cSt (fun cs' n y hl hy _ => step_row hl hy) e6 (fun m hm => hw m (s2 m (s5 m (s6 m hm))))
  simp at q0 q1 q2 q3 hcs
  subst q0 q1 q2 q3 hcs hn
  exact ⟨k0, k1, k2, k3, rs, A, c, rfl, wf_u64 w0, wf_u64 w1, wf_byt w2, wf_u64 w3, hok, hrd⟩
theorem open_reply {n : Nat} {cs : List Value} {y : DataW H × List MemPlace} (h : DataW.trod enc Tryz.prog w base spare held n 34 cs = some y) (hw : ∀ m ∈ y.1.weights Tryz.prog 34, m ≤ reachBytes) :
    ∃ E At r2 A2 c2, cs = [.int .i64 E, .int .i64 At, .slice A2 (List.length r2) c2] ∧ fok1 .i64 E ∧ fok1 .i64 At ∧ (∀ q ∈ r2, fok gotK q) ∧ Gots w (.slice A2 (List.length r2) c2) r2 := by
  obtain ⟨hl, fields⟩ := open_fields Tryz.underlying34 h
  obtain ⟨a0, a1, a2, rfl⟩ := len3 (hl.trans cRe)
  obtain ⟨n0, y0, e0⟩ := fields 0 _ rfl
  obtain ⟨n1, y1, e1⟩ := fields 1 _ rfl
  obtain ⟨n2, y2, e2, s2⟩ := fields_w Tryz.underlying34 h 2 _ rfl
  simp [cE, cI, cG] at e0 e1 e2
  obtain ⟨k0, q0, _, w0⟩ := DataW.trod_int Tryz.underlying31 e0
  obtain ⟨k1, q1, _, w1⟩ := DataW.trod_int Tryz.underlying3 e1
  obtain ⟨A, n, c, rs, hcs, hn, hrd, hok⟩ := open_rows (fc gotK) (fok gotK) fcgot_len (by decide) Tryz.underlying32 cGt (fun cs' n y hl hy _ => got_row hl hy) e2 (fun m hm => hw m (s2 m hm))
  simp at q0 q1 hcs
  subst q0 q1 hcs hn
  exact ⟨k0, k1, rs, A, c, rfl, wf_i64 w0, wf_i64 w1, hok, hrd⟩
theorem c4 : Tryz.prog.cellsOf 4 = 1 := by kernel_rfl
theorem cB : Tryz.prog.cellsOf 25 = 1 := by kernel_rfl
theorem cEs : Tryz.prog.cellsOf 24 = 1 := by kernel_rfl
theorem cLk : Tryz.prog.cellsOf 22 = 1 := by kernel_rfl
theorem cLt : Tryz.prog.cellsOf 36 = 17 := by kernel_rfl
theorem len17 {α : Type} : ∀ {l : List α}, l.length = 17 → ∃ a b c d e f g h i j k m n o p q r, l = [a, b, c, d, e, f, g, h, i, j, k, m, n, o, p, q, r]
  | [a, b, c, d, e, f, g, h, i, j, k, m, n, o, p, q, r], _ => ⟨a, b, c, d, e, f, g, h, i, j, k, m, n, o, p, q, r, rfl⟩
/-- An entry and its steps' slice, as a row of a list. -/
def EOk (w : World) (p : Ent × Value) : Prop := fok entryK p.1.1 ∧ (∀ q ∈ p.1.2, fok stepK q) ∧ Steps w p.2 p.1.2 ∧ p.1.2.length ≤ reachBytes
instance : Inhabited (Ent × Value) := ⟨(([0, 0, 0, 0], []), undef)⟩
theorem ent_row {n : Nat} {cs : List Value} {y : DataW H × List MemPlace} (h : DataW.trod enc Tryz.prog w base spare held n 63 cs = some y) (hw : ∀ m ∈ y.1.weights Tryz.prog 63, m ≤ reachBytes) : ∃ r, cs = ecells r ∧ EOk w r := by
  obtain ⟨hl, _⟩ := open_fields Tryz.underlying63 h
  obtain ⟨x0, x1, x2, x3, r4, A4, c4, rfl, f0, f1, f2, f3, hin, hst⟩ := open_entry h hw
  refine ⟨(([x0, x1, x2, x3], r4), .slice A4 r4.length c4), rfl, ⟨f0, f1, f2, f3, rfl⟩, hin, hst, ?_⟩
  obtain ⟨n2, y2, e2, s2⟩ := fields_w Tryz.underlying63 h 2 _ rfl
  simp [cCl] at e2
  obtain ⟨n5, y5, e5, s5⟩ := fields_w Tryz.underlying30 e2 2 _ rfl
  simp [cCm] at e5
  obtain ⟨n6, y6, e6, s6⟩ := fields_w Tryz.underlying28 e5 0 _ rfl
  simp [cS] at e6
  exact slice_w Tryz.underlying26 (of_decide_eq_true (by kernel_rfl)) e6 (fun m hm => hw m (s2 m (s5 m (s6 m hm))))
theorem zip_back : ∀ (rs : List (Ent × Value)), (rs.map Prod.fst).zip (rs.map Prod.snd) = rs
  | [] => rfl
  | (a, b) :: r => by simp [zip_back r]
theorem open_bool {n : Nat} {x : Value} {y : DataW H × List MemPlace} (h : DataW.trod enc Tryz.prog w base spare held n 4 [x] = some y) : ∃ b, x = .bool b := by
  obtain ⟨b, hb, -⟩ := DataW.trod_bool Tryz.underlying4 h
  simp at hb
  exact ⟨b, hb⟩
set_option maxHeartbeats 1000000 in
theorem open_letter {n : Nat} {cs : List Value} {y : DataW H × List MemPlace} (h : DataW.trod enc Tryz.prog w base spare held n 36 cs = some y) (hw : ∀ m ∈ y.1.weights Tryz.prog 36, m ≤ reachBytes) :
    ∃ L ve vd vs vg, cs = (letC L ve vd vs vg).toList ∧ Lr w L ve vd vs vg := by
  obtain ⟨hl, fields⟩ := open_fields Tryz.underlying36 h
  obtain ⟨a0, a1, a2, a3, a4, a5, a6, a7, a8, a9, a10, a11, a12, a13, a14, a15, a16, rfl⟩ := len17 (hl.trans cLt)
  obtain ⟨n0, y0, e0⟩ := fields 0 _ rfl
  obtain ⟨n1, y1, e1⟩ := fields 1 _ rfl
  obtain ⟨n2, y2, e2⟩ := fields 2 _ rfl
  obtain ⟨n3, y3, e3⟩ := fields 3 _ rfl
  obtain ⟨n4, y4, e4⟩ := fields 4 _ rfl
  obtain ⟨n5, y5, e5⟩ := fields 5 _ rfl
  obtain ⟨n6, y6, e6⟩ := fields 6 _ rfl
  obtain ⟨n7, y7, e7⟩ := fields 7 _ rfl
  obtain ⟨n8, y8, e8, s8⟩ := fields_w Tryz.underlying36 h 8 _ rfl
  obtain ⟨n9, y9, e9, s9⟩ := fields_w Tryz.underlying36 h 9 _ rfl
  obtain ⟨n10, y10, e10, s10⟩ := fields_w Tryz.underlying36 h 10 _ rfl
  obtain ⟨n11, y11, e11⟩ := fields 11 _ rfl
  obtain ⟨n12, y12, e12, s12⟩ := fields_w Tryz.underlying36 h 12 _ rfl
  simp [cLk, c5, cU, c4, cEs, cB, cCl, cE, cRe] at e0 e1 e2 e3 e4 e5 e6 e7 e8 e9 e10 e11 e12
  obtain ⟨_, cf⟩ := open_fields Tryz.underlying30 e10
  obtain ⟨m0, z0, d0⟩ := cf 0 _ rfl
  obtain ⟨m1, z1, d1⟩ := cf 1 _ rfl
  obtain ⟨m2, z2, d2, t2⟩ := fields_w Tryz.underlying30 e10 2 _ rfl
  simp [cU, c5, cCm] at d0 d1 d2
  obtain ⟨m3, z3, d3, t3⟩ := fields_w Tryz.underlying28 d2 0 _ rfl
  simp [cS] at d3
  obtain ⟨k0, q0, _, w0⟩ := DataW.trod_int Tryz.underlying22 e0
  obtain ⟨k1, q1, _, w1⟩ := DataW.trod_int Tryz.underlying5 e1
  obtain ⟨k2, q2, _, w2⟩ := DataW.trod_int Tryz.underlying5 e2
  obtain ⟨k3, q3, _, w3⟩ := DataW.trod_int Tryz.underlying23 e3
  obtain ⟨k4, q4, _, w4⟩ := DataW.trod_int Tryz.underlying23 e4
  obtain ⟨k5, q5, _, w5⟩ := DataW.trod_int Tryz.underlying23 e5
  obtain ⟨k6, q6, _, w6⟩ := DataW.trod_int Tryz.underlying23 e6
  obtain ⟨k7, rfl⟩ := open_bool e7
  obtain ⟨k10, q10, _, w10⟩ := DataW.trod_int Tryz.underlying5 d0
  obtain ⟨k11, q11, _, w11⟩ := DataW.trod_int Tryz.underlying23 d1
  obtain ⟨k13, q13, _, w13⟩ := DataW.trod_int Tryz.underlying31 e11
  obtain ⟨E, At, rg, Ag, cg, hcg, hE, hAt, hing, hvg⟩ := open_reply e12 (fun m hm => hw m (s12 m hm))
  obtain ⟨Ae, ne, ce, es, hce, hne, hrde, hoke⟩ := open_rows ecells (EOk w) ecells_len (by decide) Tryz.underlying24 cEn (fun cs' n y _ hy hh => ent_row hy hh) e8 (fun m hm => hw m (s8 m hm))
  obtain ⟨As, nst, cs, rst, hcs, hnst, hrds, hoks⟩ := open_rows (fc stepK) (fok stepK) fcstep_len (by decide) Tryz.underlying26 cSt (fun cs' n y hl hy _ => step_row hl hy) d3 (fun m hm => hw m (s10 m (t2 m (t3 m hm))))
  obtain ⟨Ad, nd, cd, zd, hcd, hzd, hlcd, hcmd, hrdd, hwfd, -⟩ := open_rd Tryz.underlying25 Tryz.underlying5 c5 e9
  simp at q0 q1 q2 q3 q4 q5 q6 q10 q11 q13 hce hcs hcd
  obtain ⟨rfl, rfl, rfl⟩ : a14 = .int .i64 E ∧ a15 = .int .i64 At ∧ a16 = .slice Ag rg.length cg := by simpa using hcg
  subst q0 q1 q2 q3 q4 q5 q6 q10 q11 q13 hce hcs hcd hne hnst hzd
  have re := slice_w Tryz.underlying24 (of_decide_eq_true (by kernel_rfl)) e8 (fun m hm => hw m (s8 m hm))
  have rs := slice_w Tryz.underlying26 (of_decide_eq_true (by kernel_rfl)) d3 (fun m hm => hw m (s10 m (t2 m (t3 m hm))))
  have rd := slice_w Tryz.underlying25 (of_decide_eq_true (by kernel_rfl)) e9 (fun m hm => hw m (s9 m hm))
  have e12' := e12
  obtain ⟨n22, y22, e22, s22⟩ := fields_w Tryz.underlying34 e12' 2 _ rfl
  simp [cG] at e22
  have rgb := slice_w Tryz.underlying32 (of_decide_eq_true (by kernel_rfl)) e22 (fun m hm => hw m (s12 m (s22 m hm)))
  have hR : reachBytes ≤ 140737488355328 := by decide
  refine ⟨⟨k0, k1, k2, k3, k4, k5, k6, k7, es.map Prod.fst, zd, k10, k11, rst, k13, E, At, rg⟩, .slice Ae es.length ce, .slice Ad zd.length cd, .slice As rst.length cs, .slice Ag rg.length cg, rfl, ?_⟩
  refine ⟨⟨es.map Prod.snd, by simp, ?_, ?_⟩, hrdd, hrds, hvg, ⟨wf_byt w0, wf_byt w1, wf_byt w2, wf_u64 w3, wf_u64 w4, wf_u64 w5, wf_u64 w6, ?_, fun c hc => wf_byt (hwfd c hc), wf_byt w10, wf_u64 w11, hoks, wf_i64 w13, hE, hAt, hing⟩, ?_, ?_, Nat.le_trans rd hR, Nat.le_trans rs hR, Nat.le_trans rgb hR⟩
  · show Rd w 5 (.slice Ae es.length ce) (es.map Prod.fst).length _
    rw [zip_back, List.length_map]
    exact hrde
  · intro j hj hj'
    have := (hoke (es[j]'(by simpa using hj)) (List.getElem_mem _)).2.2.1
    simpa using this
  · intro e he
    obtain ⟨p, hp, rfl⟩ := List.mem_map.1 he
    exact ⟨(hoke p hp).1, (hoke p hp).2.1⟩
  · simp only [List.length_map]; omega
  · intro e he
    obtain ⟨p, hp, rfl⟩ := List.mem_map.1 he
    have := (hoke p hp).2.2.2
    omega
end

set_option maxRecDepth 100000 in
theorem lifted (os : Os) (started : os.Started) (H : Type) (enc : TypeId × Value → H) :
    ReturnsInHanded {} Tryz.checked os 3 .any (Rows.lettersPutSpec.pre6 enc Tryz.prog Tryz.f3 Rows.lettersPutRow.domain false) (Rows.lettersPutSpec.post enc Tryz.prog Tryz.f3 false true false false) := by
  refine returnsInHanded_of_change_sized (C := Tryz.checked) own started (by kernel_rfl) Tryz.func3
    (ChangeSpec.witness6 (enc := enc) (C := Tryz.checked) false ⟨#[], #[.agg #[.int .u8 0, .int .u8 0, .int .u8 0, .int .u64 0, .int .u64 0, .int .u64 0, .int .u64 0, .bool false, .slice none 0 0, .slice none 0 0, .int .u8 0, .int .u64 0, .slice none 0 0, .int .i64 0, .int .i64 0, .int .i64 0, .slice none 0 0]], []⟩ 8 (by kernel_rfl) (by kernel_rfl) (by kernel_rfl) (by kernel_rfl)) ?_
  intro W base args ds gs before hval0 hW hcnd hsz0 _
  have hval : ∀ (j : Nat) t v, Tryz.f3.params[j]? = some t → args[j]? = some v → Value.okWide Tryz.prog W .any base t v := hval0
  have hW' := hW
  obtain ⟨p, q, hA0, hV, rfl, hfz, hnd⟩ := hW
  have hA : DataW.TrodAll enc Tryz.prog W 0 (fun _ => true) true Tryz.f3.params.toList args.toList ds p := hA0
  rw [Tryz.params3] at hA hval
  obtain ⟨v0, vs0, d0, ds0, p0, q0, hargs, rfl, rfl, h0, r0⟩ := trodAll_cons hA
  obtain ⟨rfl, rfl, rfl⟩ := trodAll_nil r0
  obtain rfl : args = #[v0] := by cases args; simp_all
  obtain ⟨rfl, rfl⟩ := trodVars_none hV
  have k0 := h0
  have lt0 : ∀ x ∈ p0, x.block < W.heap.size := by obtain ⟨m, hm⟩ := k0; exact DataW.trod_lt m _ _ _ hm
  obtain ⟨cs0, rfl, hs0⟩ := okWide_struct Tryz.underlying36 (hval 0 36 v0 rfl rfl)
  obtain ⟨fuel0, hf0⟩ := h0
  obtain ⟨L, ve, vd, vs, vg, hc0, hL⟩ := open_letter (by simpa [Value.cells] using hf0) (fun k hk => by simpa using List.all_eq_true.1 hsz0 k (DataW.weights_mem_each (j := 0) rfl rfl k hk))
  obtain rfl : cs0 = letC L ve vd vs vg := Array.toList_inj.1 hc0
  clear hA0 hval0
  refine (lput_walk hL).mono fun e W' ⟨he, bel⟩ => ?_
  subst he
  exact ⟨_, rfl, _, _, _, [], _, [], hW', trodAll_mk1 (shut_bool Tryz.underlying4 _), (trodAll_cons_mk (Below.trod laidOut (by kernel_rfl) (of_decide_eq_true (by kernel_rfl)) k0 bel lt0) trodAll_mk0), rfl, bel.frame _, fun h => by cases h⟩

theorem over : Rows.lettersPutRow.holds Tryz.pinned (OpenSpec.ofChange Rows.lettersPutSpec) :=
  OpenClaim.holds_of_wide 3 Tryz.f3 rfl rfl rfl rfl rfl rfl rfl ⟨rfl, rfl, rfl, rfl, rfl⟩ rfl rfl rfl rfl rfl (by kernel_rfl) Tryz.func3 (by kernel_rfl)
    (of_decide_eq_true (by kernel_rfl)) (by unfold Func.isWrapper; first | (rw [if_pos (by decide +kernel)]; kernel_rfl) | (rw [if_neg (by decide +kernel)]; exact ⟨rfl, rfl⟩))
    (fun os started H enc _ => lifted os started H enc)

theorem proved : Rows.LettersPutSaid := over
end Go.Proofs.YthjdkjinkmdclaaGreat.lettersPut
