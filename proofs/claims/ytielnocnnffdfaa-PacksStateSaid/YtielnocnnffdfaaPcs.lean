/- machines.State: put and got; its codec. -/
import Derived.Test.YtielnocnnffdfaaPkp
import Derived.Test.YtielnocnnffdfaaPkl
import Derived.Test.YtielnocnnffdfaaPko
namespace Go.Proofs.Ytielnocnnffdfaa
open Go.RowKit

def stateB (a : List (List Int) × List (List Int) × List (List Int) × List Int) : List Int := partysB a.1 ++ (linesB a.2.1 ++ (offersB a.2.2.1 ++ fB [.u64] a.2.2.2))
def stateP (xs : List Int) : Res (List (List Int) × List (List Int) × List (List Int) × List Int) := bindP (listP (fP partyK) 16 xs) fun a r => bindP (bindP (listP (fP lineK) 64 r) fun b r => bindP (bindP (listP (fP offerK) 32 r) fun c r => bindP (fP [.u64] r) fun d r => .ok ((c, d), r)) fun c r => .ok ((b, c), r)) fun b r => .ok ((a, b), r)
def stateOk (a : List (List Int) × List (List Int) × List (List Int) × List Int) : Prop := (a.1.length ≤ 16 ∧ ∀ q ∈ a.1, fok partyK q) ∧ (a.2.1.length ≤ 64 ∧ ∀ q ∈ a.2.1, fok lineK q) ∧ (a.2.2.1.length ≤ 32 ∧ ∀ q ∈ a.2.2.1, fok offerK q) ∧ fok [.u64] a.2.2.2
theorem cod_state : Cod stateB stateP stateOk :=
  (Cod.bind (cod_list (cod_f partyK) 16 (by decide)) (Cod.bind (cod_list (cod_f lineK) 64 (by decide)) (Cod.bind (cod_list (cod_f offerK) 32 (by decide)) (cod_f [.u64]) Prod.mk Prod.fst Prod.snd _ (fun _ _ => rfl) (fun _ _ => rfl) (fun c (hc : _ ∧ _) => ⟨hc.1, hc.2, rfl⟩) (fun _ _ h1 h2 => ⟨h1, h2⟩)) Prod.mk Prod.fst Prod.snd _ (fun _ _ => rfl) (fun _ _ => rfl) (fun c (hc : _ ∧ _) => ⟨hc.1, hc.2, rfl⟩) (fun _ _ h1 h2 => ⟨h1, h2⟩)) Prod.mk Prod.fst Prod.snd stateOk (fun _ _ => rfl) (fun _ _ => rfl) (fun c hc => ⟨hc.1, hc.2, rfl⟩) (fun _ _ h1 h2 => ⟨h1, h2⟩)).congr (fun _ => Iff.rfl) (fun _ _ => rfl) (fun _ => rfl)
set_option maxHeartbeats 4000000 in
set_option maxRecDepth 100000 in
theorem pstate_any (p : Nat) (v0 : Value) (r0 : List (List Int)) (v1 : Value) (r1 : List (List Int)) (v2 : Value) (r2 : List (List Int)) (x3 : Int) (hin0 : ∀ q ∈ r0, fok partyK q) (hin1 : ∀ q ∈ r1, fok lineK q) (hin2 : ∀ q ∈ r2, fok offerK q) (h3 : fok1 .u64 x3) (b : Option Nat) (w : World) (xs : List Int) (h : Pu w p b xs) (hv0 : Partys w v0 r0) (hne0 : r0.length = 0 ∨ ∀ k, v0.ownBlock = some k → k ≠ p ∧ some k ≠ b) (hg0 : r0.length ≤ 4611686018427387904) (hv1 : Lines w v1 r1) (hne1 : r1.length = 0 ∨ ∀ k, v1.ownBlock = some k → k ≠ p ∧ some k ≠ b) (hg1 : r1.length ≤ 4611686018427387904) (hv2 : Offers w v2 r2) (hne2 : r2.length = 0 ∨ ∀ k, v2.ownBlock = some k → k ≠ p ∧ some k ≠ b) (hg2 : r2.length ≤ 4611686018427387904) (hl : xs.length + (stateB (r0, r1, r2, [x3])).length ≤ 70368744177664) :
    Calls Try.prog 87 #[.pointer (some ⟨p, 0, none⟩), .agg #[v0, v1, v2, .int .u64 x3]] w fun e w' => e = .returned (.tuple #[]) ∧ Pv w p b w' (xs ++ stateB (r0, r1, r2, [x3])) := by
  obtain ⟨hp, k0, n1, n2⟩ := h.box 93 #[v0, v1, v2, .int .u64 x3]
  have HI0 := Lib.hid hin0
  have HV0 := Lib.hid (Rd.alloc hv0 (.cells #[v0, v1, v2, .int .u64 x3] 93))
  have HN0 := Lib.hid hne0
  have HG0 := Lib.hid hg0
  have HI1 := Lib.hid hin1
  have HV1 := Lib.hid (Rd.alloc hv1 (.cells #[v0, v1, v2, .int .u64 x3] 93))
  have HN1 := Lib.hid hne1
  have HG1 := Lib.hid hg1
  have HI2 := Lib.hid hin2
  have HV2 := Lib.hid (Rd.alloc hv2 (.cells #[v0, v1, v2, .int .u64 x3] 93))
  have HN2 := Lib.hid hne2
  have HG2 := Lib.hid hg2
  have Q3 := Lib.hid h3
  have K := Lib.hid k0
  have P0 := Lib.hid hp
  simp only [stateB, fB, fb1, List.headD_cons, List.tail_cons, List.length_append, List.length_nil, List.length_cons, List.append_nil] at hl
  have HL := Lib.hid hl
  obtain ⟨A0, q0, rfl, -⟩ := id hv0
  obtain ⟨A1, q1, rfl, -⟩ := id hv1
  obtain ⟨A2, q2, rfl, -⟩ := id hv2
  clear h hp k0 hl h3 hin0 hv0 hne0 hg0 hin1 hv1 hne1 hg1 hin2 hv2 hne2 hg2
  go_enter Try.func87, Try.ntmps87
  go_wp2_with fail
  refine (ppartys_v p _ r0 HI0.out b _ _ (xs) P0.out HV0.out HN0.out HG0.out (by have := HL.out; (try simp only [fB, fb1, List.headD_cons, List.tail_cons, List.length_append, List.length_nil, List.length_cons, List.append_nil] at this); (try simp only [fB, fb1, List.headD_cons, List.tail_cons, List.length_append, List.length_nil, List.length_cons, List.append_nil]); omega)).mono ?_
  rintro e w1 ⟨rfl, hP⟩
  have P1 := Lib.hid hP
  have k1 := hP.blk K.out n1 n2
  have c1_0 := k1.cell 0
  have c1_1 := k1.cell 1
  have c1_2 := k1.cell 2
  have c1_3 := k1.cell 3
  simp at c1_0 c1_1 c1_2 c1_3
  clear k1
  clear hP
  go_wp2_with fail
  refine (plines_v p _ r1 HI1.out b _ _ (xs ++ (partysB r0)) P1.out HV1.out HN1.out HG1.out (by have := HL.out; (try simp only [fB, fb1, List.headD_cons, List.tail_cons, List.length_append, List.length_nil, List.length_cons, List.append_nil] at this); (try simp only [fB, fb1, List.headD_cons, List.tail_cons, List.length_append, List.length_nil, List.length_cons, List.append_nil]); omega)).mono ?_
  rintro e w2 ⟨rfl, hP⟩
  have P2 := Lib.hid hP
  clear c1_0 c1_1 c1_2 c1_3
  have k2 := hP.blk K.out n1 n2
  have c2_0 := k2.cell 0
  have c2_1 := k2.cell 1
  have c2_2 := k2.cell 2
  have c2_3 := k2.cell 3
  simp at c2_0 c2_1 c2_2 c2_3
  clear k2
  clear hP
  go_wp2_with fail
  refine (poffers_v p _ r2 HI2.out b _ _ (xs ++ (partysB r0) ++ (linesB r1)) P2.out HV2.out HN2.out HG2.out (by have := HL.out; (try simp only [fB, fb1, List.headD_cons, List.tail_cons, List.length_append, List.length_nil, List.length_cons, List.append_nil] at this); (try simp only [fB, fb1, List.headD_cons, List.tail_cons, List.length_append, List.length_nil, List.length_cons, List.append_nil]); omega)).mono ?_
  rintro e w3 ⟨rfl, hP⟩
  have P3 := Lib.hid hP
  clear c2_0 c2_1 c2_2 c2_3
  have k3 := hP.blk K.out n1 n2
  have c3_0 := k3.cell 0
  have c3_1 := k3.cell 1
  have c3_2 := k3.cell 2
  have c3_3 := k3.cell 3
  simp at c3_0 c3_1 c3_2 c3_3
  clear k3
  clear hP
  go_wp2_with fail
  refine (pnumz_v p x3 b _ _ (xs ++ (partysB r0) ++ (linesB r1) ++ (offersB r2)) P3.out Q3.out (by have := HL.out; (try simp only [fB, fb1, List.headD_cons, List.tail_cons, List.length_append, List.length_nil, List.length_cons, List.append_nil] at this); (try simp only [fB, fb1, List.headD_cons, List.tail_cons, List.length_append, List.length_nil, List.length_cons, List.append_nil]); omega)).mono ?_
  rintro e w4 ⟨rfl, hP⟩
  have P4 := Lib.hid hP
  clear c3_0 c3_1 c3_2 c3_3
  clear hP
  go_wp2
  refine bodyPost_end (results_none rfl _ _ _) rfl ⟨rfl, ?_⟩
  have := Pv.base (below_alloc_ _ _) P4.out
  simpa only [stateB, fB, fb1, List.headD_cons, List.tail_cons, List.append_nil, List.append_assoc, List.cons_append, List.nil_append] using this
theorem pstate_v (p : Nat) (v0 : Value) (r0 : List (List Int)) (v1 : Value) (r1 : List (List Int)) (v2 : Value) (r2 : List (List Int)) (x3 : Int) (hin0 : ∀ q ∈ r0, fok partyK q) (hin1 : ∀ q ∈ r1, fok lineK q) (hin2 : ∀ q ∈ r2, fok offerK q) (h3 : fok1 .u64 x3) (b : Option Nat) (W0 w : World) (xs : List Int) (h : Pv W0 p b w xs) (hv0 : Partys W0 v0 r0) (hne0 : r0.length = 0 ∨ ∀ k, v0.ownBlock = some k → k ≠ p ∧ some k ≠ b) (hg0 : r0.length ≤ 4611686018427387904) (hv1 : Lines W0 v1 r1) (hne1 : r1.length = 0 ∨ ∀ k, v1.ownBlock = some k → k ≠ p ∧ some k ≠ b) (hg1 : r1.length ≤ 4611686018427387904) (hv2 : Offers W0 v2 r2) (hne2 : r2.length = 0 ∨ ∀ k, v2.ownBlock = some k → k ≠ p ∧ some k ≠ b) (hg2 : r2.length ≤ 4611686018427387904) (hl : xs.length + (stateB (r0, r1, r2, [x3])).length ≤ 70368744177664) :
    Calls Try.prog 87 #[.pointer (some ⟨p, 0, none⟩), .agg #[v0, v1, v2, .int .u64 x3]] w fun e w' => e = .returned (.tuple #[]) ∧ Pv W0 p b w' (xs ++ stateB (r0, r1, r2, [x3])) := by
  have hv0' := h.tn.rd hv0 hne0
  have hv1' := h.tn.rd hv1 hne1
  have hv2' := h.tn.rd hv2 hne2
  obtain ⟨⟨b1, hu, hb⟩, ht⟩ := h
  exact (pstate_any p v0 r0 v1 r1 v2 r2 x3 hin0 hin1 hin2 h3 b1 w xs hu hv0' (off_step (w := w) hv0 hne0 hb) hg0 hv1' (off_step (w := w) hv1 hne1 hb) hg1 hv2' (off_step (w := w) hv2 hne2 hb) hg2 hl).mono fun _ _ hh => ⟨hh.1, Pv.trans ht hb hh.2⟩
/-- The value v is this; its lists are in blocks of their own from B on. -/
def stateQ (a : List (List Int) × List (List Int) × List (List Int) × List Int) (B : Nat) (w : World) (v : Value) : Prop := match a with
  | (r0, r1, r2, [x3]) => ∃ A0 A1 A2 : Option Addr, v = .agg #[.slice A0 r0.length r0.length, .slice A1 r1.length r1.length, .slice A2 r2.length r2.length, .int .u64 x3] ∧ Ow B w 146 1 (.slice A0 r0.length r0.length) r0.length (r0.flatMap (fc partyK)) ∧ Ow B w 150 5 (.slice A1 r1.length r1.length) r1.length (r1.flatMap (fc lineK)) ∧ Ow B w 155 7 (.slice A2 r2.length r2.length) r2.length (r2.flatMap (fc offerK))
  | _ => False
set_option maxHeartbeats 4000000 in
set_option maxRecDepth 100000 in
theorem gstate_any (g : Nat) (xs : List Int) (w : World) (h : Gt w g xs) :
    Calls Try.prog 93 #[.pointer (some ⟨g, 0, none⟩)] w (SPost (stateP xs) stateQ g w) := by
  have hG0 := h.alloc (.cells #[.slice none 0 0, .slice none 0 0, .slice none 0 0, .int .u64 0] 93)
  have hlt := h.lt
  have hne : w.heap.size ≠ g := by omega
  have hne' : some w.heap.size ≠ some g := fun e => hne (Option.some.inj e)
  have K0 := Lib.hid (Blk.new w 93 #[.slice none 0 0, .slice none 0 0, .slice none 0 0, .int .u64 0])
  have H0 := Lib.hid hG0
  have B0 := Lib.hid (grown_below_ (below_alloc_ w (.cells #[.slice none 0 0, .slice none 0 0, .slice none 0 0, .int .u64 0] 93)) (some g))
  clear h hG0
  go_enter Try.func93, Try.ntmps93
  go_wp2_with fail
  refine (gpartys_any g _ _ H0.out).mono ?_
  intro e w1 hp
  rcases hr : listP (fP partyK) 16 xs with k | ⟨r0, t1⟩
  · rw [hr] at hp
    obtain ⟨rfl, hg⟩ := hp
    have B1 := Lib.hid (grown_trans_ B0.out hg)
    have R1 := Lib.hid hr
    clear hg hr
    go_wp2
    refine ⟨rfl, ?_⟩
    have hP : stateP xs = .error k := by simp only [stateP, fP, fp1, bindP, R1.out]
    unfold SPost; rw [hP]
    exact ⟨rfl, B1.out⟩
  rw [hr] at hp
  obtain ⟨A0, rfl, hO, hG, hg⟩ := hp
  have hs0 : w.heap.size < (w.alloc (.cells #[.slice none 0 0, .slice none 0 0, .slice none 0 0, .int .u64 0] 93)).heap.size := K0.out.lt
  have H1 := Lib.hid hG
  have O0_1 := Lib.hid hO
  have K1 := Lib.hid (K0.out.grown hg hne')
  have B1 := Lib.hid (grown_trans_ B0.out hg)
  have R1 := Lib.hid hr
  clear hG hg hr hO
  go_wp2_with fail
  refine (glines_any g _ _ H1.out).mono ?_
  intro e w2 hp
  rcases hr : listP (fP lineK) 64 t1 with k | ⟨r1, t2⟩
  · rw [hr] at hp
    obtain ⟨rfl, hg⟩ := hp
    have B2 := Lib.hid (grown_trans_ B1.out hg)
    have R2 := Lib.hid hr
    clear hg hr
    go_wp2
    refine ⟨rfl, ?_⟩
    have hP : stateP xs = .error k := by simp only [stateP, fP, fp1, bindP, R1.out, R2.out]
    unfold SPost; rw [hP]
    exact ⟨rfl, B2.out⟩
  rw [hr] at hp
  obtain ⟨A1, rfl, hO, hG, hg⟩ := hp
  have hs1 : w.heap.size < w1.heap.size := K1.out.lt
  have H2 := Lib.hid hG
  have O0_2 := Lib.hid (O0_1.out.keep hg (by omega))
  have O1_2 := Lib.hid hO
  have K2 := Lib.hid (K1.out.grown hg hne')
  have B2 := Lib.hid (grown_trans_ B1.out hg)
  have R2 := Lib.hid hr
  clear hG hg hr hO
  go_wp2_with fail
  refine (goffers_any g _ _ H2.out).mono ?_
  intro e w3 hp
  rcases hr : listP (fP offerK) 32 t2 with k | ⟨r2, t3⟩
  · rw [hr] at hp
    obtain ⟨rfl, hg⟩ := hp
    have B3 := Lib.hid (grown_trans_ B2.out hg)
    have R3 := Lib.hid hr
    clear hg hr
    go_wp2
    refine ⟨rfl, ?_⟩
    have hP : stateP xs = .error k := by simp only [stateP, fP, fp1, bindP, R1.out, R2.out, R3.out]
    unfold SPost; rw [hP]
    exact ⟨rfl, B3.out⟩
  rw [hr] at hp
  obtain ⟨A2, rfl, hO, hG, hg⟩ := hp
  have hs2 : w.heap.size < w2.heap.size := K2.out.lt
  have H3 := Lib.hid hG
  have O0_3 := Lib.hid (O0_2.out.keep hg (by omega))
  have O1_3 := Lib.hid (O1_2.out.keep hg (by omega))
  have O2_3 := Lib.hid hO
  have K3 := Lib.hid (K2.out.grown hg hne')
  have B3 := Lib.hid (grown_trans_ B2.out hg)
  have R3 := Lib.hid hr
  clear hG hg hr hO
  go_wp2_with fail
  refine (gnum_any g _ _ H3.out).mono ?_
  intro e w4 hp
  rcases hr : numP t3 with k | ⟨x3, t4⟩
  · rw [hr] at hp
    obtain ⟨rfl, hg⟩ := hp
    have B4 := Lib.hid (grown_trans_ B3.out hg)
    have R4 := Lib.hid hr
    clear hg hr
    go_wp2
    refine ⟨rfl, ?_⟩
    have hP : stateP xs = .error k := by simp only [stateP, fP, fp1, bindP, R1.out, R2.out, R3.out, R4.out]
    unfold SPost; rw [hP]
    exact ⟨rfl, B4.out⟩
  rw [hr] at hp
  obtain ⟨rfl, hG, hg⟩ := hp
  have hs3 : w.heap.size < w3.heap.size := K3.out.lt
  have H4 := Lib.hid hG
  have O0_4 := Lib.hid (O0_3.out.keep hg (by omega))
  have O1_4 := Lib.hid (O1_3.out.keep hg (by omega))
  have O2_4 := Lib.hid (O2_3.out.keep hg (by omega))
  have K4 := Lib.hid (K3.out.grown hg hne')
  have B4 := Lib.hid (grown_trans_ B3.out hg)
  have R4 := Lib.hid hr
  clear hG hg hr
  have bf := K4.out
  have fz := bf.free
  have z0 := bf.cell 0
  have z1 := bf.cell 1
  have z2 := bf.cell 2
  have z3 := bf.cell 3
  simp at z0 z1 z2 z3
  clear bf
  go_wp2
  have bf := ((((K4.out.set_ 0 (.slice A0 r0.length r0.length)).set_ 1 (.slice A1 r1.length r1.length)).set_ 2 (.slice A2 r2.length r2.length)).set_ 3 (.int .u64 x3))
  have y0 := bf.cell 0
  have y1 := bf.cell 1
  have y2 := bf.cell 2
  have y3 := bf.cell 3
  simp at y0 y1 y2 y3
  refine bodyPost_ret (v := .agg #[.slice A0 r0.length r0.length, .slice A1 r1.length r1.length, .slice A2 r2.length r2.length, .int .u64 x3]) (by simp [results, Try.results93, go_sem, y0, y1, y2, y3]) rfl ?_
  have hP : stateP xs = .ok ((r0, r1, r2, [(x3 : Int)]), t4) := by simp only [stateP, fP, fp1, bindP, R1.out, R2.out, R3.out, R4.out]
  unfold SPost; rw [hP]
  exact ⟨_, rfl, ⟨A0, A1, A2, rfl, (((((O0_4.out.far (p := ⟨w.heap.size, 0, none⟩) hs0 _).far (p := ⟨w.heap.size, 1, none⟩) hs0 _).far (p := ⟨w.heap.size, 2, none⟩) hs0 _).far (p := ⟨w.heap.size, 3, none⟩) hs0 _).le (by omega)), (((((O1_4.out.far (p := ⟨w.heap.size, 0, none⟩) hs1 _).far (p := ⟨w.heap.size, 1, none⟩) hs1 _).far (p := ⟨w.heap.size, 2, none⟩) hs1 _).far (p := ⟨w.heap.size, 3, none⟩) hs1 _).le (by omega)), (((((O2_4.out.far (p := ⟨w.heap.size, 0, none⟩) hs2 _).far (p := ⟨w.heap.size, 1, none⟩) hs2 _).far (p := ⟨w.heap.size, 2, none⟩) hs2 _).far (p := ⟨w.heap.size, 3, none⟩) hs2 _).le (by omega))⟩, ((((H4.out.out_ hlt 0 (.slice A0 r0.length r0.length)).out_ hlt 1 (.slice A1 r1.length r1.length)).out_ hlt 2 (.slice A2 r2.length r2.length)).out_ hlt 3 (.int .u64 x3)), (grown_far_ (grown_far_ (grown_far_ (grown_far_ B4.out (p := ⟨w.heap.size, 0, none⟩) (Nat.le_refl _) (.slice A0 r0.length r0.length)) (p := ⟨w.heap.size, 1, none⟩) (Nat.le_refl _) (.slice A1 r1.length r1.length)) (p := ⟨w.heap.size, 2, none⟩) (Nat.le_refl _) (.slice A2 r2.length r2.length)) (p := ⟨w.heap.size, 3, none⟩) (Nat.le_refl _) (.int .u64 x3))⟩
end Go.Proofs.Ytielnocnnffdfaa
