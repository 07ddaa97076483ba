import Derived.Test.YtoiclicechfmgaaGreatDoorPkz
import Derived.Test.YtoiclicechfmgaaGreatDoorMem
/- api.Command: put and got; its codec. -/
namespace Go.Proofs.YtoiclicechfmgaaGreatDoor
open Go.RowKit

abbrev cmdB (a : List (List Int)) : List Int := stepsB a
abbrev cmdP (xs : List Int) : Res (List (List Int)) := listP (fP stepK) 8 xs
def cmdOk (a : List (List Int)) : Prop := a.length ≤ 8 ∧ ∀ q ∈ a, fok stepK q
theorem cod_cmd : Cod cmdB cmdP cmdOk := (cod_list (cod_f stepK) 8 (by decide)).congr (fun _ => Iff.rfl) (fun _ _ => rfl) (fun _ => rfl)
set_option maxHeartbeats 4000000 in
set_option maxRecDepth 100000 in
theorem pcmd_any (p : Nat) (v0 : Value) (r0 : List (List Int)) (hin0 : ∀ q ∈ r0, fok stepK q) (b : Option Nat) (w : World) (xs : List Int) (h : Pu w p b xs) (hv0 : Steps w v0 r0) (hne0 : r0.length = 0 ∨ ∀ k, v0.ownBlock = some k → k ≠ p ∧ some k ≠ b) (hg0 : r0.length ≤ 4611686018427387904) (hl : xs.length + (cmdB r0).length ≤ 70368744177664) :
    Calls Tryz.prog 166 #[.pointer (some ⟨p, 0, none⟩), .agg #[v0]] w fun e w' => e = .returned (.tuple #[]) ∧ Pv w p b w' (xs ++ cmdB r0) := by
  obtain ⟨hp, k0, n1, n2⟩ := h.box 166 #[v0]
  have HI0 := Lib.hid hin0
  have HV0 := Lib.hid (Rd.alloc hv0 (.cells #[v0] 166))
  have HN0 := Lib.hid hne0
  have HG0 := Lib.hid hg0
  have K := Lib.hid k0
  have P0 := Lib.hid hp
  have hl := hl
  have HL := Lib.hid hl
  obtain ⟨A0, q0, rfl, -⟩ := id hv0
  clear h hp k0 hl  hin0 hv0 hne0 hg0
  go_enter Tryz.func166, Tryz.ntmps166
  go_wp2_with fail
  refine (psteps_v p _ r0 HI0.out b _ _ (xs) P0.out HV0.out HN0.out HG0.out (by have := HL.out; (try simp only [fB, fb1, List.headD_cons, List.tail_cons, List.length_append, List.length_nil, List.length_cons, List.append_nil] at this); (try simp only [fB, fb1, List.headD_cons, List.tail_cons, List.length_append, List.length_nil, List.length_cons, List.append_nil]); omega)).mono ?_
  rintro e w1 ⟨rfl, hP⟩
  have P1 := Lib.hid hP
  clear hP
  go_wp2
  refine bodyPost_end (results_none rfl _ _ _) rfl ⟨rfl, ?_⟩
  have := Pv.base (below_alloc_ _ _) P1.out
  exact this
theorem pcmd_v (p : Nat) (v0 : Value) (r0 : List (List Int)) (hin0 : ∀ q ∈ r0, fok stepK q) (b : Option Nat) (W0 w : World) (xs : List Int) (h : Pv W0 p b w xs) (hv0 : Steps W0 v0 r0) (hne0 : r0.length = 0 ∨ ∀ k, v0.ownBlock = some k → k ≠ p ∧ some k ≠ b) (hg0 : r0.length ≤ 4611686018427387904) (hl : xs.length + (cmdB r0).length ≤ 70368744177664) :
    Calls Tryz.prog 166 #[.pointer (some ⟨p, 0, none⟩), .agg #[v0]] w fun e w' => e = .returned (.tuple #[]) ∧ Pv W0 p b w' (xs ++ cmdB r0) := by
  have hv0' := h.tn.rd hv0 hne0
  obtain ⟨⟨b1, hu, hb⟩, ht⟩ := h
  exact (pcmd_any p v0 r0 hin0 b1 w xs hu hv0' (off_step (_w := w) hv0 hne0 hb) hg0 hl).mono fun _ _ hh => ⟨hh.1, Pv.trans ht hb hh.2⟩
/-- The value v is this; its lists are in blocks of their own from B on. -/
def cmdQ (a : List (List Int)) (B : Nat) (w : World) (v : Value) : Prop := match a with
  | r0 => ∃ A0 : Option Addr, v = .agg #[.slice A0 r0.length r0.length] ∧ Ow B w 235 10 (.slice A0 r0.length r0.length) r0.length (r0.flatMap (fc stepK))
set_option maxHeartbeats 4000000 in
set_option maxRecDepth 100000 in
theorem gcmd_any (g : Nat) (xs : List Int) (w : World) (h : Gt w g xs) :
    Calls Tryz.prog 137 #[.pointer (some ⟨g, 0, none⟩)] w (SPost (cmdP xs) cmdQ g w) := by
  have hG0 := h.alloc (.cells #[.slice none 0 0] 166)
  have hlt := h.lt
  have hne : w.heap.size ≠ g := by omega
  have hne' : some w.heap.size ≠ some g := fun e => hne (Option.some.inj e)
  have K0 := Lib.hid (Blk.new w 166 #[.slice none 0 0])
  have H0 := Lib.hid hG0
  have B0 := Lib.hid (grown_below_ (below_alloc_ w (.cells #[.slice none 0 0] 166)) (some g))
  clear h hG0
  go_enter Tryz.func137, Tryz.ntmps137
  go_wp2_with fail
  refine (gsteps_any g _ _ H0.out).mono ?_
  intro e w1 hp
  rcases hr : listP (fP stepK) 8 xs with k | ⟨r0, t1⟩
  · rw [hr] at hp
    obtain ⟨rfl, hg⟩ := hp
    have B1 := Lib.hid (grown_trans_ B0.out hg)
    have R1 := Lib.hid hr
    clear hg hr
    go_wp2
    refine ⟨rfl, ?_⟩
    have hP : cmdP xs = .error k := by simp only [cmdP, R1.out]
    unfold SPost; rw [hP]
    exact ⟨rfl, B1.out⟩
  rw [hr] at hp
  obtain ⟨A0, rfl, hO, hG, hg⟩ := hp
  have hs0 : w.heap.size < (w.alloc (.cells #[.slice none 0 0] 166)).heap.size := K0.out.lt
  have H1 := Lib.hid hG
  have O0_1 := Lib.hid hO
  have K1 := Lib.hid (K0.out.grown hg hne')
  have B1 := Lib.hid (grown_trans_ B0.out hg)
  have R1 := Lib.hid hr
  clear hG hg hr hO
  have bf := K1.out
  have fz := bf.free
  have z0 := bf.cell 0
  simp at z0
  clear bf
  go_wp2
  have bf := (K1.out.set_ 0 (.slice A0 r0.length r0.length))
  have y0 := bf.cell 0
  simp at y0
  refine bodyPost_ret (v := .agg #[.slice A0 r0.length r0.length]) (by simp [results, Tryz.results137, go_sem, y0]) rfl ?_
  have hP : cmdP xs = .ok (r0, t1) := by simp only [cmdP, R1.out]
  unfold SPost; rw [hP]
  exact ⟨_, rfl, ⟨A0, rfl, ((O0_1.out.far (p := ⟨w.heap.size, 0, none⟩) hs0 _).le (by omega))⟩, (H1.out.out_ hlt 0 (.slice A0 r0.length r0.length)), (grown_far_ B1.out (p := ⟨w.heap.size, 0, none⟩) (Nat.le_refl _) (.slice A0 r0.length r0.length))⟩
end Go.Proofs.YtoiclicechfmgaaGreatDoor

/- api.Entry: put and got; its codec. -/
namespace Go.Proofs.YtoiclicechfmgaaGreatDoor
open Go.RowKit

def entryK : List IntKind := [.u64, .u64, .u8, .u64]
def entryB (a : List Int × List (List Int)) : List Int := fB entryK a.1 ++ stepsB a.2
def entryP (xs : List Int) : Res (List Int × List (List Int)) := bindP (fP entryK xs) fun a r => bindP (listP (fP stepK) 8 r) fun b r' => .ok ((a, b), r')
def entryOk (a : List Int × List (List Int)) : Prop := fok entryK a.1 ∧ a.2.length ≤ 8 ∧ ∀ q ∈ a.2, fok stepK q
theorem cod_entry : Cod entryB entryP entryOk :=
  (Cod.bind (cod_f entryK) (cod_list (cod_f stepK) 8 (by decide)) Prod.mk Prod.fst Prod.snd entryOk (fun _ _ => rfl) (fun _ _ => rfl) (fun c hc => ⟨hc.1, hc.2, rfl⟩) (fun _ _ h1 h2 => ⟨h1, h2⟩)).congr (fun _ => Iff.rfl) (fun _ _ => rfl) (fun _ => rfl)
set_option maxHeartbeats 4000000 in
set_option maxRecDepth 100000 in
theorem pentry_any (p : Nat) (x0 : Int) (x1 : Int) (x2 : Int) (x3 : Int) (v4 : Value) (r4 : List (List Int)) (h0 : fok1 .u64 x0) (h1 : fok1 .u64 x1) (h2 : fok1 .u8 x2) (h3 : fok1 .u64 x3) (hin4 : ∀ q ∈ r4, fok stepK q) (b : Option Nat) (w : World) (xs : List Int) (h : Pu w p b xs) (hv4 : Steps w v4 r4) (hne4 : r4.length = 0 ∨ ∀ k, v4.ownBlock = some k → k ≠ p ∧ some k ≠ b) (hg4 : r4.length ≤ 4611686018427387904) (hl : xs.length + (entryB ([x0, x1, x2, x3], r4)).length ≤ 70368744177664) :
    Calls Tryz.prog 155 #[.pointer (some ⟨p, 0, none⟩), .agg #[.int .u64 x0, .int .u64 x1, .int .u8 x2, .int .u64 x3, v4]] w fun e w' => e = .returned (.tuple #[]) ∧ Pv w p b w' (xs ++ entryB ([x0, x1, x2, x3], r4)) := by
  obtain ⟨hp, k0, n1, n2⟩ := h.box 170 #[.int .u64 x0, .int .u64 x1, .int .u8 x2, .int .u64 x3, v4]
  have Q0 := Lib.hid h0
  have Q1 := Lib.hid h1
  have Q2 := Lib.hid h2
  have Q3 := Lib.hid h3
  have HI4 := Lib.hid hin4
  have HV4 := Lib.hid (Rd.alloc hv4 (.cells #[.int .u64 x0, .int .u64 x1, .int .u8 x2, .int .u64 x3, v4] 170))
  have HN4 := Lib.hid hne4
  have HG4 := Lib.hid hg4
  have K := Lib.hid k0
  have P0 := Lib.hid hp
  simp only [entryB, entryK, fB, fb1, List.headD_cons, List.tail_cons, List.length_append, List.length_nil, List.length_cons, List.append_nil] at hl
  have HL := Lib.hid hl
  obtain ⟨A4, q4, rfl, -⟩ := id hv4
  clear h hp k0 hl h0 h1 h2 h3 hin4 hv4 hne4 hg4
  go_enter Tryz.func155, Tryz.ntmps155
  go_wp2_with fail
  refine (pnumz_v p x0 b _ _ (xs) P0.out Q0.out (by have := HL.out; (try simp only [cmdB, fB, fb1, List.headD_cons, List.tail_cons, List.length_append, List.length_nil, List.length_cons, List.append_nil] at this); (try simp only [cmdB, fB, fb1, List.headD_cons, List.tail_cons, List.length_append, List.length_nil, List.length_cons, List.append_nil]); omega)).mono ?_
  rintro e w1 ⟨rfl, hP⟩
  have P1 := Lib.hid hP
  have k1 := hP.blk K.out n1 n2
  have c1_0 := k1.cell 0
  have c1_1 := k1.cell 1
  have c1_2 := k1.cell 2
  have c1_3 := k1.cell 3
  have c1_4 := k1.cell 4
  simp at c1_0 c1_1 c1_2 c1_3 c1_4
  clear k1
  clear hP
  go_wp2_with fail
  refine (pnumz_v p x1 b _ _ (xs ++ (nb x0.toNat)) P1.out Q1.out (by have := HL.out; (try simp only [cmdB, fB, fb1, List.headD_cons, List.tail_cons, List.length_append, List.length_nil, List.length_cons, List.append_nil] at this); (try simp only [List.length_append]); omega)).mono ?_
  rintro e w2 ⟨rfl, hP⟩
  have P2 := Lib.hid hP
  clear c1_0 c1_1 c1_2 c1_3 c1_4
  have k2 := hP.blk K.out n1 n2
  have c2_0 := k2.cell 0
  have c2_1 := k2.cell 1
  have c2_2 := k2.cell 2
  have c2_3 := k2.cell 3
  have c2_4 := k2.cell 4
  simp at c2_0 c2_1 c2_2 c2_3 c2_4
  clear k2
  clear hP
  go_wp2_with fail
  refine (pbyte_v p x2 b _ _ (xs ++ (nb x0.toNat) ++ (nb x1.toNat)) P2.out (by have := HL.out; (try simp only [cmdB, fB, fb1, List.headD_cons, List.tail_cons, List.length_append, List.length_nil, List.length_cons, List.append_nil] at this); (try simp only [List.length_append, List.length_nil, List.length_cons]); omega)).mono ?_
  rintro e w3 ⟨rfl, hP⟩
  have P3 := Lib.hid hP
  clear c2_0 c2_1 c2_2 c2_3 c2_4
  have k3 := hP.blk K.out n1 n2
  have c3_0 := k3.cell 0
  have c3_1 := k3.cell 1
  have c3_2 := k3.cell 2
  have c3_3 := k3.cell 3
  have c3_4 := k3.cell 4
  simp at c3_0 c3_1 c3_2 c3_3 c3_4
  clear k3
  clear hP
  go_wp2_with fail
  refine (pnumz_v p x3 b _ _ (xs ++ (nb x0.toNat) ++ (nb x1.toNat) ++ [x2]) P3.out Q3.out (by have := HL.out; (try simp only [cmdB, fB, fb1, List.headD_cons, List.tail_cons, List.length_append, List.length_nil, List.length_cons, List.append_nil] at this); (try simp only [List.length_append, List.length_nil, List.length_cons]); omega)).mono ?_
  rintro e w4 ⟨rfl, hP⟩
  have P4 := Lib.hid hP
  clear c3_0 c3_1 c3_2 c3_3 c3_4
  have k4 := hP.blk K.out n1 n2
  have c4_0 := k4.cell 0
  have c4_1 := k4.cell 1
  have c4_2 := k4.cell 2
  have c4_3 := k4.cell 3
  have c4_4 := k4.cell 4
  simp at c4_0 c4_1 c4_2 c4_3 c4_4
  clear k4
  clear hP
  go_wp2_with fail
  refine (pcmd_v p _ r4 HI4.out b _ _ (xs ++ (nb x0.toNat) ++ (nb x1.toNat) ++ [x2] ++ (nb x3.toNat)) P4.out HV4.out HN4.out HG4.out (by have := HL.out; (try simp only [cmdB, fB, fb1, List.headD_cons, List.tail_cons, List.length_append, List.length_nil, List.length_cons, List.append_nil] at this); (try simp only [cmdB, List.length_append, List.length_nil, List.length_cons]); omega)).mono ?_
  rintro e w5 ⟨rfl, hP⟩
  have P5 := Lib.hid hP
  clear c4_0 c4_1 c4_2 c4_3 c4_4
  clear hP
  go_wp2
  refine bodyPost_end (results_none rfl _ _ _) rfl ⟨rfl, ?_⟩
  have := Pv.base (below_alloc_ _ _) P5.out
  simpa only [cmdB, entryK, entryB, fB, fb1, List.headD_cons, List.tail_cons, List.append_nil, List.append_assoc, List.cons_append, List.nil_append] using this
theorem pentry_v (p : Nat) (x0 : Int) (x1 : Int) (x2 : Int) (x3 : Int) (v4 : Value) (r4 : List (List Int)) (h0 : fok1 .u64 x0) (h1 : fok1 .u64 x1) (h2 : fok1 .u8 x2) (h3 : fok1 .u64 x3) (hin4 : ∀ q ∈ r4, fok stepK q) (b : Option Nat) (W0 w : World) (xs : List Int) (h : Pv W0 p b w xs) (hv4 : Steps W0 v4 r4) (hne4 : r4.length = 0 ∨ ∀ k, v4.ownBlock = some k → k ≠ p ∧ some k ≠ b) (hg4 : r4.length ≤ 4611686018427387904) (hl : xs.length + (entryB ([x0, x1, x2, x3], r4)).length ≤ 70368744177664) :
    Calls Tryz.prog 155 #[.pointer (some ⟨p, 0, none⟩), .agg #[.int .u64 x0, .int .u64 x1, .int .u8 x2, .int .u64 x3, v4]] w fun e w' => e = .returned (.tuple #[]) ∧ Pv W0 p b w' (xs ++ entryB ([x0, x1, x2, x3], r4)) := by
  have hv4' := h.tn.rd hv4 hne4
  obtain ⟨⟨b1, hu, hb⟩, ht⟩ := h
  exact (pentry_any p x0 x1 x2 x3 v4 r4 h0 h1 h2 h3 hin4 b1 w xs hu hv4' (off_step (_w := w) hv4 hne4 hb) hg4 hl).mono fun _ _ hh => ⟨hh.1, Pv.trans ht hb hh.2⟩
/-- The value v is this; its lists are in blocks of their own from B on. -/
def entryQ (a : List Int × List (List Int)) (B : Nat) (w : World) (v : Value) : Prop := match a with
  | ([x0, x1, x2, x3], r4) => ∃ A4 : Option Addr, v = .agg #[.int .u64 x0, .int .u64 x1, .int .u8 x2, .int .u64 x3, .slice A4 r4.length r4.length] ∧ Ow B w 235 10 (.slice A4 r4.length r4.length) r4.length (r4.flatMap (fc stepK))
  | _ => False
set_option maxHeartbeats 4000000 in
set_option maxRecDepth 100000 in
theorem gentry_any (g : Nat) (xs : List Int) (w : World) (h : Gt w g xs) :
    Calls Tryz.prog 117 #[.pointer (some ⟨g, 0, none⟩)] w (SPost (entryP xs) entryQ g w) := by
  have hG0 := h.alloc (.cells #[.int .u64 0, .int .u64 0, .int .u8 0, .int .u64 0, .slice none 0 0] 170)
  have hlt := h.lt
  have hne : w.heap.size ≠ g := by omega
  have hne' : some w.heap.size ≠ some g := fun e => hne (Option.some.inj e)
  have K0 := Lib.hid (Blk.new w 170 #[.int .u64 0, .int .u64 0, .int .u8 0, .int .u64 0, .slice none 0 0])
  have H0 := Lib.hid hG0
  have B0 := Lib.hid (grown_below_ (below_alloc_ w (.cells #[.int .u64 0, .int .u64 0, .int .u8 0, .int .u64 0, .slice none 0 0] 170)) (some g))
  clear h hG0
  go_enter Tryz.func117, Tryz.ntmps117
  go_wp2_with fail
  refine (gnum_any g _ _ H0.out).mono ?_
  intro e w1 hp
  rcases hr : numP xs with k | ⟨x0, t1⟩
  · rw [hr] at hp
    obtain ⟨rfl, hg⟩ := hp
    have B1 := Lib.hid (grown_trans_ B0.out hg)
    have R1 := Lib.hid hr
    clear hg hr
    go_wp2
    refine ⟨rfl, ?_⟩
    have hP : entryP xs = .error k := by simp only [entryK, entryP, fP, fp1, bindP, R1.out]
    unfold SPost; rw [hP]
    exact ⟨rfl, B1.out⟩
  rw [hr] at hp
  obtain ⟨rfl, hG, hg⟩ := hp
  have hs0 : w.heap.size < (w.alloc (.cells #[.int .u64 0, .int .u64 0, .int .u8 0, .int .u64 0, .slice none 0 0] 170)).heap.size := K0.out.lt
  have H1 := Lib.hid hG
  have K1 := Lib.hid (K0.out.grown hg hne')
  have B1 := Lib.hid (grown_trans_ B0.out hg)
  have R1 := Lib.hid hr
  clear hG hg hr
  go_wp2_with fail
  refine (gnum_any g _ _ H1.out).mono ?_
  intro e w2 hp
  rcases hr : numP t1 with k | ⟨x1, t2⟩
  · rw [hr] at hp
    obtain ⟨rfl, hg⟩ := hp
    have B2 := Lib.hid (grown_trans_ B1.out hg)
    have R2 := Lib.hid hr
    clear hg hr
    go_wp2
    refine ⟨rfl, ?_⟩
    have hP : entryP xs = .error k := by simp only [entryK, entryP, fP, fp1, bindP, R1.out, R2.out]
    unfold SPost; rw [hP]
    exact ⟨rfl, B2.out⟩
  rw [hr] at hp
  obtain ⟨rfl, hG, hg⟩ := hp
  have hs1 : w.heap.size < w1.heap.size := K1.out.lt
  have H2 := Lib.hid hG
  have K2 := Lib.hid (K1.out.grown hg hne')
  have B2 := Lib.hid (grown_trans_ B1.out hg)
  have R2 := Lib.hid hr
  clear hG hg hr
  go_wp2_with fail
  refine (gbyte_any g _ _ H2.out).mono ?_
  intro e w3 hp
  rcases hr : byteP t2 with k | ⟨x2, t3⟩
  · rw [hr] at hp
    obtain ⟨rfl, hg⟩ := hp
    have B3 := Lib.hid (grown_trans_ B2.out hg)
    have R3 := Lib.hid hr
    clear hg hr
    go_wp2
    refine ⟨rfl, ?_⟩
    have hP : entryP xs = .error k := by simp only [entryK, entryP, fP, fp1, bindP, R1.out, R2.out, R3.out]
    unfold SPost; rw [hP]
    exact ⟨rfl, B3.out⟩
  rw [hr] at hp
  obtain ⟨rfl, hG, hg⟩ := hp
  have hs2 : w.heap.size < w2.heap.size := K2.out.lt
  have H3 := Lib.hid hG
  have K3 := Lib.hid (K2.out.grown hg hne')
  have B3 := Lib.hid (grown_trans_ B2.out hg)
  have R3 := Lib.hid hr
  clear hG hg hr
  go_wp2_with fail
  refine (gnum_any g _ _ H3.out).mono ?_
  intro e w4 hp
  rcases hr : numP t3 with k | ⟨x3, t4⟩
  · rw [hr] at hp
    obtain ⟨rfl, hg⟩ := hp
    have B4 := Lib.hid (grown_trans_ B3.out hg)
    have R4 := Lib.hid hr
    clear hg hr
    go_wp2
    refine ⟨rfl, ?_⟩
    have hP : entryP xs = .error k := by simp only [entryK, entryP, fP, fp1, bindP, R1.out, R2.out, R3.out, R4.out]
    unfold SPost; rw [hP]
    exact ⟨rfl, B4.out⟩
  rw [hr] at hp
  obtain ⟨rfl, hG, hg⟩ := hp
  have hs3 : w.heap.size < w3.heap.size := K3.out.lt
  have H4 := Lib.hid hG
  have K4 := Lib.hid (K3.out.grown hg hne')
  have B4 := Lib.hid (grown_trans_ B3.out hg)
  have R4 := Lib.hid hr
  clear hG hg hr
  go_wp2_with fail
  refine (gcmd_any g _ _ H4.out).mono ?_
  intro e w5 hp
  rcases hr : listP (fP stepK) 8 t4 with k | ⟨r4, t5⟩
  · unfold SPost cmdP at hp; rw [hr] at hp
    obtain ⟨rfl, hg⟩ := hp
    have B5 := Lib.hid (grown_trans_ B4.out hg)
    have R5 := Lib.hid hr
    clear hg hr
    go_wp2
    refine ⟨rfl, ?_⟩
    have hP : entryP xs = .error k := by simp only [entryK, entryP, fP, fp1, bindP, R1.out, R2.out, R3.out, R4.out, R5.out]
    unfold SPost; rw [hP]
    exact ⟨rfl, B5.out⟩
  unfold SPost cmdP at hp; rw [hr] at hp
  obtain ⟨vc, rfl, ⟨A4, rfl, hO⟩, hG, hg⟩ := hp
  have hs4 : w.heap.size < w4.heap.size := K4.out.lt
  have H5 := Lib.hid hG
  have O4_5 := Lib.hid hO
  have K5 := Lib.hid (K4.out.grown hg hne')
  have B5 := Lib.hid (grown_trans_ B4.out hg)
  have R5 := Lib.hid hr
  clear hG hg hr hO
  have bf := K5.out
  have fz := bf.free
  have z0 := bf.cell 0
  have z1 := bf.cell 1
  have z2 := bf.cell 2
  have z3 := bf.cell 3
  have z4 := bf.cell 4
  simp at z0 z1 z2 z3 z4
  clear bf
  go_wp2
  have bf := (((((K5.out.set_ 0 (.int .u64 x0)).set_ 1 (.int .u64 x1)).set_ 2 (.int .u8 x2)).set_ 3 (.int .u64 x3)).set_ 4 (.slice A4 r4.length r4.length))
  have y0 := bf.cell 0
  have y1 := bf.cell 1
  have y2 := bf.cell 2
  have y3 := bf.cell 3
  have y4 := bf.cell 4
  simp at y0 y1 y2 y3 y4
  refine bodyPost_ret (v := .agg #[.int .u64 x0, .int .u64 x1, .int .u8 x2, .int .u64 x3, .slice A4 r4.length r4.length]) (by simp [results, Tryz.results117, go_sem, y0, y1, y2, y3, y4]) rfl ?_
  have hP : entryP xs = .ok (([(x0 : Int), x1, x2, x3], r4), t5) := by simp only [entryK, entryP, fP, fp1, bindP, R1.out, R2.out, R3.out, R4.out, R5.out]
  unfold SPost; rw [hP]
  exact ⟨_, rfl, ⟨A4, rfl, ((((((O4_5.out.far (p := ⟨w.heap.size, 0, none⟩) hs4 _).far (p := ⟨w.heap.size, 1, none⟩) hs4 _).far (p := ⟨w.heap.size, 2, none⟩) hs4 _).far (p := ⟨w.heap.size, 3, none⟩) hs4 _).far (p := ⟨w.heap.size, 4, none⟩) hs4 _).le (by omega))⟩, (((((H5.out.out_ hlt 0 (.int .u64 x0)).out_ hlt 1 (.int .u64 x1)).out_ hlt 2 (.int .u8 x2)).out_ hlt 3 (.int .u64 x3)).out_ hlt 4 (.slice A4 r4.length r4.length)), (grown_far_ (grown_far_ (grown_far_ (grown_far_ (grown_far_ B5.out (p := ⟨w.heap.size, 0, none⟩) (Nat.le_refl _) (.int .u64 x0)) (p := ⟨w.heap.size, 1, none⟩) (Nat.le_refl _) (.int .u64 x1)) (p := ⟨w.heap.size, 2, none⟩) (Nat.le_refl _) (.int .u8 x2)) (p := ⟨w.heap.size, 3, none⟩) (Nat.le_refl _) (.int .u64 x3)) (p := ⟨w.heap.size, 4, none⟩) (Nat.le_refl _) (.slice A4 r4.length r4.length))⟩
end Go.Proofs.YtoiclicechfmgaaGreatDoor

/- A slice that has no room behind. -/
namespace Go.Proofs.YtoiclicechfmgaaGreatDoor
open Go.RowKit

def Clp (v : Value) : Prop := ∃ A n, v = .slice A n n
end Go.Proofs.YtoiclicechfmgaaGreatDoor
