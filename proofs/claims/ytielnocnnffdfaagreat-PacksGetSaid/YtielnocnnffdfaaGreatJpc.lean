import Derived.Test.YtielnocnnffdfaaGreatJpk
/- api.Command: put and got; its codec. -/
namespace Go.Proofs.YtielnocnnffdfaaGreat
open Go.RowKit

abbrev cmdB (a : List (List Int)) : List Int := stepsB a
abbrev cmdP (xs : List Int) : Res (List (List Int)) := listP (fP stepK) 8 xs
def cmdOk (a : List (List Int)) : Prop := a.length ≤ 8 ∧ ∀ q ∈ a, fok stepK q
theorem cod_cmd : Cod cmdB cmdP cmdOk := (cod_list (cod_f stepK) 8 (by decide)).congr (fun _ => Iff.rfl) (fun _ _ => rfl) (fun _ => rfl)
set_option maxHeartbeats 4000000 in
set_option maxRecDepth 100000 in
theorem pcmd_any (p : Nat) (v0 : Value) (r0 : List (List Int)) (hin0 : ∀ q ∈ r0, fok stepK q) (b : Option Nat) (w : World) (xs : List Int) (h : Pu w p b xs) (hv0 : Steps w v0 r0) (hne0 : r0.length = 0 ∨ ∀ k, v0.ownBlock = some k → k ≠ p ∧ some k ≠ b) (hg0 : r0.length ≤ 4611686018427387904) (hl : xs.length + (cmdB r0).length ≤ 70368744177664) :
    Calls Tryz.prog 55 #[.pointer (some ⟨p, 0, none⟩), .agg #[v0]] w fun e w' => e = .returned (.tuple #[]) ∧ Pv w p b w' (xs ++ cmdB r0) := by
  obtain ⟨hp, k0, n1, n2⟩ := h.box 30 #[v0]
  have HI0 := Lib.hid hin0
  have HV0 := Lib.hid (Rd.alloc hv0 (.cells #[v0] 30))
  have HN0 := Lib.hid hne0
  have HG0 := Lib.hid hg0
  have K := Lib.hid k0
  have P0 := Lib.hid hp
  have hl := hl
  have HL := Lib.hid hl
  obtain ⟨A0, q0, rfl, -⟩ := id hv0
  clear h hp k0 hl  hin0 hv0 hne0 hg0
  go_enter Tryz.func55, Tryz.ntmps55
  go_wp2_with fail
  refine (psteps_v p _ r0 HI0.out b _ _ (xs) P0.out HV0.out HN0.out HG0.out (by have := HL.out; (try simp only [fB, fb1, List.headD_cons, List.tail_cons, List.length_append, List.length_nil, List.length_cons, List.append_nil] at this); (try simp only [fB, fb1, List.headD_cons, List.tail_cons, List.length_append, List.length_nil, List.length_cons, List.append_nil]); omega)).mono ?_
  rintro e w1 ⟨rfl, hP⟩
  have P1 := Lib.hid hP
  clear hP
  go_wp2
  refine bodyPost_end (results_none rfl _ _ _) rfl ⟨rfl, ?_⟩
  have := Pv.base (below_alloc_ _ _) P1.out
  exact this
theorem pcmd_v (p : Nat) (v0 : Value) (r0 : List (List Int)) (hin0 : ∀ q ∈ r0, fok stepK q) (b : Option Nat) (W0 w : World) (xs : List Int) (h : Pv W0 p b w xs) (hv0 : Steps W0 v0 r0) (hne0 : r0.length = 0 ∨ ∀ k, v0.ownBlock = some k → k ≠ p ∧ some k ≠ b) (hg0 : r0.length ≤ 4611686018427387904) (hl : xs.length + (cmdB r0).length ≤ 70368744177664) :
    Calls Tryz.prog 55 #[.pointer (some ⟨p, 0, none⟩), .agg #[v0]] w fun e w' => e = .returned (.tuple #[]) ∧ Pv W0 p b w' (xs ++ cmdB r0) := by
  have hv0' := h.tn.rd hv0 hne0
  obtain ⟨⟨b1, hu, hb⟩, ht⟩ := h
  exact (pcmd_any p v0 r0 hin0 b1 w xs hu hv0' (off_step (w := w) hv0 hne0 hb) hg0 hl).mono fun _ _ hh => ⟨hh.1, Pv.trans ht hb hh.2⟩
/-- The value v is this; its lists are in blocks of their own from B on. -/
def cmdQ (a : List (List Int)) (B : Nat) (w : World) (v : Value) : Prop := match a with
  | r0 => ∃ A0 : Option Addr, v = .agg #[.slice A0 r0.length r0.length] ∧ Ow B w 91 10 (.slice A0 r0.length r0.length) r0.length (r0.flatMap (fc stepK))
set_option maxHeartbeats 4000000 in
set_option maxRecDepth 100000 in
theorem gcmd_any (g : Nat) (xs : List Int) (w : World) (h : Gt w g xs) :
    Calls Tryz.prog 34 #[.pointer (some ⟨g, 0, none⟩)] w (SPost (cmdP xs) cmdQ g w) := by
  have hG0 := h.alloc (.cells #[.slice none 0 0] 30)
  have hlt := h.lt
  have hne : w.heap.size ≠ g := by omega
  have hne' : some w.heap.size ≠ some g := fun e => hne (Option.some.inj e)
  have K0 := Lib.hid (Blk.new w 30 #[.slice none 0 0])
  have H0 := Lib.hid hG0
  have B0 := Lib.hid (grown_below_ (below_alloc_ w (.cells #[.slice none 0 0] 30)) (some g))
  clear h hG0
  go_enter Tryz.func34, Tryz.ntmps34
  go_wp2_with fail
  refine (gsteps_any g _ _ H0.out).mono ?_
  intro e w1 hp
  rcases hr : listP (fP stepK) 8 xs with k | ⟨r0, t1⟩
  · rw [hr] at hp
    obtain ⟨rfl, hg⟩ := hp
    have B1 := Lib.hid (grown_trans_ B0.out hg)
    have R1 := Lib.hid hr
    clear hg hr
    go_wp2
    refine ⟨rfl, ?_⟩
    have hP : cmdP xs = .error k := by simp only [cmdP, fP, fp1, bindP, R1.out]
    unfold SPost; rw [hP]
    exact ⟨rfl, B1.out⟩
  rw [hr] at hp
  obtain ⟨A0, rfl, hO, hG, hg⟩ := hp
  have hs0 : w.heap.size < (w.alloc (.cells #[.slice none 0 0] 30)).heap.size := K0.out.lt
  have H1 := Lib.hid hG
  have O0_1 := Lib.hid hO
  have K1 := Lib.hid (K0.out.grown hg hne')
  have B1 := Lib.hid (grown_trans_ B0.out hg)
  have R1 := Lib.hid hr
  clear hG hg hr hO
  have bf := K1.out
  have fz := bf.free
  have z0 := bf.cell 0
  simp at z0
  clear bf
  go_wp2
  have bf := (K1.out.set_ 0 (.slice A0 r0.length r0.length))
  have y0 := bf.cell 0
  simp at y0
  refine bodyPost_ret (v := .agg #[.slice A0 r0.length r0.length]) (by simp [results, Tryz.results34, go_sem, y0]) rfl ?_
  have hP : cmdP xs = .ok (r0, t1) := by simp only [cmdP, fP, fp1, bindP, R1.out]
  unfold SPost; rw [hP]
  exact ⟨_, rfl, ⟨A0, rfl, ((O0_1.out.far (p := ⟨w.heap.size, 0, none⟩) hs0 _).le (by omega))⟩, (H1.out.out_ hlt 0 (.slice A0 r0.length r0.length)), (grown_far_ B1.out (p := ⟨w.heap.size, 0, none⟩) (Nat.le_refl _) (.slice A0 r0.length r0.length))⟩
end Go.Proofs.YtielnocnnffdfaaGreat

/- api.Reply: put and got; its codec. -/
namespace Go.Proofs.YtielnocnnffdfaaGreat
open Go.RowKit

def replyK : List IntKind := [.i64, .i64]
def replyB (a : List Int × List (List Int)) : List Int := fB replyK a.1 ++ gotsB a.2
def replyP (xs : List Int) : Res (List Int × List (List Int)) := bindP (fP replyK xs) fun a r => bindP (listP (fP gotK) 8 r) fun b r' => .ok ((a, b), r')
def replyOk (a : List Int × List (List Int)) : Prop := fok replyK a.1 ∧ a.2.length ≤ 8 ∧ ∀ q ∈ a.2, fok gotK q
theorem cod_reply : Cod replyB replyP replyOk :=
  (Cod.bind (cod_f replyK) (cod_list (cod_f gotK) 8 (by decide)) Prod.mk Prod.fst Prod.snd replyOk (fun _ _ => rfl) (fun _ _ => rfl) (fun c hc => ⟨hc.1, hc.2, rfl⟩) (fun _ _ h1 h2 => ⟨h1, h2⟩)).congr (fun _ => Iff.rfl) (fun _ _ => rfl) (fun _ => rfl)
/-- The value v is this; its lists are in blocks of their own from B on. -/
def replyQ (a : List Int × List (List Int)) (B : Nat) (w : World) (v : Value) : Prop := match a with
  | ([x0, x1], r2) => ∃ A2 : Option Addr, v = .agg #[.int .i64 x0, .int .i64 x1, .slice A2 r2.length r2.length] ∧ Ow B w 103 2 (.slice A2 r2.length r2.length) r2.length (r2.flatMap (fc gotK))
  | _ => False
set_option maxHeartbeats 4000000 in
set_option maxRecDepth 100000 in
theorem greply_any (g : Nat) (xs : List Int) (w : World) (h : Gt w g xs) :
    Calls Tryz.prog 39 #[.pointer (some ⟨g, 0, none⟩)] w (SPost (replyP xs) replyQ g w) := by
  have hG0 := h.alloc (.cells #[.int .i64 0, .int .i64 0, .slice none 0 0] 37)
  have hlt := h.lt
  have hne : w.heap.size ≠ g := by omega
  have hne' : some w.heap.size ≠ some g := fun e => hne (Option.some.inj e)
  have K0 := Lib.hid (Blk.new w 37 #[.int .i64 0, .int .i64 0, .slice none 0 0])
  have H0 := Lib.hid hG0
  have B0 := Lib.hid (grown_below_ (below_alloc_ w (.cells #[.int .i64 0, .int .i64 0, .slice none 0 0] 37)) (some g))
  clear h hG0
  go_enter Tryz.func39, Tryz.ntmps39
  go_wp2_with fail
  refine (gsign_any g _ _ H0.out).mono ?_
  intro e w1 hp
  rcases hr : signP xs with k | ⟨x0, t1⟩
  · rw [hr] at hp
    obtain ⟨rfl, hg⟩ := hp
    have B1 := Lib.hid (grown_trans_ B0.out hg)
    have R1 := Lib.hid hr
    clear hg hr
    go_wp2
    refine ⟨rfl, ?_⟩
    have hP : replyP xs = .error k := by simp only [replyK, replyP, fP, fp1, bindP, R1.out]
    unfold SPost; rw [hP]
    exact ⟨rfl, B1.out⟩
  rw [hr] at hp
  obtain ⟨rfl, hG, hg⟩ := hp
  have hs0 : w.heap.size < (w.alloc (.cells #[.int .i64 0, .int .i64 0, .slice none 0 0] 37)).heap.size := K0.out.lt
  have H1 := Lib.hid hG
  have K1 := Lib.hid (K0.out.grown hg hne')
  have B1 := Lib.hid (grown_trans_ B0.out hg)
  have R1 := Lib.hid hr
  clear hG hg hr
  go_wp2_with fail
  refine (gsign_any g _ _ H1.out).mono ?_
  intro e w2 hp
  rcases hr : signP t1 with k | ⟨x1, t2⟩
  · rw [hr] at hp
    obtain ⟨rfl, hg⟩ := hp
    have B2 := Lib.hid (grown_trans_ B1.out hg)
    have R2 := Lib.hid hr
    clear hg hr
    go_wp2
    refine ⟨rfl, ?_⟩
    have hP : replyP xs = .error k := by simp only [replyK, replyP, fP, fp1, bindP, R1.out, R2.out]
    unfold SPost; rw [hP]
    exact ⟨rfl, B2.out⟩
  rw [hr] at hp
  obtain ⟨rfl, hG, hg⟩ := hp
  have hs1 : w.heap.size < w1.heap.size := K1.out.lt
  have H2 := Lib.hid hG
  have K2 := Lib.hid (K1.out.grown hg hne')
  have B2 := Lib.hid (grown_trans_ B1.out hg)
  have R2 := Lib.hid hr
  clear hG hg hr
  go_wp2_with fail
  refine (ggots_any g _ _ H2.out).mono ?_
  intro e w3 hp
  rcases hr : listP (fP gotK) 8 t2 with k | ⟨r2, t3⟩
  · rw [hr] at hp
    obtain ⟨rfl, hg⟩ := hp
    have B3 := Lib.hid (grown_trans_ B2.out hg)
    have R3 := Lib.hid hr
    clear hg hr
    go_wp2
    refine ⟨rfl, ?_⟩
    have hP : replyP xs = .error k := by simp only [replyK, replyP, fP, fp1, bindP, R1.out, R2.out, R3.out]
    unfold SPost; rw [hP]
    exact ⟨rfl, B3.out⟩
  rw [hr] at hp
  obtain ⟨A2, rfl, hO, hG, hg⟩ := hp
  have hs2 : w.heap.size < w2.heap.size := K2.out.lt
  have H3 := Lib.hid hG
  have O2_3 := Lib.hid hO
  have K3 := Lib.hid (K2.out.grown hg hne')
  have B3 := Lib.hid (grown_trans_ B2.out hg)
  have R3 := Lib.hid hr
  clear hG hg hr hO
  have bf := K3.out
  have fz := bf.free
  have z0 := bf.cell 0
  have z1 := bf.cell 1
  have z2 := bf.cell 2
  simp at z0 z1 z2
  clear bf
  go_wp2
  have bf := (((K3.out.set_ 0 (.int .i64 x0)).set_ 1 (.int .i64 x1)).set_ 2 (.slice A2 r2.length r2.length))
  have y0 := bf.cell 0
  have y1 := bf.cell 1
  have y2 := bf.cell 2
  simp at y0 y1 y2
  refine bodyPost_ret (v := .agg #[.int .i64 x0, .int .i64 x1, .slice A2 r2.length r2.length]) (by simp [results, Tryz.results39, go_sem, y0, y1, y2]) rfl ?_
  have hP : replyP xs = .ok (([(x0 : Int), x1], r2), t3) := by simp only [replyK, replyP, fP, fp1, bindP, R1.out, R2.out, R3.out]
  unfold SPost; rw [hP]
  exact ⟨_, rfl, ⟨A2, rfl, ((((O2_3.out.far (p := ⟨w.heap.size, 0, none⟩) hs2 _).far (p := ⟨w.heap.size, 1, none⟩) hs2 _).far (p := ⟨w.heap.size, 2, none⟩) hs2 _).le (by omega))⟩, (((H3.out.out_ hlt 0 (.int .i64 x0)).out_ hlt 1 (.int .i64 x1)).out_ hlt 2 (.slice A2 r2.length r2.length)), (grown_far_ (grown_far_ (grown_far_ B3.out (p := ⟨w.heap.size, 0, none⟩) (Nat.le_refl _) (.int .i64 x0)) (p := ⟨w.heap.size, 1, none⟩) (Nat.le_refl _) (.int .i64 x1)) (p := ⟨w.heap.size, 2, none⟩) (Nat.le_refl _) (.slice A2 r2.length r2.length))⟩
end Go.Proofs.YtielnocnnffdfaaGreat

/- api.Entry: put and got; its codec. -/
namespace Go.Proofs.YtielnocnnffdfaaGreat
open Go.RowKit

def entryK : List IntKind := [.u64, .u64, .u8, .u64]
def entryB (a : List Int × List (List Int)) : List Int := fB entryK a.1 ++ stepsB a.2
def entryP (xs : List Int) : Res (List Int × List (List Int)) := bindP (fP entryK xs) fun a r => bindP (listP (fP stepK) 8 r) fun b r' => .ok ((a, b), r')
def entryOk (a : List Int × List (List Int)) : Prop := fok entryK a.1 ∧ a.2.length ≤ 8 ∧ ∀ q ∈ a.2, fok stepK q
theorem cod_entry : Cod entryB entryP entryOk :=
  (Cod.bind (cod_f entryK) (cod_list (cod_f stepK) 8 (by decide)) Prod.mk Prod.fst Prod.snd entryOk (fun _ _ => rfl) (fun _ _ => rfl) (fun c hc => ⟨hc.1, hc.2, rfl⟩) (fun _ _ h1 h2 => ⟨h1, h2⟩)).congr (fun _ => Iff.rfl) (fun _ _ => rfl) (fun _ => rfl)
/-- The value v is this; its lists are in blocks of their own from B on. -/
def entryQ (a : List Int × List (List Int)) (B : Nat) (w : World) (v : Value) : Prop := match a with
  | ([x0, x1, x2, x3], r4) => ∃ A4 : Option Addr, v = .agg #[.int .u64 x0, .int .u64 x1, .int .u8 x2, .int .u64 x3, .slice A4 r4.length r4.length] ∧ Ow B w 91 10 (.slice A4 r4.length r4.length) r4.length (r4.flatMap (fc stepK))
  | _ => False
set_option maxHeartbeats 4000000 in
set_option maxRecDepth 100000 in
theorem gentry_any (g : Nat) (xs : List Int) (w : World) (h : Gt w g xs) :
    Calls Tryz.prog 42 #[.pointer (some ⟨g, 0, none⟩)] w (SPost (entryP xs) entryQ g w) := by
  have hG0 := h.alloc (.cells #[.int .u64 0, .int .u64 0, .int .u8 0, .int .u64 0, .slice none 0 0] 43)
  have hlt := h.lt
  have hne : w.heap.size ≠ g := by omega
  have hne' : some w.heap.size ≠ some g := fun e => hne (Option.some.inj e)
  have K0 := Lib.hid (Blk.new w 43 #[.int .u64 0, .int .u64 0, .int .u8 0, .int .u64 0, .slice none 0 0])
  have H0 := Lib.hid hG0
  have B0 := Lib.hid (grown_below_ (below_alloc_ w (.cells #[.int .u64 0, .int .u64 0, .int .u8 0, .int .u64 0, .slice none 0 0] 43)) (some g))
  clear h hG0
  go_enter Tryz.func42, Tryz.ntmps42
  go_wp2_with fail
  refine (gnum_any g _ _ H0.out).mono ?_
  intro e w1 hp
  rcases hr : numP xs with k | ⟨x0, t1⟩
  · rw [hr] at hp
    obtain ⟨rfl, hg⟩ := hp
    have B1 := Lib.hid (grown_trans_ B0.out hg)
    have R1 := Lib.hid hr
    clear hg hr
    go_wp2
    refine ⟨rfl, ?_⟩
    have hP : entryP xs = .error k := by simp only [entryK, entryP, cmdP, fP, fp1, bindP, R1.out]
    unfold SPost; rw [hP]
    exact ⟨rfl, B1.out⟩
  rw [hr] at hp
  obtain ⟨rfl, hG, hg⟩ := hp
  have hs0 : w.heap.size < (w.alloc (.cells #[.int .u64 0, .int .u64 0, .int .u8 0, .int .u64 0, .slice none 0 0] 43)).heap.size := K0.out.lt
  have H1 := Lib.hid hG
  have K1 := Lib.hid (K0.out.grown hg hne')
  have B1 := Lib.hid (grown_trans_ B0.out hg)
  have R1 := Lib.hid hr
  clear hG hg hr
  go_wp2_with fail
  refine (gnum_any g _ _ H1.out).mono ?_
  intro e w2 hp
  rcases hr : numP t1 with k | ⟨x1, t2⟩
  · rw [hr] at hp
    obtain ⟨rfl, hg⟩ := hp
    have B2 := Lib.hid (grown_trans_ B1.out hg)
    have R2 := Lib.hid hr
    clear hg hr
    go_wp2
    refine ⟨rfl, ?_⟩
    have hP : entryP xs = .error k := by simp only [entryK, entryP, cmdP, fP, fp1, bindP, R1.out, R2.out]
    unfold SPost; rw [hP]
    exact ⟨rfl, B2.out⟩
  rw [hr] at hp
  obtain ⟨rfl, hG, hg⟩ := hp
  have hs1 : w.heap.size < w1.heap.size := K1.out.lt
  have H2 := Lib.hid hG
  have K2 := Lib.hid (K1.out.grown hg hne')
  have B2 := Lib.hid (grown_trans_ B1.out hg)
  have R2 := Lib.hid hr
  clear hG hg hr
  go_wp2_with fail
  refine (gbyte_any g _ _ H2.out).mono ?_
  intro e w3 hp
  rcases hr : byteP t2 with k | ⟨x2, t3⟩
  · rw [hr] at hp
    obtain ⟨rfl, hg⟩ := hp
    have B3 := Lib.hid (grown_trans_ B2.out hg)
    have R3 := Lib.hid hr
    clear hg hr
    go_wp2
    refine ⟨rfl, ?_⟩
    have hP : entryP xs = .error k := by simp only [entryK, entryP, cmdP, fP, fp1, bindP, R1.out, R2.out, R3.out]
    unfold SPost; rw [hP]
    exact ⟨rfl, B3.out⟩
  rw [hr] at hp
  obtain ⟨rfl, hG, hg⟩ := hp
  have hs2 : w.heap.size < w2.heap.size := K2.out.lt
  have H3 := Lib.hid hG
  have K3 := Lib.hid (K2.out.grown hg hne')
  have B3 := Lib.hid (grown_trans_ B2.out hg)
  have R3 := Lib.hid hr
  clear hG hg hr
  go_wp2_with fail
  refine (gnum_any g _ _ H3.out).mono ?_
  intro e w4 hp
  rcases hr : numP t3 with k | ⟨x3, t4⟩
  · rw [hr] at hp
    obtain ⟨rfl, hg⟩ := hp
    have B4 := Lib.hid (grown_trans_ B3.out hg)
    have R4 := Lib.hid hr
    clear hg hr
    go_wp2
    refine ⟨rfl, ?_⟩
    have hP : entryP xs = .error k := by simp only [entryK, entryP, cmdP, fP, fp1, bindP, R1.out, R2.out, R3.out, R4.out]
    unfold SPost; rw [hP]
    exact ⟨rfl, B4.out⟩
  rw [hr] at hp
  obtain ⟨rfl, hG, hg⟩ := hp
  have hs3 : w.heap.size < w3.heap.size := K3.out.lt
  have H4 := Lib.hid hG
  have K4 := Lib.hid (K3.out.grown hg hne')
  have B4 := Lib.hid (grown_trans_ B3.out hg)
  have R4 := Lib.hid hr
  clear hG hg hr
  go_wp2_with fail
  refine (gcmd_any g _ _ H4.out).mono ?_
  intro e w5 hp
  rcases hr : listP (fP stepK) 8 t4 with k | ⟨r4, t5⟩
  · unfold SPost cmdP at hp; rw [hr] at hp
    obtain ⟨rfl, hg⟩ := hp
    have B5 := Lib.hid (grown_trans_ B4.out hg)
    have R5 := Lib.hid hr
    clear hg hr
    go_wp2
    refine ⟨rfl, ?_⟩
    have hP : entryP xs = .error k := by simp only [entryK, entryP, cmdP, fP, fp1, bindP, R1.out, R2.out, R3.out, R4.out, R5.out]
    unfold SPost; rw [hP]
    exact ⟨rfl, B5.out⟩
  unfold SPost cmdP at hp; rw [hr] at hp
  obtain ⟨vc, rfl, ⟨A4, rfl, hO⟩, hG, hg⟩ := hp
  have hs4 : w.heap.size < w4.heap.size := K4.out.lt
  have H5 := Lib.hid hG
  have O4_5 := Lib.hid hO
  have K5 := Lib.hid (K4.out.grown hg hne')
  have B5 := Lib.hid (grown_trans_ B4.out hg)
  have R5 := Lib.hid hr
  clear hG hg hr hO
  have bf := K5.out
  have fz := bf.free
  have z0 := bf.cell 0
  have z1 := bf.cell 1
  have z2 := bf.cell 2
  have z3 := bf.cell 3
  have z4 := bf.cell 4
  simp at z0 z1 z2 z3 z4
  clear bf
  go_wp2
  have bf := (((((K5.out.set_ 0 (.int .u64 x0)).set_ 1 (.int .u64 x1)).set_ 2 (.int .u8 x2)).set_ 3 (.int .u64 x3)).set_ 4 (.slice A4 r4.length r4.length))
  have y0 := bf.cell 0
  have y1 := bf.cell 1
  have y2 := bf.cell 2
  have y3 := bf.cell 3
  have y4 := bf.cell 4
  simp at y0 y1 y2 y3 y4
  refine bodyPost_ret (v := .agg #[.int .u64 x0, .int .u64 x1, .int .u8 x2, .int .u64 x3, .slice A4 r4.length r4.length]) (by simp [results, Tryz.results42, go_sem, y0, y1, y2, y3, y4]) rfl ?_
  have hP : entryP xs = .ok (([(x0 : Int), x1, x2, x3], r4), t5) := by simp only [entryK, entryP, cmdP, fP, fp1, bindP, R1.out, R2.out, R3.out, R4.out, R5.out]
  unfold SPost; rw [hP]
  exact ⟨_, rfl, ⟨A4, rfl, ((((((O4_5.out.far (p := ⟨w.heap.size, 0, none⟩) hs4 _).far (p := ⟨w.heap.size, 1, none⟩) hs4 _).far (p := ⟨w.heap.size, 2, none⟩) hs4 _).far (p := ⟨w.heap.size, 3, none⟩) hs4 _).far (p := ⟨w.heap.size, 4, none⟩) hs4 _).le (by omega))⟩, (((((H5.out.out_ hlt 0 (.int .u64 x0)).out_ hlt 1 (.int .u64 x1)).out_ hlt 2 (.int .u8 x2)).out_ hlt 3 (.int .u64 x3)).out_ hlt 4 (.slice A4 r4.length r4.length)), (grown_far_ (grown_far_ (grown_far_ (grown_far_ (grown_far_ B5.out (p := ⟨w.heap.size, 0, none⟩) (Nat.le_refl _) (.int .u64 x0)) (p := ⟨w.heap.size, 1, none⟩) (Nat.le_refl _) (.int .u64 x1)) (p := ⟨w.heap.size, 2, none⟩) (Nat.le_refl _) (.int .u8 x2)) (p := ⟨w.heap.size, 3, none⟩) (Nat.le_refl _) (.int .u64 x3)) (p := ⟨w.heap.size, 4, none⟩) (Nat.le_refl _) (.slice A4 r4.length r4.length))⟩
end Go.Proofs.YtielnocnnffdfaaGreat

/- machines.State: put and got; its codec. -/
namespace Go.Proofs.YtielnocnnffdfaaGreat
open Go.RowKit

def stateB (a : List (List Int) × List (List Int) × List (List Int) × List Int) : List Int := partysB a.1 ++ (linesB a.2.1 ++ (offersB a.2.2.1 ++ fB [.u64] a.2.2.2))
def stateP (xs : List Int) : Res (List (List Int) × List (List Int) × List (List Int) × List Int) := bindP (listP (fP partyK) 16 xs) fun a r => bindP (bindP (listP (fP lineK) 64 r) fun b r => bindP (bindP (listP (fP offerK) 32 r) fun c r => bindP (fP [.u64] r) fun d r => .ok ((c, d), r)) fun c r => .ok ((b, c), r)) fun b r => .ok ((a, b), r)
def stateOk (a : List (List Int) × List (List Int) × List (List Int) × List Int) : Prop := (a.1.length ≤ 16 ∧ ∀ q ∈ a.1, fok partyK q) ∧ (a.2.1.length ≤ 64 ∧ ∀ q ∈ a.2.1, fok lineK q) ∧ (a.2.2.1.length ≤ 32 ∧ ∀ q ∈ a.2.2.1, fok offerK q) ∧ fok [.u64] a.2.2.2
theorem cod_state : Cod stateB stateP stateOk :=
  (Cod.bind (cod_list (cod_f partyK) 16 (by decide)) (Cod.bind (cod_list (cod_f lineK) 64 (by decide)) (Cod.bind (cod_list (cod_f offerK) 32 (by decide)) (cod_f [.u64]) Prod.mk Prod.fst Prod.snd _ (fun _ _ => rfl) (fun _ _ => rfl) (fun c (hc : _ ∧ _) => ⟨hc.1, hc.2, rfl⟩) (fun _ _ h1 h2 => ⟨h1, h2⟩)) Prod.mk Prod.fst Prod.snd _ (fun _ _ => rfl) (fun _ _ => rfl) (fun c (hc : _ ∧ _) => ⟨hc.1, hc.2, rfl⟩) (fun _ _ h1 h2 => ⟨h1, h2⟩)) Prod.mk Prod.fst Prod.snd stateOk (fun _ _ => rfl) (fun _ _ => rfl) (fun c hc => ⟨hc.1, hc.2, rfl⟩) (fun _ _ h1 h2 => ⟨h1, h2⟩)).congr (fun _ => Iff.rfl) (fun _ _ => rfl) (fun _ => rfl)
/-- The value v is this; its lists are in blocks of their own from B on. -/
def stateQ (a : List (List Int) × List (List Int) × List (List Int) × List Int) (B : Nat) (w : World) (v : Value) : Prop := match a with
  | (r0, r1, r2, [x3]) => ∃ A0 A1 A2 : Option Addr, v = .agg #[.slice A0 r0.length r0.length, .slice A1 r1.length r1.length, .slice A2 r2.length r2.length, .int .u64 x3] ∧ Ow B w 86 1 (.slice A0 r0.length r0.length) r0.length (r0.flatMap (fc partyK)) ∧ Ow B w 120 5 (.slice A1 r1.length r1.length) r1.length (r1.flatMap (fc lineK)) ∧ Ow B w 124 7 (.slice A2 r2.length r2.length) r2.length (r2.flatMap (fc offerK))
  | _ => False
set_option maxHeartbeats 4000000 in
set_option maxRecDepth 100000 in
theorem gstate_any (g : Nat) (xs : List Int) (w : World) (h : Gt w g xs) :
    Calls Tryz.prog 45 #[.pointer (some ⟨g, 0, none⟩)] w (SPost (stateP xs) stateQ g w) := by
  have hG0 := h.alloc (.cells #[.slice none 0 0, .slice none 0 0, .slice none 0 0, .int .u64 0] 50)
  have hlt := h.lt
  have hne : w.heap.size ≠ g := by omega
  have hne' : some w.heap.size ≠ some g := fun e => hne (Option.some.inj e)
  have K0 := Lib.hid (Blk.new w 50 #[.slice none 0 0, .slice none 0 0, .slice none 0 0, .int .u64 0])
  have H0 := Lib.hid hG0
  have B0 := Lib.hid (grown_below_ (below_alloc_ w (.cells #[.slice none 0 0, .slice none 0 0, .slice none 0 0, .int .u64 0] 50)) (some g))
  clear h hG0
  go_enter Tryz.func45, Tryz.ntmps45
  go_wp2_with fail
  refine (gpartys_any g _ _ H0.out).mono ?_
  intro e w1 hp
  rcases hr : listP (fP partyK) 16 xs with k | ⟨r0, t1⟩
  · rw [hr] at hp
    obtain ⟨rfl, hg⟩ := hp
    have B1 := Lib.hid (grown_trans_ B0.out hg)
    have R1 := Lib.hid hr
    clear hg hr
    go_wp2
    refine ⟨rfl, ?_⟩
    have hP : stateP xs = .error k := by simp only [stateP, fP, fp1, bindP, R1.out]
    unfold SPost; rw [hP]
    exact ⟨rfl, B1.out⟩
  rw [hr] at hp
  obtain ⟨A0, rfl, hO, hG, hg⟩ := hp
  have hs0 : w.heap.size < (w.alloc (.cells #[.slice none 0 0, .slice none 0 0, .slice none 0 0, .int .u64 0] 50)).heap.size := K0.out.lt
  have H1 := Lib.hid hG
  have O0_1 := Lib.hid hO
  have K1 := Lib.hid (K0.out.grown hg hne')
  have B1 := Lib.hid (grown_trans_ B0.out hg)
  have R1 := Lib.hid hr
  clear hG hg hr hO
  go_wp2_with fail
  refine (glines_any g _ _ H1.out).mono ?_
  intro e w2 hp
  rcases hr : listP (fP lineK) 64 t1 with k | ⟨r1, t2⟩
  · rw [hr] at hp
    obtain ⟨rfl, hg⟩ := hp
    have B2 := Lib.hid (grown_trans_ B1.out hg)
    have R2 := Lib.hid hr
    clear hg hr
    go_wp2
    refine ⟨rfl, ?_⟩
    have hP : stateP xs = .error k := by simp only [stateP, fP, fp1, bindP, R1.out, R2.out]
    unfold SPost; rw [hP]
    exact ⟨rfl, B2.out⟩
  rw [hr] at hp
  obtain ⟨A1, rfl, hO, hG, hg⟩ := hp
  have hs1 : w.heap.size < w1.heap.size := K1.out.lt
  have H2 := Lib.hid hG
  have O0_2 := Lib.hid (O0_1.out.keep hg (by omega))
  have O1_2 := Lib.hid hO
  have K2 := Lib.hid (K1.out.grown hg hne')
  have B2 := Lib.hid (grown_trans_ B1.out hg)
  have R2 := Lib.hid hr
  clear hG hg hr hO
  go_wp2_with fail
  refine (goffers_any g _ _ H2.out).mono ?_
  intro e w3 hp
  rcases hr : listP (fP offerK) 32 t2 with k | ⟨r2, t3⟩
  · rw [hr] at hp
    obtain ⟨rfl, hg⟩ := hp
    have B3 := Lib.hid (grown_trans_ B2.out hg)
    have R3 := Lib.hid hr
    clear hg hr
    go_wp2
    refine ⟨rfl, ?_⟩
    have hP : stateP xs = .error k := by simp only [stateP, fP, fp1, bindP, R1.out, R2.out, R3.out]
    unfold SPost; rw [hP]
    exact ⟨rfl, B3.out⟩
  rw [hr] at hp
  obtain ⟨A2, rfl, hO, hG, hg⟩ := hp
  have hs2 : w.heap.size < w2.heap.size := K2.out.lt
  have H3 := Lib.hid hG
  have O0_3 := Lib.hid (O0_2.out.keep hg (by omega))
  have O1_3 := Lib.hid (O1_2.out.keep hg (by omega))
  have O2_3 := Lib.hid hO
  have K3 := Lib.hid (K2.out.grown hg hne')
  have B3 := Lib.hid (grown_trans_ B2.out hg)
  have R3 := Lib.hid hr
  clear hG hg hr hO
  go_wp2_with fail
  refine (gnum_any g _ _ H3.out).mono ?_
  intro e w4 hp
  rcases hr : numP t3 with k | ⟨x3, t4⟩
  · rw [hr] at hp
    obtain ⟨rfl, hg⟩ := hp
    have B4 := Lib.hid (grown_trans_ B3.out hg)
    have R4 := Lib.hid hr
    clear hg hr
    go_wp2
    refine ⟨rfl, ?_⟩
    have hP : stateP xs = .error k := by simp only [stateP, fP, fp1, bindP, R1.out, R2.out, R3.out, R4.out]
    unfold SPost; rw [hP]
    exact ⟨rfl, B4.out⟩
  rw [hr] at hp
  obtain ⟨rfl, hG, hg⟩ := hp
  have hs3 : w.heap.size < w3.heap.size := K3.out.lt
  have H4 := Lib.hid hG
  have O0_4 := Lib.hid (O0_3.out.keep hg (by omega))
  have O1_4 := Lib.hid (O1_3.out.keep hg (by omega))
  have O2_4 := Lib.hid (O2_3.out.keep hg (by omega))
  have K4 := Lib.hid (K3.out.grown hg hne')
  have B4 := Lib.hid (grown_trans_ B3.out hg)
  have R4 := Lib.hid hr
  clear hG hg hr
  have bf := K4.out
  have fz := bf.free
  have z0 := bf.cell 0
  have z1 := bf.cell 1
  have z2 := bf.cell 2
  have z3 := bf.cell 3
  simp at z0 z1 z2 z3
  clear bf
  go_wp2
  have bf := ((((K4.out.set_ 0 (.slice A0 r0.length r0.length)).set_ 1 (.slice A1 r1.length r1.length)).set_ 2 (.slice A2 r2.length r2.length)).set_ 3 (.int .u64 x3))
  have y0 := bf.cell 0
  have y1 := bf.cell 1
  have y2 := bf.cell 2
  have y3 := bf.cell 3
  simp at y0 y1 y2 y3
  refine bodyPost_ret (v := .agg #[.slice A0 r0.length r0.length, .slice A1 r1.length r1.length, .slice A2 r2.length r2.length, .int .u64 x3]) (by simp [results, Tryz.results45, go_sem, y0, y1, y2, y3]) rfl ?_
  have hP : stateP xs = .ok ((r0, r1, r2, [(x3 : Int)]), t4) := by simp only [stateP, fP, fp1, bindP, R1.out, R2.out, R3.out, R4.out]
  unfold SPost; rw [hP]
  exact ⟨_, rfl, ⟨A0, A1, A2, rfl, (((((O0_4.out.far (p := ⟨w.heap.size, 0, none⟩) hs0 _).far (p := ⟨w.heap.size, 1, none⟩) hs0 _).far (p := ⟨w.heap.size, 2, none⟩) hs0 _).far (p := ⟨w.heap.size, 3, none⟩) hs0 _).le (by omega)), (((((O1_4.out.far (p := ⟨w.heap.size, 0, none⟩) hs1 _).far (p := ⟨w.heap.size, 1, none⟩) hs1 _).far (p := ⟨w.heap.size, 2, none⟩) hs1 _).far (p := ⟨w.heap.size, 3, none⟩) hs1 _).le (by omega)), (((((O2_4.out.far (p := ⟨w.heap.size, 0, none⟩) hs2 _).far (p := ⟨w.heap.size, 1, none⟩) hs2 _).far (p := ⟨w.heap.size, 2, none⟩) hs2 _).far (p := ⟨w.heap.size, 3, none⟩) hs2 _).le (by omega))⟩, ((((H4.out.out_ hlt 0 (.slice A0 r0.length r0.length)).out_ hlt 1 (.slice A1 r1.length r1.length)).out_ hlt 2 (.slice A2 r2.length r2.length)).out_ hlt 3 (.int .u64 x3)), (grown_far_ (grown_far_ (grown_far_ (grown_far_ B4.out (p := ⟨w.heap.size, 0, none⟩) (Nat.le_refl _) (.slice A0 r0.length r0.length)) (p := ⟨w.heap.size, 1, none⟩) (Nat.le_refl _) (.slice A1 r1.length r1.length)) (p := ⟨w.heap.size, 2, none⟩) (Nat.le_refl _) (.slice A2 r2.length r2.length)) (p := ⟨w.heap.size, 3, none⟩) (Nat.le_refl _) (.int .u64 x3))⟩
end Go.Proofs.YtielnocnnffdfaaGreat
