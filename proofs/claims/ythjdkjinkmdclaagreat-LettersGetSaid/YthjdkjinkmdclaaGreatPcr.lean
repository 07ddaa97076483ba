/- api.Reply: put and got; its codec. -/
import Derived.Test.YthjdkjinkmdclaaGreatPkg
namespace Go.Proofs.YthjdkjinkmdclaaGreat
open Go.RowKit

def replyK : List IntKind := [.i64, .i64]
def replyB (a : List Int × List (List Int)) : List Int := fB replyK a.1 ++ gotsB a.2
def replyP (xs : List Int) : Res (List Int × List (List Int)) := bindP (fP replyK xs) fun a r => bindP (listP (fP gotK) 8 r) fun b r' => .ok ((a, b), r')
def replyOk (a : List Int × List (List Int)) : Prop := fok replyK a.1 ∧ a.2.length ≤ 8 ∧ ∀ q ∈ a.2, fok gotK q
theorem cod_reply : Cod replyB replyP replyOk :=
  (Cod.bind (cod_f replyK) (cod_list (cod_f gotK) 8 (by decide)) Prod.mk Prod.fst Prod.snd replyOk (fun _ _ => rfl) (fun _ _ => rfl) (fun c hc => ⟨hc.1, hc.2, rfl⟩) (fun _ _ h1 h2 => ⟨h1, h2⟩)).congr (fun _ => Iff.rfl) (fun _ _ => rfl) (fun _ => rfl)
set_option maxHeartbeats 4000000 in
set_option maxRecDepth 100000 in
theorem preply_any (p : Nat) (x0 : Int) (x1 : Int) (v2 : Value) (r2 : List (List Int)) (h0 : fok1 .i64 x0) (h1 : fok1 .i64 x1) (hin2 : ∀ q ∈ r2, fok gotK q) (b : Option Nat) (w : World) (xs : List Int) (h : Pu w p b xs) (hv2 : Gots w v2 r2) (hne2 : r2.length = 0 ∨ ∀ k, v2.ownBlock = some k → k ≠ p ∧ some k ≠ b) (hg2 : r2.length ≤ 4611686018427387904) (hl : xs.length + (replyB ([x0, x1], r2)).length ≤ 70368744177664) :
    Calls Tryz.prog 104 #[.pointer (some ⟨p, 0, none⟩), .agg #[.int .i64 x0, .int .i64 x1, v2]] w fun e w' => e = .returned (.tuple #[]) ∧ Pv w p b w' (xs ++ replyB ([x0, x1], r2)) := by
  obtain ⟨hp, k0, n1, n2⟩ := h.box 34 #[.int .i64 x0, .int .i64 x1, v2]
  have Q0 := Lib.hid h0
  have Q1 := Lib.hid h1
  have HI2 := Lib.hid hin2
  have HV2 := Lib.hid (Rd.alloc hv2 (.cells #[.int .i64 x0, .int .i64 x1, v2] 34))
  have HN2 := Lib.hid hne2
  have HG2 := Lib.hid hg2
  have K := Lib.hid k0
  have P0 := Lib.hid hp
  simp only [replyB, replyK, fB, fb1, List.headD_cons, List.tail_cons, List.length_append, List.append_nil] at hl
  have HL := Lib.hid hl
  obtain ⟨A2, q2, rfl, -⟩ := id hv2
  clear h hp k0 hl h0 h1 hin2 hv2 hne2 hg2
  go_enter Tryz.func104, Tryz.ntmps104
  go_wp2_with fail
  refine (psign_v p x0 b _ _ (xs) P0.out Q0.out (by have := HL.out; (try simp only [fB, fb1, List.headD_cons, List.tail_cons, List.length_append, List.length_nil, List.length_cons, List.append_nil] at this); (try simp only [fB, fb1, List.headD_cons, List.tail_cons, List.length_append, List.length_nil, List.length_cons, List.append_nil]); omega)).mono ?_
  rintro e w1 ⟨rfl, hP⟩
  have P1 := Lib.hid hP
  have k1 := hP.blk K.out n1 n2
  have c1_0 := k1.cell 0
  have c1_1 := k1.cell 1
  have c1_2 := k1.cell 2
  simp at c1_0 c1_1 c1_2
  clear k1
  clear hP
  go_wp2_with fail
  refine (psign_v p x1 b _ _ (xs ++ (sb x0)) P1.out Q1.out (by have := HL.out; (try simp only [fB, fb1, List.headD_cons, List.tail_cons, List.length_append, List.length_nil, List.length_cons, List.append_nil] at this); (try simp only [List.length_append]); omega)).mono ?_
  rintro e w2 ⟨rfl, hP⟩
  have P2 := Lib.hid hP
  clear c1_0 c1_1 c1_2
  have k2 := hP.blk K.out n1 n2
  have c2_0 := k2.cell 0
  have c2_1 := k2.cell 1
  have c2_2 := k2.cell 2
  simp at c2_0 c2_1 c2_2
  clear k2
  clear hP
  go_wp2_with fail
  refine (pgots_v p _ r2 HI2.out b _ _ (xs ++ (sb x0) ++ (sb x1)) P2.out HV2.out HN2.out HG2.out (by have := HL.out; (try simp only [fB, fb1, List.headD_cons, List.tail_cons, List.length_append, List.length_nil, List.length_cons, List.append_nil] at this); (try simp only [List.length_append]); omega)).mono ?_
  rintro e w3 ⟨rfl, hP⟩
  have P3 := Lib.hid hP
  clear c2_0 c2_1 c2_2
  clear hP
  go_wp2
  refine bodyPost_end (results_none rfl _ _ _) rfl ⟨rfl, ?_⟩
  have := Pv.base (below_alloc_ _ _) P3.out
  simpa only [replyK, replyB, fB, fb1, List.headD_cons, List.tail_cons, List.append_nil, List.append_assoc, List.cons_append, List.nil_append] using this
theorem preply_v (p : Nat) (x0 : Int) (x1 : Int) (v2 : Value) (r2 : List (List Int)) (h0 : fok1 .i64 x0) (h1 : fok1 .i64 x1) (hin2 : ∀ q ∈ r2, fok gotK q) (b : Option Nat) (W0 w : World) (xs : List Int) (h : Pv W0 p b w xs) (hv2 : Gots W0 v2 r2) (hne2 : r2.length = 0 ∨ ∀ k, v2.ownBlock = some k → k ≠ p ∧ some k ≠ b) (hg2 : r2.length ≤ 4611686018427387904) (hl : xs.length + (replyB ([x0, x1], r2)).length ≤ 70368744177664) :
    Calls Tryz.prog 104 #[.pointer (some ⟨p, 0, none⟩), .agg #[.int .i64 x0, .int .i64 x1, v2]] w fun e w' => e = .returned (.tuple #[]) ∧ Pv W0 p b w' (xs ++ replyB ([x0, x1], r2)) := by
  have hv2' := h.tn.rd hv2 hne2
  obtain ⟨⟨b1, hu, hb⟩, ht⟩ := h
  exact (preply_any p x0 x1 v2 r2 h0 h1 hin2 b1 w xs hu hv2' (off_step (_w := w) hv2 hne2 hb) hg2 hl).mono fun _ _ hh => ⟨hh.1, Pv.trans ht hb hh.2⟩
/-- The value v is this; its lists are in blocks of their own from B on. -/
def replyQ (a : List Int × List (List Int)) (B : Nat) (w : World) (v : Value) : Prop := match a with
  | ([x0, x1], r2) => ∃ A2 : Option Addr, v = .agg #[.int .i64 x0, .int .i64 x1, .slice A2 r2.length r2.length] ∧ Ow B w 108 2 (.slice A2 r2.length r2.length) r2.length (r2.flatMap (fc gotK))
  | _ => False
set_option maxHeartbeats 4000000 in
set_option maxRecDepth 100000 in
theorem greply_any (g : Nat) (xs : List Int) (w : World) (h : Gt w g xs) :
    Calls Tryz.prog 135 #[.pointer (some ⟨g, 0, none⟩)] w (SPost (replyP xs) replyQ g w) := by
  have hG0 := h.alloc (.cells #[.int .i64 0, .int .i64 0, .slice none 0 0] 34)
  have hlt := h.lt
  have hne : w.heap.size ≠ g := by omega
  have hne' : some w.heap.size ≠ some g := fun e => hne (Option.some.inj e)
  have K0 := Lib.hid (Blk.new w 34 #[.int .i64 0, .int .i64 0, .slice none 0 0])
  have H0 := Lib.hid hG0
  have B0 := Lib.hid (grown_below_ (below_alloc_ w (.cells #[.int .i64 0, .int .i64 0, .slice none 0 0] 34)) (some g))
  clear h hG0
  go_enter Tryz.func135, Tryz.ntmps135
  go_wp2_with fail
  refine (gsign_any g _ _ H0.out).mono ?_
  intro e w1 hp
  rcases hr : signP xs with k | ⟨x0, t1⟩
  · rw [hr] at hp
    obtain ⟨rfl, hg⟩ := hp
    have B1 := Lib.hid (grown_trans_ B0.out hg)
    have R1 := Lib.hid hr
    clear hg hr
    go_wp2
    refine ⟨rfl, ?_⟩
    have hP : replyP xs = .error k := by simp only [replyK, replyP, fP, fp1, bindP, R1.out]
    unfold SPost; rw [hP]
    exact ⟨rfl, B1.out⟩
  rw [hr] at hp
  obtain ⟨rfl, hG, hg⟩ := hp
  have hs0 : w.heap.size < (w.alloc (.cells #[.int .i64 0, .int .i64 0, .slice none 0 0] 34)).heap.size := K0.out.lt
  have H1 := Lib.hid hG
  have K1 := Lib.hid (K0.out.grown hg hne')
  have B1 := Lib.hid (grown_trans_ B0.out hg)
  have R1 := Lib.hid hr
  clear hG hg hr
  go_wp2_with fail
  refine (gsign_any g _ _ H1.out).mono ?_
  intro e w2 hp
  rcases hr : signP t1 with k | ⟨x1, t2⟩
  · rw [hr] at hp
    obtain ⟨rfl, hg⟩ := hp
    have B2 := Lib.hid (grown_trans_ B1.out hg)
    have R2 := Lib.hid hr
    clear hg hr
    go_wp2
    refine ⟨rfl, ?_⟩
    have hP : replyP xs = .error k := by simp only [replyK, replyP, fP, fp1, bindP, R1.out, R2.out]
    unfold SPost; rw [hP]
    exact ⟨rfl, B2.out⟩
  rw [hr] at hp
  obtain ⟨rfl, hG, hg⟩ := hp
  have hs1 : w.heap.size < w1.heap.size := K1.out.lt
  have H2 := Lib.hid hG
  have K2 := Lib.hid (K1.out.grown hg hne')
  have B2 := Lib.hid (grown_trans_ B1.out hg)
  have R2 := Lib.hid hr
  clear hG hg hr
  go_wp2_with fail
  refine (ggots_any g _ _ H2.out).mono ?_
  intro e w3 hp
  rcases hr : listP (fP gotK) 8 t2 with k | ⟨r2, t3⟩
  · rw [hr] at hp
    obtain ⟨rfl, hg⟩ := hp
    have B3 := Lib.hid (grown_trans_ B2.out hg)
    have R3 := Lib.hid hr
    clear hg hr
    go_wp2
    refine ⟨rfl, ?_⟩
    have hP : replyP xs = .error k := by simp only [replyK, replyP, fP, fp1, bindP, R1.out, R2.out, R3.out]
    unfold SPost; rw [hP]
    exact ⟨rfl, B3.out⟩
  rw [hr] at hp
  obtain ⟨A2, rfl, hO, hG, hg⟩ := hp
  have hs2 : w.heap.size < w2.heap.size := K2.out.lt
  have H3 := Lib.hid hG
  have O2_3 := Lib.hid hO
  have K3 := Lib.hid (K2.out.grown hg hne')
  have B3 := Lib.hid (grown_trans_ B2.out hg)
  have R3 := Lib.hid hr
  clear hG hg hr hO
  have bf := K3.out
  have fz := bf.free
  have z0 := bf.cell 0
  have z1 := bf.cell 1
  have z2 := bf.cell 2
  simp at z0 z1 z2
  clear bf
  go_wp2
  have bf := (((K3.out.set_ 0 (.int .i64 x0)).set_ 1 (.int .i64 x1)).set_ 2 (.slice A2 r2.length r2.length))
  have y0 := bf.cell 0
  have y1 := bf.cell 1
  have y2 := bf.cell 2
  simp at y0 y1 y2
  refine bodyPost_ret (v := .agg #[.int .i64 x0, .int .i64 x1, .slice A2 r2.length r2.length]) (by simp [results, Tryz.results135, go_sem, y0, y1, y2]) rfl ?_
  have hP : replyP xs = .ok (([(x0 : Int), x1], r2), t3) := by simp only [replyK, replyP, fP, fp1, bindP, R1.out, R2.out, R3.out]
  unfold SPost; rw [hP]
  exact ⟨_, rfl, ⟨A2, rfl, ((((O2_3.out.far (p := ⟨w.heap.size, 0, none⟩) hs2 _).far (p := ⟨w.heap.size, 1, none⟩) hs2 _).far (p := ⟨w.heap.size, 2, none⟩) hs2 _).le (by omega))⟩, (((H3.out.out_ hlt 0 (.int .i64 x0)).out_ hlt 1 (.int .i64 x1)).out_ hlt 2 (.slice A2 r2.length r2.length)), (grown_far_ (grown_far_ (grown_far_ B3.out (p := ⟨w.heap.size, 0, none⟩) (Nat.le_refl _) (.int .i64 x0)) (p := ⟨w.heap.size, 1, none⟩) (Nat.le_refl _) (.int .i64 x1)) (p := ⟨w.heap.size, 2, none⟩) (Nat.le_refl _) (.slice A2 r2.length r2.length))⟩
end Go.Proofs.YthjdkjinkmdclaaGreat
