/- api.Command: put and got; its codec. -/
import Derived.Test.YtnegondlkfeleaaDoorPks
namespace Go.Proofs.YtnegondlkfeleaaDoor
open Go.RowKit

abbrev cmdB (a : List (List Int)) : List Int := stepsB a
abbrev cmdP (xs : List Int) : Res (List (List Int)) := listP (fP stepK) 8 xs
def cmdOk (a : List (List Int)) : Prop := a.length ≤ 8 ∧ ∀ q ∈ a, fok stepK q
theorem cod_cmd : Cod cmdB cmdP cmdOk := (cod_list (cod_f stepK) 8 (by decide)).congr (fun _ => Iff.rfl) (fun _ _ => rfl) (fun _ => rfl)
set_option maxHeartbeats 4000000 in
set_option maxRecDepth 100000 in
theorem pcmd_any (p : Nat) (v0 : Value) (r0 : List (List Int)) (hin0 : ∀ q ∈ r0, fok stepK q) (b : Option Nat) (w : World) (xs : List Int) (h : Pu w p b xs) (hv0 : Steps w v0 r0) (hne0 : r0.length = 0 ∨ ∀ k, v0.ownBlock = some k → k ≠ p ∧ some k ≠ b) (hg0 : r0.length ≤ 4611686018427387904) (hl : xs.length + (cmdB r0).length ≤ 70368744177664) :
    Calls Tryd.prog 117 #[.pointer (some ⟨p, 0, none⟩), .agg #[v0]] w fun e w' => e = .returned (.tuple #[]) ∧ Pv w p b w' (xs ++ cmdB r0) := by
  obtain ⟨hp, k0, n1, n2⟩ := h.box 55 #[v0]
  have HI0 := Lib.hid hin0
  have HV0 := Lib.hid (Rd.alloc hv0 (.cells #[v0] 55))
  have HN0 := Lib.hid hne0
  have HG0 := Lib.hid hg0
  have K := Lib.hid k0
  have P0 := Lib.hid hp
  have hl := hl
  have HL := Lib.hid hl
  obtain ⟨A0, q0, rfl, -⟩ := id hv0
  clear h hp k0 hl  hin0 hv0 hne0 hg0
  go_enter Tryd.func117, Tryd.ntmps117
  go_wp2_with fail
  refine (psteps_v p _ r0 HI0.out b _ _ (xs) P0.out HV0.out HN0.out HG0.out (by have := HL.out; (try simp only [fB, fb1, List.headD_cons, List.tail_cons, List.length_append, List.length_nil, List.length_cons, List.append_nil] at this); (try simp only [fB, fb1, List.headD_cons, List.tail_cons, List.length_append, List.length_nil, List.length_cons, List.append_nil]); omega)).mono ?_
  rintro e w1 ⟨rfl, hP⟩
  have P1 := Lib.hid hP
  clear hP
  go_wp2
  refine bodyPost_end (results_none rfl _ _ _) rfl ⟨rfl, ?_⟩
  have := Pv.base (below_alloc_ _ _) P1.out
  exact this
theorem pcmd_v (p : Nat) (v0 : Value) (r0 : List (List Int)) (hin0 : ∀ q ∈ r0, fok stepK q) (b : Option Nat) (W0 w : World) (xs : List Int) (h : Pv W0 p b w xs) (hv0 : Steps W0 v0 r0) (hne0 : r0.length = 0 ∨ ∀ k, v0.ownBlock = some k → k ≠ p ∧ some k ≠ b) (hg0 : r0.length ≤ 4611686018427387904) (hl : xs.length + (cmdB r0).length ≤ 70368744177664) :
    Calls Tryd.prog 117 #[.pointer (some ⟨p, 0, none⟩), .agg #[v0]] w fun e w' => e = .returned (.tuple #[]) ∧ Pv W0 p b w' (xs ++ cmdB r0) := by
  have hv0' := h.tn.rd hv0 hne0
  obtain ⟨⟨b1, hu, hb⟩, ht⟩ := h
  exact (pcmd_any p v0 r0 hin0 b1 w xs hu hv0' (off_step (_w := w) hv0 hne0 hb) hg0 hl).mono fun _ _ hh => ⟨hh.1, Pv.trans ht hb hh.2⟩
/-- The value v is this; its lists are in blocks of their own from B on. -/
def cmdQ (a : List (List Int)) (B : Nat) (w : World) (v : Value) : Prop := match a with
  | r0 => ∃ A0 : Option Addr, v = .agg #[.slice A0 r0.length r0.length] ∧ Ow B w 107 10 (.slice A0 r0.length r0.length) r0.length (r0.flatMap (fc stepK))
set_option maxHeartbeats 4000000 in
set_option maxRecDepth 100000 in
theorem gcmd_any (g : Nat) (xs : List Int) (w : World) (h : Gt w g xs) :
    Calls Tryd.prog 114 #[.pointer (some ⟨g, 0, none⟩)] w (SPost (cmdP xs) cmdQ g w) := by
  have hG0 := h.alloc (.cells #[.slice none 0 0] 55)
  have hlt := h.lt
  have hne : w.heap.size ≠ g := by omega
  have hne' : some w.heap.size ≠ some g := fun e => hne (Option.some.inj e)
  have K0 := Lib.hid (Blk.new w 55 #[.slice none 0 0])
  have H0 := Lib.hid hG0
  have B0 := Lib.hid (grown_below_ (below_alloc_ w (.cells #[.slice none 0 0] 55)) (some g))
  clear h hG0
  go_enter Tryd.func114, Tryd.ntmps114
  go_wp2_with fail
  refine (gsteps_any g _ _ H0.out).mono ?_
  intro e w1 hp
  rcases hr : listP (fP stepK) 8 xs with k | ⟨r0, t1⟩
  · rw [hr] at hp
    obtain ⟨rfl, hg⟩ := hp
    have B1 := Lib.hid (grown_trans_ B0.out hg)
    have R1 := Lib.hid hr
    clear hg hr
    go_wp2
    refine ⟨rfl, ?_⟩
    have hP : cmdP xs = .error k := by simp only [cmdP, R1.out]
    unfold SPost; rw [hP]
    exact ⟨rfl, B1.out⟩
  rw [hr] at hp
  obtain ⟨A0, rfl, hO, hG, hg⟩ := hp
  have hs0 : w.heap.size < (w.alloc (.cells #[.slice none 0 0] 55)).heap.size := K0.out.lt
  have H1 := Lib.hid hG
  have O0_1 := Lib.hid hO
  have K1 := Lib.hid (K0.out.grown hg hne')
  have B1 := Lib.hid (grown_trans_ B0.out hg)
  have R1 := Lib.hid hr
  clear hG hg hr hO
  have bf := K1.out
  have fz := bf.free
  have z0 := bf.cell 0
  simp at z0
  clear bf
  go_wp2
  have bf := (K1.out.set_ 0 (.slice A0 r0.length r0.length))
  have y0 := bf.cell 0
  simp at y0
  refine bodyPost_ret (v := .agg #[.slice A0 r0.length r0.length]) (by simp [results, Tryd.results114, go_sem, y0]) rfl ?_
  have hP : cmdP xs = .ok (r0, t1) := by simp only [cmdP, R1.out]
  unfold SPost; rw [hP]
  exact ⟨_, rfl, ⟨A0, rfl, ((O0_1.out.far (p := ⟨w.heap.size, 0, none⟩) hs0 _).le (by omega))⟩, (H1.out.out_ hlt 0 (.slice A0 r0.length r0.length)), (grown_far_ B1.out (p := ⟨w.heap.size, 0, none⟩) (Nat.le_refl _) (.slice A0 r0.length r0.length))⟩
end Go.Proofs.YtnegondlkfeleaaDoor
