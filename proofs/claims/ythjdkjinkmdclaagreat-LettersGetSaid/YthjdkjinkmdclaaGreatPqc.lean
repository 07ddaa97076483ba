/- api.Command: packs.put, PutCommand. -/
import Derived.Test.YthjdkjinkmdclaaGreatPcc
import Derived.Test.YthjdkjinkmdclaaGreatClp
namespace Go.Proofs.YthjdkjinkmdclaaGreat
open Go.RowKit

theorem cmdLen {r0 : List (List Int)} (t0 : r0.length ≤ 8) (HI0 : ∀ q ∈ r0, fok stepK q) : (cmdB r0).length ≤ 100000 := Nat.le_trans (list_len stepK r0 10 rfl t0 (by decide) HI0) (by decide)
set_option maxHeartbeats 4000000 in
set_option maxRecDepth 100000 in
theorem put_cmd_anyC (v0 : Value) (r0 : List (List Int)) (hin0 : ∀ q ∈ r0, fok stepK q) (w : World) (hv0 : Steps w v0 r0) (hg0 : r0.length ≤ 8) (hl : (cmdB r0).length ≤ 70368744177664) :
    Calls Tryz.prog 98 #[.agg #[v0], .bool true, .func (.func 99) #[] #[]] w fun e w' => ∃ v', e = .returned (.tuple #[v', .int .i64 0]) ∧ Bo w.heap.size w' v' (cmdB r0) ∧ Below w.heap.size w w' ∧ Clp v' := by
  have hb2 := below_alloc2_ w (.cells #[v0] 28) (.cells #[.slice none 0 0] 170)
  have HB2 := Lib.hid hb2
  have hu : Pu ((w.alloc (.cells #[v0] 28)).alloc (.cells #[.slice none 0 0] 170)) (w.heap.size + 1) none [] := ⟨⟨.slice none 0 0, by have := Blk.new (w.alloc (.cells #[v0] 28)) 170 #[.slice none 0 0]; rw [World.size_alloc] at this; exact this, Bo.nil_ _ _, rfl⟩⟩
  have HU := Lib.hid hu
  have HI0 := Lib.hid hin0
  have HV0 := Lib.hid (Rd.below hv0 hb2)
  have HN0 := Lib.hid (off_new hv0)
  obtain ⟨E0, q0, rfl, -⟩ := id hv0
  clear hin0 hv0
  clear hu hb2
  go_enter Tryz.func98, Tryz.ntmps98
  go_wp2_with fail
  refine (pcmd_any (w.heap.size + 1) _ r0 HI0.out none _ [] HU.out HV0.out HN0.out (by omega) (by simpa using hl)).mono ?_
  rintro e w1 ⟨rfl, hP⟩
  obtain ⟨v1, k1, ho1, hbel⟩ := hP.done HB2.out (Nat.le_succ _) (by simp <;> omega)
  have c1 := k1.cell 0
  simp at c1
  rw [List.nil_append] at ho1
  obtain ⟨A1', cp1, rfl, hc1, hcl⟩ := ho1.clip
  have HO := Lib.hid hcl
  have HB := Lib.hid hbel
  clear hP k1 ho1 hbel hcl
  go_wp2_with fail
  refine (byt_clip A1' _ cp1 _ hc1 (by omega)).mono ?_
  rintro e w2 ⟨rfl, rfl⟩
  go_wp2
  refine bodyPost_ret (results_tmp2 rfl _ _ _) rfl ?_
  exact ⟨_, rfl, HO.out, HB.out, ⟨_, _, rfl⟩⟩
theorem put_cmd_no (v0 : Value) (_r0 : List (List Int)) (f : Value) (w : World) :
    Calls Tryz.prog 98 #[.agg #[v0], .bool false, f] w fun e w' => e = .returned (.tuple #[.slice none 0 0, .int .i64 3]) ∧ Below w.heap.size w w' := by
  go_enter Tryz.func98, Tryz.ntmps98
  go_wp2
  refine bodyPost_ret (results_tmp2 rfl _ _ _) rfl ?_
  exact ⟨rfl, below_alloc_ _ _⟩
/-- What PutCommand answers. -/
def cmdR (a : List (List Int)) : List Int × Int := if a.length ≤ 8 then (cmdB a, 0) else ([], 3)
set_option maxHeartbeats 4000000 in
theorem Put_cmd_anyC (v0 : Value) (r0 : List (List Int)) (hin0 : ∀ q ∈ r0, fok stepK q) (w : World) (hv0 : Steps w v0 r0) (hg0 : r0.length ≤ 1000000) :
    Calls Tryz.prog 94 #[.agg #[v0]] w fun e w' => ∃ v', e = .returned (.tuple #[v', .int .i64 (cmdR r0).2]) ∧ Bo w.heap.size w' v' (cmdR r0).1 ∧ Below w.heap.size w w' ∧ Clp v' := by
  have HI0 := Lib.hid hin0
  have HV0 := Lib.hid (Rd.alloc hv0 (.cells #[v0] 28))
  obtain ⟨E0, q0, rfl, -⟩ := id hv0
  clear hin0 hv0
  by_cases t0 : r0.length ≤ 8
  · have hl : (cmdB r0).length ≤ 70368744177664 := by
      have := cmdLen t0 HI0.out
      omega
    have HR := Lib.hid (show cmdR r0 = (cmdB r0, 0) from if_pos t0)
    have t0' : (r0.length : Int) ≤ 8 := by omega
    rw [HR.out]
    go_enter Tryz.func94, Tryz.ntmps94
    go_wp2_with fail
    refine (put_cmd_anyC _ r0 HI0.out _ HV0.out t0 hl).mono ?_
    rintro e w1 ⟨v1, rfl, ho, hb, hcl⟩
    have HCL := Lib.hid hcl
    clear hcl
    have HO := Lib.hid ho
    have HB := Lib.hid hb
    clear ho hb
    go_wp2
    refine bodyPost_ret (results_tmp2 rfl _ _ _) rfl ?_
    exact ⟨_, rfl, HO.out.le (by simp), (below_alloc_ _ _).trans (HB.out.mono (by simp)), HCL.out⟩
  · have t0' : ¬ (r0.length : Int) ≤ 8 := by omega
    have HR := Lib.hid (show cmdR r0 = ([], 3) from if_neg (by (try simp only); omega))
    rw [HR.out]
    go_enter Tryz.func94, Tryz.ntmps94
    go_wp2_with fail
    refine (put_cmd_no _ r0 _ _).mono ?_
    rintro e w1 ⟨rfl, hb⟩
    have HB := Lib.hid hb
    clear hb
    go_wp2
    refine bodyPost_ret (results_tmp2 rfl _ _ _) rfl ?_
    exact ⟨_, rfl, Bo.nil_ _ _, (below_alloc_ _ _).trans (HB.out.mono (by simp)), ⟨none, 0, rfl⟩⟩
theorem Put_cmd_any (v0 : Value) (r0 : List (List Int)) (hin0 : ∀ q ∈ r0, fok stepK q) (w : World) (hv0 : Steps w v0 r0) (hg0 : r0.length ≤ 1000000) :
    Calls Tryz.prog 94 #[.agg #[v0]] w fun e w' => ∃ v', e = .returned (.tuple #[v', .int .i64 (cmdR r0).2]) ∧ Bo w.heap.size w' v' (cmdR r0).1 ∧ Below w.heap.size w w' :=
  (Put_cmd_anyC v0 r0 hin0 w hv0 hg0).mono fun _ _ ⟨v, h1, h2, h3, _⟩ => ⟨v, h1, h2, h3⟩
end Go.Proofs.YthjdkjinkmdclaaGreat
