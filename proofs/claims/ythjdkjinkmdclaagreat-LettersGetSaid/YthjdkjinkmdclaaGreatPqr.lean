/- api.Reply: packs.put, PutReply. -/
import Derived.Test.YthjdkjinkmdclaaGreatPcr
import Derived.Test.YthjdkjinkmdclaaGreatClp
namespace Go.Proofs.YthjdkjinkmdclaaGreat
open Go.RowKit

theorem replyLen {x0 x1 : Int} {r2 : List (List Int)} (h0 : fok1 .i64 x0) (h1 : fok1 .i64 x1) (t : r2.length ≤ 8) (hi : ∀ q ∈ r2, fok gotK q) : (replyB ([x0, x1], r2)).length ≤ 100000 := by
  have k1 := list_len gotK r2 2 rfl t (by decide) hi
  have k2 := fB_len replyK [x0, x1] (by simp only [replyK, fok]; exact ⟨h0, h1, trivial⟩)
  simp only [replyB, replyK, List.length_append, List.length_cons, List.length_nil] at k2 ⊢
  have k3 : (gotsB r2).length ≤ 90000 := k1
  omega
set_option maxHeartbeats 4000000 in
set_option maxRecDepth 100000 in
theorem put_reply_anyC (x0 : Int) (x1 : Int) (v2 : Value) (r2 : List (List Int)) (h0 : fok1 .i64 x0) (h1 : fok1 .i64 x1) (hin2 : ∀ q ∈ r2, fok gotK q) (w : World) (hv2 : Gots w v2 r2) (hg2 : r2.length ≤ 8) (hl : (replyB ([x0, x1], r2)).length ≤ 70368744177664) :
    Calls Tryz.prog 103 #[.agg #[.int .i64 x0, .int .i64 x1, v2], .bool true, .func (.func 104) #[] #[]] w fun e w' => ∃ v', e = .returned (.tuple #[v', .int .i64 0]) ∧ Bo w.heap.size w' v' (replyB ([x0, x1], r2)) ∧ Below w.heap.size w w' ∧ Clp v' := by
  have hb2 := below_alloc2_ w (.cells #[.int .i64 x0, .int .i64 x1, v2] 34) (.cells #[.slice none 0 0] 170)
  have HB2 := Lib.hid hb2
  have hu : Pu ((w.alloc (.cells #[.int .i64 x0, .int .i64 x1, v2] 34)).alloc (.cells #[.slice none 0 0] 170)) (w.heap.size + 1) none [] := ⟨⟨.slice none 0 0, by have := Blk.new (w.alloc (.cells #[.int .i64 x0, .int .i64 x1, v2] 34)) 170 #[.slice none 0 0]; rw [World.size_alloc] at this; exact this, Bo.nil_ _ _, rfl⟩⟩
  have HU := Lib.hid hu
  have Q0 := Lib.hid h0
  clear h0
  have Q1 := Lib.hid h1
  clear h1
  have HI2 := Lib.hid hin2
  have HV2 := Lib.hid (Rd.below hv2 hb2)
  have HN2 := Lib.hid (off_new hv2)
  obtain ⟨E2, q2, rfl, -⟩ := id hv2
  clear hin2 hv2
  clear hu hb2
  go_enter Tryz.func103, Tryz.ntmps103
  go_wp2_with fail
  refine (preply_any (w.heap.size + 1) x0 x1 _ r2 Q0.out Q1.out HI2.out none _ [] HU.out HV2.out HN2.out (by omega) (by simpa using hl)).mono ?_
  rintro e w1 ⟨rfl, hP⟩
  obtain ⟨v1, k1, ho1, hbel⟩ := hP.done HB2.out (Nat.le_succ _) (by simp <;> omega)
  have c1 := k1.cell 0
  simp at c1
  rw [List.nil_append] at ho1
  obtain ⟨A1', cp1, rfl, hc1, hcl⟩ := ho1.clip
  have HO := Lib.hid hcl
  have HB := Lib.hid hbel
  clear hP k1 ho1 hbel hcl
  go_wp2_with fail
  refine (byt_clip A1' _ cp1 _ hc1 (by omega)).mono ?_
  rintro e w2 ⟨rfl, rfl⟩
  go_wp2
  refine bodyPost_ret (results_tmp2 rfl _ _ _) rfl ?_
  exact ⟨_, rfl, HO.out, HB.out, ⟨_, _, rfl⟩⟩
theorem put_reply_no (x0 : Int) (x1 : Int) (v2 : Value) (_r2 : List (List Int)) (f : Value) (w : World) :
    Calls Tryz.prog 103 #[.agg #[.int .i64 x0, .int .i64 x1, v2], .bool false, f] w fun e w' => e = .returned (.tuple #[.slice none 0 0, .int .i64 3]) ∧ Below w.heap.size w w' := by
  go_enter Tryz.func103, Tryz.ntmps103
  go_wp2
  refine bodyPost_ret (results_tmp2 rfl _ _ _) rfl ?_
  exact ⟨rfl, below_alloc_ _ _⟩
/-- What PutReply answers. -/
def replyR (a : List Int × List (List Int)) : List Int × Int := if a.2.length ≤ 8 then (replyB a, 0) else ([], 3)
set_option maxHeartbeats 4000000 in
theorem Put_reply_anyC (x0 : Int) (x1 : Int) (v2 : Value) (r2 : List (List Int)) (h0 : fok1 .i64 x0) (h1 : fok1 .i64 x1) (hin2 : ∀ q ∈ r2, fok gotK q) (w : World) (hv2 : Gots w v2 r2) (hg2 : r2.length ≤ 1000000) :
    Calls Tryz.prog 97 #[.agg #[.int .i64 x0, .int .i64 x1, v2]] w fun e w' => ∃ v', e = .returned (.tuple #[v', .int .i64 (replyR ([x0, x1], r2)).2]) ∧ Bo w.heap.size w' v' (replyR ([x0, x1], r2)).1 ∧ Below w.heap.size w w' ∧ Clp v' := by
  have Q0 := Lib.hid h0
  clear h0
  have Q1 := Lib.hid h1
  clear h1
  have HI2 := Lib.hid hin2
  have HV2 := Lib.hid (Rd.alloc hv2 (.cells #[.int .i64 x0, .int .i64 x1, v2] 34))
  obtain ⟨E2, q2, rfl, -⟩ := id hv2
  clear hin2 hv2
  by_cases t2 : r2.length ≤ 8
  · have hl : (replyB ([x0, x1], r2)).length ≤ 70368744177664 := by
      have := replyLen Q0.out Q1.out t2 HI2.out
      omega
    have HR := Lib.hid (show replyR ([x0, x1], r2) = (replyB ([x0, x1], r2), 0) from if_pos t2)
    have t2' : (r2.length : Int) ≤ 8 := by omega
    rw [HR.out]
    go_enter Tryz.func97, Tryz.ntmps97
    go_wp2_with fail
    refine (put_reply_anyC x0 x1 _ r2 Q0.out Q1.out HI2.out _ HV2.out t2 hl).mono ?_
    rintro e w1 ⟨v1, rfl, ho, hb, hcl⟩
    have HCL := Lib.hid hcl
    clear hcl
    have HO := Lib.hid ho
    have HB := Lib.hid hb
    clear ho hb
    go_wp2
    refine bodyPost_ret (results_tmp2 rfl _ _ _) rfl ?_
    exact ⟨_, rfl, HO.out.le (by simp), (below_alloc_ _ _).trans (HB.out.mono (by simp)), HCL.out⟩
  · have t2' : ¬ (r2.length : Int) ≤ 8 := by omega
    have HR := Lib.hid (show replyR ([x0, x1], r2) = ([], 3) from if_neg (by (try simp only); omega))
    rw [HR.out]
    go_enter Tryz.func97, Tryz.ntmps97
    go_wp2_with fail
    refine (put_reply_no x0 x1 _ r2 _ _).mono ?_
    rintro e w1 ⟨rfl, hb⟩
    have HB := Lib.hid hb
    clear hb
    go_wp2
    refine bodyPost_ret (results_tmp2 rfl _ _ _) rfl ?_
    exact ⟨_, rfl, Bo.nil_ _ _, (below_alloc_ _ _).trans (HB.out.mono (by simp)), ⟨none, 0, rfl⟩⟩
theorem Put_reply_any (x0 : Int) (x1 : Int) (v2 : Value) (r2 : List (List Int)) (h0 : fok1 .i64 x0) (h1 : fok1 .i64 x1) (hin2 : ∀ q ∈ r2, fok gotK q) (w : World) (hv2 : Gots w v2 r2) (hg2 : r2.length ≤ 1000000) :
    Calls Tryz.prog 97 #[.agg #[.int .i64 x0, .int .i64 x1, v2]] w fun e w' => ∃ v', e = .returned (.tuple #[v', .int .i64 (replyR ([x0, x1], r2)).2]) ∧ Bo w.heap.size w' v' (replyR ([x0, x1], r2)).1 ∧ Below w.heap.size w w' :=
  (Put_reply_anyC x0 x1 v2 r2 h0 h1 hin2 w hv2 hg2).mono fun _ _ ⟨v, h1, h2, h3, _⟩ => ⟨v, h1, h2, h3⟩
end Go.Proofs.YthjdkjinkmdclaaGreat
