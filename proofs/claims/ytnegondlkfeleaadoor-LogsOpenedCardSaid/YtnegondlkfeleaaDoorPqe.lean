/- api.Entry: packs.put, PutEntry. -/
import Derived.Test.YtnegondlkfeleaaDoorPcz
import Derived.Test.YtnegondlkfeleaaDoorClp
namespace Go.Proofs.YtnegondlkfeleaaDoor
open Go.RowKit

theorem entryLen {x0 x1 x2 x3 : Int} {r4 : List (List Int)} (h0 : fok1 .u64 x0) (h1 : fok1 .u64 x1) (h2 : fok1 .u8 x2) (h3 : fok1 .u64 x3) (t : r4.length ≤ 8) (hi : ∀ q ∈ r4, fok stepK q) : (entryB ([x0, x1, x2, x3], r4)).length ≤ 100000 := by
  have k1 := list_len stepK r4 10 rfl t (by decide) hi
  have k2 := fB_len entryK [x0, x1, x2, x3] (by simp only [entryK, fok]; exact ⟨h0, h1, h2, h3, trivial⟩)
  simp only [entryB, entryK, List.length_append, List.length_cons, List.length_nil] at k2 ⊢
  have k3 : (stepsB r4).length ≤ 90000 := k1
  omega
set_option maxHeartbeats 4000000 in
set_option maxRecDepth 100000 in
theorem put_entry_anyC (x0 : Int) (x1 : Int) (x2 : Int) (x3 : Int) (v4 : Value) (r4 : List (List Int)) (h0 : fok1 .u64 x0) (h1 : fok1 .u64 x1) (h2 : fok1 .u8 x2) (h3 : fok1 .u64 x3) (hin4 : ∀ q ∈ r4, fok stepK q) (w : World) (hv4 : Steps w v4 r4) (hg4 : r4.length ≤ 8) (hl : (entryB ([x0, x1, x2, x3], r4)).length ≤ 70368744177664) :
    Calls Tryd.prog 98 #[.agg #[.int .u64 x0, .int .u64 x1, .int .u8 x2, .int .u64 x3, v4], .bool true, .func (.func 99) #[] #[]] w fun e w' => ∃ v', e = .returned (.tuple #[v', .int .i64 0]) ∧ Bo w.heap.size w' v' (entryB ([x0, x1, x2, x3], r4)) ∧ Below w.heap.size w w' ∧ Clp v' := by
  have hb2 := below_alloc2_ w (.cells #[.int .u64 x0, .int .u64 x1, .int .u8 x2, .int .u64 x3, v4] 59) (.cells #[.slice none 0 0] 184)
  have HB2 := Lib.hid hb2
  have hu : Pu ((w.alloc (.cells #[.int .u64 x0, .int .u64 x1, .int .u8 x2, .int .u64 x3, v4] 59)).alloc (.cells #[.slice none 0 0] 184)) (w.heap.size + 1) none [] := ⟨⟨.slice none 0 0, by have := Blk.new (w.alloc (.cells #[.int .u64 x0, .int .u64 x1, .int .u8 x2, .int .u64 x3, v4] 59)) 184 #[.slice none 0 0]; rw [World.size_alloc] at this; exact this, Bo.nil_ _ _, rfl⟩⟩
  have HU := Lib.hid hu
  have Q0 := Lib.hid h0
  clear h0
  have Q1 := Lib.hid h1
  clear h1
  have Q2 := Lib.hid h2
  clear h2
  have Q3 := Lib.hid h3
  clear h3
  have HI4 := Lib.hid hin4
  have HV4 := Lib.hid (Rd.below hv4 hb2)
  have HN4 := Lib.hid (off_new hv4)
  obtain ⟨E4, q4, rfl, -⟩ := id hv4
  clear hin4 hv4
  clear hu hb2
  go_enter Tryd.func98, Tryd.ntmps98
  go_wp2_with fail
  refine (pentry_any (w.heap.size + 1) x0 x1 x2 x3 _ r4 Q0.out Q1.out Q2.out Q3.out HI4.out none _ [] HU.out HV4.out HN4.out (by omega) (by simpa using hl)).mono ?_
  rintro e w1 ⟨rfl, hP⟩
  obtain ⟨v1, k1, ho1, hbel⟩ := hP.done HB2.out (Nat.le_succ _) (by simp <;> omega)
  have c1 := k1.cell 0
  simp at c1
  rw [List.nil_append] at ho1
  obtain ⟨A1', cp1, rfl, hc1, hcl⟩ := ho1.clip
  have HO := Lib.hid hcl
  have HB := Lib.hid hbel
  clear hP k1 ho1 hbel hcl
  go_wp2_with fail
  refine (byt_clip A1' _ cp1 _ hc1 (by omega)).mono ?_
  rintro e w2 ⟨rfl, rfl⟩
  go_wp2
  refine bodyPost_ret (results_tmp2 rfl _ _ _) rfl ?_
  exact ⟨_, rfl, HO.out, HB.out, ⟨_, _, rfl⟩⟩
theorem put_entry_no (x0 : Int) (x1 : Int) (x2 : Int) (x3 : Int) (v4 : Value) (_r4 : List (List Int)) (f : Value) (w : World) :
    Calls Tryd.prog 98 #[.agg #[.int .u64 x0, .int .u64 x1, .int .u8 x2, .int .u64 x3, v4], .bool false, f] w fun e w' => e = .returned (.tuple #[.slice none 0 0, .int .i64 3]) ∧ Below w.heap.size w w' := by
  go_enter Tryd.func98, Tryd.ntmps98
  go_wp2
  refine bodyPost_ret (results_tmp2 rfl _ _ _) rfl ?_
  exact ⟨rfl, below_alloc_ _ _⟩
/-- What PutEntry answers. -/
def entryR (a : List Int × List (List Int)) : List Int × Int := if a.2.length ≤ 8 then (entryB a, 0) else ([], 3)
set_option maxHeartbeats 4000000 in
theorem Put_entry_anyC (x0 : Int) (x1 : Int) (x2 : Int) (x3 : Int) (v4 : Value) (r4 : List (List Int)) (h0 : fok1 .u64 x0) (h1 : fok1 .u64 x1) (h2 : fok1 .u8 x2) (h3 : fok1 .u64 x3) (hin4 : ∀ q ∈ r4, fok stepK q) (w : World) (hv4 : Steps w v4 r4) (hg4 : r4.length ≤ 1000000) :
    Calls Tryd.prog 74 #[.agg #[.int .u64 x0, .int .u64 x1, .int .u8 x2, .int .u64 x3, v4]] w fun e w' => ∃ v', e = .returned (.tuple #[v', .int .i64 (entryR ([x0, x1, x2, x3], r4)).2]) ∧ Bo w.heap.size w' v' (entryR ([x0, x1, x2, x3], r4)).1 ∧ Below w.heap.size w w' ∧ Clp v' := by
  have Q0 := Lib.hid h0
  clear h0
  have Q1 := Lib.hid h1
  clear h1
  have Q2 := Lib.hid h2
  clear h2
  have Q3 := Lib.hid h3
  clear h3
  have HI4 := Lib.hid hin4
  have HV4 := Lib.hid (Rd.alloc hv4 (.cells #[.int .u64 x0, .int .u64 x1, .int .u8 x2, .int .u64 x3, v4] 59))
  obtain ⟨E4, q4, rfl, -⟩ := id hv4
  clear hin4 hv4
  by_cases t4 : r4.length ≤ 8
  · have hl : (entryB ([x0, x1, x2, x3], r4)).length ≤ 70368744177664 := by
      have := entryLen Q0.out Q1.out Q2.out Q3.out t4 HI4.out
      omega
    have HR := Lib.hid (show entryR ([x0, x1, x2, x3], r4) = (entryB ([x0, x1, x2, x3], r4), 0) from if_pos t4)
    have t4' : (r4.length : Int) ≤ 8 := by omega
    rw [HR.out]
    go_enter Tryd.func74, Tryd.ntmps74
    go_wp2_with fail
    refine (put_entry_anyC x0 x1 x2 x3 _ r4 Q0.out Q1.out Q2.out Q3.out HI4.out _ HV4.out t4 hl).mono ?_
    rintro e w1 ⟨v1, rfl, ho, hb, hcl⟩
    have HCL := Lib.hid hcl
    clear hcl
    have HO := Lib.hid ho
    have HB := Lib.hid hb
    clear ho hb
    go_wp2
    refine bodyPost_ret (results_tmp2 rfl _ _ _) rfl ?_
    exact ⟨_, rfl, HO.out.le (by simp), (below_alloc_ _ _).trans (HB.out.mono (by simp)), HCL.out⟩
  · have t4' : ¬ (r4.length : Int) ≤ 8 := by omega
    have HR := Lib.hid (show entryR ([x0, x1, x2, x3], r4) = ([], 3) from if_neg (by (try simp only); omega))
    rw [HR.out]
    go_enter Tryd.func74, Tryd.ntmps74
    go_wp2_with fail
    refine (put_entry_no x0 x1 x2 x3 _ r4 _ _).mono ?_
    rintro e w1 ⟨rfl, hb⟩
    have HB := Lib.hid hb
    clear hb
    go_wp2
    refine bodyPost_ret (results_tmp2 rfl _ _ _) rfl ?_
    exact ⟨_, rfl, Bo.nil_ _ _, (below_alloc_ _ _).trans (HB.out.mono (by simp)), ⟨none, 0, rfl⟩⟩
theorem Put_entry_any (x0 : Int) (x1 : Int) (x2 : Int) (x3 : Int) (v4 : Value) (r4 : List (List Int)) (h0 : fok1 .u64 x0) (h1 : fok1 .u64 x1) (h2 : fok1 .u8 x2) (h3 : fok1 .u64 x3) (hin4 : ∀ q ∈ r4, fok stepK q) (w : World) (hv4 : Steps w v4 r4) (hg4 : r4.length ≤ 1000000) :
    Calls Tryd.prog 74 #[.agg #[.int .u64 x0, .int .u64 x1, .int .u8 x2, .int .u64 x3, v4]] w fun e w' => ∃ v', e = .returned (.tuple #[v', .int .i64 (entryR ([x0, x1, x2, x3], r4)).2]) ∧ Bo w.heap.size w' v' (entryR ([x0, x1, x2, x3], r4)).1 ∧ Below w.heap.size w w' :=
  (Put_entry_anyC x0 x1 x2 x3 v4 r4 h0 h1 h2 h3 hin4 w hv4 hg4).mono fun _ _ ⟨v, h1, h2, h3, _⟩ => ⟨v, h1, h2, h3⟩
end Go.Proofs.YtnegondlkfeleaaDoor
