/- Letters: Put: what it answers. -/
import Derived.Test.YthjdkjinkmdclaaGreatLpu
import Derived.Test.YthjdkjinkmdclaaGreatClp
namespace Go.Proofs.YthjdkjinkmdclaaGreat
open Go.RowKit

/-- What a letter reads as stands in a later world. -/
theorem Lw.below {w w' : World} {L : Lt} {ve vd vs vg : Value} (h : Lw w L ve vd vs vg) (hb : Below w.heap.size w w') : Lw w' L ve vd vs vg :=
  ⟨h.es.below hb, h.data.below hb, Rd.below h.steps hb, Rd.below h.gots hb, h.ok, h.e6, h.s6, h.d6, h.t6, h.g6⟩
theorem Lp.new (w : World) (L : Lt) (ve vd vs vg : Value) (b : Bool) :
    Lp w ((w.alloc (.cells (letC L ve vd vs vg) 36)).alloc (.cells #[.slice none 0 0, .bool b] 67)) (w.heap.size + 1) w.heap.size (letC L ve vd vs vg) [] b := by
  refine ⟨⟨.slice none 0 0, ?_, ⟨Bo.nil_ _ _, below_alloc2_ w _ _, by simp only [World.size_alloc]; omega⟩⟩, (Blk.new w 36 (letC L ve vd vs vg)).alloc _, Nat.le_succ _, Nat.le_refl _⟩
  have := Blk.new (w.alloc (.cells (letC L ve vd vs vg) 36)) 67 #[.slice none 0 0, .bool b]
  rw [World.size_alloc] at this
  exact this
set_option maxHeartbeats 8000000 in
set_option maxRecDepth 100000 in
theorem Put_any {w : World} {L : Lt} {ve vd vs vg : Value} (hw : Lw w L ve vd vs vg) :
    Calls Tryz.prog 8 #[.agg (letC L ve vd vs vg)] w fun e w' => ∃ v', e = .returned (.tuple #[v', .int .i64 (putL L).2]) ∧ Bo w.heap.size w' v' (putL L).1 ∧ Below w.heap.size w w' ∧ Clp v' := by
  obtain ⟨bd, hbd⟩ : ∃ bd : Bool, bd = decide (L.e < 0 ∧ L.kind = 7) := ⟨_, rfl⟩
  have HW := Lib.hid hw
  have NEW := Lib.hid (Lp.new w L ve vd vs vg bd)
  have BD := Lib.hid hbd
  have c13 : (w.alloc (.cells (letC L ve vd vs vg) 36)).cell? ⟨w.heap.size, 13, none⟩ = some (.int .i64 L.e) := ((Blk.new w 36 (letC L ve vd vs vg)).cell 13).trans rfl
  have c0 : (w.alloc (.cells (letC L ve vd vs vg) 36)).cell? ⟨w.heap.size, 0, none⟩ = some (.int .u8 L.kind) := ((Blk.new w 36 (letC L ve vd vs vg)).cell 0).trans rfl
  have d13 : (w.alloc (.cells (letC L ve vd vs vg) 36)).drew.cell? ⟨w.heap.size, 13, none⟩ = some (.int .i64 L.e) := c13
  have d0 : (w.alloc (.cells (letC L ve vd vs vg) 36)).drew.cell? ⟨w.heap.size, 0, none⟩ = some (.int .u8 L.kind) := c0
  clear hw hbd
  go_enter Tryz.func8, Tryz.ntmps8
  go_upto_region 1 with fail
  go_cut [4] (fun s4 wx => s4 = .pointer (some ⟨w.heap.size + 1, 0, none⟩) ∧ Lp w wx (w.heap.size + 1) w.heap.size (letC L ve vd vs vg) [] bd)
  case first =>
    by_cases hE : L.e < 0
    · by_cases hK : L.kind = 7
      · have hK2 : (L.kind == 7) = true := by simp [hK]
        obtain rfl : bd = true := by rw [BD.out]; simp [hE, hK]
        go_wp2
        go_meet
        exact ⟨rfl, NEW.out⟩
      · have hK2 : (L.kind == 7) = false := beq_eq_false_iff_ne.2 hK
        obtain rfl : bd = false := by rw [BD.out]; simp [hK]
        go_wp2
        go_meet
        exact ⟨rfl, NEW.out⟩
    · obtain rfl : bd = false := by rw [BD.out]; simp [hE]
      go_wp2
      go_meet
      exact ⟨rfl, NEW.out⟩
  case rest =>
    obtain ⟨rfl, hP⟩ := hcut
    have P := Lib.hid hP
    clear hP NEW
    go_upto_region 2 with fail
    go_cut [24] (fun s24 wx => ∃ xs bb no, Lp w wx (w.heap.size + 1) w.heap.size (letC L ve vd vs vg) xs bb ∧ xs.length ≤ 1000000000 ∧ s24 = .bool no ∧ putL L = if no = true then ([], 1) else (xs, 0))
    case first =>
      rcases hps : pcs L.kind with - | ps
      · have CN := Lib.hid (through_put P.out HW.out (by simp))
        have HP := Lib.hid hps
        rw [hps] at CN
        clear hps
        go_wp2_with fail
        refine CN.out.mono ?_
        rintro e w' ⟨rfl, h1, -⟩
        have H1 := Lib.hid h1
        clear h1
        go_wp2
        go_meet
        refine ⟨_, _, true, H1.out, ?_, rfl, ?_⟩
        · have h1 := fm_len (fun q => (putPc L q).1) 80000000 (putPc_len HW.out) (heads ++ [])
          simp only [heads, Option.getD_none, List.append_nil, List.length_cons, List.length_nil, List.nil_append] at h1 ⊢
          omega
        · unfold putL
          rw [HP.out, if_pos rfl]
      · have CN := Lib.hid (through_put P.out HW.out (by simp))
        have HP := Lib.hid hps
        rw [hps] at CN
        have HE := Lib.hid (putPcs_eq L (heads ++ ps) ([], bd))
        obtain ⟨xs, hxs⟩ : ∃ xs, xs = ([] ++ (heads ++ (some ps).getD []).flatMap fun q => (putPc L q).1) := ⟨_, rfl⟩
        obtain ⟨bb, hbb⟩ : ∃ bb, bb = (bd || (heads ++ (some ps).getD []).any fun q => (putPc L q).2) := ⟨_, rfl⟩
        rw [← hxs, ← hbb] at CN
        have XE := Lib.hid hxs
        have BE := Lib.hid hbb
        have hpl : putL L = if bb = true then ([], 1) else (xs, 0) := by
          unfold putL
          rw [hps]
          simp only
          rw [← BD.out, HE.out, XE.out, BE.out]
          rfl
        have PL := Lib.hid hpl
        clear hps hxs hbb hpl HE
        go_wp2_with fail
        refine CN.out.mono ?_
        rintro e w' ⟨rfl, h1, -⟩
        obtain ⟨v1, hk1, hf1⟩ := h1.ex
        have c1 := hk1.cell 1
        simp only [List.getElem?_toArray, List.getElem?_cons_zero, List.getElem?_cons_succ] at c1
        have H1 := Lib.hid h1
        clear h1 hk1 hf1
        go_wp2
        go_meet
        refine ⟨xs, bb, bb, H1.out, ?_, rfl, PL.out⟩
        have h1 := fm_len (fun q => (putPc L q).1) 80000000 (putPc_len HW.out) (heads ++ ps)
        have h2 := pcs_len HP.out
        rw [XE.out, List.nil_append]
        simp only [heads, Option.getD_some, List.length_append, List.length_cons, List.length_nil] at h1 h2 ⊢
        omega
    case rest =>
      obtain ⟨xs, bb, no, hP2, hxl, rfl, hpl⟩ := hcut
      have P2 := Lib.hid hP2
      have PL := Lib.hid hpl
      cases no
      · obtain ⟨v1, hk1, hf1⟩ := hP2.ex
        obtain ⟨A1', cp1, rfl, hc1, hcl⟩ := hf1.own.clip
        have c0 := hk1.cell 0
        simp only [List.getElem?_toArray, List.getElem?_cons_zero] at c0
        have HO := Lib.hid hcl
        clear hP2 hpl hk1 hf1 hcl
        go_wp2_with fail
        refine (byt_clip A1' _ cp1 _ hc1 (by omega)).mono ?_
        rintro e w2 ⟨rfl, rfl⟩
        go_wp2
        refine bodyPost_ret (results_tmp2 rfl _ _ _) rfl ?_
        rw [PL.out]
        exact ⟨_, rfl, HO.out, P2.out.bel, ⟨_, _, rfl⟩⟩
      · clear hP2 hpl
        go_wp2
        refine bodyPost_ret (results_tmp2 rfl _ _ _) rfl ?_
        rw [PL.out]
        exact ⟨_, rfl, Bo.nil_ _ _, P2.out.bel, ⟨_, _, rfl⟩⟩
end Go.Proofs.YthjdkjinkmdclaaGreat
