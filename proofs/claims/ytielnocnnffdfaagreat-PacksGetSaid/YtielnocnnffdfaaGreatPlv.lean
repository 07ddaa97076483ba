/- packs: lives, the chapter's examples. -/
import Derived.Test.YtielnocnnffdfaaGreatMmc
import Derived.Test.YtielnocnnffdfaaGreatPqc
import Derived.Test.YtielnocnnffdfaaGreatJpw
namespace Go.Proofs.YtielnocnnffdfaaGreat
open Go.RowKit

theorem nb_300 : nb 300 = [172, 2] := by
  rw [nb_ge (by decide), nb_lt (by decide)]; rfl
theorem cmdR_nil : cmdR [] = ([0], 0) := by
  unfold cmdR
  rw [if_pos (by decide)]
  show (nb 0 ++ [], 0) = _
  rw [nb_lt (by decide)]; rfl

set_option maxHeartbeats 4000000 in
set_option maxRecDepth 100000 in
theorem plives (w : World) : Calls Tryz.prog 4 #[] w fun e w' => e = .returned (.bool true) ∧ Below w.heap.size w w' := by
  have CR := Lib.hid cmdR_nil
  have TK := Lib.hid (show tk [128, 0] = (0, 0, 4) from rfl)
  have R1 := Lib.hid (show allP (replyP [0, 0, 0]) = .ok ([0, 0], []) from rfl)
  have R2 := Lib.hid (show allP (replyP [0, 0, 0, 0]) = .error 4 from rfl)
  have N3 := Lib.hid nb_300
  have hs : strOfNums [172, 2] = ⟨#[172, 2]⟩ := by decide
  have SS := Lib.hid hs
  clear hs
  go_enter Tryz.func4, Tryz.ntmps4
  go_wp2_with fail
  refine (Put_cmd_any (.slice none 0 0) [] (by simp) _ ⟨none, 0, rfl, Nat.le_refl _, rfl, .inl rfl⟩ (by simp)).mono ?_
  rintro e w1 ⟨v1, rfl, ho, hb⟩
  rw [CR.out] at ho ⊢
  obtain ⟨g1, c1, rfl, hc1, hg1, hcell⟩ := Bo.one ho
  have C1 := Lib.hid hcell
  have L1 := Lib.hid (block_lt_of_cell hcell)
  have B1 := Lib.hid hb
  clear ho hcell hb
  go_wp2_with fail
  have hx := Bs.lits w1 [128, 0]
  have b2 := below_alloc_ w1 (.cells (bc [128, 0]).toArray 5)
  simp only [bc, List.map_cons, List.map_nil, List.length_cons, List.length_nil, Nat.zero_add, Nat.reduceAdd] at hx b2
  refine (Take_any _ [128, 0] _ hx (by intro c hc; simp at hc; rcases hc with rfl | rfl <;> exact ⟨by decide, by decide⟩) (by decide)).mono ?_
  rintro e w2 ⟨rfl, rfl⟩
  rw [TK.out]
  have B2 := Lib.hid (B1.out.trans (b2.mono B1.out.size))
  have C2 := Lib.hid (cell_on b2 L1.out C1.out)
  have L2 := Lib.hid (Nat.lt_of_lt_of_le L1.out b2.size)
  clear hx b2
  generalize w1.alloc (.cells #[.int .u8 128, .int .u8 0] 5) = w2 at B2 C2 L2 ⊢
  go_wp2_with fail
  have hx := Bs.lits w2 [0, 0, 0]
  have b3 := below_alloc_ w2 (.cells (bc [0, 0, 0]).toArray 5)
  simp only [bc, List.map_cons, List.map_nil, List.length_cons, List.length_nil, Nat.zero_add, Nat.reduceAdd] at hx b3
  refine (Get_reply_any _ [0, 0, 0] _ hx (by intro c hc; simp at hc; subst hc; exact ⟨by decide, by decide⟩) (by decide)).mono ?_
  intro e w3 hp
  unfold GPost at hp
  rw [R1.out] at hp
  obtain ⟨v3, rfl, ⟨A3, rfl, -⟩, hb⟩ := hp
  have b3' := b3.trans (hb.mono b3.size)
  have B3 := Lib.hid (B2.out.trans (b3'.mono B2.out.size))
  have C3 := Lib.hid (cell_on b3' L2.out C2.out)
  have L3 := Lib.hid (Nat.lt_of_lt_of_le L2.out b3'.size)
  clear hx b3 hb b3'
  go_wp2_with fail
  have hk := Blk.new w3 37 #[.int .i64 0, .int .i64 0, .slice A3 0 0]
  have b4 := below_alloc_ w3 (.cells #[.int .i64 0, .int .i64 0, .slice A3 0 0] 37)
  have B4 := Lib.hid (B3.out.trans (b4.mono B3.out.size))
  have C4 := Lib.hid (cell_on b4 L3.out C3.out)
  have L4 := Lib.hid (Nat.lt_of_lt_of_le L3.out b4.size)
  have K4 := Lib.hid hk
  clear hk b4
  have hz : (w3.alloc (.cells #[.int .i64 0, .int .i64 0, .slice A3 0 0] 37)).heap.size = w3.heap.size + 1 := by simp
  generalize w3.alloc (.cells #[.int .i64 0, .int .i64 0, .slice A3 0 0] 37) = w4 at B4 C4 L4 K4 hz ⊢
  have hx := Bs.lits w4 [0, 0, 0, 0]
  rw [hz] at hx
  have b5 := below_alloc_ w4 (.cells (bc [0, 0, 0, 0]).toArray 5)
  simp only [bc, List.map_cons, List.map_nil, List.length_cons, List.length_nil, Nat.zero_add, Nat.reduceAdd] at hx b5
  refine (Get_reply_any _ [0, 0, 0, 0] _ hx (by intro c hc; simp at hc; subst hc; exact ⟨by decide, by decide⟩) (by decide)).mono ?_
  intro e w5 hp
  unfold GPost at hp
  rw [R2.out] at hp
  obtain ⟨rfl, hb⟩ := hp
  have b5' := (b5.trans (hb.mono b5.size)).alloc (Nat.le_trans b5.size hb.size) (.cells #[.int .i64 0, .int .i64 0, .slice none 0 0] 37)
  have B5 := Lib.hid (B4.out.trans (b5'.mono B4.out.size))
  have c5 := cell_on b5' L4.out C4.out
  have k5 := K4.out.below b5' K4.out.lt
  have d0 := k5.cell 0
  have d2 := k5.cell 2
  simp at d0 d2
  clear hx b5 hb b5' k5 hz
  go_wp2_with fail
  refine (num_any (.slice none 0 0) [] 300 _ (Bs.nils _ _ _) (by decide) (by decide)).mono ?_
  rintro e w6 ⟨v6, rfl, ho, hb⟩
  rw [N3.out, List.nil_append] at ho
  have hcv := run_convert_bs (P := Tryz.prog) ho.bs 22 5 9 Tryz.underlying22 Tryz.underlying5 Tryz.underlying9
  rw [SS.out] at hcv
  have B6 := Lib.hid (B5.out.trans (hb.mono B5.out.size))
  have e0 := (hb.cell (block_lt_of_cell d0)).trans d0
  have e2 := (hb.cell (block_lt_of_cell d2)).trans d2
  clear d0 d2 c5 hb ho
  go_wp2
  go_ret
  exact ⟨rfl, B6.out⟩
end Go.Proofs.YtielnocnnffdfaaGreat
