/- letters: lives, the chapter's examples. -/
import Derived.Test.YthjdkjinkmdclaaMmc
import Derived.Test.YthjdkjinkmdclaaLpv
import Derived.Test.YthjdkjinkmdclaaLgv
namespace Go.Proofs.Ythjdkjinkmdclaa
open Go.RowKit

def exL : Lt := ⟨2, 1, 2, 3, 0, 0, 0, true, [], [], 0, 0, [], 0, 0, 0, []⟩
theorem exL_put : putL exL = ([2, 1, 2, 3, 1, 0], 0) := by
  have h0 : nb 0 = [0] := nb_lt (by decide)
  have h3 : nb 3 = [3] := nb_lt (by decide)
  unfold putL
  simp [exL, pcs, heads, putPcs, putPc, h0, h3]
theorem exL_get : getL [2, 1, 2, 3, 1, 0] = some exL := by rfl
theorem exL_none : getL [2, 1, 2, 3, 2, 0] = none := by rfl
theorem exL_okp : ∀ p, okPc exL p := by
  intro p
  cases p
  case yes => trivial
  case entries => exact ⟨Nat.zero_le _, fun t ht => by cases ht⟩
  case data => exact ⟨(fun c hc => by cases hc), Nat.zero_le _⟩
  case command => exact ⟨Nat.zero_le _, fun c hc => by cases hc⟩
  case reply => exact ⟨⟨⟨by decide, by decide⟩, ⟨by decide, by decide⟩, rfl⟩, Nat.zero_le _, fun c hc => by cases hc⟩
  all_goals exact ⟨by decide, by decide⟩
/-- What was got can be put. -/
theorem Lv.lw {B : Nat} {w : World} {L : Lt} {ve vd vs vg : Value} (h : Lv B w L ve vd vs vg) (ho : ∀ p, okPc L p) : Lw w L ve vd vs vg := by
  obtain ⟨⟨a, -⟩, ⟨b, -⟩, ⟨A, -, c⟩, ⟨G, -, d⟩⟩ := h
  refine ⟨a.ents, b.bs, c.rd, d.rd, LtOk.of_ ho, Nat.le_trans (ho .entries).1 (by decide), fun e he => Nat.le_trans ((ho .entries).2 e he).1.2.1 (by decide), Nat.le_trans (ho .data).2 (by decide), Nat.le_trans (ho .command).1 (by decide), Nat.le_trans (ho .reply).2.1 (by decide)⟩
/-- The letter's lists, as slices. -/
theorem Lv.sl {B : Nat} {w : World} {L : Lt} {ve vd vs vg : Value} (h : Lv B w L ve vd vs vg) : ∃ Ae ne Ad nd As ns Ag ng, ve = .slice Ae ne ne ∧ vd = .slice Ad nd nd ∧ vs = .slice As ns ns ∧ vg = .slice Ag ng ng := by
  obtain ⟨⟨-, ⟨Ae, ne, rfl⟩⟩, ⟨-, ⟨Ad, nd, rfl⟩⟩, ⟨As, rfl, -⟩, ⟨Ag, rfl, -⟩⟩ := h
  exact ⟨Ae, ne, Ad, nd, As, _, Ag, _, rfl, rfl, rfl, rfl⟩
set_option maxHeartbeats 1000000 in
set_option maxRecDepth 100000 in
theorem llives (w : World) : Calls Try.prog 6 #[] w fun e w' => e = .returned (.bool true) ∧ Below w.heap.size w w' := by
  have PL := Lib.hid exL_put
  have GL := Lib.hid exL_get
  have GN := Lib.hid exL_none
  have hs : strOfNums [2, 1, 2, 3, 1, 0] = ⟨#[2, 1, 2, 3, 1, 0]⟩ := by decide
  have SS := Lib.hid hs
  have HW := Lib.hid (show Lw w exL (.slice none 0 0) (.slice none 0 0) (.slice none 0 0) (.slice none 0 0) from Lv.lw (B := 0) ⟨⟨EntsO.nil_ _ _, _, _, rfl⟩, ⟨Bo.nil_ _ _, _, _, rfl⟩, ⟨none, rfl, .inl ⟨rfl, rfl, rfl⟩⟩, ⟨none, rfl, .inl ⟨rfl, rfl, rfl⟩⟩⟩ exL_okp)
  clear hs
  go_enter Try.func6, Try.ntmps6
  go_wp2_with fail
  refine (Put_any (L := exL) HW.out).mono ?_
  rintro e w1 ⟨v1, rfl, ho, hb, hc⟩
  rw [PL.out] at ho ⊢
  have B1 := Lib.hid hb
  have O1 := Lib.hid ho.bs
  have Y1 := Lib.hid (show ∀ c ∈ ([2, 1, 2, 3, 1, 0] : List Int), byt c by intro c hc; simp at hc; rcases hc with rfl | rfl | rfl | rfl | rfl | rfl <;> exact ⟨by decide, by decide⟩)
  have Y2 := Lib.hid (show ∀ c ∈ ([2, 1, 2, 3, 2, 0] : List Int), byt c by intro c hc; simp at hc; rcases hc with rfl | rfl | rfl | rfl | rfl | rfl <;> exact ⟨by decide, by decide⟩)
  obtain ⟨A1, m1, rfl⟩ := hc
  clear ho hb
  go_wp2_with fail
  refine (Get_any O1.out Y1.out (by decide)).mono ?_
  rintro e w2 ⟨ha, hb⟩
  rw [GL.out] at ha
  obtain ⟨ve, vd, vs, vg, rfl, hv⟩ := ha
  obtain ⟨Ae, ne, Ad, nd, As, ns, Ag, ng, rfl, rfl, rfl, rfl⟩ := hv.sl
  have B2 := Lib.hid (B1.out.trans (hb.mono B1.out.size))
  have O2 := Lib.hid (O1.out.below hb)
  have K3 := Lib.hid (Blk.new w2 36 (letC exL (.slice Ae ne ne) (.slice Ad nd nd) (.slice As ns ns) (.slice Ag ng ng)))
  have b3 := below_alloc_ w2 (.cells (letC exL (.slice Ae ne ne) (.slice Ad nd nd) (.slice As ns ns) (.slice Ag ng ng)) 36)
  have B3 := Lib.hid (B2.out.trans (b3.mono B2.out.size))
  have O3 := Lib.hid (O2.out.below b3)
  simp only [letC, exL] at B3 O3 K3 ⊢
  clear hv hb b3 O1 O2 B1 B2
  go_wp2_with fail
  obtain ⟨w3, hw3⟩ : ∃ x, x = w2.alloc (.cells #[.int .u8 2, .int .u8 1, .int .u8 2, .int .u64 3, .int .u64 0, .int .u64 0, .int .u64 0, .bool true, .slice Ae ne ne, .slice Ad nd nd, .int .u8 0, .int .u64 0, .slice As ns ns, .int .i64 0, .int .i64 0, .int .i64 0, .slice Ag ng ng] 36) := ⟨_, rfl⟩
  rw [← hw3] at B3 O3 K3 ⊢
  have hz : w2.heap.size + 1 = w3.heap.size := by rw [hw3]; simp
  clear hw3
  have hx := Bs.lits w3 [2, 1, 2, 3, 2, 0]
  have b5 := below_alloc_ w3 (.cells (bc [2, 1, 2, 3, 2, 0]).toArray 5)
  simp only [bc, List.map_cons, List.map_nil, List.length_cons, List.length_nil, Nat.zero_add, Nat.reduceAdd] at hx b5
  try rw [hz]
  refine (Get_any hx Y2.out (by decide)).mono ?_
  rintro e w5 ⟨ha, hb⟩
  rw [GN.out] at ha
  obtain rfl : e = .returned (.tuple #[.agg zeroL, .int .i64 4]) := ha
  have hzl : zeroL = #[.int .u8 0, .int .u8 0, .int .u8 0, .int .u64 0, .int .u64 0, .int .u64 0, .int .u64 0, .bool false, .slice none 0 0, .slice none 0 0, .int .u8 0, .int .u64 0, .slice none 0 0, .int .i64 0, .int .i64 0, .int .i64 0, .slice none 0 0] := rfl
  rw [hzl]
  have b6 := b5.trans (hb.mono b5.size)
  have b7 := b6.alloc b6.size (.cells #[.int .u8 0, .int .u8 0, .int .u8 0, .int .u64 0, .int .u64 0, .int .u64 0, .int .u64 0, .bool false, .slice none 0 0, .slice none 0 0, .int .u8 0, .int .u64 0, .slice none 0 0, .int .i64 0, .int .i64 0, .int .i64 0, .slice none 0 0] 36)
  have B7 := Lib.hid (B3.out.trans (b7.mono B3.out.size))
  have hcv := run_convert_bs (P := Try.prog) (O3.out.below b7) 25 5 9 Try.underlying25 Try.underlying5 Try.underlying9
  rw [SS.out] at hcv
  have k7 := K3.out.below b7 K3.out.lt
  have d0 := k7.cell 0
  have d1 := k7.cell 1
  have d2 := k7.cell 2
  have d3 := k7.cell 3
  have d7 := k7.cell 7
  simp only [List.getElem?_toArray, List.getElem?_cons_zero, List.getElem?_cons_succ] at d0 d1 d2 d3 d7
  clear hx b5 hb b6 b7 k7 hzl
  go_wp2
  go_ret
  exact ⟨rfl, B7.out⟩
end Go.Proofs.Ythjdkjinkmdclaa
