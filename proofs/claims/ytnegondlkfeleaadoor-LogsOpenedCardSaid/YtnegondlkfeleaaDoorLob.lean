/- logs: the end of a content; the term of an index. -/
import Derived.Test.YtnegondlkfeleaaDoorLoa
import Derived.Test.YtnegondlkfeleaaDoorEnt
import Derived.BigRegion
import Derived.BigQuiet
namespace Go.Proofs.YtnegondlkfeleaaDoor
open Go.RowKit

/-- The content at the cells p, 0 .. 2. -/
def Ct (w : World) (p bi bt : Nat) (ev : Value) : Prop := w.cell? ⟨p, 0, none⟩ = some (.int .u64 bi) ∧ w.cell? ⟨p, 1, none⟩ = some (.int .u64 bt) ∧ w.cell? ⟨p, 2, none⟩ = some ev
theorem Ct.below {w w' : World} {p bi bt : Nat} {ev : Value} (h : Ct w p bi bt ev) (hb : Below w.heap.size w w') : Ct w' p bi bt ev :=
  ⟨(hb.cell (block_lt_of_cell h.1)).trans h.1, (hb.cell (block_lt_of_cell h.2.1)).trans h.2.1, (hb.cell (block_lt_of_cell h.2.2)).trans h.2.2⟩
/-- Entries that follow each other behind the index bi. -/
def Wf (bi : Nat) (es : List Ent) : Prop := ∀ (j : Nat) (h : j < es.length), ∃ t c n : Int, es[j].1 = [((bi + 1 + j : Nat) : Int), t, c, n]
def endT (bt : Nat) (es : List Ent) : Int := match es.getLast? with
  | none => bt
  | some e => e.1.tail.headD 0
/-- Entry j, in its cells. -/
theorem Ents.ct {w : World} {v : Value} {es : List Ent} {bi : Nat} (h : Ents w v es) (hw : Wf bi es) (h0 : 0 < es.length) :
    ∃ g o c, v = .slice (some ⟨g, o, none⟩) es.length c ∧ es.length ≤ c ∧ g < w.heap.size ∧ ∀ (j : Nat) (hj : j < es.length), ∃ t x n : Int, ∃ s, es[j].1 = [((bi + 1 + j : Nat) : Int), t, x, n] ∧ Steps w s es[j].2 ∧
      w.cell? ⟨g, o + j * 5, none⟩ = some (.int .u64 ((bi + 1 + j : Nat) : Int)) ∧ w.cell? ⟨g, o + j * 5 + 1, none⟩ = some (.int .u64 t) ∧ w.cell? ⟨g, o + j * 5 + 2, none⟩ = some (.int .u8 x) ∧ w.cell? ⟨g, o + j * 5 + 3, none⟩ = some (.int .u64 n) ∧ w.cell? ⟨g, o + j * 5 + 4, none⟩ = some s := by
  obtain ⟨g, o, c, hv, hc, hg, hh⟩ := h.at_ h0
  refine ⟨g, o, c, hv, hc, hg, fun j hj => ?_⟩
  obtain ⟨t, x, n, he⟩ := hw j hj
  obtain ⟨s, hs, hcell⟩ := hh j hj
  have hec : ecells (es[j], s) = [.int .u64 ((bi + 1 + j : Nat) : Int), .int .u64 t, .int .u8 x, .int .u64 n, s] := by simp [ecells, he, entryK, fc]
  rw [hec] at hcell
  exact ⟨t, x, n, s, he, hs, hcell 0 _ (by omega) rfl, hcell 1 _ (by omega) rfl, hcell 2 _ (by omega) rfl, hcell 3 _ (by omega) rfl, hcell 4 _ (by omega) rfl⟩
theorem infM : (Tryd.prog.info? 32).map (·.size) = some 2 := by kernel_rfl

set_option maxHeartbeats 1000000 in
set_option maxRecDepth 100000 in
theorem lend_any (p bi bt : Nat) (ev : Value) (es : List Ent) (w : World) (h : Ct w p bi bt ev) (he : Ents w ev es) (hw : Wf bi es) (hl : es.length ≤ 1000000) :
    Calls Tryd.prog 37 #[.pointer (some ⟨p, 0, none⟩)] w fun e w' => e = .returned (.agg #[.int .u64 ((bi + es.length : Nat) : Int), .int .u64 (endT bt es)]) ∧ Below w.heap.size w w' := by
  have b0 := below_alloc_ w (.cells #[.int .u64 0, .int .u64 0] 32)
  have k0 := Blk.new w 32 #[.int .u64 0, .int .u64 0]
  obtain ⟨c0, c1, c2⟩ := h.below b0
  have e1 := he.below b0
  have i0 := k0.cell 0
  have i1 := k0.cell 1
  have f0 := k0.free 0
  have f1 := k0.free 1
  simp at i0 i1
  have B0 := Lib.hid b0
  have K0 := Lib.hid k0
  rcases Nat.eq_zero_or_pos es.length with h0 | h0
  · obtain rfl := List.eq_nil_of_length_eq_zero h0
    obtain ⟨_, _, ⟨A, c, rfl, -⟩, -⟩ := id he
    simp only [List.length_nil] at c2
    clear h he e1 hw hl h0 b0 k0
    go_enter Tryd.func37, Tryd.ntmps37
    go_wp2
    refine bodyPost_ret (res_cell1 Tryd.results37 (Blk.new w 32 #[_, _]) rfl Tryd.underlying32 infM) rfl ?_
    exact ⟨by simp [endT], below_alloc_ w _⟩
  · obtain ⟨g, o, c, rfl, hc, hg, hh⟩ := e1.ct hw h0
    obtain ⟨m, hm⟩ : ∃ m, es.length = m + 1 := ⟨es.length - 1, by omega⟩
    obtain ⟨t, x, n, s, hes, -, d0, d1, -⟩ := hh m (by omega)
    have ht : endT bt es = t := by
      have hgl : es.getLast? = some es[m] := by rw [List.getLast?_eq_getElem?, show es.length - 1 = m by omega]; exact List.getElem?_eq_getElem _
      simp [endT, hgl, hes]
    have hml : (m : Int) < 1000000 := by omega
    have hcm : (m : Int) + 1 ≤ (c : Int) := by omega
    have HT := Lib.hid ht
    have HM := Lib.hid hm
    rw [ht, hm]
    rw [hm] at c2
    clear h he e1 hw hl h0 b0 k0 hh hes ht hm hc hg
    go_enter Tryd.func37, Tryd.ntmps37
    go_wp2_with fail
    go_region
    go_wp2
    refine bodyPost_ret (res_cell1 Tryd.results37 (Blk.new w 32 #[_, _]).drew rfl Tryd.underlying32 infM) rfl ?_
    exact ⟨by simp; omega, (below_alloc_ w _).drew⟩

theorem mark_field (a b : Int) (w : World) : (Instr.field 32 (.agg #[.int .u64 a, .int .u64 b]) 0).run Tryd.prog w = .ok (.int .u64 a) w := by kernel_rfl
def tmE (es : List Ent) (j : Nat) : Int := (es[j]?.map fun e => e.1.tail.headD 0).getD 0
def termP (bi bt : Nat) (es : List Ent) (i : Nat) : Int × Bool := if i = bi then ((bt : Int), true) else if i < bi ∨ bi + es.length < i then (0, false) else (tmE es (i - bi - 1), true)

set_option maxHeartbeats 1000000 in
set_option maxRecDepth 100000 in
theorem lterm_any (p bi bt i : Nat) (ev : Value) (es : List Ent) (w : World) (h : Ct w p bi bt ev) (he : Ents w ev es) (hw : Wf bi es) (hl : es.length ≤ 1000000) (hi : i < 18446744073709551616) (hb : bi + es.length < 18446744073709551616) :
    Calls Tryd.prog 38 #[.pointer (some ⟨p, 0, none⟩), .int .u64 i] w fun e w' => e = .returned (.tuple #[.int .u64 (termP bi bt es i).1, .bool (termP bi bt es i).2]) ∧ Below w.heap.size w w' := by
  obtain ⟨c0, c1, c2⟩ := id h
  have H := Lib.hid h
  have HE := Lib.hid he
  have HW := Lib.hid hw
  have HL := Lib.hid hl
  by_cases h1 : i = bi
  · have hR : termP bi bt es i = ((bt : Int), true) := if_pos h1
    rw [hR]
    subst h1
    clear h he hw hl hR
    go_enter Tryd.func38, Tryd.ntmps38
    go_wp2
    go_ret2
    exact ⟨rfl, Below.refl _ _⟩
  by_cases h2 : i < bi
  · have hR : termP bi bt es i = (0, false) := by unfold termP; rw [if_neg h1, if_pos (.inl h2)]
    rw [hR]
    have n1 : ((i : Int) == (bi : Int)) = false := by simp; omega
    have n2 : decide ((i : Int) < (bi : Int)) = true := decide_eq_true (by omega)
    have n3 : (i : Int) < (bi : Int) := by omega
    clear h he hw hl hR h1 h2
    go_enter Tryd.func38, Tryd.ntmps38
    go_wp2
    go_ret2
    exact ⟨rfl, Below.refl _ _⟩
  have n1 : ((i : Int) == (bi : Int)) = false := by simp; omega
  have n2 : decide ((i : Int) < (bi : Int)) = false := decide_eq_false (by omega)
  have n3 : ¬ (i : Int) < (bi : Int) := by omega
  by_cases h3 : bi + es.length < i
  · have hR : termP bi bt es i = (0, false) := by unfold termP; rw [if_neg h1, if_pos (.inr h3)]
    rw [hR]
    obtain ⟨E, hE⟩ : ∃ E, E = bi + es.length := ⟨_, rfl⟩
    have LE := Lib.hid (lend_any p bi bt ev es w h he hw hl)
    rw [← hE] at LE h3
    have n4 : (E : Int) < (i : Int) := by omega
    have n5 : decide ((E : Int) < (i : Int)) = true := decide_eq_true n4
    have hfd := mark_field
    clear h he hw hl hR h1 h2 hE hb h3
    go_enter Tryd.func38, Tryd.ntmps38
    go_wp2_with fail
    refine LE.out.mono ?_
    rintro e w1 ⟨rfl, b1⟩
    have B1 := Lib.hid b1
    clear b1 c0 c1 c2
    go_wp2
    go_ret2
    exact ⟨rfl, B1.out⟩
  · obtain ⟨j, hj⟩ : ∃ j, j = i - bi - 1 := ⟨_, rfl⟩
    have hjl : j < es.length := by omega
    have hR : termP bi bt es i = (tmE es j, true) := by unfold termP; rw [if_neg h1, if_neg (by omega), hj]
    rw [hR]
    obtain ⟨g, o, c, rfl, hc, hg, hh⟩ := he.ct hw (by omega)
    obtain ⟨t, x, n, s, hes, -, -, d1, -⟩ := hh j hjl
    have ht : tmE es j = t := by simp [tmE, List.getElem?_eq_getElem hjl, hes]
    rw [ht]
    obtain ⟨E, hE⟩ : ∃ E, E = bi + es.length := ⟨_, rfl⟩
    have LE := Lib.hid (lend_any p bi bt _ es w h he hw hl)
    obtain ⟨n0, hn0⟩ : ∃ n, n = es.length := ⟨_, rfl⟩
    rw [← hE] at LE
    rw [← hn0] at c2 hc
    have D1 := Lib.hid d1
    have n4 : ¬ (E : Int) < (i : Int) := by omega
    have n5 : decide ((E : Int) < (i : Int)) = false := decide_eq_false n4
    obtain ⟨k1, hk1⟩ : ∃ k1, k1 = j + 1 := ⟨_, rfl⟩
    have n6 : (i : Int) - (bi : Int) = (k1 : Int) := by omega
    have n7 : (k1 : Int) - 1 = (j : Int) := by omega
    have n11 : IntKind.u64.wrap (k1 : Int) = (k1 : Int) := IntWalk.u64_in _ (by omega)
    have n12 : IntKind.u64.wrap (j : Int) = (j : Int) := IntWalk.u64_in _ (by omega)
    have N0 := Lib.hid hn0
    have n10 : (k1 : Int) ≤ 1000000 := by omega
    have n8 : (j : Int) < (n0 : Int) := by omega
    have n9 : (n0 : Int) ≤ 1000000 := by omega
    have hfd := mark_field
    clear h he hw hl hR h1 h2 hE hb h3 hh hes ht hn0 hjl hj d1 hk1
    go_enter Tryd.func38, Tryd.ntmps38
    go_wp2_with fail
    refine LE.out.mono ?_
    rintro e w1 ⟨rfl, b1⟩
    have B1 := Lib.hid b1
    obtain ⟨c0', c1', c2'⟩ := H.out.below b1
    have d1 := (b1.cell (block_lt_of_cell D1.out)).trans D1.out
    rw [← N0.out] at c2'
    clear b1 c0 c1 c2
    go_wp2_with fail
    go_quiet (fail)
    go_wp2
    go_ret2
    exact ⟨rfl, B1.out.trans (below_drewN_ _ _ _)⟩
end Go.Proofs.YtnegondlkfeleaaDoor
