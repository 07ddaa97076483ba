/- Great: which letters are gone through. -/
import Derived.Test.YthjdkjinkmdclaaGreatLpq
namespace Go.Proofs.YthjdkjinkmdclaaGreat
open Go.RowKit

/-- What a letter that is handed in reads as. -/
structure Lr (w : World) (L : Lt) (ve vd vs vg : Value) : Prop where
  es : Ents w ve L.es
  data : Bs w vd L.data
  steps : Steps w vs L.steps
  gots : Gots w vg L.gots
  ok : LtOk L
  le : L.es.length ≤ 140737488355328
  ls : ∀ e ∈ L.es, e.2.length ≤ 140737488355328
  ld : L.data.length ≤ 140737488355328
  lt : L.steps.length ≤ 140737488355328
  lg : L.gots.length ≤ 140737488355328
theorem Lr.below {w w' : World} {L : Lt} {ve vd vs vg : Value} (h : Lr w L ve vd vs vg) (hb : Below w.heap.size w w') : Lr w' L ve vd vs vg :=
  ⟨h.es.below hb, h.data.below hb, Rd.below h.steps hb, Rd.below h.gots hb, h.ok, h.le, h.ls, h.ld, h.lt, h.lg⟩
/-- No more than is gone through. -/
def Small (L : Lt) : Prop := L.es.length ≤ 300 ∧ (∀ e ∈ L.es, e.2.length ≤ 66000) ∧ L.data.length ≤ 66000 ∧ L.steps.length ≤ 66000 ∧ L.gots.length ≤ 66000
theorem Lr.lw {w : World} {L : Lt} {ve vd vs vg : Value} (h : Lr w L ve vd vs vg) (s : Small L) : Lw w L ve vd vs vg :=
  ⟨h.es, h.data, h.steps, h.gots, h.ok, Nat.le_trans s.1 (by decide), fun e he => Nat.le_trans (s.2.1 e he) (by decide), Nat.le_trans s.2.2.1 (by decide), Nat.le_trans s.2.2.2.1 (by decide), Nat.le_trans s.2.2.2.2 (by decide)⟩
def sumE (es : List Ent) : Nat := (es.map fun e => 1 + e.2.length).sum
theorem sumE_snoc {es : List Ent} {i : Nat} (h : i < es.length) : sumE (es.take (i + 1)) = sumE (es.take i) + (1 + es[i].2.length) := by
  unfold sumE
  rw [List.take_succ_eq_append_getElem h, List.map_append, List.sum_append]
  simp
theorem sumE_mem {es : List Ent} {e : Ent} (h : e ∈ es) : e.2.length ≤ sumE es := by
  unfold sumE
  induction es with
  | nil => cases h
  | cons x r ih =>
    simp only [List.map_cons, List.sum_cons]
    rcases List.mem_cons.1 h with rfl | h
    · omega
    · have := ih h; omega

set_option maxHeartbeats 4000000 in
set_option maxRecDepth 100000 in
theorem great_any {w : World} {L : Lt} {ve vd vs vg : Value} (h : Lr w L ve vd vs vg) :
    Calls Tryz.prog 5 #[.agg (letC L ve vd vs vg)] w fun e w' => (e = .returned (.bool true) ∨ (e = .returned (.bool false) ∧ Small L)) ∧ Below w.heap.size w w' := by
  obtain ⟨Ae, ce, rfl⟩ : ∃ A c, ve = .slice A L.es.length c := by obtain ⟨ss, h1, ⟨A, c, hv, -⟩, h3⟩ := h.es; exact ⟨A, c, hv⟩
  obtain ⟨Ad, cd, rfl, -⟩ := id h.data
  obtain ⟨As, cs, rfl, -⟩ := id h.steps
  obtain ⟨Ag, cg, rfl, -⟩ := id h.gots
  obtain ⟨n, hn⟩ : ∃ n, n = L.es.length := ⟨_, rfl⟩
  obtain ⟨nd, hnd⟩ : ∃ n, n = L.data.length := ⟨_, rfl⟩
  obtain ⟨ns, hns⟩ : ∃ n, n = L.steps.length := ⟨_, rfl⟩
  obtain ⟨ng, hng⟩ : ∃ n, n = L.gots.length := ⟨_, rfl⟩
  have N := Lib.hid hn
  have ND := Lib.hid hnd
  have NS := Lib.hid hns
  have NG := Lib.hid hng
  have b0 := below_alloc_ w (.cells (letC L (.slice Ae L.es.length ce) (.slice Ad L.data.length cd) (.slice As L.steps.length cs) (.slice Ag L.gots.length cg)) 36)
  have H := Lib.hid (h.below b0)
  have k := Blk.new w 36 (letC L (.slice Ae L.es.length ce) (.slice Ad L.data.length cd) (.slice As L.steps.length cs) (.slice Ag L.gots.length cg))
  have le := h.le
  have ld := h.ld
  have lt := h.lt
  have lg := h.lg
  rw [← hn] at le
  rw [← hnd] at ld
  rw [← hns] at lt
  rw [← hng] at lg
  rw [← hn, ← hnd, ← hns, ← hng] at k H b0 ⊢
  have B0 := Lib.hid b0
  have c8 := k.cell 8
  have c9 := k.cell 9
  have c12 := k.cell 12
  have c16 := k.cell 16
  simp only [letC, List.getElem?_toArray, List.getElem?_cons_zero, List.getElem?_cons_succ] at c8 c9 c12 c16 B0 H ⊢
  have hw1 : IntKind.i64.wrap ((nd : Int) + ns) = (nd : Int) + ns := IntWalk.i64_in _ (by omega)
  have hw2 : IntKind.i64.wrap ((nd : Int) + ns + ng) = (nd : Int) + ns + ng := IntWalk.i64_in _ (by omega)
  clear h b0 k hn hnd hns hng
  go_enter Tryz.func5, Tryz.ntmps5
  go_wp2_with fail
  have SM := Lib.hid (fun (i : Nat) (hi : i ≤ n) (hs : n ≤ 300) (hx : nd + ns + ng + sumE (L.es.take i) ≤ 66000) (hi2 : i = n) => show Small L from by
    have e1 : L.es.take i = L.es := by rw [hi2, N.out, List.take_length]
    rw [e1] at hx
    refine ⟨by rw [← N.out]; exact hs, fun e he => ?_, by rw [← ND.out]; omega, by rw [← NS.out]; omega, by rw [← NG.out]; omega⟩
    have := sumE_mem he
    omega)
  obtain ⟨w1, hw1'⟩ : ∃ w1, w1 = w.alloc (.cells #[.int .u8 L.kind, .int .u8 L.src, .int .u8 L.dst, .int .u64 L.term, .int .u64 L.index, .int .u64 L.mark, .int .u64 L.commit, .bool L.yes, .slice Ae n ce, .slice Ad nd cd, .int .u8 L.cl, .int .u64 L.num, .slice As ns cs, .int .i64 L.e, .int .i64 L.re, .int .i64 L.ra, .slice Ag ng cg] 36) := ⟨_, rfl⟩
  rw [← hw1'] at B0 H c8 c9 c12 c16 ⊢
  clear hw1' c9 c12 c16
  go_loopg [3, 4] n (fun q c3 c4 wr => wr = w1 ∧ ∃ i x : Nat, i ≤ n ∧ q = n - i ∧ c4 = .int .i64 i ∧ c3 = .int .i64 x ∧ x = nd + ns + ng + sumE (L.es.take i) ∧ x ≤ 600000000000000)
  case atStart => exact ⟨rfl, 0, nd + ns + ng, Nat.zero_le _, by omega, rfl, by go_num, by simp [sumE], by omega⟩
  case round =>
    obtain ⟨rfl, i, x, hi, hq, rfl, rfl, hx, hxl⟩ := hrel
    have Q := Lib.hid hq
    have X := Lib.hid hx
    clear hq hx
    by_cases hin : i < n
    · have hin' : (i : Int) < n := by omega
      by_cases hx7 : x < 70000
      · have hx7' : (x : Int) < 70000 := by omega
        have hib : i < L.es.length := by have := N.out; omega
        obtain ⟨g, o, c, hv, -, hg, hh⟩ := H.out.es.at_ (by omega)
        injection hv with hA hB hC
        subst hA
        obtain ⟨sv, hst, hcell⟩ := hh i hib
        have c4 := hcell 4 sv (by omega) rfl
        obtain ⟨Ax, cx, rfl, -⟩ := id hst
        have hls := H.out.ls _ (List.getElem_mem hib)
        have S := Lib.hid (sumE_snoc hib)
        obtain ⟨m, hm⟩ : ∃ m, m = L.es[i].2.length := ⟨_, rfl⟩
        rw [← hm] at c4 hls S
        have hw3 : IntKind.i64.wrap ((x : Int) + 1) = (x : Int) + 1 := IntWalk.i64_in _ (by omega)
        have hw4 : IntKind.i64.wrap ((x : Int) + 1 + m) = (x : Int) + 1 + m := IntWalk.i64_in _ (by omega)
        have hwi : IntKind.i64.wrap ((i : Int) + 1) = (i : Int) + 1 := IntWalk.i64_in _ (by omega)
        have hi0 : (0 : Int) ≤ i := by omega
        clear hst hcell hh hm hC hB
        go_wp2
        go_roundg (n - (i + 1))
        case measure => have := Q.out; omega
        case rel => exact ⟨rfl, i + 1, x + 1 + m, by omega, rfl, by go_num, by go_num, by rw [S.out, X.out]; omega, by omega⟩
      · have hx7' : ¬ (x : Int) < 70000 := by omega
        have hx6 : (66000 : Int) < x := by omega
        go_wp2
        go_ret
        exact ⟨.inl rfl, B0.out⟩
    · obtain rfl : i = n := by omega
      by_cases hx7 : 66000 < x
      · have hx6 : (66000 : Int) < x := by omega
        go_wp2
        go_ret
        exact ⟨.inl rfl, B0.out⟩
      · have hx6 : ¬ (66000 : Int) < x := by omega
        by_cases h3 : 300 < i
        · have h3' : (300 : Int) < i := by omega
          go_wp2
          go_ret
          exact ⟨.inl rfl, B0.out⟩
        · have h3' : ¬ (300 : Int) < i := by omega
          have FN := Lib.hid (SM.out i (Nat.le_refl _) (by omega) (by rw [← X.out]; omega) rfl)
          go_wp2
          go_ret
          exact ⟨.inr ⟨rfl, FN.out⟩, B0.out⟩
end Go.Proofs.YthjdkjinkmdclaaGreat
