/- SameEntries of lists that differ: in length, or first in a term. -/
import Derived.Test.YtnegondlkfeleaaGreatDoorEnt
namespace Go.Proofs.YtnegondlkfeleaaGreatDoor
open Go.RowKit

set_option maxHeartbeats 1000000 in
theorem samees_len (A A' : Option Addr) (n n' c c' : Nat) (w : World) (hne : n ≠ n') (h1 : n ≤ 4611686018427387904) (h2 : n' ≤ 4611686018427387904) :
    Calls Tryz.prog 12 #[.slice A n c, .slice A' n' c'] w fun e w' => e = .returned (.bool false) ∧ Below w.heap.size w w' := by
  have hb : ((n : Int) != (n' : Int)) = true := by simp; omega
  have hb2 : ¬ (n : Int) = (n' : Int) := by omega
  go_enter Tryz.func12, Tryz.ntmps12
  go_wp2
  go_ret
  exact ⟨rfl, Below.refl _ _⟩

set_option maxHeartbeats 8000000 in
set_option maxRecDepth 100000 in
/-- The first j entries are the same, the next two have another term. -/
theorem samees_diff (es es' : List Ent) (j : Nat) (hl : es.length = es'.length) (hj : j < es.length) (hj' : j < es'.length) (hp : ∀ k (h : k < es.length) (h' : k < es'.length), k < j → es[k] = es'[k])
    (i t t' x n x' n' : Int) (e1 : es[j].1 = [i, t, x, n]) (e2 : es'[j].1 = [i, t', x', n']) (htt : t ≠ t')
    (hes : ∀ e ∈ es, e.1.length = 4 ∧ e.2.length ≤ 1000000 ∧ ∀ q ∈ e.2, q.length = 10) (v u : Value) (w : World) (hv : Ents w v es) (hu : Ents w u es') (hb : es.length ≤ 4611686018427387904) :
    Calls Tryz.prog 12 #[v, u] w fun e w' => e = .returned (.bool false) ∧ Below w.heap.size w w' := by
  have hpos : 0 < es.length := by omega
  obtain ⟨g, o, c, rfl, hc, hg, hcell⟩ := hv.at_ hpos
  obtain ⟨g', o', d, rfl, hd, hg', hcell'⟩ := hu.at_ (by omega)
  rw [← hl] at hd ⊢
  obtain ⟨N, hn⟩ : ∃ N, N = es.length := ⟨_, rfl⟩
  have HN := Lib.hid hn
  have HL := Lib.hid hl
  have HC := Lib.hid hcell
  have HC' := Lib.hid hcell'
  have HE := Lib.hid hes
  have HP := Lib.hid hp
  have E1 := Lib.hid e1
  have E2 := Lib.hid e2
  have HTT := Lib.hid htt
  rw [← hn] at hc hd hb ⊢
  have hjn : j < N := by omega
  have JN := Lib.hid hjn
  have hb' : (N : Int) ≤ 4611686018427387904 := by omega
  have hcn : (N : Int) ≤ c := by omega
  have hdn : (N : Int) ≤ d := by omega
  have HG := Lib.hid hg
  have HG' := Lib.hid hg'
  clear hcell hcell' hn hpos hv hu hes hg hg' hl hp e1 e2 htt hjn
  go_enter Tryz.func12, Tryz.ntmps12
  go_wp2_with fail
  go_loopg [5] N (fun q c5 wr => ∃ k : Nat, k ≤ j ∧ q = N - k ∧ c5 = .int .i64 k ∧ Below w.heap.size w wr)
  case atStart => exact ⟨0, Nat.zero_le _, by omega, rfl, Below.refl _ _⟩
  case round =>
    obtain ⟨k, hk, hq, rfl, hbw⟩ := hrel
    have GQ := Lib.hid hq
    have BW := Lib.hid hbw
    clear hq hbw
    have hkn : k < N := by have := JN.out; omega
    have hkl : k < es.length := by have := HN.out; omega
    have hkl' : k < es'.length := by have := HL.out; omega
    obtain ⟨s, hs, hh⟩ := HC.out k hkl
    obtain ⟨s', hs', hh'⟩ := HC'.out k hkl'
    have hk0 : (0 : Int) ≤ (k : Int) := by omega
    have hkn' : (k : Int) < (N : Int) := by omega
    have hgl := Lib.hid (Nat.lt_of_lt_of_le HG.out BW.out.size)
    have hgl' := Lib.hid (Nat.lt_of_lt_of_le HG'.out BW.out.size)
    by_cases hkj : k < j
    · have hsame := HP.out k hkl hkl' hkj
      rw [← hsame] at hs' hh'
      obtain ⟨l4, lst, l10⟩ := HE.out _ (List.getElem_mem hkl)
      obtain ⟨e, he⟩ : ∃ e, e = es[k] := ⟨_, rfl⟩
      rw [← he] at hs hs' hh hh' l4 lst l10
      obtain ⟨ef, rows⟩ := e
      simp only at hs hs' l4 lst l10
      match ef, l4 with
      | [x0, x1, x2, x3], _ =>
      have c0 : wr.cell? ⟨g, o + k * 5, none⟩ = some (.int .u64 x0) := cell_on BW.out HG.out (by have := hh 0 (.int .u64 x0) (by omega) rfl; simpa using this)
      have c1 : wr.cell? ⟨g, o + k * 5 + 1, none⟩ = some (.int .u64 x1) := cell_on BW.out HG.out (hh 1 (.int .u64 x1) (by omega) rfl)
      have c2 : wr.cell? ⟨g, o + k * 5 + 2, none⟩ = some (.int .u8 x2) := cell_on BW.out HG.out (hh 2 (.int .u8 x2) (by omega) rfl)
      have c3 : wr.cell? ⟨g, o + k * 5 + 3, none⟩ = some (.int .u64 x3) := cell_on BW.out HG.out (hh 3 (.int .u64 x3) (by omega) rfl)
      have c4 : wr.cell? ⟨g, o + k * 5 + 4, none⟩ = some s := cell_on BW.out HG.out (hh 4 s (by omega) rfl)
      have d0 : wr.cell? ⟨g', o' + k * 5, none⟩ = some (.int .u64 x0) := cell_on BW.out HG'.out (by have := hh' 0 (.int .u64 x0) (by omega) rfl; simpa using this)
      have d1 : wr.cell? ⟨g', o' + k * 5 + 1, none⟩ = some (.int .u64 x1) := cell_on BW.out HG'.out (hh' 1 (.int .u64 x1) (by omega) rfl)
      have d2 : wr.cell? ⟨g', o' + k * 5 + 2, none⟩ = some (.int .u8 x2) := cell_on BW.out HG'.out (hh' 2 (.int .u8 x2) (by omega) rfl)
      have d3 : wr.cell? ⟨g', o' + k * 5 + 3, none⟩ = some (.int .u64 x3) := cell_on BW.out HG'.out (hh' 3 (.int .u64 x3) (by omega) rfl)
      have d4 : wr.cell? ⟨g', o' + k * 5 + 4, none⟩ = some s' := cell_on BW.out HG'.out (hh' 4 s' (by omega) rfl)
      have S1 := Lib.hid (Rd.below hs BW.out)
      have S2 := Lib.hid (Rd.below hs' BW.out)
      obtain ⟨A1, n1, rfl, -⟩ := id hs
      obtain ⟨A2, n2, rfl, -⟩ := id hs'
      have L10 := Lib.hid l10
      have KJ := Lib.hid hkj
      clear hh hh' hs hs' he l10 hsame hkj hk hkn hkl hkl'
      go_wp2_with fail
      go_region_held3 (fun w' => w'.cell? ⟨g, o + k * 5, none⟩ = some (.int .u64 x0) ∧ w'.cell? ⟨g, o + k * 5 + 1, none⟩ = some (.int .u64 x1) ∧ w'.cell? ⟨g, o + k * 5 + 2, none⟩ = some (.int .u8 x2) ∧ w'.cell? ⟨g, o + k * 5 + 3, none⟩ = some (.int .u64 x3) ∧ w'.cell? ⟨g, o + k * 5 + 4, none⟩ = some (.slice A1 rows.length n1) ∧ w'.cell? ⟨g', o' + k * 5, none⟩ = some (.int .u64 x0) ∧ w'.cell? ⟨g', o' + k * 5 + 1, none⟩ = some (.int .u64 x1) ∧ w'.cell? ⟨g', o' + k * 5 + 2, none⟩ = some (.int .u8 x2) ∧ w'.cell? ⟨g', o' + k * 5 + 3, none⟩ = some (.int .u64 x3) ∧ w'.cell? ⟨g', o' + k * 5 + 4, none⟩ = some (.slice A2 rows.length n2))
        (first
          | exact ⟨cell_on b7 hgl.out c0, cell_on b7 hgl.out c1, cell_on b7 hgl.out c2, cell_on b7 hgl.out c3, cell_on b7 hgl.out c4, cell_on b7 hgl'.out d0, cell_on b7 hgl'.out d1, cell_on b7 hgl'.out d2, cell_on b7 hgl'.out d3, cell_on b7 hgl'.out d4⟩
          | exact ⟨c0, c1, c2, c3, c4, d0, d1, d2, d3, d4⟩)
        (first
          | (go_at_call 29; refine (samecall_any x2 x3 x2 x3 _ _ rows rows L10.out L10.out _ ?_ ?_ lst).mono ?_; (first | exact Rd.drew S1.out | exact S1.out); (first | exact Rd.drew S2.out | exact S2.out); rintro e w7 ⟨rfl, b7⟩))
      have e7 : Below w.heap.size w w7 := by first | exact BW.out.trans (b7.mono BW.out.size) | exact (BW.out.drew).trans (b7.mono BW.out.size)
      have E7 := Lib.hid e7
      clear e7 b7 c0 c1 c2 c3 c4 d0 d1 d2 d3 d4
      go_wp2
      go_roundg (N - (k + 1))
      case measure => have := GQ.out; have := JN.out; have := KJ.out; omega
      case rel => exact ⟨k + 1, KJ.out, rfl, by go_num, E7.out⟩
    · obtain rfl : k = j := by omega
      have hec : ecells (es[k], s) = [.int .u64 i, .int .u64 t, .int .u8 x, .int .u64 n, s] := by simp [ecells, E1.out, entryK, fc]
      have hec' : ecells (es'[k], s') = [.int .u64 i, .int .u64 t', .int .u8 x', .int .u64 n', s'] := by simp [ecells, E2.out, entryK, fc]
      rw [hec] at hh
      rw [hec'] at hh'
      have c0 : wr.cell? ⟨g, o + k * 5, none⟩ = some (.int .u64 i) := cell_on BW.out HG.out (by have := hh 0 (.int .u64 i) (by omega) rfl; simpa using this)
      have c1 : wr.cell? ⟨g, o + k * 5 + 1, none⟩ = some (.int .u64 t) := cell_on BW.out HG.out (hh 1 (.int .u64 t) (by omega) rfl)
      have d0 : wr.cell? ⟨g', o' + k * 5, none⟩ = some (.int .u64 i) := cell_on BW.out HG'.out (by have := hh' 0 (.int .u64 i) (by omega) rfl; simpa using this)
      have d1 : wr.cell? ⟨g', o' + k * 5 + 1, none⟩ = some (.int .u64 t') := cell_on BW.out HG'.out (hh' 1 (.int .u64 t') (by omega) rfl)
      have ht1 : (t != t') = true := by simp [HTT.out]
      have ht2 : ¬ t = t' := HTT.out
      clear hh hh' hs hs' hec hec' hkj hk hkn hkl hkl'
      go_wp2_with fail
      go_quiet (fail)
      go_wp2
      go_ret
      exact ⟨rfl, BW.out.trans (below_drewN_ _ _ _)⟩
end Go.Proofs.YtnegondlkfeleaaGreatDoor
