/- DisksPlay: Great with its sums; the walk. -/
import Derived.Test.YtenobcfgapolhaaRpd
import Derived.Deep.RegionLaw
namespace Go.Proofs.Ytenobcfgapolhaa
open Go.RowKit

def ActSz (r : ActR) : Prop := r.bs.length ≤ 140737488355328 ∧ r.ls.length ≤ 140737488355328 ∧ r.nm.size ≤ 140737488355328
def sumA (rs : List ActR) : Nat := (rs.map fun r => r.bs.length + r.ls.length + r.nm.size).sum
theorem sumA_snoc {rs : List ActR} {i : Nat} (h : i < rs.length) : sumA (rs.take (i + 1)) = sumA (rs.take i) + (rs[i].bs.length + rs[i].ls.length + rs[i].nm.size) := by
  unfold sumA
  rw [List.take_succ_eq_append_getElem h, List.map_append, List.sum_append]
  simp
theorem sumA_mem {rs : List ActR} {r : ActR} (h : r ∈ rs) : r.bs.length ≤ sumA rs := by
  unfold sumA
  induction rs with
  | nil => cases h
  | cons x r ih =>
    simp only [List.map_cons, List.sum_cons]
    rcases List.mem_cons.1 h with rfl | h
    · omega
    · have := ih h; omega
/-- What Great's answer tells. -/
def GreatM (rs : List ActR) : Prop := rs.length ≤ 150 ∧ ∀ r ∈ rs, r.bs.length ≤ 30000
set_option maxHeartbeats 4000000 in
set_option maxRecDepth 100000 in
theorem great_m (v : Value) (rs : List ActR) (w : World) (h : Acts w v rs) (hz : ∀ r ∈ rs, ActSz r) : Calls Try.prog 4 #[v] w fun e w' => (e = .returned (.bool true) ∨ (e = .returned (.bool false) ∧ GreatM rs)) ∧ ∃ m, w' = w.drewN m := by
  obtain ⟨A, c, rfl, hc⟩ := h.shape
  have H := Lib.hid h
  have HZ := Lib.hid hz
  obtain ⟨n, hn⟩ : ∃ n, n = rs.length := ⟨_, rfl⟩
  have N := Lib.hid hn
  rw [← hn]
  clear h hc hn hz
  by_cases hl : 150 < n
  · have hl' : (150 : Int) < (n : Int) := by omega
    go_enter Try.func4, Try.ntmps4
    go_wp2
    go_ret
    exact ⟨.inl rfl, 0, rfl⟩
  · have hl' : ¬ (150 : Int) < (n : Int) := by omega
    go_enter Try.func4, Try.ntmps4
    go_wp2
    go_loopg [3, 4] n (fun q c3 c4 wr => ∃ (k m x : Nat), k ≤ n ∧ q = n - k ∧ c4 = .int .i64 k ∧ c3 = .int .i64 x ∧ x = sumA (rs.take k) ∧ x ≤ k * 422212465065984 ∧ wr = w.drewN m)
    case atStart => exact ⟨0, 0, 0, by omega, by omega, rfl, rfl, by simp [sumA], by omega, rfl⟩
    case round =>
      obtain ⟨k, m, x, hk, hq, rfl, rfl, hx, hxl, rfl⟩ := hrel
      have Q := Lib.hid hq
      have X := Lib.hid hx
      clear hq hx
      by_cases hkn : k < n
      · have hkn' : (k : Int) < (n : Int) := by omega
        have hk0 : (0 : Int) ≤ (k : Int) := by omega
        have hkr : k < rs.length := by have := N.out; omega
        obtain ⟨g, o, rfl, -, c0, c1, c2, c3, c4⟩ := (show Acts w (.slice A n c) rs from by have := H.out; rw [← N.out] at this; exact this).at_ k hkr
        have hok := H.out.ok _ (List.getElem_mem hkr)
        obtain ⟨z1, z2, z3⟩ := HZ.out _ (List.getElem_mem hkr)
        have S := Lib.hid (sumA_snoc hkr)
        obtain ⟨AB, cB, hbv, -⟩ := id hok.bv
        obtain ⟨AL, cL, hlv, -⟩ := id hok.lv
        rw [hbv] at c2
        rw [hlv] at c4
        obtain ⟨lb, hlb⟩ : ∃ lb, lb = rs[k].bs.length := ⟨_, rfl⟩
        obtain ⟨ll, hll⟩ : ∃ ll, ll = rs[k].ls.length := ⟨_, rfl⟩
        obtain ⟨nm, hnm⟩ : ∃ nm, nm = rs[k].nm := ⟨_, rfl⟩
        rw [← hlb] at c2 z1 S
        rw [← hll] at c4 z2 S
        rw [← hnm] at c1 z3 S
        have hxl2 : x ≤ 63331869759897600 := by
          have : k * 422212465065984 ≤ 150 * 422212465065984 := Nat.mul_le_mul_right _ (by omega)
          omega
        have hw1 : IntKind.i64.wrap ((x : Int) + (lb : Int)) = (x : Int) + (lb : Int) := IntWalk.i64_in _ (by omega)
        have hw2 : IntKind.i64.wrap ((x : Int) + (lb : Int) + (ll : Int)) = (x : Int) + (lb : Int) + (ll : Int) := IntWalk.i64_in _ (by omega)
        have hw3 : IntKind.i64.wrap ((x : Int) + (lb : Int) + (ll : Int) + (nm.size : Int)) = (x : Int) + (lb : Int) + (ll : Int) + (nm.size : Int) := IntWalk.i64_in _ (by omega)
        have hwi : IntKind.i64.wrap ((k : Int) + 1) = (k : Int) + 1 := IntWalk.i64_in _ (by omega)
        clear hok hbv hlv c0 c3 hlb hll hnm hkr
        go_wp2_with fail
        go_quiet (fail)
        go_wp2
        go_roundg (n - (k + 1))
        case measure => have := Q.out; omega
        case rel => exact ⟨k + 1, _, x + lb + ll + nm.size, by omega, rfl, by go_num, by go_num, by rw [S.out, X.out]; omega, by omega, rfl⟩
      · obtain rfl : k = n := by omega
        have TK := Lib.hid (show x = sumA rs from by rw [X.out, N.out, List.take_length])
        by_cases h3 : 30000 < x
        · have h3' : (30000 : Int) < (x : Int) := by omega
          go_wp2
          go_ret
          exact ⟨.inl rfl, _, rfl⟩
        · have h3' : ¬ (30000 : Int) < (x : Int) := by omega
          have GM := Lib.hid (show GreatM rs from ⟨by have := N.out; omega, fun r hr => by have := sumA_mem hr; have := TK.out; omega⟩)
          go_wp2
          go_ret
          exact ⟨.inr ⟨rfl, GM.out⟩, _, rfl⟩

set_option maxHeartbeats 8000000 in
set_option maxRecDepth 100000 in
theorem dplay_walk (v : Value) (rs : List ActR) (w : World) (h : Acts w v rs) (hz : ∀ r ∈ rs, ActSz r) :
    Calls Try.prog 3 #[v] w fun e w' => e = .returned (.bool true) ∧ Below w.heap.size w w' := by
  have H := Lib.hid h
  have GR := Lib.hid (great_m v rs w h hz)
  obtain ⟨A, c, rfl, -⟩ := h.shape
  clear h hz
  go_enter Try.func3, Try.ntmps3
  go_wp2_with fail
  refine GR.out.mono ?_
  rintro e w1 ⟨rfl | ⟨rfl, hlen⟩, m, rfl⟩
  · go_wp2_with fail
    refine (dlives _).mono ?_
    rintro e w2 ⟨rfl, hb⟩
    go_wp2
    go_ret
    exact ⟨rfl, (below_drewN_ _ _ m).trans hb⟩
  · have LE := Lib.hid hlen
    clear hlen
    have BD := Lib.hid (below_drewN_ w.heap.size w m)
    have H1 := Lib.hid (H.out.below (below_drewN_ _ _ m))
    have WS := Lib.hid (show (w.drewN m).heap.size = w.heap.size from rfl)
    generalize w.drewN m = W at *
    go_wp2_with fail
    refine (mnew W).mono ?_
    rintro e w2 ⟨rfl, h2, b2⟩
    have hs2 := h2.lt (W.heap.size + 1) (by simp)
    have hnew := Blk.new w2 30 #[.slice none 0 0, .bool false, .int .i64 0, .bool false]
    have B0 := Lib.hid (show BM [] W.heap.size W (w2.alloc (.cells #[.slice none 0 0, .bool false, .int .i64 0, .bool false] 30)) (W.heap.size + 1) w2.heap.size ⟨[], -1, false⟩ ⟨[], -1, false⟩ from by
      refine ⟨⟨_, [w2.heap.size], h2.below (below_alloc_ _ _), ⟨by simp, by simp, ⟨.slice none 0 0, [], by simpa [rmC] using hnew, .inl ⟨rfl, rfl, rfl⟩, by simp, rfl, by simp [Value.ownBlock]⟩, by simp, by simp⟩, ?_, ?_, by simp⟩, by simp, b2.trans ((below_alloc_ _ _).mono b2.size), Nat.le_trans b2.size (by simp)⟩
      · intro k hk
        have := h2.lt k hk
        have hk' : W.heap.size ≤ k := by
          simp at hk
          omega
        exact ⟨hk', by simp; omega⟩
      · intro k hk
        simp at hk
        have := b2.size
        omega)
    have A0 := Lib.hid (show Al ⟨[], -1, false⟩ ⟨[], -1, false⟩ from ⟨List.Perm.refl _, by simp [Srtd], rfl, rfl⟩)
    obtain ⟨mm, hmm⟩ : ∃ mm, mm = w2.heap.size := ⟨_, rfl⟩
    clear h2 b2 hs2 hnew
    go_wp2
    rw [← hmm] at B0 ⊢
    clear hmm
    obtain ⟨n, hn⟩ : ∃ n, n = rs.length := ⟨_, rfl⟩
    have N := Lib.hid hn
    rw [← hn]
    have hn150 : n ≤ 150 := by have := LE.out.1; omega
    clear hn
    go_loopg [5] n (fun g c5 wr => ∃ i : Nat, i ≤ n ∧ g = n - i ∧ c5 = .int .i64 i ∧ ∃ a b, BM [] W.heap.size W wr (W.heap.size + 1) mm a b ∧ Al a b)
    case atStart => exact ⟨0, by omega, by omega, rfl, _, _, B0.out, A0.out⟩
    case round =>
      obtain ⟨i, hi, hg, rfl, a, b, hB, hA⟩ := hrel
      have G := Lib.hid hg
      have BB := Lib.hid hB
      have AA := Lib.hid hA
      clear hg hB hA
      by_cases hin : i < n
      · have hib : i < rs.length := by have := N.out; omega
        have hin' : (i : Int) < (n : Int) := by omega
        have hi0 : (0 : Int) ≤ (i : Int) := by omega
        obtain ⟨g0, o0, rfl, -, c0, c1, c2, c3, c4⟩ := (show Acts _ (.slice A n c) rs from by have := H1.out.below (BB.out.bel); rw [← N.out] at this; exact this).at_ i hib
        have OK := Lib.hid (H1.out.ok _ (List.getElem_mem hib))
        have SZ := Lib.hid (show rs[i].bs.length ≤ 1000000 from by have := LE.out.2 _ (List.getElem_mem hib); omega)
        obtain ⟨r, hr⟩ : ∃ r, r = rs[i] := ⟨_, rfl⟩
        rw [← hr] at c0 c1 c2 c3 c4 OK SZ
        have DM := Lib.hid (does_mall BB.out AA.out rfl r OK.out SZ.out)
        clear hr
        obtain ⟨kd, nm, bv, bs, nn, lv, ls⟩ := r
        simp only at c0 c1 c2 c3 c4
        obtain ⟨AB, cB, hbv, -⟩ := id OK.out.bv
        obtain ⟨AL, cL, hlv, -⟩ := id OK.out.lv
        simp only at hbv hlv
        subst hbv hlv
        have hwi : IntKind.i64.wrap ((i : Int) + 1) = (i : Int) + 1 := IntWalk.i64_in _ (by omega)
        go_wp2_with fail
        refine DM.out.mono ?_
        rintro e w3 ⟨rfl, a', b', h3, ha3⟩
        have B3 := Lib.hid h3
        have A3 := Lib.hid ha3
        obtain ⟨F, hF⟩ := h3.md
        obtain ⟨R, hR⟩ := h3.rmd
        have SA := Lib.hid (same_mall hF hR ha3)
        clear h3 ha3 hF hR c0 c1 c2 c3 c4
        go_wp2_with fail
        refine SA.out.mono ?_
        rintro e w4 ⟨rfl, b4⟩
        have B4 := Lib.hid (B3.out.below b4)
        clear b4
        go_wp2
        go_roundg (n - (i + 1))
        case measure => have := G.out; omega
        case rel => exact ⟨i + 1, by omega, rfl, by simp, a', b', B4.out, A3.out⟩
      · obtain rfl : i = n := by omega
        have hin' : ¬ (i : Int) < (i : Int) := by omega
        go_wp2_with fail
        refine (dlives _).mono ?_
        rintro e w3 ⟨rfl, hb⟩
        go_wp2
        go_ret
        exact ⟨rfl, BD.out.trans ((BB.out.bel.trans (hb.mono BB.out.le)).mono (by rw [WS.out]; exact Nat.le_refl _))⟩
end Go.Proofs.Ytenobcfgapolhaa
