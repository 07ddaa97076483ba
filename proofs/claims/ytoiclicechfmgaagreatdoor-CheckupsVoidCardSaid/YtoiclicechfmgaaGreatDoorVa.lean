/- The law's files; Great. -/
import Derived.Test.YtoiclicechfmgaaGreatDoorUnz
namespace Go.Proofs.YtoiclicechfmgaaGreatDoor
open Go.RowKit

/-- A file of the law. -/
structure FlR where
  nm : ByteArray
  bv : Value
  bs : List Int
def flR (r : FlR) : List Value := [.string r.nm, r.bv]
theorem flR_len (r : FlR) : (flR r).length = 2 := rfl
structure FrOk (w : World) (r : FlR) : Prop where
  bv : Bs w r.bv r.bs
  by_ : ∀ c ∈ r.bs, byt c
  len : r.bs.length ≤ 140737488355328
  nlen : r.nm.size ≤ 140737488355328
theorem FrOk.below {w w' : World} {r : FlR} (h : FrOk w r) (hb : Below w.heap.size w w') : FrOk w' r := ⟨h.bv.below hb, h.by_, h.len, h.nlen⟩
structure Frs (w : World) (v : Value) (rs : List FlR) : Prop where
  rd : Rd w 2 v rs.length (rs.flatMap flR)
  ok : ∀ r ∈ rs, FrOk w r
theorem Frs.below {w w' : World} {v : Value} {rs : List FlR} (h : Frs w v rs) (hb : Below w.heap.size w w') : Frs w' v rs := ⟨h.rd.below hb, fun r hr => (h.ok r hr).below hb⟩
theorem Frs.shape {w : World} {v : Value} {rs : List FlR} (h : Frs w v rs) : ∃ A c, v = .slice A rs.length c ∧ rs.length ≤ c := by
  obtain ⟨A, c, hv, hc, -⟩ := h.rd; exact ⟨A, c, hv, hc⟩
theorem Frs.at_ {w : World} {A : Option Addr} {n c : Nat} {rs : List FlR} (h : Frs w (.slice A n c) rs) (k : Nat) (hk : k < rs.length) :
    ∃ g o, A = some ⟨g, o, none⟩ ∧ g < w.heap.size ∧ w.cell? ⟨g, o + k * 2, none⟩ = some (.string rs[k].nm) ∧ w.cell? ⟨g, o + k * 2 + 1, none⟩ = some rs[k].bv := by
  obtain ⟨g, o, c', hv, hc, hg, hh⟩ := Rd.at_ flR_len h.rd (by omega)
  injection hv with h1 h2 h3
  exact ⟨g, o, h1, hg, hh k hk 0 _ (by omega) rfl, hh k hk 1 _ (by omega) rfl⟩
/-- A slice of one file. -/
theorem frs_one {w : World} {g : Nat} {r : FlR} (hk : Blk w g 24 #[.string r.nm, r.bv]) (h : FrOk w r) : Frs w (.slice (some ⟨g, 0, none⟩) 1 1) [r] :=
  ⟨⟨_, 1, rfl, Nat.le_refl _, rfl, .inr ⟨g, 0, rfl, hk.lt, fun j u hu => by
    rw [Nat.zero_add, hk.cell]
    simpa [flR] using hu⟩⟩, fun q hq => by obtain rfl := List.mem_singleton.1 hq; exact h⟩

def sumF (rs : List FlR) : Nat := (rs.map fun r => r.bs.length + r.nm.size).sum
theorem sumF_snoc {rs : List FlR} {i : Nat} (h : i < rs.length) : sumF (rs.take (i + 1)) = sumF (rs.take i) + (rs[i].bs.length + rs[i].nm.size) := by
  unfold sumF
  rw [List.take_succ_eq_append_getElem h, List.map_append, List.sum_append]
  simp
theorem sumF_mem {rs : List FlR} {r : FlR} (h : r ∈ rs) : r.bs.length ≤ sumF rs := by
  unfold sumF
  induction rs with
  | nil => cases h
  | cons x r ih =>
    simp only [List.map_cons, List.sum_cons]
    rcases List.mem_cons.1 h with rfl | h
    · omega
    · have := ih h; omega
/-- What Great's answer tells. -/
def GreatF (rs : List FlR) : Prop := rs.length ≤ 20 ∧ ∀ r ∈ rs, r.bs.length ≤ 80000
set_option maxHeartbeats 4000000 in
set_option maxRecDepth 100000 in
theorem great_f (v : Value) (rs : List FlR) (w : World) (h : Frs w v rs) (hl : rs.length ≤ 9223372036854775807) : Calls Tryz.prog 5 #[v] w fun e w' => (e = .returned (.bool true) ∨ (e = .returned (.bool false) ∧ GreatF rs)) ∧ ∃ m, w' = w.drewN m := by
  obtain ⟨A, c, rfl, hc⟩ := h.shape
  have H := Lib.hid h
  obtain ⟨n, hn⟩ : ∃ n, n = rs.length := ⟨_, rfl⟩
  have N := Lib.hid hn
  have HL := Lib.hid hl
  rw [← hn]
  clear h hc hn hl
  go_enter Tryz.func5, Tryz.ntmps5
  go_wp2
  go_loopg [3, 4] n (fun q c3 c4 wr => ∃ (k m x : Nat), k ≤ n ∧ q = n - k ∧ c4 = .int .i64 k ∧ c3 = .int .i64 x ∧ x = sumF (rs.take k) ∧ x ≤ 281474976800656 ∧ wr = w.drewN m)
  case atStart => exact ⟨0, 0, 0, by omega, by omega, rfl, rfl, by simp [sumF], by omega, rfl⟩
  case round =>
    obtain ⟨k, m, x, hk, hq, rfl, rfl, hx, hxl, rfl⟩ := hrel
    have Q := Lib.hid hq
    have X := Lib.hid hx
    have XL := Lib.hid hxl
    clear hq hx
    by_cases hkn : k < n
    · have hkn' : (k : Int) < (n : Int) := by omega
      have hk0 : (0 : Int) ≤ (k : Int) := by omega
      by_cases hx9 : x < 90000
      · have hx9' : (x : Int) < 90000 := by omega
        have hkr : k < rs.length := by have := N.out; omega
        obtain ⟨g, o, rfl, -, c0, c1⟩ := (show Frs w (.slice A n c) rs from by have := H.out; rw [← N.out] at this; exact this).at_ k hkr
        have hok := H.out.ok _ (List.getElem_mem hkr)
        have z1 := hok.len
        have z3 := hok.nlen
        have S := Lib.hid (sumF_snoc hkr)
        obtain ⟨AB, cB, hbv, -⟩ := id hok.bv
        rw [hbv] at c1
        obtain ⟨lb, hlb⟩ : ∃ lb, lb = rs[k].bs.length := ⟨_, rfl⟩
        obtain ⟨nm, hnm⟩ : ∃ nm, nm = rs[k].nm := ⟨_, rfl⟩
        rw [← hlb] at c1 z1 S
        rw [← hnm] at c0 z3 S
        have hw1 : IntKind.i64.wrap ((x : Int) + (lb : Int)) = (x : Int) + (lb : Int) := IntWalk.i64_in _ (by omega)
        have hw3 : IntKind.i64.wrap ((x : Int) + (lb : Int) + (nm.size : Int)) = (x : Int) + (lb : Int) + (nm.size : Int) := IntWalk.i64_in _ (by omega)
        have hwi : IntKind.i64.wrap ((k : Int) + 1) = (k : Int) + 1 := IntWalk.i64_in _ (by have := HL.out; have := N.out; omega)
        clear hok hbv hlb hnm hkr
        go_wp2_with fail
        go_quiet (fail)
        go_wp2
        go_roundg (n - (k + 1))
        case measure => have := Q.out; omega
        case rel => exact ⟨k + 1, _, x + lb + nm.size, by omega, rfl, by go_num, by go_num, by rw [S.out, X.out]; omega, by omega, rfl⟩
      · have hx9' : ¬ (x : Int) < 90000 := by omega
        have h3' : (80000 : Int) < (x : Int) := by omega
        go_wp2
        go_ret
        exact ⟨.inl rfl, _, rfl⟩
    · obtain rfl : k = n := by omega
      have hkk : ¬ (k : Int) < (k : Int) := by omega
      have TK := Lib.hid (show x = sumF rs from by rw [X.out, N.out, List.take_length])
      by_cases h3 : 80000 < x
      · have h3' : (80000 : Int) < (x : Int) := by omega
        go_wp2
        go_ret
        exact ⟨.inl rfl, _, rfl⟩
      · have h3' : ¬ (80000 : Int) < (x : Int) := by omega
        by_cases h20 : 20 < k
        · have h20' : (20 : Int) < (k : Int) := by omega
          go_wp2
          go_ret
          exact ⟨.inl rfl, _, rfl⟩
        · have h20' : ¬ (20 : Int) < (k : Int) := by omega
          have GM := Lib.hid (show GreatF rs from ⟨by have := N.out; omega, fun r hr => by have := sumF_mem hr; have := TK.out; omega⟩)
          go_wp2
          go_ret
          exact ⟨.inr ⟨rfl, GM.out⟩, _, rfl⟩
end Go.Proofs.YtoiclicechfmgaaGreatDoor
