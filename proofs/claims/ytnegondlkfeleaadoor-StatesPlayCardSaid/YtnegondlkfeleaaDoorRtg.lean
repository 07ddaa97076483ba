/- StatesPlay: the acts; great. -/
import Derived.Test.YtnegondlkfeleaaDoorRtf
namespace Go.Proofs.YtnegondlkfeleaaDoor
open Go.RowKit

/-- An act. -/
structure SAct where
  kd : Int
  T : Int
  V : Int
  n : Int
  lv : Value
  ls : List Int
  bv : Value
  bs : List Int
def sactC (r : SAct) : List Value := [.int .u8 r.kd, .int .u64 r.T, .int .u8 r.V, .int .i64 r.n, r.lv, r.bv]
theorem sactC_len (r : SAct) : (sactC r).length = 6 := rfl
structure SActOk (w : World) (r : SAct) : Prop where
  bv : Bs w r.bv r.bs
  by_ : ∀ c ∈ r.bs, byt c
  lv : Rd w 1 r.lv r.ls.length (lossC r.ls)
  lby : ∀ x ∈ r.ls, -9223372036854775808 ≤ x ∧ x ≤ 9223372036854775807
  kd : 0 ≤ r.kd ∧ r.kd ≤ 255
  T : 0 ≤ r.T ∧ r.T ≤ 18446744073709551615
  V : 0 ≤ r.V ∧ r.V ≤ 255
  n : -9223372036854775808 ≤ r.n ∧ r.n ≤ 9223372036854775807
  len : r.bs.length ≤ 4611686018427387904
theorem SActOk.below {w w' : World} {r : SAct} (h : SActOk w r) (hb : Below w.heap.size w w') : SActOk w' r := ⟨h.bv.below hb, h.by_, h.lv.below hb, h.lby, h.kd, h.T, h.V, h.n, h.len⟩
structure SActs (w : World) (v : Value) (rs : List SAct) : Prop where
  rd : Rd w 6 v rs.length (rs.flatMap sactC)
  ok : ∀ r ∈ rs, SActOk w r
theorem SActs.below {w w' : World} {v : Value} {rs : List SAct} (h : SActs w v rs) (hb : Below w.heap.size w w') : SActs w' v rs := ⟨h.rd.below hb, fun r hr => (h.ok r hr).below hb⟩
theorem SActs.shape {w : World} {v : Value} {rs : List SAct} (h : SActs w v rs) : ∃ A c, v = .slice A rs.length c ∧ rs.length ≤ c := by
  obtain ⟨A, c, hv, hc, -⟩ := h.rd; exact ⟨A, c, hv, hc⟩
theorem SActs.at_ {w : World} {A : Option Addr} {n c : Nat} {rs : List SAct} (h : SActs w (.slice A n c) rs) (k : Nat) (hk : k < rs.length) :
    ∃ g o, A = some ⟨g, o, none⟩ ∧ g < w.heap.size ∧ w.cell? ⟨g, o + k * 6, none⟩ = some (.int .u8 rs[k].kd) ∧ w.cell? ⟨g, o + k * 6 + 1, none⟩ = some (.int .u64 rs[k].T) ∧ w.cell? ⟨g, o + k * 6 + 2, none⟩ = some (.int .u8 rs[k].V) ∧
      w.cell? ⟨g, o + k * 6 + 3, none⟩ = some (.int .i64 rs[k].n) ∧ w.cell? ⟨g, o + k * 6 + 4, none⟩ = some rs[k].lv ∧ w.cell? ⟨g, o + k * 6 + 5, none⟩ = some rs[k].bv := by
  obtain ⟨g, o, c', hv, hc, hg, hh⟩ := Rd.at_ sactC_len h.rd (by omega)
  injection hv with h1 h2 h3
  exact ⟨g, o, h1, hg, hh k hk 0 _ (by omega) rfl, hh k hk 1 _ (by omega) rfl, hh k hk 2 _ (by omega) rfl, hh k hk 3 _ (by omega) rfl, hh k hk 4 _ (by omega) rfl, hh k hk 5 _ (by omega) rfl⟩

/-- What great answers. -/
def GreatP (n : Nat) (w : World) (e : Ending) (w' : World) : Prop := (∃ b, e = .returned (.bool b) ∧ (b = false → n ≤ 150)) ∧ w' = w
set_option maxHeartbeats 2000000 in
set_option maxRecDepth 100000 in
theorem sgreat_any (v : Value) (rs : List SAct) (w : World) (h : SActs w v rs) : Calls Tryd.prog 19 #[v] w (GreatP rs.length w) := by
  obtain ⟨A, c, rfl, hc⟩ := h.shape
  have H := Lib.hid h
  obtain ⟨n, hn⟩ : ∃ n, n = rs.length := ⟨_, rfl⟩
  have N := Lib.hid hn
  rw [← hn]
  clear h hc hn
  by_cases hl : 150 < n
  · have hl' : (150 : Int) < (n : Int) := by omega
    go_enter Tryd.func19, Tryd.ntmps19
    go_wp2
    go_ret
    exact ⟨⟨_, rfl, by simp⟩, rfl⟩
  · have hl' : ¬ (150 : Int) < (n : Int) := by omega
    go_enter Tryd.func19, Tryd.ntmps19
    go_wp2
    go_loopg [3] n (fun q c3 wr => ∃ k : Nat, k ≤ n ∧ q = n - k ∧ c3 = .int .i64 k ∧ wr = w)
    case atStart => exact ⟨0, by omega, by omega, rfl, rfl⟩
    case round =>
      obtain ⟨k, hk, hq, rfl, rfl⟩ := hrel
      have Q := Lib.hid hq
      clear hq
      by_cases hkn : k < n
      · obtain ⟨g, o, rfl, -, -, -, -, -, c4, c5⟩ := (show SActs wr (.slice A n c) rs from by have := H.out; rw [← N.out] at this; exact this).at_ k (by have := N.out; omega)
        have hok := H.out.ok _ (List.getElem_mem (show k < rs.length by have := N.out; omega))
        obtain ⟨AB, cB, hbv, -⟩ := id hok.bv
        obtain ⟨AL, cL, hlv, -⟩ := id hok.lv
        rw [hbv] at c5
        rw [hlv] at c4
        obtain ⟨lb, hlb⟩ : ∃ z, z = rs[k].bs.length := ⟨_, rfl⟩
        obtain ⟨ll, hll⟩ : ∃ z, z = rs[k].ls.length := ⟨_, rfl⟩
        rw [← hlb] at c5
        rw [← hll] at c4
        clear hok hbv hlv hlb hll
        by_cases h1 : 2000 < lb
        · have h1' : (2000 : Int) < (lb : Int) := by omega
          go_wp2
          go_ret
          exact ⟨⟨_, rfl, by simp⟩, rfl⟩
        · have h1' : ¬ (2000 : Int) < (lb : Int) := by omega
          by_cases h2 : 20 < ll
          · have h2' : (20 : Int) < (ll : Int) := by omega
            go_wp2
            go_ret
            exact ⟨⟨_, rfl, by simp⟩, rfl⟩
          · have h2' : ¬ (20 : Int) < (ll : Int) := by omega
            go_wp2
            go_roundg (n - (k + 1))
            case measure => have := Q.out; omega
            case rel => exact ⟨k + 1, by omega, by omega, by go_num, rfl⟩
      · have hkn' : ¬ (k : Int) < (n : Int) := by omega
        go_wp2
        go_ret
        exact ⟨⟨_, rfl, fun _ => by have := N.out; omega⟩, rfl⟩
end Go.Proofs.YtnegondlkfeleaaDoor
