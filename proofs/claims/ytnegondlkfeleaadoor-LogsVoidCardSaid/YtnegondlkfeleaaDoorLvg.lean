/- LogsVoid: is an act too great? -/
import Derived.Test.YtnegondlkfeleaaDoorEnt
import Derived.BigQuiet
namespace Go.Proofs.YtnegondlkfeleaaDoor
open Go.RowKit

set_option maxHeartbeats 4000000 in
set_option maxRecDepth 100000 in
theorem lgreat_any (g : Nat) (kd nr tO tm nn : Value) (A Al Ab : Option Addr) (nl cl nb cb c : Nat) (es : List Ent) (w : World) (hk : Blk w g 27 #[kd, .slice A es.length c, nr, tO, tm, nn, .slice Al nl cl, .slice Ab nb cb]) (hE : Ents w (.slice A es.length c) es) (hl : es.length ≤ 4611686018427387904) :
    Calls Tryd.prog 6 #[.slice (some ⟨g, 0, none⟩) 1 1] w fun e w' => ∃ b, e = .returned (.bool b) ∧ ∃ m, w' = w.drewN m := by
  have c1 := hk.cell 1
  have c6 := hk.cell 6
  have c7 := hk.cell 7
  simp at c1 c6 c7
  have CL := Lib.hid (And.intro c1 (And.intro c6 c7))
  obtain ⟨N, hN⟩ : ∃ N, N = es.length := ⟨_, rfl⟩
  have NN := Lib.hid hN
  rw [← hN] at c1 hl
  have STC := Lib.hid (show ∀ k, k < N → ∃ ge oe A' m' c', A = some ⟨ge, oe, none⟩ ∧ w.cell? ⟨ge, oe + k * 5 + 4, none⟩ = some (.slice A' m' c') ∧ N ≤ c from fun k hk => by
    obtain ⟨ge, oe, c', hv, hc', hg, hh⟩ := hE.at_ (by omega)
    injection hv with h1 h2 h3
    obtain ⟨s, hs, hcell⟩ := hh k (by omega)
    obtain ⟨A', c2, hs1, -⟩ := id hs
    exact ⟨ge, oe, A', _, c2, h1, by rw [hcell 4 s (by omega) (by simp [ecells, fc_len, entryK, fc]), hs1], by omega⟩)
  clear hk hE hN
  have hl' : (N : Int) ≤ 4611686018427387904 := by omega
  go_enter Tryd.func6, Tryd.ntmps6
  go_wp2_with fail
  go_loopw [3, 4] (fun s3 s4 wr => ∃ (x i : Int) (m : Nat), s3 = .int .i64 x ∧ s4 = .int .i64 i ∧ (i = 0 ∨ i = 1) ∧ wr = w.drewN m) (fun _ s4 _ => 1 - (intOf s4).toNat)
  case atStart => exact ⟨0, 0, 0, rfl, rfl, .inl rfl, rfl⟩
  case round =>
    obtain ⟨x, i, m, rfl, rfl, hi, rfl⟩ := hrel
    rcases hi with rfl | rfl
    · go_wp2_with fail
      go_quiet (fail)
      generalize wrap64 (wrap64 (x + nb) + nl) = y
      rw [World.drewN_drewN]
      generalize m + nq = m1
      clear c1 c6 c7
      go_wp2_with fail
      go_loopw [3, 5] (fun s3 s5 wr => ∃ (x : Int) (k m : Nat), s3 = .int .i64 x ∧ s5 = .int .i64 (k : Int) ∧ k ≤ N ∧ wr = w.drewN m) (fun _ s5 _ => N - (intOf s5).toNat)
      case atStart => exact ⟨y, 0, m1, rfl, rfl, Nat.zero_le _, rfl⟩
      case round =>
        obtain ⟨x1, k, m2, rfl, rfl, hk, rfl⟩ := hrel
        obtain ⟨c1, c6, c7⟩ := CL.out
        rw [← NN.out] at c1
        by_cases hlt : k < N
        · obtain ⟨ge, oe, A', m', c', rfl, d4, hNc⟩ := STC.out k hlt
          have hlt' : (k : Int) < (N : Int) := by omega
          have hc' : (N : Int) ≤ (c : Int) := by omega
          have LT := Lib.hid hlt
          by_cases hx : x1 < 9000
          · have hx' : decide (x1 < 9000) = true := decide_eq_true hx
            clear hlt hNc
            go_wp2
            go_roundw
            case rel => exact ⟨_, k + 1, _, rfl, by go_num, LT.out, rfl⟩
            case measure => have := LT.out; simp [intOf]; omega
          · have hx' : decide (x1 < 9000) = false := decide_eq_false hx
            clear hlt hNc
            go_wp2
            go_roundw
            case rel => exact ⟨_, 1, _, rfl, rfl, .inr rfl, rfl⟩
            case measure => simp [intOf]
        · obtain rfl : k = N := by omega
          go_wp2
          go_roundw
          case rel => exact ⟨_, 1, _, rfl, rfl, .inr rfl, rfl⟩
          case measure => simp [intOf]
    · go_wp2
      go_ret
      exact ⟨_, rfl, _, rfl⟩
end Go.Proofs.YtnegondlkfeleaaDoor
