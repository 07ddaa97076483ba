/- The library's sort at string: breakPatterns: the row is permuted within the range. -/
import Derived.Test.YtoiclicechfmgaaGreatDoorZez
import Derived.Test.YtoiclicechfmgaaGreatDoorZk
import Derived.Sort.LotB
import Derived.Laws.Bits64
import Derived.Laws.Bits64b
import Derived.Lib.Strings
import Derived.Lib.Slices
import Derived.Lib.BitFns
import Derived.Lib.Small
import Derived.Lib.Walk
import Derived.RegionTactic
namespace Go.Proofs.YtoiclicechfmgaaGreatDoor
open Go.RowKit

theorem bitLen_two (n : Nat) : ∀ x : Nat, x ≤ n → x < 18446744073709551616 → x < 2 ^ Lib.bitLen x ∧ (1 ≤ x → 2 ^ Lib.bitLen x ≤ 2 * x) := by
  induction n with
  | zero =>
    intro x hx _
    obtain rfl : x = 0 := by omega
    exact ⟨Nat.two_pow_pos _, fun h => by omega⟩
  | succ n ih =>
    intro x hx h64
    by_cases h0 : x = 0
    · subst h0
      exact ⟨Nat.two_pow_pos _, fun h => by omega⟩
    · rw [Lib.bitLen_half x h0 h64, Nat.pow_add]
      have := ih (x / 2) (by omega) (by omega)
      refine ⟨by omega, fun _ => ?_⟩
      by_cases h1 : x = 1
      · subst h1
        decide
      · have := this.2 (by omega)
        omega
theorem len_any (x : Int) (w : World) (h0 : 0 ≤ x) (h1 : x ≤ 1000000) : Calls Tryz.prog 75 #[.int .u64 x] w fun e w' => e = .returned (.int .i64 (Lib.bitLen x.toNat)) ∧ w' = w := by
  go_enter Tryz.func75, Tryz.ntmps75
  go_wp2_with (go_at_call 108; refine (l64_any x _ h0 (by omega)).mono ?_; rintro e w' ⟨rfl, rfl⟩)
  go_ret
  exact ⟨rfl, rfl⟩
theorem npt_any (n : Nat) (hn0 : 1 ≤ n) (hn : n ≤ 1000000) : ∃ M : Nat, 1 ≤ M ∧ M ≤ 2 * n ∧ ∀ w, Calls Tryz.prog 127 #[.int .i64 n] w fun e w' => e = .returned (.int .u64 M) ∧ w' = w := by
  have hb := bitLen_two n n (Nat.le_refl _) (by omega)
  refine ⟨2 ^ Lib.bitLen n, Nat.two_pow_pos _, hb.2 hn0, fun w => ?_⟩
  have hk : Lib.bitLen n ≤ 62 := Lib.bitLen_le n 62 (by omega) (by omega)
  have hLen : ∀ w, Calls Tryz.prog 75 #[.int .u64 (n : Int)] w fun e w' => e = .returned (.int .i64 (Lib.bitLen n : Nat)) ∧ w' = w := fun w => by
    have h := len_any (n : Int) w (by omega) (by omega)
    rwa [Int.toNat_natCast] at h
  have hb2 := hb.2 hn0
  clear hb
  obtain ⟨k, hkk⟩ : ∃ k, k = Lib.bitLen n := ⟨_, rfl⟩
  rw [← hkk] at hk hLen hb2 ⊢
  clear hkk
  have hp : IntKind.u64.wrap ((2 : Int) ^ k) = ((2 ^ k : Nat) : Int) := by
    rw [IntKind.wrap_u64, show ((2 : Int) ^ k) = ((2 ^ k : Nat) : Int) by push_cast; rfl]
    generalize (2 : Nat) ^ k = p at hb2
    omega
  clear hb2
  go_enter Tryz.func127, Tryz.ntmps127
  go_wp2_with (go_at_call 75; refine (hLen _).mono ?_; rintro e w' ⟨rfl, rfl⟩)
  go_ret
  exact ⟨rfl, rfl⟩
/-- Some number of 64 bits, in the generator's block and handed back. -/
def Nxt (w : World) (rb : Nat) (e : Ending) (w' : World) : Prop :=
  ∃ R : Nat, e = .returned (.int .u64 R) ∧ R < 18446744073709551616 ∧ Blk w' rb 213 #[.int .u64 R] ∧ w.grownBy w' (some rb)
theorem store_blk {w : World} {rb : Nat} {u v : Value} (h : Blk w rb 213 #[u]) : Blk (w.setCell ⟨rb, 0, none⟩ v) rb 213 #[v] := h.set_ 0 v
theorem xor_some {X Y : Nat} (hX : X < 18446744073709551616) (hY : Y < 18446744073709551616) : ∃ Z : Nat, bits .xor .u64 (X : Int) (Y : Int) = (Z : Int) ∧ Z < 18446744073709551616 :=
  ⟨X ^^^ Y, bits_xor_u64_nat _ _ hX hY, Nat.xor_lt_two_pow (n := 64) hX hY⟩
set_option maxHeartbeats 1000000 in
theorem nxt_any {w : World} {rb X : Nat} (hB : Blk w rb 213 #[.int .u64 X]) (hX : X < 18446744073709551616) :
    Calls Tryz.prog 128 #[.pointer (some ⟨rb, 0, none⟩)] w (Nxt w rb) := by
  have B := Lib.hid hB
  obtain ⟨Z1, hZ1⟩ : ∃ Z : Nat, IntKind.u64.wrap ((X : Int) * 8192) = (Z : Int) := ⟨X * 8192 % 18446744073709551616, by rw [IntKind.wrap_u64]; omega⟩
  have lZ1 : Z1 < 18446744073709551616 := by rw [IntKind.wrap_u64] at hZ1; omega
  obtain ⟨R1, e1, l1⟩ := xor_some hX lZ1
  rw [← hZ1] at e1
  obtain ⟨Z2, hZ2⟩ : ∃ Z : Nat, (R1 : Int) / 128 = (Z : Int) := ⟨R1 / 128, by omega⟩
  have lZ2 : Z2 < 18446744073709551616 := by omega
  obtain ⟨R2, e2, l2⟩ := xor_some l1 lZ2
  rw [← hZ2] at e2
  obtain ⟨Z3, hZ3⟩ : ∃ Z : Nat, IntKind.u64.wrap ((R2 : Int) * 131072) = (Z : Int) := ⟨R2 * 131072 % 18446744073709551616, by rw [IntKind.wrap_u64]; omega⟩
  have lZ3 : Z3 < 18446744073709551616 := by rw [IntKind.wrap_u64] at hZ3; omega
  obtain ⟨R3, e3, l3⟩ := xor_some l2 lZ3
  rw [← hZ3] at e3
  have c1 : w.cell? ⟨rb, 0, none⟩ = some (.int .u64 X) := by rw [hB.cell]; rfl
  have f1 : w.frozen? ⟨rb, 0, none⟩ = false := hB.free 0
  clear hB hZ1 lZ1 hZ2 lZ2 hZ3 lZ3
  go_enter Tryz.func128, Tryz.ntmps128
  go_wp2_with fail
  go_region
  have B2 := Lib.hid (show Blk (w.setCell ⟨rb, 0, none⟩ (.int .u64 R1)).drew rb 213 #[.int .u64 R1] from (store_blk B.out).drew)
  have G2 := Lib.hid (show w.grownBy (w.setCell ⟨rb, 0, none⟩ (.int .u64 R1)).drew (some rb) from grown_trans_ (grown_set_ w rb 0 _) (grown_below_ (below_drewN_ _ _ 1) _))
  clear c1 f1
  generalize (w.setCell ⟨rb, 0, none⟩ (.int .u64 R1)).drew = w2 at B2 G2 ⊢
  have c1 : w2.cell? ⟨rb, 0, none⟩ = some (.int .u64 R1) := by rw [B2.out.cell]; rfl
  have f1 : w2.frozen? ⟨rb, 0, none⟩ = false := B2.out.free 0
  go_wp2_with fail
  go_region
  have B3 := Lib.hid (show Blk (w2.setCell ⟨rb, 0, none⟩ (.int .u64 R2)).drew rb 213 #[.int .u64 R2] from (store_blk B2.out).drew)
  have G3 := Lib.hid (show w.grownBy (w2.setCell ⟨rb, 0, none⟩ (.int .u64 R2)).drew (some rb) from grown_trans_ G2.out (grown_trans_ (grown_set_ w2 rb 0 _) (grown_below_ (below_drewN_ _ _ 1) _)))
  clear c1 f1
  generalize (w2.setCell ⟨rb, 0, none⟩ (.int .u64 R2)).drew = w3 at B3 G3 ⊢
  have c1 : w3.cell? ⟨rb, 0, none⟩ = some (.int .u64 R2) := by rw [B3.out.cell]; rfl
  have f1 : w3.frozen? ⟨rb, 0, none⟩ = false := B3.out.free 0
  go_wp2_with fail
  go_region
  go_wp2
  go_ret
  exact ⟨R3, rfl, l3, (store_blk B3.out).drew, grown_trans_ G3.out (grown_trans_ (grown_set_ w3 rb 0 _) (grown_below_ (below_drewN_ _ _ 1) _))⟩
/-- The row, permuted within the range. -/
def Brk (W : World) (g : Nat) (d : Array ByteArray) (rest : List Value) (a b : Nat) (e : Ending) (w' : World) : Prop :=
  ∃ d' : Array ByteArray, e = .returned (.tuple #[]) ∧ Go.Sort.PermIn a b d d' ∧ Sd W w' g d' rest
set_option maxHeartbeats 4000000 in
set_option maxRecDepth 100000 in
theorem brk_any {W w : World} {g a b c : Nat} {d : Array ByteArray} {rest : List Value} (h : Sd W w g d rest) (hab : a + 8 ≤ b) (hb : b ≤ d.size) (hs : d.size ≤ 1000000) :
    Calls Tryz.prog 100 #[.slice (some ⟨g, 0, none⟩) d.size c, .int .i64 a, .int .i64 b] w (Brk W g d rest a b) := by
  obtain ⟨L, hL⟩ : ∃ L, L = b - a := ⟨_, rfl⟩
  have H := Lib.hid (h.below (below_alloc_ w (.cells #[.int .u64 L] 213)))
  have B := Lib.hid (Blk.new w 213 #[.int .u64 L])
  have hW : W.heap.size ≤ w.heap.size := h.kp.size
  have hgw : g < w.heap.size := h.blk.lt
  obtain ⟨n, hn⟩ : ∃ n, n = d.size := ⟨_, rfl⟩
  have DN := Lib.hid hn.symm
  rw [← hn] at hb hs ⊢
  obtain ⟨M, hM0, hM1, hM⟩ := npt_any L (by omega) (by omega)
  have NP := Lib.hid hM
  obtain ⟨q, hq⟩ : ∃ q, q = L / 4 := ⟨_, rfl⟩
  obtain ⟨q2, hq2⟩ : ∃ q2, q2 = q * 2 := ⟨_, rfl⟩
  obtain ⟨m, hm⟩ : ∃ m, m = a + q2 := ⟨_, rfl⟩
  obtain ⟨ma, hma⟩ : ∃ ma, ma = m - 1 := ⟨_, rfl⟩
  obtain ⟨mb, hmb⟩ : ∃ mb, mb = m + 1 := ⟨_, rfl⟩
  obtain ⟨M1, hM1'⟩ : ∃ M1, M1 = M - 1 := ⟨_, rfl⟩
  have e1 : (b : Int) - a = L := by omega
  have e2 : (L : Int) / 4 = q := by omega
  have e3 : (q : Int) * 2 = q2 := by omega
  have e4 : (a : Int) + q2 = m := by omega
  have e5 : (m : Int) - 1 = ma := by omega
  have e6 : (m : Int) + 1 = mb := by omega
  have e7 : (M : Int) - 1 = M1 := by omega
  have m0 : q ≤ 1000000 := by omega
  have m1 : q2 ≤ 1000000 := by omega
  have m2 : m ≤ 1000000 := by omega
  have m3 : a ≤ 1000000 := by omega
  have m4 : 8 ≤ L := by omega
  have m5 : L ≤ 1000000 := by omega
  have m6 : a ≤ ma := by omega
  have m7 : mb < b := by omega
  have m8 : M1 < 2 * L := by omega
  have m9 : ma ≤ mb + 1 := by omega
  have m10 : mb ≤ ma + 2 := by omega
  have LL := Lib.hid (show a + L = b by omega)
  clear h hn hL hM hq hq2 hm hma hmb hM1' hM0 hM1
  go_enter Tryz.func100, Tryz.ntmps100
  go_wp2_with (go_at_call 127; refine (NP.out _).mono ?_; rintro e w' ⟨rfl, rfl⟩)
  go_loopg [9, 10] 3 (fun q c9 c10 wr => ∃ (i R : Nat) (dk : Array ByteArray), q = mb + 1 - i ∧ c9 = .int .i64 i ∧ ma ≤ i ∧ i ≤ mb + 1 ∧ R < 18446744073709551616 ∧ Blk wr w.heap.size 213 #[.int .u64 R] ∧ Sd W wr g dk rest ∧ Go.Sort.PermIn a b d dk)
  case atStart => exact ⟨ma, L, d, by omega, rfl, Nat.le_refl _, m9, by omega, B.out, H.out, Go.Sort.permIn_refl _ _ _⟩
  case round =>
    obtain ⟨i, R, dk, hq, rfl, hi1, hi2, hR, hBr, hS, hP⟩ := hrel
    have Q := Lib.hid hq
    have BR := Lib.hid hBr
    have S := Lib.hid hS
    have P := Lib.hid hP
    have DK := Lib.hid (show dk.size = n from by rw [hP.1]; exact DN.out)
    clear hq hBr hS hP
    by_cases hle : i ≤ mb
    · have hle' : (i : Int) ≤ mb := by omega
      go_wp2_with fail
      refine (nxt_any BR.out hR).mono ?_
      rintro e w1 ⟨R1, rfl, hR1, hB1, hG1⟩
      have BR1 := Lib.hid hB1
      have S1 := Lib.hid (S.out.grown hG1 hW (by omega))
      clear hB1 hG1
      obtain ⟨O, eO, lO⟩ : ∃ O : Nat, bits .and .u64 (R1 : Int) (M1 : Int) = (O : Int) ∧ O ≤ M1 := ⟨R1 &&& M1, bits_and_u64_nat _ _ hR1 (by omega), Nat.and_le_right⟩
      obtain ⟨X, hX⟩ : ∃ X : Nat, X = if L ≤ O then O - L else O := ⟨_, rfl⟩
      obtain ⟨p, hp⟩ : ∃ p : Nat, p = a + X := ⟨_, rfl⟩
      have p1 : p < b := by have := LL.out; split at hX <;> omega
      have p2 : a ≤ p := by omega
      have e8 : (a : Int) + (X : Int) = (p : Int) := by omega
      obtain ⟨x, hx⟩ : ∃ x, x = dk[i]! := ⟨_, rfl⟩
      obtain ⟨y, hy⟩ : ∃ y, y = dk[p]! := ⟨_, rfl⟩
      have c0 : w1.cell? ⟨g, i, none⟩ = some (.string x) := by rw [hx]; exact S1.out.cell i (by have := DK.out; omega)
      have c1 : w1.cell? ⟨g, p, none⟩ = some (.string y) := by rw [hy]; exact S1.out.cell p (by have := DK.out; omega)
      have b0 : (0 : Int) ≤ i := by omega
      have b1 : (i : Int) < n := by omega
      have b2 : (0 : Int) ≤ p := by omega
      have b3 : (p : Int) < n := by omega
      have b4 : IntKind.i64.wrap (p : Int) = (p : Int) := IntWalk.i64_in _ (by omega)
      have fl := S1.out.blk.free
      obtain ⟨v', cv⟩ := cell?_setCell_some (w := w1) (p := ⟨g, i, none⟩) (x := .string y) (q := ⟨g, p, none⟩) c1
      have SW := S1.out.swp i p (by have := DK.out; omega) (by have := DK.out; omega)
      rw [← hx, ← hy] at SW
      have S9 := Lib.hid SW
      have BR9 := Lib.hid (show Blk ((w1.setCell ⟨g, i, none⟩ (.string y)).setCell ⟨g, p, none⟩ (.string x)) w.heap.size 213 #[.int .u64 R1] from (BR1.out.far (by simp; omega) _).far (by simp; omega) _)
      have PP := Lib.hid (show Go.Sort.PermIn a b d (Go.Sort.swp dk i p) from Go.Sort.permIn_trans _ _ _ a b P.out (Go.Sort.swp_permIn dk a b i p (by omega) (by omega) p2 p1 (by have := DK.out; omega)))
      clear hx hy SW hp
      by_cases hLO : L ≤ O
      · rw [if_pos hLO] at hX
        have e9 : (O : Int) - L = X := by omega
        have hLO' : (L : Int) ≤ O := by omega
        clear hX
        go_wp2_with fail
        go_region
        go_wp2
        go_roundg (mb + 1 - (i + 1))
        case measure => have := Q.out; omega
        case rel => exact ⟨i + 1, R1, _, rfl, by go_num, by omega, by omega, hR1, BR9.out.drew, S9.out.drew, PP.out⟩
      · rw [if_neg hLO] at hX
        have hLO' : ¬ (L : Int) ≤ O := by omega
        subst hX
        go_wp2_with fail
        go_region
        go_wp2
        go_roundg (mb + 1 - (i + 1))
        case measure => have := Q.out; omega
        case rel => exact ⟨i + 1, R1, _, rfl, by go_num, by omega, by omega, hR1, BR9.out.drew, S9.out.drew, PP.out⟩
    · have hle' : ¬ (i : Int) ≤ mb := by omega
      go_wp2
      refine bodyPost_end (results_none rfl _ _ _) rfl ?_
      exact ⟨dk, rfl, P.out, S.out⟩
end Go.Proofs.YtoiclicechfmgaaGreatDoor
