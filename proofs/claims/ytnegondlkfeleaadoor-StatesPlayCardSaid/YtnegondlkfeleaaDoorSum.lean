/- Sums: More. -/
import Derived.Test.YtnegondlkfeleaaDoorNum
namespace Go.Proofs.YtnegondlkfeleaaDoor
open Go.RowKit

/-- The table. -/
def tabL : List Int := [0, 498536548, 997073096, 651767980, 1994146192, 1802195444, 1303535960, 1342533948, 3988292384, 4027552580, 3604390888, 3412177804, 2607071920, 2262029012, 2685067896, 3183342108]
def Tab (w : World) : Prop := ∀ i, i < 16 → w.cell? ⟨0, i, none⟩ = some (.int .u32 (tabL.getD i 0))
theorem Tab.below {w w' : World} (h : Tab w) (hb : Below w.heap.size w w') : Tab w' := fun i hi => (hb.cell (block_lt_of_cell (h i hi))).trans (h i hi)
theorem and15 (z : Int) : ∃ k : Nat, k < 16 ∧ bits .and .u32 z 15 = (k : Int) := by
  refine ⟨(BitVec.ofInt 32 z &&& BitVec.ofInt 32 15).toNat, ?_, ?_⟩
  · rw [BitVec.toNat_and]; exact Nat.lt_of_le_of_lt Nat.and_le_right (by decide)
  · have := (BitVec.ofInt 32 z &&& BitVec.ofInt 32 15).isLt
    show IntKind.u32.wrap ((BitVec.ofInt 32 z &&& BitVec.ofInt 32 15).toNat : Int) = _
    rw [IntKind.wrap_u32]
    omega

/-- What half a byte does to a sum. -/
def half (n c : Int) : Int := bits .xor .u32 (n / 16) (tabL.getD (bits .and .u32 (bits .xor .u32 n c) 15).toNat 0)
def stepS (n c : Int) : Int := half (half n c) (c / 16)
def moreS (n : Int) (bs : List Int) : Int := bits .xor .u32 IntKind.u32.max (bs.foldl stepS (bits .xor .u32 IntKind.u32.max n))
theorem u32_in (op : BinOp) (a b : Int) : 0 ≤ bits op .u32 a b ∧ bits op .u32 a b < 4294967296 := ⟨bits_lo_u32 op a b, by have := bits_hi_u32 op a b; omega⟩

set_option maxHeartbeats 1000000 in
set_option maxRecDepth 100000 in
theorem more_any (v : Value) (bs : List Int) (n0 : Int) (w : World) (h : Bs w v bs) (hby : ∀ c ∈ bs, byt c) (T : Tab w) (hl : bs.length ≤ 4611686018427387904) :
    Calls Tryd.prog 132 #[.int .u32 n0, v] w fun e w' => e = .returned (.int .u32 (moreS n0 bs)) ∧ w = w' := by
  have H := Lib.hid h
  have BY := Lib.hid hby
  have TT := Lib.hid T
  obtain ⟨A, c, rfl, hc, -⟩ := id h
  clear h hby T
  obtain ⟨n, hn⟩ : ∃ n, n = bs.length := ⟨_, rfl⟩
  have N := Lib.hid hn
  have hnc : n ≤ c := by omega
  have hnl : n ≤ 4611686018427387904 := by omega
  clear hl
  clear hc
  rw [← hn]
  clear hn
  obtain ⟨m0, hm0⟩ : ∃ m0, m0 = moreS n0 bs := ⟨_, rfl⟩
  rw [← hm0]
  have M0 := Lib.hid hm0
  clear hm0
  go_enter Tryd.func132, Tryd.ntmps132
  go_wp2
  go_loopg [5, 7, 12] n (fun g c5 c7 c12 wr => wr = w ∧ ∃ (i : Nat) (z : Int), i ≤ n ∧ g = n - i ∧ c12 = .int .i64 i ∧ c5 = .int .u32 z ∧ (0 ≤ z ∧ z < 4294967296) ∧ z = (bs.take i).foldl stepS (bits .xor .u32 IntKind.u32.max n0))
  case atStart => exact ⟨rfl, 0, _, by omega, rfl, rfl, rfl, u32_in _ _ _, rfl⟩
  case round =>
    obtain ⟨rfl, i, z, hi, hg, rfl, rfl, hz, hzf⟩ := hrel
    have G := Lib.hid hg
    have ZF := Lib.hid hzf
    clear hg hzf
    by_cases hin : i < n
    · have hib : i < bs.length := by have := N.out; omega
      obtain ⟨A', c', hv, -, -, hr⟩ := id H.out
      obtain ⟨g0, o0, rfl, -, hh⟩ : ∃ g o, A = some ⟨g, o, none⟩ ∧ g < wr.heap.size ∧ ∀ j u, (bc bs)[j]? = some u → wr.cell? ⟨g, o + j, none⟩ = some u := by
        rcases hr with h | ⟨g, o, hA, hg, hh⟩
        · omega
        · injection hv with h1 h2 h3; exact ⟨g, o, h1.trans hA, hg, hh⟩
      have ci := hh i (.int .u8 bs[i]) (by simp [bc, hib])
      have hcb := BY.out _ (List.getElem_mem hib)
      obtain ⟨x, hx⟩ : ∃ x, x = bs[i] := ⟨_, rfl⟩
      rw [← hx] at ci hcb
      unfold byt at hcb
      have HX := Lib.hid hx
      clear hh hr hv hx
      obtain ⟨k1, hk1, e1⟩ := and15 (bits .xor .u32 z x)
      have t1 := TT.out k1 hk1
      obtain ⟨y1, hy1⟩ : ∃ y1, y1 = tabL.getD k1 0 := ⟨_, rfl⟩
      rw [← hy1] at t1
      obtain ⟨z1, hz1⟩ : ∃ z1, bits .xor .u32 (z / 16) y1 = z1 := ⟨_, rfl⟩
      have hz1b : 0 ≤ z1 ∧ z1 < 4294967296 := by rw [← hz1]; exact u32_in _ _ _
      obtain ⟨k2, hk2, e2⟩ := and15 (bits .xor .u32 z1 (x / 16))
      have t2 := TT.out k2 hk2
      obtain ⟨y2, hy2⟩ : ∃ y2, y2 = tabL.getD k2 0 := ⟨_, rfl⟩
      rw [← hy2] at t2
      have Y1 := Lib.hid hy1
      have Y2 := Lib.hid hy2
      clear hy1 hy2
      go_wp2
      go_roundg (n - (i + 1))
      case measure => have := G.out; omega
      case rel =>
        refine ⟨rfl, i + 1, _, by omega, rfl, by go_num, rfl, u32_in _ _ _, ?_⟩
        rw [List.take_succ_eq_append_getElem hib, List.foldl_append, ← ZF.out, ← HX.out]
        show _ = stepS z x
        unfold stepS
        have a1 : half z x = z1 := by unfold half; rw [e1, Int.toNat_natCast, ← Y1.out, hz1]
        rw [a1]
        unfold half
        rw [e2, Int.toNat_natCast, ← Y2.out]
    · obtain rfl : i = n := by omega
      go_wp2
      go_ret
      refine ⟨?_, rfl⟩
      rw [M0.out, moreS]
      have := ZF.out
      rw [N.out, List.take_length] at this
      rw [← this]
      rfl

theorem of_any (v : Value) (bs : List Int) (w : World) (h : Bs w v bs) (hby : ∀ c ∈ bs, byt c) (T : Tab w) (hl : bs.length ≤ 4611686018427387904) :
    Calls Tryd.prog 108 #[v] w fun e w' => e = .returned (.int .u32 (moreS 0 bs)) ∧ w = w' := by
  have H := Lib.hid h
  have BY := Lib.hid hby
  have TT := Lib.hid T
  clear h hby T
  go_enter Tryd.func108, Tryd.ntmps108
  go_wp2_with fail
  refine (more_any v bs 0 _ H.out BY.out TT.out hl).mono ?_
  rintro e w1 ⟨rfl, rfl⟩
  go_wp2
  go_ret
  exact ⟨rfl, rfl⟩

def fourS (n : Int) : List Int := [n % 256, n / 256 % 256, n / 65536 % 256, n / 16777216]
set_option maxRecDepth 100000 in
theorem four_any (n : Int) (w : World) (hn : 0 ≤ n ∧ n < 4294967296) :
    Calls Tryd.prog 107 #[.int .u32 n] w fun e w' => ∃ v', e = .returned v' ∧ Bo w.heap.size w' v' (fourS n) ∧ Below w.heap.size w w' := by
  go_enter Tryd.func107, Tryd.ntmps107
  go_wp2
  go_ret
  refine ⟨_, rfl, .inr ⟨w.heap.size, 4, _, rfl, Nat.le_refl _, Blk.new _ _ _, Nat.le_refl _, rfl, Nat.le_refl _, ?_⟩, below_alloc_ _ _⟩

  simp [bc, fourS]
end Go.Proofs.YtnegondlkfeleaaDoor
