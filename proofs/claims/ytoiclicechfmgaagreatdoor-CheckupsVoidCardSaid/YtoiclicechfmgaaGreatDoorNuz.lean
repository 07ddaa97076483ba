import Derived.Test.YtoiclicechfmgaaGreatDoorMemB
import Derived.Test.YtoiclicechfmgaaGreatDoorCloB
/- A number's bytes: the code's Num and the document's. -/
namespace Go.Proofs.YtoiclicechfmgaaGreatDoor
open Go.RowKit

/-- A number's bytes. -/
def nb (n : Nat) : List Int := if n < 128 then [(n : Int)] else ((n % 128 + 128 : Nat) : Int) :: nb (n / 128)
termination_by n
theorem nb_lt {n : Nat} (h : n < 128) : nb n = [(n : Int)] := by rw [nb, if_pos h]
theorem nb_ge {n : Nat} (h : ¬ n < 128) : nb n = ((n % 128 + 128 : Nat) : Int) :: nb (n / 128) := by rw [nb, if_neg h]
theorem nb_len_pos (n : Nat) : 0 < (nb n).length := by rw [nb]; split <;> simp
theorem nb_len_le : ∀ (k n : Nat), n < 128 ^ (k + 1) → (nb n).length ≤ k + 1
  | 0, n, h => by rw [nb_lt (by simpa using h)]; simp
  | k + 1, n, h => by
    by_cases h1 : n < 128
    · rw [nb_lt h1]; simp
    · rw [nb_ge h1]
      have := nb_len_le k (n / 128) (by rw [Nat.div_lt_iff_lt_mul (by omega)]; rw [Nat.pow_succ] at h; exact h)
      simp; omega
theorem nb_ten {n : Nat} (h : n < 18446744073709551616) : (nb n).length ≤ 10 := nb_len_le 9 n (by omega)
theorem nb_byt (n : Nat) : ∀ c ∈ nb n, byt c := by
  rw [nb]
  split
  · rename_i h; intro c hc; simp at hc; subst hc; exact ⟨by omega, by omega⟩
  · intro c hc
    rcases List.mem_cons.1 hc with rfl | hc
    · exact ⟨by omega, by omega⟩
    · exact nb_byt (n / 128) c hc
termination_by n
decreasing_by omega

set_option maxRecDepth 100000 in
theorem or128_ : ∀ j : Fin 256, bits .or .u8 (j.val : Int) 128 = ((j.val % 128 + 128 : Nat) : Int) := by decide
theorem or128 (k : Nat) : bits .or .u8 ((k : Int) % 256) 128 = ((k % 128 + 128 : Nat) : Int) := by
  have h := or128_ ⟨k % 256, Nat.mod_lt _ (by omega)⟩
  simp only at h
  rw [show (k : Int) % 256 = ((k % 256 : Nat) : Int) from by omega, h, show k % 256 % 128 = k % 128 from by omega]

set_option maxHeartbeats 1000000 in
theorem num_any (v : Value) (xs : List Int) (n : Nat) (w : World) (h : Bs w v xs) (hn : n < 18446744073709551616) (hl : xs.length ≤ 70368744177664) :
    Calls Tryz.prog 120 #[v, .int .u64 n] w fun e w' => ∃ v', e = .returned v' ∧ Bo w.heap.size w' v' (xs ++ nb n) ∧ Below w.heap.size w w' := by
  have H := Lib.hid h
  have HL := Lib.hid hl
  have HN := Lib.hid hn
  clear h hl hn
  go_enter Tryz.func120, Tryz.ntmps120
  go_wp2_with fail
  refine (byt_clone_any v _ _ w H.out (bc_one _) (by have := HL.out; omega) (by have := HL.out; omega)).mono ?_
  rintro e w1 ⟨v1, rfl, ho, hb⟩
  have HB := Lib.hid (show Bf w.heap.size w w1 v1 xs from ⟨ho, hb, hb.size⟩)
  clear ho hb
  go_wp2
  go_loopg [1, 5] n (fun g c1 c5 wr => ∃ ys, c1 = .int .u64 g ∧ g < 18446744073709551616 ∧ Bf w.heap.size w wr c5 ys ∧ ys ++ nb g = xs ++ nb n)
  case atStart => exact ⟨xs, rfl, HN.out, HB.out, rfl⟩
  case round =>
    obtain ⟨ys, rfl, hg, hB, he⟩ := hrel
    have HE := Lib.hid he
    have HB' := Lib.hid hB
    have hlen : ys.length ≤ 140737488355000 := by
      have h1 := congrArg List.length he
      simp only [List.length_append] at h1
      have h2 := nb_ten HN.out
      have h3 := HL.out
      omega
    clear he hB HB
    by_cases h1 : gk < 128
    · have h1' : ¬ (128 : Int) ≤ (gk : Int) := by omega
      have hgb : IntKind.u8.wrap (gk : Int) = gk := IntWalk.u8_in _ (by omega)
      go_wp2_with (at_builtin; refine wpList_bf_byte rfl _ _ 22 rfl Tryz.underlying22 rfl HB'.out rfl (by omega) ?_; intro v2 w2 hB2)
      obtain ⟨A, c, rfl, hc, ho⟩ := hB2.own.clip
      refine (byt_clip A _ c w2 hc (by simp; omega)).mono ?_
      rintro e w3 ⟨rfl, rfl⟩
      have HO := Lib.hid ho
      have HD := Lib.hid hB2.bel
      clear hB2 ho
      go_wp2
      go_ret
      refine ⟨_, rfl, ?_, HD.out⟩
      rw [← HE.out, nb_lt h1]
      have := HO.out
      simp only [List.length_append, List.length_cons, List.length_nil, Nat.zero_add] at this
      exact this
    · have h1' : (128 : Int) ≤ (gk : Int) := by omega
      go_wp2_with (at_builtin; refine wpList_bf_byte rfl _ _ 22 rfl Tryz.underlying22 rfl HB'.out rfl (by omega) ?_; intro v2 w2 hB2)
      go_roundg (gk / 128)
      case measure => omega
      case rel =>
        refine ⟨_, by go_num, by omega, hB2, ?_⟩
        rw [or128, ← HE.out, nb_ge h1]
        simp

end Go.Proofs.YtoiclicechfmgaaGreatDoor

/- Sums: More. -/
namespace Go.Proofs.YtoiclicechfmgaaGreatDoor
open Go.RowKit

/-- The table. -/
def tabL : List Int := [0, 498536548, 997073096, 651767980, 1994146192, 1802195444, 1303535960, 1342533948, 3988292384, 4027552580, 3604390888, 3412177804, 2607071920, 2262029012, 2685067896, 3183342108]
def Tab (w : World) : Prop := ∀ i, i < 16 → w.cell? ⟨0, i, none⟩ = some (.int .u32 (tabL.getD i 0))
theorem Tab.below {w w' : World} (h : Tab w) (hb : Below w.heap.size w w') : Tab w' := fun i hi => (hb.cell (block_lt_of_cell (h i hi))).trans (h i hi)
theorem and15 (z : Int) : ∃ k : Nat, k < 16 ∧ bits .and .u32 z 15 = (k : Int) := by
  refine ⟨(BitVec.ofInt 32 z &&& BitVec.ofInt 32 15).toNat, ?_, ?_⟩
  · rw [BitVec.toNat_and]; exact Nat.lt_of_le_of_lt Nat.and_le_right (by decide)
  · have := (BitVec.ofInt 32 z &&& BitVec.ofInt 32 15).isLt
    show IntKind.u32.wrap ((BitVec.ofInt 32 z &&& BitVec.ofInt 32 15).toNat : Int) = _
    rw [IntKind.wrap_u32]
    omega

/-- What half a byte does to a sum. -/
def half (n c : Int) : Int := bits .xor .u32 (n / 16) (tabL.getD (bits .and .u32 (bits .xor .u32 n c) 15).toNat 0)
def stepS (n c : Int) : Int := half (half n c) (c / 16)
def moreS (n : Int) (bs : List Int) : Int := bits .xor .u32 IntKind.u32.max (bs.foldl stepS (bits .xor .u32 IntKind.u32.max n))
theorem u32_in (op : BinOp) (a b : Int) : 0 ≤ bits op .u32 a b ∧ bits op .u32 a b < 4294967296 := ⟨bits_lo_u32 op a b, by have := bits_hi_u32 op a b; omega⟩

set_option maxHeartbeats 1000000 in
set_option maxRecDepth 100000 in
theorem more_any (v : Value) (bs : List Int) (n0 : Int) (w : World) (h : Bs w v bs) (hby : ∀ c ∈ bs, byt c) (T : Tab w) (hl : bs.length ≤ 4611686018427387904) :
    Calls Tryz.prog 133 #[.int .u32 n0, v] w fun e w' => e = .returned (.int .u32 (moreS n0 bs)) ∧ w = w' := by
  have H := Lib.hid h
  have BY := Lib.hid hby
  have TT := Lib.hid T
  obtain ⟨A, c, rfl, hc, -⟩ := id h
  clear h hby T
  obtain ⟨n, hn⟩ : ∃ n, n = bs.length := ⟨_, rfl⟩
  have N := Lib.hid hn
  have hnc : n ≤ c := by omega
  have hnl : n ≤ 4611686018427387904 := by omega
  clear hl
  clear hc
  rw [← hn]
  clear hn
  obtain ⟨m0, hm0⟩ : ∃ m0, m0 = moreS n0 bs := ⟨_, rfl⟩
  rw [← hm0]
  have M0 := Lib.hid hm0
  clear hm0
  go_enter Tryz.func133, Tryz.ntmps133
  go_wp2
  go_loopg [5, 7, 12] n (fun g c5 c7 c12 wr => wr = w ∧ ∃ (i : Nat) (z : Int), i ≤ n ∧ g = n - i ∧ c12 = .int .i64 i ∧ c5 = .int .u32 z ∧ (0 ≤ z ∧ z < 4294967296) ∧ z = (bs.take i).foldl stepS (bits .xor .u32 IntKind.u32.max n0))
  case atStart => exact ⟨rfl, 0, _, by omega, rfl, rfl, rfl, u32_in _ _ _, rfl⟩
  case round =>
    obtain ⟨rfl, i, z, hi, hg, rfl, rfl, hz, hzf⟩ := hrel
    have G := Lib.hid hg
    have ZF := Lib.hid hzf
    clear hg hzf
    by_cases hin : i < n
    · have hib : i < bs.length := by have := N.out; omega
      obtain ⟨A', c', hv, -, -, hr⟩ := id H.out
      obtain ⟨g0, o0, rfl, -, hh⟩ : ∃ g o, A = some ⟨g, o, none⟩ ∧ g < wr.heap.size ∧ ∀ j u, (bc bs)[j]? = some u → wr.cell? ⟨g, o + j, none⟩ = some u := by
        rcases hr with h | ⟨g, o, hA, hg, hh⟩
        · omega
        · injection hv with h1 h2 h3; exact ⟨g, o, h1.trans hA, hg, hh⟩
      have ci := hh i (.int .u8 bs[i]) (by simp [bc, hib])
      have hcb := BY.out _ (List.getElem_mem hib)
      obtain ⟨x, hx⟩ : ∃ x, x = bs[i] := ⟨_, rfl⟩
      rw [← hx] at ci hcb
      unfold byt at hcb
      have HX := Lib.hid hx
      clear hh hr hv hx
      obtain ⟨k1, hk1, e1⟩ := and15 (bits .xor .u32 z x)
      have t1 := TT.out k1 hk1
      obtain ⟨y1, hy1⟩ : ∃ y1, y1 = tabL.getD k1 0 := ⟨_, rfl⟩
      rw [← hy1] at t1
      obtain ⟨z1, hz1⟩ : ∃ z1, bits .xor .u32 (z / 16) y1 = z1 := ⟨_, rfl⟩
      have hz1b : 0 ≤ z1 ∧ z1 < 4294967296 := by rw [← hz1]; exact u32_in _ _ _
      obtain ⟨k2, hk2, e2⟩ := and15 (bits .xor .u32 z1 (x / 16))
      have t2 := TT.out k2 hk2
      obtain ⟨y2, hy2⟩ : ∃ y2, y2 = tabL.getD k2 0 := ⟨_, rfl⟩
      rw [← hy2] at t2
      have Y1 := Lib.hid hy1
      have Y2 := Lib.hid hy2
      clear hy1 hy2
      go_wp2
      go_roundg (n - (i + 1))
      case measure => have := G.out; omega
      case rel =>
        refine ⟨rfl, i + 1, _, by omega, rfl, by go_num, rfl, u32_in _ _ _, ?_⟩
        rw [List.take_succ_eq_append_getElem hib, List.foldl_append, ← ZF.out, ← HX.out]
        show _ = stepS z x
        unfold stepS
        have a1 : half z x = z1 := by unfold half; rw [e1, Int.toNat_natCast, ← Y1.out, hz1]
        rw [a1]
        unfold half
        rw [e2, Int.toNat_natCast, ← Y2.out]
    · obtain rfl : i = n := by omega
      go_wp2
      go_ret
      refine ⟨?_, rfl⟩
      rw [M0.out, moreS]
      have := ZF.out
      rw [N.out, List.take_length] at this
      rw [← this]
      rfl

theorem of_any (v : Value) (bs : List Int) (w : World) (h : Bs w v bs) (hby : ∀ c ∈ bs, byt c) (T : Tab w) (hl : bs.length ≤ 4611686018427387904) :
    Calls Tryz.prog 114 #[v] w fun e w' => e = .returned (.int .u32 (moreS 0 bs)) ∧ w = w' := by
  have H := Lib.hid h
  have BY := Lib.hid hby
  have TT := Lib.hid T
  clear h hby T
  go_enter Tryz.func114, Tryz.ntmps114
  go_wp2_with fail
  refine (more_any v bs 0 _ H.out BY.out TT.out hl).mono ?_
  rintro e w1 ⟨rfl, rfl⟩
  go_wp2
  go_ret
  exact ⟨rfl, rfl⟩

def fourS (n : Int) : List Int := [n % 256, n / 256 % 256, n / 65536 % 256, n / 16777216]
set_option maxRecDepth 100000 in
theorem four_any (n : Int) (w : World) (hn : 0 ≤ n ∧ n < 4294967296) :
    Calls Tryz.prog 113 #[.int .u32 n] w fun e w' => ∃ v', e = .returned v' ∧ Bo w.heap.size w' v' (fourS n) ∧ Below w.heap.size w w' := by
  go_enter Tryz.func113, Tryz.ntmps113
  go_wp2
  go_ret
  refine ⟨_, rfl, .inr ⟨w.heap.size, 4, _, rfl, Nat.le_refl _, Blk.new _ _ _, Nat.le_refl _, rfl, Nat.le_refl _, ?_⟩, below_alloc_ _ _⟩

  simp [bc, fourS]
end Go.Proofs.YtoiclicechfmgaaGreatDoor
