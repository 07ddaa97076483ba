/- ShotsVoid: walk. -/
import Derived.Test.YtglghlfmjokgdaaDoorAsl
namespace Go.Proofs.YtglghlfmjokgdaaDoor
open Go.RowKit

/-- What the test of a round reads. -/
def VoidS (l s a : Nat) (i : Nat) (q dv z : Value) (t v : Int) (w : World) : Prop :=
  w.cell? ⟨l, i, none⟩ = some q ∧ w.cell? ⟨s, 0, none⟩ = some (.int .u64 t) ∧ w.cell? ⟨s, 1, none⟩ = some (.int .u64 v) ∧ w.cell? ⟨s, 2, none⟩ = some dv ∧
  w.cell? ⟨a, 0, none⟩ = some (.int .u64 0) ∧ w.cell? ⟨a, 1, none⟩ = some (.int .u64 0) ∧ w.cell? ⟨a, 2, none⟩ = some z
theorem VoidS.below {l s a i : Nat} {q dv z : Value} {t v : Int} {w w' : World} (h : VoidS l s a i q dv z t v w) (hb : Below w.heap.size w w') : VoidS l s a i q dv z t v w' :=
  ⟨(hb.cell (block_lt_of_cell h.1)).trans h.1, (hb.cell (block_lt_of_cell h.2.1)).trans h.2.1, (hb.cell (block_lt_of_cell h.2.2.1)).trans h.2.2.1, (hb.cell (block_lt_of_cell h.2.2.2.1)).trans h.2.2.2.1,
    (hb.cell (block_lt_of_cell h.2.2.2.2.1)).trans h.2.2.2.2.1, (hb.cell (block_lt_of_cell h.2.2.2.2.2.1)).trans h.2.2.2.2.2.1, (hb.cell (block_lt_of_cell h.2.2.2.2.2.2)).trans h.2.2.2.2.2.2⟩
set_option maxHeartbeats 4000000 in
set_option maxRecDepth 100000 in
theorem avoid_walk (t v : Int) (A : Option Addr) (n c : Nat) (w : World) (T : Tab w) : Calls Tryd.prog 3 #[.agg #[.int .u64 t, .int .u64 v, .slice A n c]] w fun e w' => e = .returned (.bool true) ∧ Below w.heap.size w w' := by
  have TT := Lib.hid T
  obtain ⟨W, hW⟩ : ∃ W, W = ((w.alloc (.cells #[.int .u64 t, .int .u64 v, .slice A n c] 25)).alloc (.cells (alC 0 0 (.slice none 0 0) (.pointer none) false) 28)).alloc (.cells #[.pointer none, .pointer (some ⟨w.heap.size + 1, 0, none⟩)] 29) := ⟨_, rfl⟩
  have b1 := below_alloc3_ w (.cells #[.int .u64 t, .int .u64 v, .slice A n c] 25) (.cells (alC 0 0 (.slice none 0 0) (.pointer none) false) 28) (.cells #[.pointer none, .pointer (some ⟨w.heap.size + 1, 0, none⟩)] 29)
  have k0 := ((Blk.new w 25 #[.int .u64 t, .int .u64 v, .slice A n c]).alloc (.cells (alC 0 0 (.slice none 0 0) (.pointer none) false) 28)).alloc (.cells #[.pointer none, .pointer (some ⟨w.heap.size + 1, 0, none⟩)] 29)
  have k1 := (Blk.new (w.alloc (.cells #[.int .u64 t, .int .u64 v, .slice A n c] 25)) 28 (alC 0 0 (.slice none 0 0) (.pointer none) false)).alloc (.cells #[.pointer none, .pointer (some ⟨w.heap.size + 1, 0, none⟩)] 29)
  have k2 := Blk.new ((w.alloc (.cells #[.int .u64 t, .int .u64 v, .slice A n c] 25)).alloc (.cells (alC 0 0 (.slice none 0 0) (.pointer none) false) 28)) 29 #[.pointer none, .pointer (some ⟨w.heap.size + 1, 0, none⟩)]
  rw [← hW] at b1 k0 k1 k2
  simp only [World.size_alloc, Nat.add_assoc, Nat.reduceAdd] at k1 k2
  have B1 := Lib.hid b1
  have K0 := Lib.hid k0
  have K1 := Lib.hid k1
  have K2 := Lib.hid k2
  have HWW := Lib.hid hW
  clear T hW b1 k0 k1 k2
  go_enter Tryd.func3, Tryd.ntmps3
  go_wp2_with fail
  refine (aopen_nil _).mono ?_
  rintro e w1 ⟨rfl, rfl⟩
  have hw := HWW.out.symm
  simp only [alC] at hw
  rw [hw]
  clear hw
  go_wp2_with fail
  go_loopg [7, 8] 2 (fun g c7 c8 wr => ∃ i : Nat, i ≤ 2 ∧ g = 2 - i ∧ c7 = .int .i64 i ∧ Below W.heap.size W wr)
  case atStart => exact ⟨0, by omega, rfl, rfl, Below.refl _ _⟩
  case round =>
    obtain ⟨i, hi, hg, rfl, hb⟩ := hrel
    have G := Lib.hid hg
    have BB := Lib.hid hb
    have P0 := Lib.hid (K0.out.below hb K0.out.lt)
    have P1 := Lib.hid (K1.out.below hb K1.out.lt)
    have P2 := Lib.hid (K2.out.below hb K2.out.lt)
    clear hg hb
    have a0 := P2.out.cell 0
    have a1 := P2.out.cell 1
    simp at a0 a1
    match i, hi with
    | 0, _ =>
      go_wp2_with fail
      refine (shot_nil _).mono ?_
      rintro e w2 ⟨rfl, b2⟩
      have b3 := bch b2 (below_alloc_ w2 (.cells #[.int .u64 0, .int .u64 0, .slice none 0 0] 25))
      have ka := Blk.new w2 25 #[.int .u64 0, .int .u64 0, .slice none 0 0]
      have s0 := P0.out.below b3 P0.out.lt
      have s2 := P2.out.below b3 P2.out.lt
      have VS := Lib.hid (show VoidS (w.heap.size + 2) w.heap.size w2.heap.size 0 (.pointer none) (.slice A n c) (.slice none 0 0) t v (w2.alloc (.cells #[.int .u64 0, .int .u64 0, .slice none 0 0] 25)).drew from
        ⟨by show (w2.alloc _).cell? _ = _; rw [s2.cell]; rfl, by show (w2.alloc _).cell? _ = _; rw [s0.cell]; rfl, by show (w2.alloc _).cell? _ = _; rw [s0.cell]; rfl, by show (w2.alloc _).cell? _ = _; rw [s0.cell]; rfl, by show (w2.alloc _).cell? _ = _; rw [ka.cell]; rfl, by show (w2.alloc _).cell? _ = _; rw [ka.cell]; rfl, by show (w2.alloc _).cell? _ = _; rw [ka.cell]; rfl⟩)
      have BX := Lib.hid (BB.out.trans (b3.mono BB.out.size))
      clear b3 b2 ka s0 s2 a0 a1
      go_wp2_with fail
      go_region_held3 (fun w' => w'.cell? ⟨w.heap.size + 2, 0, none⟩ = some (.pointer none) ∧ w'.cell? ⟨w.heap.size, 0, none⟩ = some (.int .u64 t) ∧ w'.cell? ⟨w.heap.size, 1, none⟩ = some (.int .u64 v) ∧ w'.cell? ⟨w.heap.size, 2, none⟩ = some (.slice A n c) ∧
          w'.cell? ⟨w2.heap.size, 0, none⟩ = some (.int .u64 0) ∧ w'.cell? ⟨w2.heap.size, 1, none⟩ = some (.int .u64 0) ∧ w'.cell? ⟨w2.heap.size, 2, none⟩ = some (.slice none 0 0)) (first
        | exact VS.out.below b4
        | exact VS.out
        | fail)
        (first
        | (go_at_call 10; refine (aset_nil _ t v (.slice A n c) rfl rfl _).mono ?_; rintro e w4 ⟨rfl, b4⟩))
      have BY := Lib.hid (BX.out.trans (((Below.refl _ _).drew.trans b4).mono BX.out.size))
      clear b4
      go_wp2
      go_roundg 1
      case measure => have := G.out; omega
      case rel => exact ⟨1, by omega, rfl, by go_num, BY.out⟩
    | 1, _ =>
      go_wp2_with fail
      refine (shot_any _ 0 0 (.slice none 0 0) (.pointer none) false [] _ P1.out (Bo.nil_ 0 _).bs (by simp)).mono ?_
      rintro e w2 ⟨Pn, rfl, -, b2⟩
      have b3 := bch b2 (below_alloc_ w2 (.cells #[.int .u64 0, .int .u64 0, .slice Pn 0 0] 25))
      have ka := Blk.new w2 25 #[.int .u64 0, .int .u64 0, .slice Pn 0 0]
      have s0 := P0.out.below b3 P0.out.lt
      have s2 := P2.out.below b3 P2.out.lt
      have VS := Lib.hid (show VoidS (w.heap.size + 2) w.heap.size w2.heap.size 1 (.pointer (some ⟨w.heap.size + 1, 0, none⟩)) (.slice A n c) (.slice Pn 0 0) t v (w2.alloc (.cells #[.int .u64 0, .int .u64 0, .slice Pn 0 0] 25)).drew from
        ⟨by show (w2.alloc _).cell? _ = _; rw [s2.cell]; rfl, by show (w2.alloc _).cell? _ = _; rw [s0.cell]; rfl, by show (w2.alloc _).cell? _ = _; rw [s0.cell]; rfl, by show (w2.alloc _).cell? _ = _; rw [s0.cell]; rfl, by show (w2.alloc _).cell? _ = _; rw [ka.cell]; rfl, by show (w2.alloc _).cell? _ = _; rw [ka.cell]; rfl, by show (w2.alloc _).cell? _ = _; rw [ka.cell]; rfl⟩)
      have Q1 := Lib.hid (P1.out.below b3 P1.out.lt)
      have BX := Lib.hid (BB.out.trans (b3.mono BB.out.size))
      clear b3 b2 ka s0 s2 a0 a1
      go_wp2_with fail
      go_region_held3 (fun w' => w'.cell? ⟨w.heap.size + 2, 1, none⟩ = some (.pointer (some ⟨w.heap.size + 1, 0, none⟩)) ∧ w'.cell? ⟨w.heap.size, 0, none⟩ = some (.int .u64 t) ∧ w'.cell? ⟨w.heap.size, 1, none⟩ = some (.int .u64 v) ∧ w'.cell? ⟨w.heap.size, 2, none⟩ = some (.slice A n c) ∧
          w'.cell? ⟨w2.heap.size, 0, none⟩ = some (.int .u64 0) ∧ w'.cell? ⟨w2.heap.size, 1, none⟩ = some (.int .u64 0) ∧ w'.cell? ⟨w2.heap.size, 2, none⟩ = some (.slice Pn 0 0)) (first
        | exact VS.out.below b4
        | exact VS.out
        | fail)
        (first
        | (go_at_call 10; refine (aset_none (w.heap.size + 1) 0 0 t v (.slice none 0 0) A n c false _ Q1.out.drew).mono ?_; rintro e w4 ⟨rfl, b4⟩))
      have BY := Lib.hid (BX.out.trans (((Below.refl _ _).drew.trans b4).mono BX.out.size))
      clear b4
      go_wp2
      go_roundg 0
      case measure => have := G.out; omega
      case rel => exact ⟨2, by omega, rfl, by go_num, BY.out⟩
    | 2, _ =>
      go_wp2_with fail
      have bw := B1.out.trans (BB.out.mono B1.out.size)
      refine (alives _ (TT.out.below bw)).mono ?_
      rintro e w3 ⟨rfl, b3⟩
      have BW := Lib.hid (bw.trans (b3.mono bw.size))
      clear b3 bw
      go_wp2
      go_ret
      exact ⟨rfl, BW.out⟩
end Go.Proofs.YtglghlfmjokgdaaDoor
