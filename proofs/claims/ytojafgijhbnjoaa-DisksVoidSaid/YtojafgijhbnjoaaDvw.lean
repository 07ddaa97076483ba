/- DisksVoid: walk. -/
import Derived.Test.YtojafgijhbnjoaaDskV
import Derived.Test.YtojafgijhbnjoaaDlv
namespace Go.Proofs.Ytojafgijhbnjoaa
open Go.RowKit
attribute [local go_sem ↓] Go.wp_at_zero Go.wp_at_succ

/-- What the rounds stand on. -/
structure DGr (w wr : World) (kd n : Int) (nm : ByteArray) (PB PL : Option Addr) (nb cb nl cl : Nat) : Prop where
  act : Blk wr w.heap.size 43 #[.int .u8 kd, .string nm, .slice PB nb cb, .int .i64 n, .slice PL nl cl]
  none_ : Blk wr (w.heap.size + 1) 47 #[.map none, .int .i64 0, .bool false]
  l : Blk wr (w.heap.size + 1 + 1) 23 #[.pointer none, .pointer (some ⟨w.heap.size + 1, 0, none⟩)]
  bel : Below w.heap.size w wr
theorem DGr.below {w wr w2 : World} {kd n : Int} {nm : ByteArray} {PB PL : Option Addr} {nb cb nl cl : Nat} (h : DGr w wr kd n nm PB PL nb cb nl cl) (hb : Below wr.heap.size wr w2) : DGr w w2 kd n nm PB PL nb cb nl cl :=
  ⟨h.act.below hb h.act.lt, h.none_.below hb h.none_.lt, h.l.below hb h.l.lt, h.bel.trans (hb.mono h.bel.size)⟩
theorem DGr.facts {w wr : World} {kd n : Int} {nm : ByteArray} {PB PL : Option Addr} {nb cb nl cl : Nat} (h : DGr w wr kd n nm PB PL nb cb nl cl) :
    wr.cell? ⟨w.heap.size, 1, none⟩ = some (.string nm) ∧ wr.cell? ⟨w.heap.size, 2, none⟩ = some (.slice PB nb cb) ∧ wr.cell? ⟨w.heap.size, 3, none⟩ = some (.int .i64 n) ∧ wr.cell? ⟨w.heap.size, 4, none⟩ = some (.slice PL nl cl) :=
  ⟨(h.act.cell 1).trans (by simp), (h.act.cell 2).trans (by simp), (h.act.cell 3).trans (by simp), (h.act.cell 4).trans (by simp)⟩
theorem DGr.at_ {w wr : World} {kd n : Int} {nm : ByteArray} {PB PL : Option Addr} {nb cb nl cl : Nat} (h : DGr w wr kd n nm PB PL nb cb nl cl) (k : Nat) (hk : k < 2) :
    ∃ p, wr.cell? ⟨w.heap.size + 1 + 1, k, none⟩ = some (.pointer p) ∧ Void wr p := by
  match k, hk with
  | 0, _ => exact ⟨none, (h.l.cell 0).trans (by simp), .inl rfl⟩
  | 1, _ => exact ⟨_, (h.l.cell 1).trans (by simp), .inr ⟨_, rfl, (h.none_.cell 0).trans (by simp)⟩⟩

set_option maxHeartbeats 4000000 in
set_option maxRecDepth 100000 in
theorem dvoid_walk (kd n : Int) (nm : ByteArray) (PB PL : Option Addr) (nb cb nl cl : Nat) (hnb : nb ≤ 9223372036854775807) (w : World) :
    Calls Try.prog 5 #[.agg #[.int .u8 kd, .string nm, .slice PB nb cb, .int .i64 n, .slice PL nl cl]] w fun e w' => e = .returned (.bool true) ∧ Below w.heap.size w w' := by
  go_enter Try.func5, Try.ntmps5
  go_wp2
  go_loopg [5] 2 (fun g i wr => ∃ k : Nat, k ≤ 2 ∧ g = 2 - k ∧ i = .int .i64 k ∧ DGr w wr kd n nm PB PL nb cb nl cl)
  case atStart =>
    refine ⟨0, by omega, rfl, rfl, ?_⟩
    have e1 := ((Blk.new w 43 #[.int .u8 kd, .string nm, .slice PB nb cb, .int .i64 n, .slice PL nl cl]).alloc (.cells #[.map none, .int .i64 0, .bool false] 47)).alloc (.cells #[.pointer none, .pointer (some ⟨w.heap.size + 1, 0, none⟩)] 23)
    have e2 := (Blk.new (w.alloc (.cells #[.int .u8 kd, .string nm, .slice PB nb cb, .int .i64 n, .slice PL nl cl] 43)) 47 #[.map none, .int .i64 0, .bool false]).alloc (.cells #[.pointer none, .pointer (some ⟨w.heap.size + 1, 0, none⟩)] 23)
    have e3 := Blk.new ((w.alloc (.cells #[.int .u8 kd, .string nm, .slice PB nb cb, .int .i64 n, .slice PL nl cl] 43)).alloc (.cells #[.map none, .int .i64 0, .bool false] 47)) 23 #[.pointer none, .pointer (some ⟨w.heap.size + 1, 0, none⟩)]
    simp only [World.size_alloc] at e2 e3
    exact ⟨e1, e2, e3, below_alloc3_ _ _ _ _⟩
  case round =>
    obtain ⟨k, hk, hg, rfl, hG⟩ := hrel
    have Hg := Lib.hid hg
    clear hg
    have HG := Lib.hid hG
    by_cases hk2 : k < 2
    · obtain ⟨p, hp, hv⟩ := hG.at_ k hk2
      obtain ⟨a1, a2, a3, a4⟩ := hG.facts
      have HV := Lib.hid hv
      clear hv hG
      go_wp2_with fail
      refine (read_void _ _ _ HV.out).mono ?_
      rintro e w1 ⟨rfl, rfl⟩
      go_wp2_with fail
      refine (fuse_void _ _ _ HV.out).mono ?_
      rintro e w1 ⟨rfl, rfl⟩
      go_wp2_with fail
      refine (lift_void _ _ _ HV.out).mono ?_
      rintro e w1 ⟨rfl, rfl⟩
      go_wp2_with fail
      refine (add_void _ _ _ _ _ hnb _ HV.out).mono ?_
      rintro e w1 ⟨rfl, hb⟩
      have G1 := Lib.hid (HG.out.below hb)
      have V1 := Lib.hid (HV.out.below hb)
      clear hb a1 a2 a3 a4 hp
      obtain ⟨a1, a2, a3, a4⟩ := G1.out.facts
      go_wp2_with fail
      refine (sure_void _ _ _ V1.out).mono ?_
      rintro e w2 ⟨rfl, rfl⟩
      go_wp2_with fail
      refine (put_void _ _ _ _ _ _ V1.out).mono ?_
      rintro e w2 ⟨rfl, hb⟩
      have G2 := Lib.hid (G1.out.below hb)
      have V2 := Lib.hid (V1.out.below hb)
      clear hb a1 a2 a3 a4
      obtain ⟨a1, a2, a3, a4⟩ := G2.out.facts
      go_wp2_with fail
      refine (drop_void _ _ _ V2.out).mono ?_
      rintro e w3 ⟨rfl, hb⟩
      have G3 := Lib.hid (G2.out.below hb)
      have V3 := Lib.hid (V2.out.below hb)
      clear hb a1 a2 a3 a4
      go_wp2_with fail
      refine (dead_void _ _ V3.out).mono ?_
      rintro e w4 ⟨rfl, rfl⟩
      go_wp2_with fail
      refine (names_void _ _ V3.out).mono ?_
      rintro e w4 ⟨rfl, rfl⟩
      go_wp2
      go_roundg (2 - (k + 1))
      case measure => have := Hg.out; omega
      case rel => exact ⟨k + 1, by omega, rfl, by go_num, G3.out⟩
    · obtain rfl : k = 2 := by omega
      go_wp2_with fail
      refine (dlives _).mono ?_
      rintro e w' ⟨rfl, hb⟩
      go_wp2
      go_ret
      exact ⟨rfl, HG.out.bel.trans (hb.mono HG.out.bel.size)⟩
end Go.Proofs.Ytojafgijhbnjoaa
