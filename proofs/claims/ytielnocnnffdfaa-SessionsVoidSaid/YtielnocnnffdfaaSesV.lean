/- SessionsVoid: walk. -/
import Derived.Test.YtielnocnnffdfaaSesA
import Derived.Deep.RegionHeld3
import Derived.Deep.DrawnRows
import Derived.Deep.DeepCutAuto
import Derived.Deep.LoopGhost
namespace Go.Proofs.Ytielnocnnffdfaa
open Go.RowKit
attribute [local go_sem ↓] Go.wp_at_zero Go.wp_at_succ

theorem Void.below {w w' : World} {p : Option Addr} (h : Void w p) (hb : Below w.heap.size w w') : Void w' p :=
  h.imp id fun ⟨b, e, hc⟩ => ⟨b, e, (hb.cell (block_lt_of_cell hc)).trans hc⟩
theorem Void.alloc {w : World} {p : Option Addr} (h : Void w p) (o : Obj) : Void (w.alloc o) p := h.below ((Below.refl _ _).alloc (Nat.le_refl _) o)

/-- What the loop's rounds stand on. -/
def Ground (c n : Int) (x0 x1 x2 : Value) (w wr : World) : Prop :=
  (wr.cell? ⟨w.heap.size + 1 + 1, 0, none⟩ = some (.pointer none) ∧ wr.cell? ⟨w.heap.size + 1 + 1, 1, none⟩ = some (.pointer (some ⟨w.heap.size + 1, 0, none⟩)) ∧ wr.cell? ⟨w.heap.size + 1, 32, none⟩ = some (.bool false)) ∧
  wr.cell? ⟨w.heap.size, 1, none⟩ = some (.int .u8 c) ∧ wr.cell? ⟨w.heap.size, 2, none⟩ = some (.int .u64 n) ∧
  (wr.cell? ⟨w.heap.size, 3, none⟩ = some x0 ∧ wr.cell? ⟨w.heap.size, 4, none⟩ = some x1 ∧ wr.cell? ⟨w.heap.size, 5, none⟩ = some x2) ∧ Below w.heap.size w wr ∧ w.heap.size + 3 ≤ wr.heap.size
theorem Ground.at_ {c n : Int} {x0 x1 x2 : Value} {w wr : World} (h : Ground c n x0 x1 x2 w wr) (k : Nat) (hk : k < 2) : ∃ p, wr.cell? ⟨w.heap.size + 1 + 1, k, none⟩ = some (.pointer p) ∧ Void wr p := by
  obtain ⟨⟨h0, h1, h2⟩, _⟩ := h
  match k, hk with
  | 0, _ => exact ⟨none, h0, .inl rfl⟩
  | 1, _ => exact ⟨_, h1, .inr ⟨_, rfl, h2⟩⟩
theorem Ground.below {c n : Int} {x0 x1 x2 : Value} {w wr w2 : World} (h : Ground c n x0 x1 x2 w wr) (hb : Below (w.heap.size + 3) wr w2) : Ground c n x0 x1 x2 w w2 := by
  obtain ⟨⟨a0, a1, a2⟩, b1, b2, ⟨c0, c1, c2⟩, hB, hs⟩ := h
  exact ⟨⟨(hb.cell (by simp)).trans a0, (hb.cell (by simp)).trans a1, (hb.cell (by simp)).trans a2⟩, (hb.cell (by simp)).trans b1, (hb.cell (by simp)).trans b2,
    ⟨(hb.cell (by simp)).trans c0, (hb.cell (by simp)).trans c1, (hb.cell (by simp)).trans c2⟩, hB.trans (hb.mono (by omega)), Nat.le_trans hs hb.size⟩

set_option maxHeartbeats 4000000 in
set_option maxRecDepth 100000 in
theorem void_walk (hlives : ∀ w, Calls Try.prog 13 #[] w fun e w' => e = .returned (.bool true) ∧ Below w.heap.size w w') (N : Bool) (c n : Int) (x0 x1 x2 : Value) (w : World) :
    Calls Try.prog 4 #[.agg #[.bool N, .int .u8 c, .int .u64 n, x0, x1, x2]] w fun e w' => e = .returned (.bool true) ∧ Below w.heap.size w w' := by
  have HL := Lib.hid hlives
  clear hlives
  go_enter Try.func4, Try.ntmps4
  go_wp2
  go_loopg [5] 2 (fun g i wr => ∃ k : Nat, k ≤ 2 ∧ g = 2 - k ∧ i = .int .i64 k ∧ Ground c n x0 x1 x2 w wr)
  case atStart =>
    refine ⟨0, by omega, rfl, rfl, ?_⟩
    have e1 := ((Blk.new w 38 #[.bool N, .int .u8 c, .int .u64 n, x0, x1, x2]).alloc (.cells #[.int .u64 0, .int .i64 0, .int .i64 0, .slice none 0 0, .int .u64 0, .int .i64 0, .int .i64 0, .slice none 0 0, .int .u64 0, .int .i64 0, .int .i64 0, .slice none 0 0, .int .u64 0, .int .i64 0, .int .i64 0, .slice none 0 0, .int .u64 0, .int .i64 0, .int .i64 0, .slice none 0 0, .int .u64 0, .int .i64 0, .int .i64 0, .slice none 0 0, .int .u64 0, .int .i64 0, .int .i64 0, .slice none 0 0, .int .u64 0, .int .i64 0, .int .i64 0, .slice none 0 0, .bool false] 58)).alloc (.cells #[.pointer none, .pointer (some ⟨w.heap.size + 1, 0, none⟩)] 25)
    have e2 := (Blk.new (w.alloc (.cells #[.bool N, .int .u8 c, .int .u64 n, x0, x1, x2] 38)) 58 #[.int .u64 0, .int .i64 0, .int .i64 0, .slice none 0 0, .int .u64 0, .int .i64 0, .int .i64 0, .slice none 0 0, .int .u64 0, .int .i64 0, .int .i64 0, .slice none 0 0, .int .u64 0, .int .i64 0, .int .i64 0, .slice none 0 0, .int .u64 0, .int .i64 0, .int .i64 0, .slice none 0 0, .int .u64 0, .int .i64 0, .int .i64 0, .slice none 0 0, .int .u64 0, .int .i64 0, .int .i64 0, .slice none 0 0, .int .u64 0, .int .i64 0, .int .i64 0, .slice none 0 0, .bool false]).alloc (.cells #[.pointer none, .pointer (some ⟨w.heap.size + 1, 0, none⟩)] 25)
    have e3 := Blk.new ((w.alloc (.cells #[.bool N, .int .u8 c, .int .u64 n, x0, x1, x2] 38)).alloc (.cells #[.int .u64 0, .int .i64 0, .int .i64 0, .slice none 0 0, .int .u64 0, .int .i64 0, .int .i64 0, .slice none 0 0, .int .u64 0, .int .i64 0, .int .i64 0, .slice none 0 0, .int .u64 0, .int .i64 0, .int .i64 0, .slice none 0 0, .int .u64 0, .int .i64 0, .int .i64 0, .slice none 0 0, .int .u64 0, .int .i64 0, .int .i64 0, .slice none 0 0, .int .u64 0, .int .i64 0, .int .i64 0, .slice none 0 0, .int .u64 0, .int .i64 0, .int .i64 0, .slice none 0 0, .bool false] 58)) 25 #[.pointer none, .pointer (some ⟨w.heap.size + 1, 0, none⟩)]
    simp only [World.size_alloc] at e2 e3
    exact ⟨⟨e3.cell 0, e3.cell 1, e2.cell 32⟩, e1.cell 1, e1.cell 2, ⟨e1.cell 3, e1.cell 4, e1.cell 5⟩, below_alloc3_ _ _ _ _, by simp⟩
  case round =>
    obtain ⟨k, hk, hg, rfl, hG⟩ := hrel
    have Hg := Lib.hid hg
    clear hg
    have HG := Lib.hid hG
    by_cases hk2 : k < 2
    · obtain ⟨p, hp, hv⟩ := hG.at_ k hk2
      have hc1 := hG.2.1
      have hc2 := hG.2.2.1
      have HV := Lib.hid hv
      clear hv hG
      go_upto_region 6 with fail
      go_cut [6, 7, 8] (fun s6 s7 s8 wx => ∃ rb : Nat, s6 = .pointer (some ⟨rb, 0, none⟩) ∧ s7 = .bool false ∧ s8 = .int .i64 2 ∧ wr.heap.size ≤ rb ∧ Blk wx rb 33 #[.int .i64 0, .int .i64 0, .slice none 0 0] ∧ Below wr.heap.size wr wx)
      case first =>
        go_region_held3 (fun w' => w'.cell? ⟨w.heap.size + 1 + 1, k, none⟩ = some (.pointer p) ∧ w'.cell? ⟨w.heap.size, 1, none⟩ = some (.int .u8 c) ∧ w'.cell? ⟨w.heap.size, 2, none⟩ = some (.int .u64 n)) (first | go_keep)
          (first | (go_at_call 20; refine (ask_void _ _ _ _ (by first | exact HV.out | exact HV.out.alloc _)).mono ?_; rintro e w' ⟨rfl, rfl⟩))
        all_goals go_wp2_with fail
        all_goals go_meet
        all_goals have hbb : Below wr.heap.size wr ((wr.alloc (.cells #[.int .i64 0, .int .i64 0, .slice none 0 0] 33)).alloc (.cells #[.int .i64 0, .int .i64 0, .slice none 0 0] 33)).drew := ((below_alloc_ _ _).alloc (by simp) _).drew
        · exact ⟨wr.heap.size + 1, rfl, rfl, rfl, by omega, heap_alloc2_new _ _ _, hbb⟩
        · exact ⟨wr.heap.size, rfl, rfl, rfl, by omega, heap_alloc2_old _ _ _, hbb⟩
      case rest =>
        obtain ⟨rb, rfl, rfl, rfl, hrb, hR, hbb⟩ := hcut
        have HG2 := Lib.hid (HG.out.below (hbb.mono HG.out.2.2.2.2.2))
        have HV2 := Lib.hid (HV.out.below hbb)
        have q0 := (hbb.cell (p := ⟨w.heap.size + 1 + 1, k, none⟩) (by have := HG.out.2.2.2.2.2; simp; omega)).trans hp
        have q1 := HG2.out.2.1
        have q2 := HG2.out.2.2.1
        have q3 := HG2.out.2.2.2.1.1
        have q4 := HG2.out.2.2.2.1.2.1
        have q5 := HG2.out.2.2.2.1.2.2
        have r0 := hR.cell 0
        have r1 := hR.cell 1
        have r2 := hR.cell 2
        simp at r0 r1 r2
        have HBB := Lib.hid hbb
        have hrb2 := hR.lt
        have hsz2 := HG2.out.2.2.2.2.2
        have L0 : w.heap.size + 1 + 1 < wc.heap.size := by omega
        have L1 : w.heap.size < wc.heap.size := by omega
        have K3 := Lib.hid (show ∀ a b d : Obj, (fun w' : World => w'.cell? ⟨w.heap.size + 1 + 1, k, none⟩ = some (.pointer p) ∧ w'.cell? ⟨w.heap.size, 1, none⟩ = some (.int .u8 c) ∧ w'.cell? ⟨w.heap.size, 2, none⟩ = some (.int .u64 n) ∧ w'.cell? ⟨w.heap.size, 3, none⟩ = some x0 ∧ w'.cell? ⟨w.heap.size, 4, none⟩ = some x1 ∧ w'.cell? ⟨w.heap.size, 5, none⟩ = some x2 ∧ w'.cell? ⟨rb, 0, none⟩ = some (.int .i64 0) ∧ w'.cell? ⟨rb, 1, none⟩ = some (.int .i64 0) ∧ w'.cell? ⟨rb, 2, none⟩ = some (.slice none 0 0)) (((wc.alloc a).alloc b).alloc d).drew from fun a b d => by
          have K := (below_alloc3_ wc a b d).drew
          exact ⟨cell_on K (by exact L0) q0, cell_on K (by exact L1) q1, cell_on K (by exact L1) q2, cell_on K (by exact L1) q3, cell_on K (by exact L1) q4, cell_on K (by exact L1) q5, cell_on K (by exact hrb2) r0, cell_on K (by exact hrb2) r1, cell_on K (by exact hrb2) r2⟩)
        clear hR hbb hp hc1 hc2
        go_wp2_with fail
        go_region_held3 (fun w' => w'.cell? ⟨w.heap.size + 1 + 1, k, none⟩ = some (.pointer p) ∧ w'.cell? ⟨w.heap.size, 1, none⟩ = some (.int .u8 c) ∧ w'.cell? ⟨w.heap.size, 2, none⟩ = some (.int .u64 n) ∧ w'.cell? ⟨w.heap.size, 3, none⟩ = some x0 ∧ w'.cell? ⟨w.heap.size, 4, none⟩ = some x1 ∧ w'.cell? ⟨w.heap.size, 5, none⟩ = some x2 ∧ w'.cell? ⟨rb, 0, none⟩ = some (.int .i64 0) ∧ w'.cell? ⟨rb, 1, none⟩ = some (.int .i64 0) ∧ w'.cell? ⟨rb, 2, none⟩ = some (.slice none 0 0)) (first | (with_reducible exact K3.out _ _ _) | go_keep)
          (first
            | (go_at_call 19; refine (last_void _ _ _ (by exact HV2.out)).mono ?_; rintro e w' ⟨rfl, rfl⟩)
            | (go_at_call 17; refine (samereply_none _).mono ?_; rintro e w' ⟨rfl, rfl⟩)
            | (go_at_call 15; refine (note_void _ _ _ _ _ _ _ (by exact (HV2.out.alloc _).alloc _)).mono ?_; rintro e w' ⟨rfl, rfl⟩)
            | (go_at_call 24; refine (put_void _ _ (by exact ((HV2.out.alloc _).alloc _).alloc _)).mono ?_; rintro e w' ⟨rfl, rfl⟩))
        go_wp2
        go_roundg (2 - (k + 1))
        case measure => have := Hg.out; omega
        case rel => exact ⟨k + 1, by omega, rfl, by go_num, HG2.out.below (((below_alloc3_ wc _ _ _).drew).mono HG2.out.2.2.2.2.2)⟩
    · obtain rfl : k = 2 := by omega
      go_wp2_with (fail)
      refine (HL.out _).mono ?_
      rintro e w' ⟨rfl, hb⟩
      go_wp2
      go_ret
      exact ⟨rfl, HG.out.2.2.2.2.1.trans (hb.mono HG.out.2.2.2.2.1.size)⟩
end Go.Proofs.Ytielnocnnffdfaa
