/- Letters: the parts of a letter, put. -/
import Derived.Test.YthjdkjinkmdclaaGreatLpe
namespace Go.Proofs.YthjdkjinkmdclaaGreat
open Go.RowKit

/-- A letter's cells. -/
def letC (L : Lt) (ve vd vs vg : Value) : Array Value :=
  #[.int .u8 L.kind, .int .u8 L.src, .int .u8 L.dst, .int .u64 L.term, .int .u64 L.index, .int .u64 L.mark, .int .u64 L.commit, .bool L.yes, ve, vd, .int .u8 L.cl, .int .u64 L.num, vs, .int .i64 L.e, .int .i64 L.re, .int .i64 L.ra, vg]
/-- A cell of the letter is set. -/
theorem Lp.lset {W0 w : World} {p l : Nat} {cs : Array Value} {xs : List Int} {bad : Bool} (h : Lp W0 w p l cs xs bad) (i : Nat) (u : Value) : Lp W0 (w.setCell ⟨l, i, none⟩ u) p l (cs.setIfInBounds i u) xs bad := by
  obtain ⟨v, hk, hf⟩ := h.ex
  exact ⟨⟨v, hk.far (p := ⟨l, i, none⟩) h.ne.symm u, ⟨Ow.aside hf.own h.lb (by decide) i u, hf.bel.setCell h.l0 _, by have := hf.le; simpa [World.setCell] using this⟩⟩, h.lb.set_ i u, h.p0, h.l0⟩
theorem pm_num (p : Nat) : ∀ W, (method 306 65 (.pointer (some ⟨p, 0, none⟩)) "countinghouse/letters.num").run Tryz.prog W = .ok (88, .pointer (some ⟨p, 0, none⟩)) W := fun _ => by kernel_rfl
theorem pn_num (p : Nat) : ∀ W, (nilAhead 306 65 (.pointer (some ⟨p, 0, none⟩)) "countinghouse/letters.num").run Tryz.prog W = .ok (some false) W := fun _ => by kernel_rfl
theorem pm_one (p : Nat) : ∀ W, (method 306 65 (.pointer (some ⟨p, 0, none⟩)) "countinghouse/letters.one").run Tryz.prog W = .ok (89, .pointer (some ⟨p, 0, none⟩)) W := fun _ => by kernel_rfl
theorem pn_one (p : Nat) : ∀ W, (nilAhead 306 65 (.pointer (some ⟨p, 0, none⟩)) "countinghouse/letters.one").run Tryz.prog W = .ok (some false) W := fun _ => by kernel_rfl
theorem pm_yes (p : Nat) : ∀ W, (method 306 65 (.pointer (some ⟨p, 0, none⟩)) "countinghouse/letters.yes").run Tryz.prog W = .ok (92, .pointer (some ⟨p, 0, none⟩)) W := fun _ => by kernel_rfl
theorem pn_yes (p : Nat) : ∀ W, (nilAhead 306 65 (.pointer (some ⟨p, 0, none⟩)) "countinghouse/letters.yes").run Tryz.prog W = .ok (some false) W := fun _ => by kernel_rfl
theorem pm_text (p : Nat) : ∀ W, (method 306 65 (.pointer (some ⟨p, 0, none⟩)) "countinghouse/letters.text").run Tryz.prog W = .ok (91, .pointer (some ⟨p, 0, none⟩)) W := fun _ => by kernel_rfl
theorem pn_text (p : Nat) : ∀ W, (nilAhead 306 65 (.pointer (some ⟨p, 0, none⟩)) "countinghouse/letters.text").run Tryz.prog W = .ok (some false) W := fun _ => by kernel_rfl
theorem pm_entries (p : Nat) : ∀ W, (method 306 65 (.pointer (some ⟨p, 0, none⟩)) "countinghouse/letters.entries").run Tryz.prog W = .ok (87, .pointer (some ⟨p, 0, none⟩)) W := fun _ => by kernel_rfl
theorem pn_entries (p : Nat) : ∀ W, (nilAhead 306 65 (.pointer (some ⟨p, 0, none⟩)) "countinghouse/letters.entries").run Tryz.prog W = .ok (some false) W := fun _ => by kernel_rfl
theorem pm_command (p : Nat) : ∀ W, (method 306 65 (.pointer (some ⟨p, 0, none⟩)) "countinghouse/letters.command").run Tryz.prog W = .ok (86, .pointer (some ⟨p, 0, none⟩)) W := fun _ => by kernel_rfl
theorem pn_command (p : Nat) : ∀ W, (nilAhead 306 65 (.pointer (some ⟨p, 0, none⟩)) "countinghouse/letters.command").run Tryz.prog W = .ok (some false) W := fun _ => by kernel_rfl
theorem pm_reply (p : Nat) : ∀ W, (method 306 65 (.pointer (some ⟨p, 0, none⟩)) "countinghouse/letters.reply").run Tryz.prog W = .ok (90, .pointer (some ⟨p, 0, none⟩)) W := fun _ => by kernel_rfl
theorem pn_reply (p : Nat) : ∀ W, (nilAhead 306 65 (.pointer (some ⟨p, 0, none⟩)) "countinghouse/letters.reply").run Tryz.prog W = .ok (some false) W := fun _ => by kernel_rfl
/-- What a letter's fields read as, in the world W0, and that they are small enough. -/
structure Lw (W0 : World) (L : Lt) (ve vd vs vg : Value) : Prop where
  es : Ents W0 ve L.es
  data : Bs W0 vd L.data
  steps : Steps W0 vs L.steps
  gots : Gots W0 vg L.gots
  ok : LtOk L
  e6 : L.es.length ≤ 1000
  s6 : ∀ e ∈ L.es, e.2.length ≤ 1000000
  d6 : L.data.length ≤ 1000000
  t6 : L.steps.length ≤ 1000000
  g6 : L.gots.length ≤ 1000000

set_option maxHeartbeats 2000000 in
set_option maxRecDepth 100000 in
theorem pp_index {W0 w : World} {p l : Nat} {L : Lt} {ve vd vs vg : Value} {xs : List Int} {bad : Bool} (h : Lp W0 w p l (letC L ve vd vs vg) xs bad) (hw : Lw W0 L ve vd vs vg) (hl : xs.length ≤ 1000000000) :
    Calls Tryz.prog 57 #[.iface 65 (.pointer (some ⟨p, 0, none⟩)), .pointer (some ⟨l, 0, none⟩)] w fun e w' => e = .returned (.tuple #[]) ∧ Lp W0 w' p l (letC L ve vd vs vg) (xs ++ (putPc L .index).1) (bad || (putPc L .index).2) ∧ Ks w w' p := by
  have hm := pm_num p
  have hn := pn_num p
  obtain ⟨hx1, hx2⟩ := toNat_u64 hw.ok.index
  have c0 : w.cell? ⟨l, 4, none⟩ = some (.int .u64 (L.index.toNat : Int)) := by rw [h.lb.cell, hx2]; rfl
  have CN := Lib.hid (lnum_any h.drew l 4 _ c0 hx1 (by omega))
  clear hx1 hx2
  clear h hw c0
  go_enter Tryz.func57, Tryz.ntmps57
  go_wp2_with fail
  go_region_law (go_simp; go_at_call 88; refine CN.out.mono ?_; rintro e w' ⟨rfl, h1, k1⟩)
  all_goals
    refine bodyPost_end (results_none rfl _ _ _) rfl ⟨rfl, ?_, (Ks.drew w p).trans k1⟩
    rw [show (bad || (putPc L .index).2) = bad from Bool.or_false _]
    exact h1
set_option maxHeartbeats 2000000 in
set_option maxRecDepth 100000 in
theorem pp_mark {W0 w : World} {p l : Nat} {L : Lt} {ve vd vs vg : Value} {xs : List Int} {bad : Bool} (h : Lp W0 w p l (letC L ve vd vs vg) xs bad) (hw : Lw W0 L ve vd vs vg) (hl : xs.length ≤ 1000000000) :
    Calls Tryz.prog 58 #[.iface 65 (.pointer (some ⟨p, 0, none⟩)), .pointer (some ⟨l, 0, none⟩)] w fun e w' => e = .returned (.tuple #[]) ∧ Lp W0 w' p l (letC L ve vd vs vg) (xs ++ (putPc L .mark).1) (bad || (putPc L .mark).2) ∧ Ks w w' p := by
  have hm := pm_num p
  have hn := pn_num p
  obtain ⟨hx1, hx2⟩ := toNat_u64 hw.ok.mark
  have c0 : w.cell? ⟨l, 5, none⟩ = some (.int .u64 (L.mark.toNat : Int)) := by rw [h.lb.cell, hx2]; rfl
  have CN := Lib.hid (lnum_any h.drew l 5 _ c0 hx1 (by omega))
  clear hx1 hx2
  clear h hw c0
  go_enter Tryz.func58, Tryz.ntmps58
  go_wp2_with fail
  go_region_law (go_simp; go_at_call 88; refine CN.out.mono ?_; rintro e w' ⟨rfl, h1, k1⟩)
  all_goals
    refine bodyPost_end (results_none rfl _ _ _) rfl ⟨rfl, ?_, (Ks.drew w p).trans k1⟩
    rw [show (bad || (putPc L .mark).2) = bad from Bool.or_false _]
    exact h1
set_option maxHeartbeats 2000000 in
set_option maxRecDepth 100000 in
theorem pp_commit {W0 w : World} {p l : Nat} {L : Lt} {ve vd vs vg : Value} {xs : List Int} {bad : Bool} (h : Lp W0 w p l (letC L ve vd vs vg) xs bad) (hw : Lw W0 L ve vd vs vg) (hl : xs.length ≤ 1000000000) :
    Calls Tryz.prog 60 #[.iface 65 (.pointer (some ⟨p, 0, none⟩)), .pointer (some ⟨l, 0, none⟩)] w fun e w' => e = .returned (.tuple #[]) ∧ Lp W0 w' p l (letC L ve vd vs vg) (xs ++ (putPc L .commit).1) (bad || (putPc L .commit).2) ∧ Ks w w' p := by
  have hm := pm_num p
  have hn := pn_num p
  obtain ⟨hx1, hx2⟩ := toNat_u64 hw.ok.commit
  have c0 : w.cell? ⟨l, 6, none⟩ = some (.int .u64 (L.commit.toNat : Int)) := by rw [h.lb.cell, hx2]; rfl
  have CN := Lib.hid (lnum_any h.drew l 6 _ c0 hx1 (by omega))
  clear hx1 hx2
  clear h hw c0
  go_enter Tryz.func60, Tryz.ntmps60
  go_wp2_with fail
  go_region_law (go_simp; go_at_call 88; refine CN.out.mono ?_; rintro e w' ⟨rfl, h1, k1⟩)
  all_goals
    refine bodyPost_end (results_none rfl _ _ _) rfl ⟨rfl, ?_, (Ks.drew w p).trans k1⟩
    rw [show (bad || (putPc L .commit).2) = bad from Bool.or_false _]
    exact h1
set_option maxHeartbeats 2000000 in
set_option maxRecDepth 100000 in
theorem pp_num {W0 w : World} {p l : Nat} {L : Lt} {ve vd vs vg : Value} {xs : List Int} {bad : Bool} (h : Lp W0 w p l (letC L ve vd vs vg) xs bad) (hw : Lw W0 L ve vd vs vg) (hl : xs.length ≤ 1000000000) :
    Calls Tryz.prog 64 #[.iface 65 (.pointer (some ⟨p, 0, none⟩)), .pointer (some ⟨l, 0, none⟩)] w fun e w' => e = .returned (.tuple #[]) ∧ Lp W0 w' p l (letC L ve vd vs vg) (xs ++ (putPc L .num).1) (bad || (putPc L .num).2) ∧ Ks w w' p := by
  have hm := pm_num p
  have hn := pn_num p
  obtain ⟨hx1, hx2⟩ := toNat_u64 hw.ok.num
  have c0 : w.cell? ⟨l, 11, none⟩ = some (.int .u64 (L.num.toNat : Int)) := by rw [h.lb.cell, hx2]; rfl
  have CN := Lib.hid (lnum_any h.drew l 11 _ c0 hx1 (by omega))
  clear hx1 hx2
  clear h hw c0
  go_enter Tryz.func64, Tryz.ntmps64
  go_wp2_with fail
  go_region_law (go_simp; go_at_call 88; refine CN.out.mono ?_; rintro e w' ⟨rfl, h1, k1⟩)
  all_goals
    refine bodyPost_end (results_none rfl _ _ _) rfl ⟨rfl, ?_, (Ks.drew w p).trans k1⟩
    rw [show (bad || (putPc L .num).2) = bad from Bool.or_false _]
    exact h1
set_option maxHeartbeats 2000000 in
set_option maxRecDepth 100000 in
theorem pp_client {W0 w : World} {p l : Nat} {L : Lt} {ve vd vs vg : Value} {xs : List Int} {bad : Bool} (h : Lp W0 w p l (letC L ve vd vs vg) xs bad) (_hw : Lw W0 L ve vd vs vg) (hl : xs.length ≤ 1000000000) :
    Calls Tryz.prog 63 #[.iface 65 (.pointer (some ⟨p, 0, none⟩)), .pointer (some ⟨l, 0, none⟩)] w fun e w' => e = .returned (.tuple #[]) ∧ Lp W0 w' p l (letC L ve vd vs vg) (xs ++ (putPc L .client).1) (bad || (putPc L .client).2) ∧ Ks w w' p := by
  have hm := pm_one p
  have hn := pn_one p
  have c0 : w.cell? ⟨l, 10, none⟩ = some (.int .u8 L.cl) := by rw [h.lb.cell]; rfl
  have CN := Lib.hid (lone_any h.drew l 10 _ c0 (by omega))
  clear h c0
  go_enter Tryz.func63, Tryz.ntmps63
  go_wp2_with fail
  go_region_law (go_simp; go_at_call 89; refine CN.out.mono ?_; rintro e w' ⟨rfl, h1, k1⟩)
  all_goals
    refine bodyPost_end (results_none rfl _ _ _) rfl ⟨rfl, ?_, (Ks.drew w p).trans k1⟩
    rw [show (bad || (putPc L .client).2) = bad from Bool.or_false _]
    exact h1
set_option maxHeartbeats 2000000 in
set_option maxRecDepth 100000 in
theorem pp_yes {W0 w : World} {p l : Nat} {L : Lt} {ve vd vs vg : Value} {xs : List Int} {bad : Bool} (h : Lp W0 w p l (letC L ve vd vs vg) xs bad) (_hw : Lw W0 L ve vd vs vg) (hl : xs.length ≤ 1000000000) :
    Calls Tryz.prog 59 #[.iface 65 (.pointer (some ⟨p, 0, none⟩)), .pointer (some ⟨l, 0, none⟩)] w fun e w' => e = .returned (.tuple #[]) ∧ Lp W0 w' p l (letC L ve vd vs vg) (xs ++ (putPc L .yes).1) (bad || (putPc L .yes).2) ∧ Ks w w' p := by
  have hm := pm_yes p
  have hn := pn_yes p
  have c0 : w.cell? ⟨l, 7, none⟩ = some (.bool L.yes) := by rw [h.lb.cell]; rfl
  have CN := Lib.hid (lyes_any h.drew l 7 _ c0 (by omega))
  clear h c0
  go_enter Tryz.func59, Tryz.ntmps59
  go_wp2_with fail
  go_region_law (go_simp; go_at_call 92; refine CN.out.mono ?_; rintro e w' ⟨rfl, h1, k1⟩)
  all_goals
    refine bodyPost_end (results_none rfl _ _ _) rfl ⟨rfl, ?_, (Ks.drew w p).trans k1⟩
    rw [show (bad || (putPc L .yes).2) = bad from Bool.or_false _]
    exact h1
set_option maxHeartbeats 2000000 in
set_option maxRecDepth 100000 in
theorem pp_data {W0 w : World} {p l : Nat} {L : Lt} {ve vd vs vg : Value} {xs : List Int} {bad : Bool} (h : Lp W0 w p l (letC L ve vd vs vg) xs bad) (hw : Lw W0 L ve vd vs vg) (hl : xs.length ≤ 1000000000) :
    Calls Tryz.prog 62 #[.iface 65 (.pointer (some ⟨p, 0, none⟩)), .pointer (some ⟨l, 0, none⟩)] w fun e w' => e = .returned (.tuple #[]) ∧ Lp W0 w' p l (letC L ve vd vs vg) (xs ++ (putPc L .data).1) (bad || (putPc L .data).2) ∧ Ks w w' p := by
  have hm := pm_text p
  have hn := pn_text p
  have c0 : w.drew.cell? ⟨l, 9, none⟩ = some vd := by rw [h.drew.lb.cell]; rfl
  have CN := Lib.hid (ltext_any h.drew l 9 _ L.data h.ne c0 (hw.data.below h.drew.bel) (by omega) (by have := hw.d6; omega))
  clear h hw c0
  go_enter Tryz.func62, Tryz.ntmps62
  go_wp2_with fail
  go_region_law (go_simp; go_at_call 91; refine CN.out.mono ?_; rintro e w' ⟨rfl, h1, k1⟩)
  all_goals
    refine bodyPost_end (results_none rfl _ _ _) rfl ⟨rfl, ?_, (Ks.drew w p).trans k1⟩
    exact h1
set_option maxHeartbeats 2000000 in
set_option maxRecDepth 100000 in
theorem pp_entries {W0 w : World} {p l : Nat} {L : Lt} {ve vd vs vg : Value} {xs : List Int} {bad : Bool} (h : Lp W0 w p l (letC L ve vd vs vg) xs bad) (hw : Lw W0 L ve vd vs vg) (hl : xs.length ≤ 1000000000) :
    Calls Tryz.prog 61 #[.iface 65 (.pointer (some ⟨p, 0, none⟩)), .pointer (some ⟨l, 0, none⟩)] w fun e w' => e = .returned (.tuple #[]) ∧ Lp W0 w' p l (letC L ve vd vs vg) (xs ++ (putPc L .entries).1) (bad || (putPc L .entries).2) ∧ Ks w w' p := by
  have hm := pm_entries p
  have hn := pn_entries p
  have c0 : w.drew.cell? ⟨l, 8, none⟩ = some ve := by rw [h.drew.lb.cell]; rfl
  have CN := Lib.hid (lents_any h.drew l 8 _ L.es h.ne c0 hw.es (fun e he => ⟨hw.ok.es e he, hw.s6 e he⟩) (by have := hw.e6; omega) hl)
  clear h hw c0
  go_enter Tryz.func61, Tryz.ntmps61
  go_wp2_with fail
  go_region_law (go_simp; go_at_call 87; refine CN.out.mono ?_; rintro e w' ⟨rfl, h1, k1⟩)
  all_goals
    refine bodyPost_end (results_none rfl _ _ _) rfl ⟨rfl, ?_, (Ks.drew w p).trans k1⟩
    exact h1
set_option maxHeartbeats 2000000 in
set_option maxRecDepth 100000 in
theorem pp_command {W0 w : World} {p l : Nat} {L : Lt} {ve vd vs vg : Value} {xs : List Int} {bad : Bool} (h : Lp W0 w p l (letC L ve vd vs vg) xs bad) (hw : Lw W0 L ve vd vs vg) (hl : xs.length ≤ 1000000000) :
    Calls Tryz.prog 65 #[.iface 65 (.pointer (some ⟨p, 0, none⟩)), .pointer (some ⟨l, 0, none⟩)] w fun e w' => e = .returned (.tuple #[]) ∧ Lp W0 w' p l (letC L ve vd vs vg) (xs ++ (putPc L .command).1) (bad || (putPc L .command).2) ∧ Ks w w' p := by
  have hm := pm_command p
  have hn := pn_command p
  have c0 : w.drew.cell? ⟨l, 12, none⟩ = some vs := by rw [h.drew.lb.cell]; rfl
  have CN := Lib.hid (lcommand_any h.drew l 12 _ L.steps c0 (Rd.below hw.steps h.drew.bel) hw.ok.steps hw.t6 (by omega))
  clear h hw c0
  go_enter Tryz.func65, Tryz.ntmps65
  go_wp2_with fail
  go_region_law (go_simp; go_at_call 86; refine CN.out.mono ?_; rintro e w' ⟨rfl, h1, k1⟩)
  all_goals
    refine bodyPost_end (results_none rfl _ _ _) rfl ⟨rfl, ?_, (Ks.drew w p).trans k1⟩
    exact h1
set_option maxHeartbeats 2000000 in
set_option maxRecDepth 100000 in
theorem pp_reply {W0 w : World} {p l : Nat} {L : Lt} {ve vd vs vg : Value} {xs : List Int} {bad : Bool} (h : Lp W0 w p l (letC L ve vd vs vg) xs bad) (hw : Lw W0 L ve vd vs vg) (hl : xs.length ≤ 1000000000) :
    Calls Tryz.prog 67 #[.iface 65 (.pointer (some ⟨p, 0, none⟩)), .pointer (some ⟨l, 0, none⟩)] w fun e w' => e = .returned (.tuple #[]) ∧ Lp W0 w' p l (letC L ve vd vs vg) (xs ++ (putPc L .reply).1) (bad || (putPc L .reply).2) ∧ Ks w w' p := by
  have hm := pm_reply p
  have hn := pn_reply p
  have c0 : w.drew.cell? ⟨l, 14, none⟩ = some (.int .i64 L.re) := by rw [h.drew.lb.cell]; rfl
  have c1 : w.drew.cell? ⟨l, 14 + 1, none⟩ = some (.int .i64 L.ra) := by rw [h.drew.lb.cell]; rfl
  have c2 : w.drew.cell? ⟨l, 14 + 2, none⟩ = some vg := by rw [h.drew.lb.cell]; rfl
  have CN := Lib.hid (lreply_any h.drew l 14 _ _ _ L.gots c0 c1 c2 (Rd.below hw.gots h.drew.bel) hw.ok.re hw.ok.ra hw.ok.gots hw.g6 (by omega))
  clear c1 c2
  clear h hw c0
  go_enter Tryz.func67, Tryz.ntmps67
  go_wp2_with fail
  go_region_law (go_simp; go_at_call 90; refine CN.out.mono ?_; rintro e w' ⟨rfl, h1, k1⟩)
  all_goals
    refine bodyPost_end (results_none rfl _ _ _) rfl ⟨rfl, ?_, (Ks.drew w p).trans k1⟩
    exact h1
set_option maxHeartbeats 2000000 in
set_option maxRecDepth 100000 in
theorem pp_wrong {W0 w : World} {p l : Nat} {L : Lt} {ve vd vs vg : Value} {xs : List Int} {bad : Bool} (h : Lp W0 w p l (letC L ve vd vs vg) xs bad) (hw : Lw W0 L ve vd vs vg) (hl : xs.length ≤ 1000000000) :
    Calls Tryz.prog 66 #[.iface 65 (.pointer (some ⟨p, 0, none⟩)), .pointer (some ⟨l, 0, none⟩)] w fun e w' => e = .returned (.tuple #[]) ∧ Lp W0 w' p l (letC L ve vd vs vg) (xs ++ (putPc L .wrong).1) (bad || (putPc L .wrong).2) ∧ Ks w w' p := by
  have hm := pm_num p
  have hn := pn_num p
  have hx := hw.ok.e
  have x1 : IntKind.u64.wrap L.e = (uns L.e : Int) := by rw [IntKind.wrap_u64]; unfold uns; omega
  have x2 : IntKind.i64.wrap (uns L.e : Int) = L.e := wrap_uns hx
  have c0 : w.cell? ⟨l, 13, none⟩ = some (.int .i64 L.e) := by rw [h.lb.cell]; rfl
  obtain ⟨n, hne⟩ : ∃ n, n = uns L.e := ⟨_, rfl⟩
  obtain ⟨x, hxe⟩ : ∃ x, x = L.e := ⟨_, rfl⟩
  have k1 := Blk.new w 23 #[.int .u64 (uns L.e : Int)]
  have b1 := below_alloc_ w (.cells #[.int .u64 (uns L.e : Int)] 23)
  have CN := Lib.hid (lnum_any (h.below b1) w.heap.size 0 (uns L.e) ((k1.cell 0).trans rfl) (uns_lt _) (by omega))
  have K1 := Lib.hid k1
  obtain ⟨v, hkp, -⟩ := h.ex
  have hpl : w.heap.size ≠ p := by have := hkp.lt; omega
  have LN := Lib.hid h.ne
  have P0 := Lib.hid h.p0
  have L0 := Lib.hid h.l0
  have PX := Lib.hid (show (putPc L .wrong).1 = nb (uns L.e) from rfl)
  have PY := Lib.hid (show (putPc L .wrong).2 = false from rfl)
  have CX := Lib.hid (show (letC L ve vd vs vg).setIfInBounds 13 (.int .i64 L.e) = letC L ve vd vs vg by simp [letC])
  have C13 := Lib.hid (show (letC L ve vd vs vg)[13]? = some (.int .i64 L.e) from rfl)
  obtain ⟨cs, hcs⟩ : ∃ cs, cs = letC L ve vd vs vg := ⟨_, rfl⟩
  rw [← hcs] at CN CX C13 h ⊢
  rw [← hne] at x1 x2 CN K1 PX
  rw [← hxe] at x1 x2 c0 CX C13
  clear hcs hkp k1 b1 hx hne hxe h hw
  go_enter Tryz.func66, Tryz.ntmps66
  go_wp2_with fail
  refine CN.out.mono ?_
  rintro e w2 ⟨rfl, h1, hk⟩
  have H1 := Lib.hid h1
  have k2 := hk.2 _ _ _ hpl (by decide) K1.out
  have d0 := k2.cell 0
  simp only [List.getElem?_toArray, List.getElem?_cons_zero] at d0
  have l13 := h1.lb.cell 13
  rw [C13.out] at l13
  have fl := h1.lb.free
  have HK := Lib.hid hk
  have KB := Lib.hid (Ks.below (below_alloc_ w (.cells #[.int .u64 (n : Int)] 23)) p)
  clear h1 hk k2 hpl c0
  go_wp2
  refine bodyPost_end (results_none rfl _ _ _) rfl ⟨rfl, ?_, (KB.out.trans HK.out).trans ?_⟩
  rotate_left
  · refine ⟨by simp [World.setCell], fun g t cs' _ _ hk => ?_⟩
    by_cases hgl : g = l
    · subst hgl
      have e := H1.out.lb
      have e2 := hk
      unfold Blk at e2 e
      rw [e2] at e
      injection e with e
      injection e with e3 e4 _
      subst e3; subst e4
      have := hk.set_ 13 (.int .i64 x)
      rw [CX.out] at this
      exact this
    · exact hk.far (p := ⟨l, 13, none⟩) hgl _
  rw [PX.out, PY.out, Bool.or_false]
  have := H1.out.lset 13 (.int .i64 x)
  rw [CX.out] at this
  exact this
end Go.Proofs.YthjdkjinkmdclaaGreat
