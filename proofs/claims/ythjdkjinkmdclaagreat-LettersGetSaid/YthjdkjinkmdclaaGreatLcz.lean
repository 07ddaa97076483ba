import Derived.Test.YthjdkjinkmdclaaGreatLgc
import Derived.Test.YthjdkjinkmdclaaGreatLgd
import Derived.Test.YthjdkjinkmdclaaGreatLgf
import Derived.Test.YthjdkjinkmdclaaGreatLaz
import Derived.Deep.MidRow
/- Letters: the parts of a letter, got. -/
namespace Go.Proofs.YthjdkjinkmdclaaGreat
open Go.RowKit

theorem EntsO.le {B B' : Nat} {w : World} {v : Value} {es : List Ent} (h : EntsO B w v es) (hb : B' ≤ B) : EntsO B' w v es := by
  obtain ⟨ss, h1, h2, h3, h4⟩ := h
  exact ⟨ss, h1, h2.le hb, fun j a b => by obtain ⟨A, q1, q2⟩ := h3 j a b; exact ⟨A, q1, q2.le hb⟩, h4⟩
/-- Offers that were got, in a block of their own. -/
def GtO (B : Nat) (w : World) (s : Value) (rows : List (List Int)) : Prop := ∃ A, s = .slice A rows.length rows.length ∧ Ow B w 108 2 s rows.length (rows.flatMap (fc gotK))
/-- What a letter's lists are, each in blocks of its own. -/
structure Lv (B : Nat) (w : World) (L : Lt) (ve vd vs vg : Value) : Prop where
  es : EntsO B w ve L.es ∧ Clp ve
  data : Bo B w vd L.data ∧ Clp vd
  steps : StO B w vs L.steps
  gots : GtO B w vg L.gots
theorem Lv.zero (B : Nat) (w : World) : Lv B w Lt.zero (.slice none 0 0) (.slice none 0 0) (.slice none 0 0) (.slice none 0 0) :=
  ⟨⟨EntsO.nil_ _ _, _, _, rfl⟩, ⟨Bo.nil_ _ _, _, _, rfl⟩, ⟨none, rfl, .inl ⟨rfl, rfl, rfl⟩⟩, ⟨none, rfl, .inl ⟨rfl, rfl, rfl⟩⟩⟩
theorem Lv.of_ {B : Nat} {w : World} {L M : Lt} {ve vd vs vg : Value} (h : Lv B w L ve vd vs vg) (h1 : M.es = L.es) (h2 : M.data = L.data) (h3 : M.steps = L.steps) (h4 : M.gots = L.gots) : Lv B w M ve vd vs vg := by
  obtain ⟨a, b, c, d⟩ := h
  exact ⟨by rw [h1]; exact a, by rw [h2]; exact b, by rw [h3]; exact c, by rw [h4]; exact d⟩
theorem Lv.kq {B p l : Nat} {w w' : World} {L : Lt} {ve vd vs vg : Value} {cp cl : Array Value} (h : Lv B w L ve vd vs vg) (k : Kq w w' p l) (hp : Blk w p 84 cp) (hl : Blk w l 36 cl) : Lv B w' L ve vd vs vg := by
  obtain ⟨⟨a, a'⟩, ⟨b, b'⟩, ⟨A, c1, c2⟩, ⟨G, d1, d2⟩⟩ := h
  exact ⟨⟨a.kq k hp (by decide) (by decide) hl (by decide) (by decide), a'⟩, ⟨Ow.kq b k hp (by decide) hl (by decide), b'⟩, ⟨A, c1, c2.kq k hp (by decide) hl (by decide)⟩, ⟨G, d1, d2.kq k hp (by decide) hl (by decide)⟩⟩
theorem Lv.below {B : Nat} {w w' : World} {L : Lt} {ve vd vs vg : Value} (h : Lv B w L ve vd vs vg) (hb : Below w.heap.size w w') : Lv B w' L ve vd vs vg := by
  obtain ⟨⟨a, a'⟩, ⟨b, b'⟩, c, ⟨G, d1, d2⟩⟩ := h
  exact ⟨⟨a.below hb, a'⟩, ⟨b.below hb, b'⟩, c.below hb, ⟨G, d1, d2.below hb⟩⟩
/-- Getting a letter: what is being got in block p, the letter in block l. -/
structure Lg (W0 w : World) (p l : Nat) (L : Lt) (ve vd vs vg : Value) (s : Gs) : Prop where
  gl : Gl W0 w p s
  lb : Blk w l 36 (letC L ve vd vs vg)
  l0 : W0.heap.size ≤ l
  lv : Lv W0.heap.size w L ve vd vs vg
theorem Lg.below {W0 w w' : World} {p l : Nat} {L : Lt} {ve vd vs vg : Value} {s : Gs} (h : Lg W0 w p l L ve vd vs vg s) (hb : Below w.heap.size w w') : Lg W0 w' p l L ve vd vs vg s :=
  ⟨h.gl.below hb, h.lb.below hb h.lb.lt, h.l0, h.lv.below hb⟩
theorem Lg.drew {W0 w : World} {p l : Nat} {L : Lt} {ve vd vs vg : Value} {s : Gs} (h : Lg W0 w p l L ve vd vs vg s) : Lg W0 w.drew p l L ve vd vs vg s := h.below (Below.refl _ _).drew
theorem Lg.ne {W0 w : World} {p l : Nat} {L : Lt} {ve vd vs vg : Value} {s : Gs} (h : Lg W0 w p l L ve vd vs vg s) : p ≠ l := h.gl.ne h.lb (by decide)
/-- One of the plain fields is set. -/
theorem Lg.upd {W0 w w' : World} {p l : Nat} {L M : Lt} {ve vd vs vg : Value} {s s' : Gs} {cs : Array Value} (h : Lg W0 w p l L ve vd vs vg s) (g : Gl W0 w' p s') (b : Blk w' l 36 cs) (k : Kq w w' p l) (hc : cs = letC M ve vd vs vg)
    (h1 : M.es = L.es) (h2 : M.data = L.data) (h3 : M.steps = L.steps) (h4 : M.gots = L.gots) : Lg W0 w' p l M ve vd vs vg s' := by
  subst hc
  obtain ⟨A, c, hk, -⟩ := h.gl.ex
  exact ⟨g, b, h.l0, (h.lv.kq k hk h.lb).of_ h1 h2 h3 h4⟩
theorem Lg.keep {W0 w w' : World} {p l : Nat} {L : Lt} {ve vd vs vg : Value} {s : Gs} (h : Lg W0 w p l L ve vd vs vg s) (k : Kq w w' p l) : Lv W0.heap.size w' L ve vd vs vg := by
  obtain ⟨A, c, hk, -⟩ := h.gl.ex
  exact h.lv.kq k hk h.lb
theorem qm_num (p : Nat) : ∀ W, (method 306 83 (.pointer (some ⟨p, 0, none⟩)) "countinghouse/letters.num").run Tryz.prog W = .ok (118, .pointer (some ⟨p, 0, none⟩)) W := fun _ => by kernel_rfl
theorem qn_num (p : Nat) : ∀ W, (nilAhead 306 83 (.pointer (some ⟨p, 0, none⟩)) "countinghouse/letters.num").run Tryz.prog W = .ok (some false) W := fun _ => by kernel_rfl
theorem qm_one (p : Nat) : ∀ W, (method 306 83 (.pointer (some ⟨p, 0, none⟩)) "countinghouse/letters.one").run Tryz.prog W = .ok (119, .pointer (some ⟨p, 0, none⟩)) W := fun _ => by kernel_rfl
theorem qn_one (p : Nat) : ∀ W, (nilAhead 306 83 (.pointer (some ⟨p, 0, none⟩)) "countinghouse/letters.one").run Tryz.prog W = .ok (some false) W := fun _ => by kernel_rfl
theorem qm_yes (p : Nat) : ∀ W, (method 306 83 (.pointer (some ⟨p, 0, none⟩)) "countinghouse/letters.yes").run Tryz.prog W = .ok (122, .pointer (some ⟨p, 0, none⟩)) W := fun _ => by kernel_rfl
theorem qn_yes (p : Nat) : ∀ W, (nilAhead 306 83 (.pointer (some ⟨p, 0, none⟩)) "countinghouse/letters.yes").run Tryz.prog W = .ok (some false) W := fun _ => by kernel_rfl
theorem qm_text (p : Nat) : ∀ W, (method 306 83 (.pointer (some ⟨p, 0, none⟩)) "countinghouse/letters.text").run Tryz.prog W = .ok (121, .pointer (some ⟨p, 0, none⟩)) W := fun _ => by kernel_rfl
theorem qn_text (p : Nat) : ∀ W, (nilAhead 306 83 (.pointer (some ⟨p, 0, none⟩)) "countinghouse/letters.text").run Tryz.prog W = .ok (some false) W := fun _ => by kernel_rfl
theorem qm_entries (p : Nat) : ∀ W, (method 306 83 (.pointer (some ⟨p, 0, none⟩)) "countinghouse/letters.entries").run Tryz.prog W = .ok (117, .pointer (some ⟨p, 0, none⟩)) W := fun _ => by kernel_rfl
theorem qn_entries (p : Nat) : ∀ W, (nilAhead 306 83 (.pointer (some ⟨p, 0, none⟩)) "countinghouse/letters.entries").run Tryz.prog W = .ok (some false) W := fun _ => by kernel_rfl
theorem qm_command (p : Nat) : ∀ W, (method 306 83 (.pointer (some ⟨p, 0, none⟩)) "countinghouse/letters.command").run Tryz.prog W = .ok (116, .pointer (some ⟨p, 0, none⟩)) W := fun _ => by kernel_rfl
theorem qn_command (p : Nat) : ∀ W, (nilAhead 306 83 (.pointer (some ⟨p, 0, none⟩)) "countinghouse/letters.command").run Tryz.prog W = .ok (some false) W := fun _ => by kernel_rfl
theorem qm_reply (p : Nat) : ∀ W, (method 306 83 (.pointer (some ⟨p, 0, none⟩)) "countinghouse/letters.reply").run Tryz.prog W = .ok (120, .pointer (some ⟨p, 0, none⟩)) W := fun _ => by kernel_rfl
theorem qn_reply (p : Nat) : ∀ W, (nilAhead 306 83 (.pointer (some ⟨p, 0, none⟩)) "countinghouse/letters.reply").run Tryz.prog W = .ok (some false) W := fun _ => by kernel_rfl
set_option maxHeartbeats 2000000 in
set_option maxRecDepth 100000 in
theorem gp_index {W0 w : World} {p l : Nat} {L : Lt} {ve vd vs vg : Value} {s : Gs} (h : Lg W0 w p l L ve vd vs vg s) :
    Calls Tryz.prog 57 #[.iface 83 (.pointer (some ⟨p, 0, none⟩)), .pointer (some ⟨l, 0, none⟩)] w fun e w' => e = .returned (.tuple #[]) ∧ (Lg W0 w' p l (gPc L s .index).1 ve vd vs vg (gPc L s .index).2) ∧ Kq w w' p l := by
  have hm := qm_num p
  have hn := qn_num p
  have CN := Lib.hid (hnum_any (o := 4) h.drew.gl h.drew.lb (by decide) h.l0 (show 4 < 17 by decide))
  have H := Lib.hid h
  clear h
  go_enter Tryz.func57, Tryz.ntmps57
  go_wp2_with fail
  go_region_law (go_simp; go_at_call 118; refine CN.out.mono ?_; rintro e w' ⟨rfl, h1, k1, q1⟩)
  all_goals
    exact bodyPost_end (results_none rfl _ _ _) rfl ⟨rfl, H.out.drew.upd h1 k1 q1 (by simp [letC, gPc]) rfl rfl rfl rfl, (Kq.drew w p l).trans q1⟩
set_option maxHeartbeats 2000000 in
set_option maxRecDepth 100000 in
theorem gp_mark {W0 w : World} {p l : Nat} {L : Lt} {ve vd vs vg : Value} {s : Gs} (h : Lg W0 w p l L ve vd vs vg s) :
    Calls Tryz.prog 58 #[.iface 83 (.pointer (some ⟨p, 0, none⟩)), .pointer (some ⟨l, 0, none⟩)] w fun e w' => e = .returned (.tuple #[]) ∧ (Lg W0 w' p l (gPc L s .mark).1 ve vd vs vg (gPc L s .mark).2) ∧ Kq w w' p l := by
  have hm := qm_num p
  have hn := qn_num p
  have CN := Lib.hid (hnum_any (o := 5) h.drew.gl h.drew.lb (by decide) h.l0 (show 5 < 17 by decide))
  have H := Lib.hid h
  clear h
  go_enter Tryz.func58, Tryz.ntmps58
  go_wp2_with fail
  go_region_law (go_simp; go_at_call 118; refine CN.out.mono ?_; rintro e w' ⟨rfl, h1, k1, q1⟩)
  all_goals
    exact bodyPost_end (results_none rfl _ _ _) rfl ⟨rfl, H.out.drew.upd h1 k1 q1 (by simp [letC, gPc]) rfl rfl rfl rfl, (Kq.drew w p l).trans q1⟩
set_option maxHeartbeats 2000000 in
set_option maxRecDepth 100000 in
theorem gp_commit {W0 w : World} {p l : Nat} {L : Lt} {ve vd vs vg : Value} {s : Gs} (h : Lg W0 w p l L ve vd vs vg s) :
    Calls Tryz.prog 60 #[.iface 83 (.pointer (some ⟨p, 0, none⟩)), .pointer (some ⟨l, 0, none⟩)] w fun e w' => e = .returned (.tuple #[]) ∧ (Lg W0 w' p l (gPc L s .commit).1 ve vd vs vg (gPc L s .commit).2) ∧ Kq w w' p l := by
  have hm := qm_num p
  have hn := qn_num p
  have CN := Lib.hid (hnum_any (o := 6) h.drew.gl h.drew.lb (by decide) h.l0 (show 6 < 17 by decide))
  have H := Lib.hid h
  clear h
  go_enter Tryz.func60, Tryz.ntmps60
  go_wp2_with fail
  go_region_law (go_simp; go_at_call 118; refine CN.out.mono ?_; rintro e w' ⟨rfl, h1, k1, q1⟩)
  all_goals
    exact bodyPost_end (results_none rfl _ _ _) rfl ⟨rfl, H.out.drew.upd h1 k1 q1 (by simp [letC, gPc]) rfl rfl rfl rfl, (Kq.drew w p l).trans q1⟩
set_option maxHeartbeats 2000000 in
set_option maxRecDepth 100000 in
theorem gp_num {W0 w : World} {p l : Nat} {L : Lt} {ve vd vs vg : Value} {s : Gs} (h : Lg W0 w p l L ve vd vs vg s) :
    Calls Tryz.prog 64 #[.iface 83 (.pointer (some ⟨p, 0, none⟩)), .pointer (some ⟨l, 0, none⟩)] w fun e w' => e = .returned (.tuple #[]) ∧ (Lg W0 w' p l (gPc L s .num).1 ve vd vs vg (gPc L s .num).2) ∧ Kq w w' p l := by
  have hm := qm_num p
  have hn := qn_num p
  have CN := Lib.hid (hnum_any (o := 11) h.drew.gl h.drew.lb (by decide) h.l0 (show 11 < 17 by decide))
  have H := Lib.hid h
  clear h
  go_enter Tryz.func64, Tryz.ntmps64
  go_wp2_with fail
  go_region_law (go_simp; go_at_call 118; refine CN.out.mono ?_; rintro e w' ⟨rfl, h1, k1, q1⟩)
  all_goals
    exact bodyPost_end (results_none rfl _ _ _) rfl ⟨rfl, H.out.drew.upd h1 k1 q1 (by simp [letC, gPc]) rfl rfl rfl rfl, (Kq.drew w p l).trans q1⟩
set_option maxHeartbeats 2000000 in
set_option maxRecDepth 100000 in
theorem gp_client {W0 w : World} {p l : Nat} {L : Lt} {ve vd vs vg : Value} {s : Gs} (h : Lg W0 w p l L ve vd vs vg s) :
    Calls Tryz.prog 63 #[.iface 83 (.pointer (some ⟨p, 0, none⟩)), .pointer (some ⟨l, 0, none⟩)] w fun e w' => e = .returned (.tuple #[]) ∧ (Lg W0 w' p l (gPc L s .client).1 ve vd vs vg (gPc L s .client).2) ∧ Kq w w' p l := by
  have hm := qm_one p
  have hn := qn_one p
  have CN := Lib.hid (hone_any (o := 10) h.drew.gl h.drew.lb (by decide) h.l0 L.cl rfl)
  have H := Lib.hid h
  clear h
  go_enter Tryz.func63, Tryz.ntmps63
  go_wp2_with fail
  go_region_law (go_simp; go_at_call 119; refine CN.out.mono ?_; rintro e w' ⟨rfl, h1, k1, q1⟩)
  all_goals
    exact bodyPost_end (results_none rfl _ _ _) rfl ⟨rfl, H.out.drew.upd h1 k1 q1 (by simp [letC, gPc]) rfl rfl rfl rfl, (Kq.drew w p l).trans q1⟩
set_option maxHeartbeats 2000000 in
set_option maxRecDepth 100000 in
theorem gp_yes {W0 w : World} {p l : Nat} {L : Lt} {ve vd vs vg : Value} {s : Gs} (h : Lg W0 w p l L ve vd vs vg s) :
    Calls Tryz.prog 59 #[.iface 83 (.pointer (some ⟨p, 0, none⟩)), .pointer (some ⟨l, 0, none⟩)] w fun e w' => e = .returned (.tuple #[]) ∧ (Lg W0 w' p l (gPc L s .yes).1 ve vd vs vg (gPc L s .yes).2) ∧ Kq w w' p l := by
  have hm := qm_yes p
  have hn := qn_yes p
  have CN := Lib.hid (hyes_any (o := 7) h.drew.gl h.drew.lb (by decide) h.l0 (show 7 < 17 by decide))
  have H := Lib.hid h
  clear h
  go_enter Tryz.func59, Tryz.ntmps59
  go_wp2_with fail
  go_region_law (go_simp; go_at_call 122; refine CN.out.mono ?_; rintro e w' ⟨rfl, h1, k1, q1⟩)
  all_goals
    exact bodyPost_end (results_none rfl _ _ _) rfl ⟨rfl, H.out.drew.upd h1 k1 q1 (by simp [letC, gPc]) rfl rfl rfl rfl, (Kq.drew w p l).trans q1⟩
set_option maxHeartbeats 2000000 in
set_option maxRecDepth 100000 in
theorem gp_data {W0 w : World} {p l : Nat} {L : Lt} {ve vd vs vg : Value} {s : Gs} (h : Lg W0 w p l L ve vd vs vg s) :
    Calls Tryz.prog 62 #[.iface 83 (.pointer (some ⟨p, 0, none⟩)), .pointer (some ⟨l, 0, none⟩)] w fun e w' => e = .returned (.tuple #[]) ∧ (∃ vd', Lg W0 w' p l (gPc L s .data).1 ve vd' vs vg (gPc L s .data).2) ∧ Kq w w' p l := by
  have hm := qm_text p
  have hn := qn_text p
  have CN := Lib.hid (htext_any (o := 9) h.drew.gl h.drew.lb (by decide) h.l0 L.data vd rfl)
  have H := Lib.hid h
  clear h
  go_enter Tryz.func62, Tryz.ntmps62
  go_wp2_with fail
  go_region_law (go_simp; go_at_call 121; refine CN.out.mono ?_; rintro e w' ⟨rfl, v1, h1, k1, q1, o1⟩)
  all_goals
    refine bodyPost_end (results_none rfl _ _ _) rfl ⟨rfl, ⟨v1, h1, k1, H.out.l0, ?_⟩, (Kq.drew w p l).trans q1⟩
    have hv := H.out.drew.keep q1
    refine ⟨hv.es, ?_, hv.steps, hv.gots⟩
    show Bo _ _ _ (gText L.data s).1 ∧ Clp _
    rcases o1 with ⟨rfl, h2⟩ | ⟨h2, h3⟩
    · rw [h2]; exact hv.data
    · exact ⟨h2.le H.out.drew.gl.bel.size, h3⟩
theorem gPc_ents {L : Lt} (s : Gs) (he : L.es = []) : gPc L s .entries = ({ L with es := (gAll s).1 }, (gAll s).2) := by
  unfold gAll
  simp only [gPc]
  split
  · cases L; simp only at he; subst he; rfl
  · rw [he]
theorem gPc_cmd {L : Lt} (s : Gs) : gPc L s .command = ({ L with steps := (getC s.1).1 }, ([], s.2 || (getC s.1).2)) := by
  simp only [gPc, getC]
  rcases allP (cmdP s.1) with k | a <;> simp
theorem gPc_reply {L : Lt} (s : Gs) : gPc L s .reply = ({ L with re := (getR s.1).1.1, ra := (getR s.1).1.2.1, gots := (getR s.1).1.2.2 }, ([], s.2 || (getR s.1).2)) := by
  simp only [gPc, getR]
  rcases allP (replyP s.1) with k | a <;> simp
set_option maxHeartbeats 2000000 in
set_option maxRecDepth 100000 in
theorem gp_entries {W0 w : World} {p l : Nat} {L : Lt} {ve vd vs vg : Value} {s : Gs} (h : Lg W0 w p l L ve vd vs vg s) (he : L.es = []) (hv : ve = .slice none 0 0) :
    Calls Tryz.prog 61 #[.iface 83 (.pointer (some ⟨p, 0, none⟩)), .pointer (some ⟨l, 0, none⟩)] w fun e w' => e = .returned (.tuple #[]) ∧ (∃ ve', Lg W0 w' p l (gPc L s .entries).1 ve' vd vs vg (gPc L s .entries).2) ∧ Kq w w' p l := by
  have hm := qm_entries p
  have hn := qn_entries p
  subst hv
  have CN := Lib.hid (hents_any (o := 8) h.drew.gl h.drew.lb h.l0 rfl)
  rw [gPc_ents s he]
  have H := Lib.hid h
  clear h he
  go_enter Tryz.func61, Tryz.ntmps61
  go_wp2_with fail
  go_region_law (go_simp; go_at_call 117; refine CN.out.mono ?_; rintro e w' ⟨rfl, v1, h1, k1, q1, o1, c1⟩)
  all_goals
    refine bodyPost_end (results_none rfl _ _ _) rfl ⟨rfl, ⟨v1, h1, k1, H.out.l0, ?_⟩, (Kq.drew w p l).trans q1⟩
    have hv := H.out.drew.keep q1
    exact ⟨⟨o1.le H.out.drew.gl.bel.size, c1⟩, hv.data, hv.steps, hv.gots⟩
set_option maxHeartbeats 2000000 in
set_option maxRecDepth 100000 in
theorem gp_command {W0 w : World} {p l : Nat} {L : Lt} {ve vd vs vg : Value} {s : Gs} (h : Lg W0 w p l L ve vd vs vg s) :
    Calls Tryz.prog 65 #[.iface 83 (.pointer (some ⟨p, 0, none⟩)), .pointer (some ⟨l, 0, none⟩)] w fun e w' => e = .returned (.tuple #[]) ∧ (∃ vs', Lg W0 w' p l (gPc L s .command).1 ve vd vs' vg (gPc L s .command).2) ∧ Kq w w' p l := by
  have hm := qm_command p
  have hn := qn_command p
  have CN := Lib.hid (hcommand_any (o := 12) h.drew.gl h.drew.lb (by decide) h.l0 (show 12 < 17 by decide))
  rw [gPc_cmd s]
  have H := Lib.hid h
  clear h
  go_enter Tryz.func65, Tryz.ntmps65
  go_wp2_with fail
  go_region_law (go_simp; go_at_call 116; refine CN.out.mono ?_; rintro e w' ⟨rfl, A1, h1, k1, q1, o1⟩)
  all_goals
    refine bodyPost_end (results_none rfl _ _ _) rfl ⟨rfl, ⟨_, h1, k1, H.out.l0, ?_⟩, (Kq.drew w p l).trans q1⟩
    have hv := H.out.drew.keep q1
    exact ⟨hv.es, hv.data, ⟨A1, rfl, o1.le H.out.drew.gl.bel.size⟩, hv.gots⟩
set_option maxHeartbeats 2000000 in
set_option maxRecDepth 100000 in
theorem gp_reply {W0 w : World} {p l : Nat} {L : Lt} {ve vd vs vg : Value} {s : Gs} (h : Lg W0 w p l L ve vd vs vg s) :
    Calls Tryz.prog 67 #[.iface 83 (.pointer (some ⟨p, 0, none⟩)), .pointer (some ⟨l, 0, none⟩)] w fun e w' => e = .returned (.tuple #[]) ∧ (∃ vg', Lg W0 w' p l (gPc L s .reply).1 ve vd vs vg' (gPc L s .reply).2) ∧ Kq w w' p l := by
  have hm := qm_reply p
  have hn := qn_reply p
  have CN := Lib.hid (hreply_any (o := 14) h.drew.gl h.drew.lb (by decide) h.l0 (show 16 < 17 by decide))
  rw [gPc_reply s]
  have H := Lib.hid h
  clear h
  go_enter Tryz.func67, Tryz.ntmps67
  go_wp2_with fail
  go_region_law (go_simp; go_at_call 120; refine CN.out.mono ?_; rintro e w' ⟨rfl, A1, h1, k1, q1, o1⟩)
  all_goals
    refine bodyPost_end (results_none rfl _ _ _) rfl ⟨rfl, ⟨_, h1, k1, H.out.l0, ?_⟩, (Kq.drew w p l).trans q1⟩
    have hv := H.out.drew.keep q1
    exact ⟨hv.es, hv.data, hv.steps, ⟨A1, rfl, o1.le H.out.drew.gl.bel.size⟩⟩
set_option maxHeartbeats 2000000 in
set_option maxRecDepth 100000 in
theorem gp_wrong {W0 w : World} {p l : Nat} {L : Lt} {ve vd vs vg : Value} {s : Gs} (h : Lg W0 w p l L ve vd vs vg s) :
    Calls Tryz.prog 66 #[.iface 83 (.pointer (some ⟨p, 0, none⟩)), .pointer (some ⟨l, 0, none⟩)] w fun e w' => e = .returned (.tuple #[]) ∧ (Lg W0 w' p l (gPc L s .wrong).1 ve vd vs vg (gPc L s .wrong).2) ∧ Kq w w' p l := by
  have hm := qm_num p
  have hn := qn_num p
  have c13 : w.cell? ⟨l, 13, none⟩ = some (.int .i64 L.e) := by rw [h.lb.cell]; rfl
  obtain ⟨n, hne⟩ : ∃ n : Int, n = IntKind.u64.wrap L.e := ⟨_, rfl⟩
  have b1 := below_alloc_ w (.cells #[.int .u64 n] 23)
  have CN := Lib.hid (hnum_any (o := 0) (h.gl.below b1) (Blk.new w 23 #[.int .u64 n]) (by decide) h.gl.bel.size (by simp))
  have hlw := h.lb.lt
  have hlq : l ≠ w.heap.size := by omega
  have HL := Lib.hid (h.lb.below b1 h.lb.lt)
  have HP := Lib.hid h.ne
  have H := Lib.hid h
  have KB := Lib.hid (Kq.below b1 p l)
  have GP := Lib.hid (show gPc L s .wrong = ({ L with e := IntKind.i64.wrap ((gNum s).1 : Int) }, (gNum s).2) from rfl)
  obtain ⟨x, hx⟩ : ∃ x, x = (gNum s).1 := ⟨_, rfl⟩
  rw [← hx] at CN GP
  rw [GP.out]
  obtain ⟨y, hy⟩ : ∃ y, y = IntKind.i64.wrap (x : Int) := ⟨_, rfl⟩
  have YY := Lib.hid hy
  obtain ⟨z, hz⟩ : ∃ z, z = L.e := ⟨_, rfl⟩
  rw [← hz] at c13 hne
  have n1 := hne.symm
  have y1 := hy.symm
  rw [← hy]
  clear h hx b1 hy hne hlw
  have HZ := Lib.hid hz
  clear hz
  go_enter Tryz.func66, Tryz.ntmps66
  go_wp2_with fail
  refine CN.out.mono ?_
  rintro e w2 ⟨rfl, h1, k1, q1⟩
  have kl := q1.2 _ _ _ HP.out.symm hlq HL.out
  have fl := kl.free
  have d0 := k1.cell 0
  have d0' : w2.cell? ⟨w.heap.size, 0, none⟩ = some (.int .u64 x) := d0
  have l13 : w2.cell? ⟨l, 13, none⟩ = some (.int .i64 z) := by rw [HZ.out, kl.cell]; rfl
  have QQ := Lib.hid (KB.out.aside q1 (Nat.le_refl _))
  have G1 := Lib.hid h1
  have KL := Lib.hid kl
  clear d0 h1 k1 kl q1 CN c13
  go_wp2
  refine bodyPost_end (results_none rfl _ _ _) rfl ⟨rfl, ?_, QQ.out.trans (Kq.setg p _)⟩
  exact H.out.upd (G1.out.setg HP.out H.out.l0 13 _) (KL.out.set_ 13 _) (QQ.out.trans (Kq.setg p _)) (by simp [letC]) rfl rfl rfl rfl
end Go.Proofs.YthjdkjinkmdclaaGreat

/- Letters: through a letter, getting it. -/
namespace Go.Proofs.YthjdkjinkmdclaaGreat
open Go.RowKit

/-- What a part answers: the letter goes on; its entries alone may have turned. -/
theorem gp_any (pc : Pc) (hpc : pc ∉ heads) {W0 w : World} {p l : Nat} {L : Lt} {ve vd vs vg : Value} {s : Gs} (h : Lg W0 w p l L ve vd vs vg s) (he : pc = .entries → L.es = [] ∧ ve = .slice none 0 0) :
    Calls Tryz.prog (fnP pc) #[.iface 83 (.pointer (some ⟨p, 0, none⟩)), .pointer (some ⟨l, 0, none⟩)] w fun e w' => e = .returned (.tuple #[]) ∧ (∃ ve' vd' vs' vg', Lg W0 w' p l (gPc L s pc).1 ve' vd' vs' vg' (gPc L s pc).2 ∧ (pc ≠ .entries → ve' = ve) ∧ (pc ≠ .command → vs' = vs)) ∧ Kq w w' p l := by
  cases pc
  case kind => exact absurd (by decide) hpc
  case src => exact absurd (by decide) hpc
  case dst => exact absurd (by decide) hpc
  case term => exact absurd (by decide) hpc
  case index => exact (gp_index h).mono fun _ _ ⟨a, b, c⟩ => ⟨a, ⟨_, _, _, _, b, fun _ => rfl, fun _ => rfl⟩, c⟩
  case mark => exact (gp_mark h).mono fun _ _ ⟨a, b, c⟩ => ⟨a, ⟨_, _, _, _, b, fun _ => rfl, fun _ => rfl⟩, c⟩
  case commit => exact (gp_commit h).mono fun _ _ ⟨a, b, c⟩ => ⟨a, ⟨_, _, _, _, b, fun _ => rfl, fun _ => rfl⟩, c⟩
  case yes => exact (gp_yes h).mono fun _ _ ⟨a, b, c⟩ => ⟨a, ⟨_, _, _, _, b, fun _ => rfl, fun _ => rfl⟩, c⟩
  case entries => exact (gp_entries h (he rfl).1 (he rfl).2).mono fun _ _ ⟨a, ⟨_, b⟩, c⟩ => ⟨a, ⟨_, _, _, _, b, fun h => absurd rfl h, fun _ => rfl⟩, c⟩
  case data => exact (gp_data h).mono fun _ _ ⟨a, ⟨_, b⟩, c⟩ => ⟨a, ⟨_, _, _, _, b, fun _ => rfl, fun _ => rfl⟩, c⟩
  case client => exact (gp_client h).mono fun _ _ ⟨a, b, c⟩ => ⟨a, ⟨_, _, _, _, b, fun _ => rfl, fun _ => rfl⟩, c⟩
  case num => exact (gp_num h).mono fun _ _ ⟨a, b, c⟩ => ⟨a, ⟨_, _, _, _, b, fun _ => rfl, fun _ => rfl⟩, c⟩
  case command => exact (gp_command h).mono fun _ _ ⟨a, ⟨_, b⟩, c⟩ => ⟨a, ⟨_, _, _, _, b, fun _ => rfl, fun h => absurd rfl h⟩, c⟩
  case wrong => exact (gp_wrong h).mono fun _ _ ⟨a, b, c⟩ => ⟨a, ⟨_, _, _, _, b, fun _ => rfl, fun _ => rfl⟩, c⟩
  case reply => exact (gp_reply h).mono fun _ _ ⟨a, ⟨_, b⟩, c⟩ => ⟨a, ⟨_, _, _, _, b, fun _ => rfl, fun _ => rfl⟩, c⟩
theorem gRun_es : ∀ (ps : List Pc) (x : Lt × Gs), .entries ∉ ps → (gRun ps x).1.es = x.1.es
  | [], _, _ => rfl
  | q :: ps, x, h => by
    rw [gRun, gRun_es ps _ (fun h' => h (List.mem_cons_of_mem _ h')), gPc_es _ _ _ (fun e => h (by rw [e]; exact List.mem_cons_self ..))]
theorem Lg.head {W0 w w' : World} {p l : Nat} {L : Lt} {ve vd vs vg : Value} {s : Gs} (h : Lg W0 w p l L ve vd vs vg s) (q : Pc) (hq : q ∈ heads) {cs : Array Value} (g : Gl W0 w' p (gPc L s q).2) (b : Blk w' l 36 cs) (k : Kq w w' p l) (hc : cs = letC (gPc L s q).1 ve vd vs vg) : Lg W0 w' p l (gPc L s q).1 ve vd vs vg (gPc L s q).2 := by
  refine h.upd g b k hc ?_ ?_ ?_ ?_ <;> (simp only [heads, List.mem_cons, List.not_mem_nil, or_false] at hq; rcases hq with rfl | rfl | rfl | rfl <;> rfl)
set_option maxHeartbeats 8000000 in
set_option maxRecDepth 100000 in
theorem through_get {W0 w : World} {p l : Nat} {L : Lt} {vd vs vg : Value} {s : Gs} (h : Lg W0 w p l L (.slice none 0 0) vd vs vg s) (hes : L.es = []) :
    Calls Tryz.prog 24 #[.iface 83 (.pointer (some ⟨p, 0, none⟩)), .pointer (some ⟨l, 0, none⟩)] w fun e w' => e = .returned (.bool (pcs (gRun heads (L, s)).1.kind).isSome) ∧
      (∃ ve' vd' vs' vg', Lg W0 w' p l (gRun ((pcs (gRun heads (L, s)).1.kind).getD []) (gRun heads (L, s))).1 ve' vd' vs' vg' (gRun ((pcs (gRun heads (L, s)).1.kind).getD []) (gRun heads (L, s))).2 ∧ (.command ∉ (pcs (gRun heads (L, s)).1.kind).getD [] → vs' = vs)) ∧ Kq w w' p l := by
  have hm1 := qm_one p
  have hn1 := qn_one p
  have hm2 := qm_num p
  have hn2 := qn_num p
  have H := Lib.hid h
  have hG : gRun heads (L, s) = gPc (gPc (gPc (gPc L s .kind).1 (gPc L s .kind).2 .src).1 (gPc (gPc L s .kind).1 (gPc L s .kind).2 .src).2 .dst).1 (gPc (gPc (gPc L s .kind).1 (gPc L s .kind).2 .src).1 (gPc (gPc L s .kind).1 (gPc L s .kind).2 .src).2 .dst).2 .term := rfl
  have hE := gRun_es heads (L, s) (by decide)
  rw [show (L, s).1.es = [] from hes] at hE
  obtain ⟨x1, hx1⟩ : ∃ x, x = gPc L s .kind := ⟨_, rfl⟩
  rw [← hx1] at hG
  obtain ⟨x2, hx2⟩ : ∃ x, x = gPc x1.1 x1.2 .src := ⟨_, rfl⟩
  rw [← hx2] at hG
  obtain ⟨x3, hx3⟩ : ∃ x, x = gPc x2.1 x2.2 .dst := ⟨_, rfl⟩
  rw [← hx3] at hG
  obtain ⟨x4, hx4⟩ : ∃ x, x = gPc x3.1 x3.2 .term := ⟨_, rfl⟩
  rw [← hx4] at hG
  rw [hG] at hE ⊢
  have X1 := Lib.hid hx1
  have X2 := Lib.hid hx2
  have X3 := Lib.hid hx3
  have X4 := Lib.hid hx4
  have HE := Lib.hid hE
  clear h hes hG hx1 hx2 hx3 hx4 hE
  obtain ⟨v0, hv0⟩ : ∃ v : Value, v = .slice none 0 0 := ⟨_, rfl⟩
  rw [← hv0] at H
  go_enter Tryz.func24, Tryz.ntmps24
  go_upto_region 1 with fail
  go_cut [] (fun wx => Lg W0 wx p l x1.1 v0 vd vs vg x1.2 ∧ Kq w wx p l)
  case first =>
    have CN := Lib.hid (hone_any (o := 0) H.out.drew.gl H.out.drew.lb (by decide) H.out.l0 L.kind rfl)
    go_region_law (go_simp; go_at_call 119; refine CN.out.mono ?_; rintro e w' ⟨rfl, h1, k1, q1⟩)
    all_goals
      go_wp2
      go_meet
      rw [X1.out]
      exact ⟨H.out.drew.head .kind (by decide) h1 k1 q1 (by simp [letC, gPc]), (Kq.drew w p l).trans q1⟩
  case rest =>
    obtain ⟨h1, k1⟩ := hcut
    have H1 := Lib.hid h1
    have K1 := Lib.hid k1
    clear h1 k1
    go_upto_region 2 with fail
    go_cut [] (fun wx => Lg W0 wx p l x2.1 v0 vd vs vg x2.2 ∧ Kq w wx p l)
    case first =>
      have CN := Lib.hid (hone_any (o := 1) H1.out.drew.gl H1.out.drew.lb (by decide) H1.out.l0 x1.1.src rfl)
      go_region_law (go_simp; go_at_call 119; refine CN.out.mono ?_; rintro e w' ⟨rfl, h1, k1, q1⟩)
      all_goals
        go_wp2
        go_meet
        rw [X2.out]
        exact ⟨H1.out.drew.head .src (by decide) h1 k1 q1 (by simp [letC, gPc]), (K1.out.trans (Kq.drew wc p l)).trans q1⟩
    case rest =>
      obtain ⟨h1, k1⟩ := hcut
      have H2 := Lib.hid h1
      have K2 := Lib.hid k1
      clear h1 k1 H1 K1
      go_upto_region 3 with fail
      go_cut [] (fun wx => Lg W0 wx p l x3.1 v0 vd vs vg x3.2 ∧ Kq w wx p l)
      case first =>
        have CN := Lib.hid (hone_any (o := 2) H2.out.drew.gl H2.out.drew.lb (by decide) H2.out.l0 x2.1.dst rfl)
        go_region_law (go_simp; go_at_call 119; refine CN.out.mono ?_; rintro e w' ⟨rfl, h1, k1, q1⟩)
        all_goals
          go_wp2
          go_meet
          rw [X3.out]
          exact ⟨H2.out.drew.head .dst (by decide) h1 k1 q1 (by simp [letC, gPc]), (K2.out.trans (Kq.drew wc p l)).trans q1⟩
      case rest =>
        obtain ⟨h1, k1⟩ := hcut
        have H3 := Lib.hid h1
        have K3 := Lib.hid k1
        clear h1 k1 H2 K2
        go_upto_region 4 with fail
        go_cut [] (fun wx => Lg W0 wx p l x4.1 v0 vd vs vg x4.2 ∧ Kq w wx p l)
        case first =>
          have CN := Lib.hid (hnum_any (o := 3) H3.out.drew.gl H3.out.drew.lb (by decide) H3.out.l0 (show 3 < 17 by decide))
          go_region_law (go_simp; go_at_call 118; refine CN.out.mono ?_; rintro e w' ⟨rfl, h1, k1, q1⟩)
          all_goals
            go_wp2
            go_meet
            rw [X4.out]
            exact ⟨H3.out.drew.head .term (by decide) h1 k1 q1 (by simp [letC, gPc]), (K3.out.trans (Kq.drew wc p l)).trans q1⟩
        case rest =>
          obtain ⟨h1, k1⟩ := hcut
          have H4 := Lib.hid h1
          have K4 := Lib.hid k1
          clear h1 k1 H3 K3
          go_upto_region 5 with fail
          go_cut [5, 6] (fun s5 s6 wx => Lg W0 wx p l x4.1 v0 vd vs vg x4.2 ∧ Kq w wx p l ∧ s6 = .bool (pcs x4.1.kind).isSome ∧
            ((pcs x4.1.kind = none ∧ s5 = .slice none 0 0) ∨ ∃ ps, pcs x4.1.kind = some ps ∧ PVs wx s5 (ps.map fnP)))
          case first =>
            have HD := Lib.hid H4.out.drew
            have KD := Lib.hid (K4.out.trans (Kq.drew wc p l))
            have c0 : wc.drew.cell? ⟨l, 0, none⟩ = some (.int .u8 x4.1.kind) := by rw [H4.out.drew.lb.cell]; rfl
            have hll : l < wc.drew.heap.size := H4.out.drew.lb.lt
            rcases hps : pcs x4.1.kind with - | ps
            · have HN := Lib.hid (table_none hps)
              have HP := Lib.hid hps
              clear hps
              go_region_law (go_simp; go_at_call 46; refine (parts_any _).mono ?_; rintro e w' ⟨m, rfl, hM⟩; have c1 := (hM.bel.cell hll).trans c0; have hlk := hM.look0 x4.1.kind HN.out; have MM := Lib.hid hM; clear hM)
              all_goals
                go_wp2
                go_meet
                exact ⟨HD.out.below MM.out.bel, KD.out.trans (Kq.below MM.out.bel p l), by rw [HP.out]; rfl, .inl ⟨HP.out, rfl⟩⟩
            · obtain ⟨n, hn, ha1, ha2, ha3⟩ := table_at hps
              have HP := Lib.hid hps
              have A2 := Lib.hid ha2
              have LK := Lib.hid (fun (w0 w' : World) (m : Nat) (h : Mi w0 w' m table) => h.look x4.1.kind n hn ha1 ha3)
              clear hps ha1 ha2 ha3
              go_region_law (go_simp; go_at_call 46; refine (parts_any _).mono ?_; rintro e w' ⟨m, rfl, hM⟩; have c1 := (hM.bel.cell hll).trans c0; obtain ⟨v, hv, hlk⟩ := LK.out _ _ _ hM; have MM := Lib.hid hM; have VV := Lib.hid hv; clear hM hv)
              all_goals
                go_wp2
                go_meet
                exact ⟨HD.out.below MM.out.bel, KD.out.trans (Kq.below MM.out.bel p l), by rw [HP.out]; rfl, .inr ⟨ps, HP.out, by rw [← A2.out]; exact VV.out⟩⟩
          case rest =>
            obtain ⟨h1, k1, rfl, hx⟩ := hcut
            have H5 := Lib.hid h1
            have K5 := Lib.hid k1
            clear h1 k1 H4 K4
            rcases hx with ⟨hps, rfl⟩ | ⟨ps, hps, b, rfl, hb⟩
            · have HP := Lib.hid hps
              clear hps
              go_wp2_with fail
              go_loopg [52] 0 (fun q c52 wr => c52 = .int .i64 0 ∧ wr = wc)
              case atStart => exact ⟨rfl, rfl⟩
              case round =>
                obtain ⟨rfl, rfl⟩ := hrel
                go_wp2
                go_ret
                refine ⟨rfl, ⟨v0, vd, vs, vg, ?_, fun _ => rfl⟩, K5.out⟩
                rw [HP.out]
                exact H5.out
            · have HP := Lib.hid hps
              have hnh := (pcs_some hps).2.2.2
              have hnd := (pcs_some hps).2.2.1
              have HNH := Lib.hid hnh
              have HND := Lib.hid hnd
              have KB := Lib.hid hb
              have hn5 := pcs_len hps
              obtain ⟨n, hn⟩ : ∃ n, n = ps.length := ⟨_, rfl⟩
              have hn' : (ps.map fnP).length = n := by rw [List.length_map, hn]
              have N := Lib.hid hn
              rw [hn']
              rw [← hn] at hn5
              obtain ⟨A0, c0, hkp, -⟩ := H5.out.gl.ex
              have hbp : b ≠ p := hb.ne_ hkp (by decide)
              have hbl : b ≠ l := hb.ne_ H5.out.lb (by decide)
              clear hps hnh hnd hb hn hn' hkp
              go_wp2_with fail
              go_loopg [52] n (fun q c52 wr => ∃ j : Nat, j ≤ n ∧ q = n - j ∧ c52 = .int .i64 j ∧ (∃ ve' vd' vs' vg', Lg W0 wr p l (gRun (ps.take j) x4).1 ve' vd' vs' vg' (gRun (ps.take j) x4).2 ∧ (.entries ∉ ps.take j → ve' = v0) ∧ (.command ∉ ps.take j → vs' = vs)) ∧ Kq w wr p l ∧ Blk wr b 124 ((ps.map fnP).map fnV).toArray)
              case atStart => exact ⟨0, Nat.zero_le _, by omega, rfl, ⟨_, _, _, _, H5.out, fun _ => rfl, fun _ => rfl⟩, K5.out, KB.out⟩
              case round =>
                obtain ⟨j, hj, hq, rfl, ⟨ve', vd', vs', vg', h6, hv6, hs6⟩, k6, b6⟩ := hrel
                have Q := Lib.hid hq
                have H6 := Lib.hid h6
                have V6 := Lib.hid hv6
                have S6 := Lib.hid hs6
                have K6 := Lib.hid k6
                have B6 := Lib.hid b6
                clear hq h6 k6 b6 hv6 hs6 H5 K5 KB
                by_cases hjn : j < n
                · have hjl : j < ps.length := by have := N.out; omega
                  have hjn' : (j : Int) < n := by omega
                  have c1 : wr.cell? ⟨b, j, none⟩ = some (.func (.func (fnP ps[j])) #[] #[]) := by
                    rw [B6.out.cell]
                    simp [fnV, hjl]
                  have hT : ps.take (j + 1) = ps.take j ++ [ps[j]] := List.take_succ_eq_append_getElem hjl
                  have hS : gRun (ps.take (j + 1)) x4 = gPc (gRun (ps.take j) x4).1 (gRun (ps.take j) x4).2 ps[j] := by
                    rw [hT, gRun_append]; rfl
                  have hpc := HNH.out _ (List.getElem_mem hjl)
                  have hnot : ps[j] ∉ ps.take j := by
                    intro hm
                    obtain ⟨i, hi, he⟩ := List.mem_take_iff_getElem.1 hm
                    have := (List.getElem_inj HND.out).1 he
                    omega
                  have hen : ps[j] = .entries → (gRun (ps.take j) x4).1.es = [] ∧ ve' = .slice none 0 0 := by
                    intro he
                    rw [he] at hnot
                    exact ⟨by rw [gRun_es _ _ hnot]; exact HE.out, by rw [V6.out hnot, hv0]⟩
                  have hE2 : ∀ ve2, (ps[j] ≠ .entries → ve2 = ve') → .entries ∉ ps.take (j + 1) → ve2 = v0 := by
                    intro ve2 h1 h2
                    rw [hT] at h2
                    rw [h1 (fun e => h2 (by rw [e]; simp)), V6.out (fun e => h2 (List.mem_append_left _ e))]
                  have hE3 : ∀ vs2, (ps[j] ≠ .command → vs2 = vs') → .command ∉ ps.take (j + 1) → vs2 = vs := by
                    intro vs2 h1 h2
                    rw [hT] at h2
                    rw [h1 (fun e => h2 (by rw [e]; simp)), S6.out (fun e => h2 (List.mem_append_left _ e))]
                  obtain ⟨pc, hpe⟩ : ∃ pc, pc = ps[j] := ⟨_, rfl⟩
                  rw [← hpe] at c1 hS hpc hen hE2 hE3
                  obtain ⟨f, hf⟩ : ∃ f, f = fnP pc := ⟨_, rfl⟩
                  have eg := fnP_enters pc hpc
                  have CN := Lib.hid (gp_any pc hpc H6.out hen)
                  rw [← hf] at c1 eg CN
                  have HS := Lib.hid hS
                  have HE2 := Lib.hid hE2
                  have HE3 := Lib.hid hE3
                  clear hS hpe hpc hf hT hnot hen hE2 hE3
                  go_wp2_with fail
                  refine CN.out.mono ?_
                  rintro e w7 ⟨rfl, ⟨ve2, vd2, vs2, vg2, h7, hv7, hs7⟩, k7⟩
                  have H7 := Lib.hid h7
                  have V7 := Lib.hid hv7
                  have S7 := Lib.hid hs7
                  have K7 := Lib.hid (K6.out.trans k7)
                  have B7 := Lib.hid (k7.2 _ _ _ hbp hbl B6.out)
                  clear h7 hv7 hs7 k7 c1 eg
                  go_wp2
                  go_roundg (n - (j + 1))
                  case measure => have := Q.out; omega
                  case rel =>
                    refine ⟨j + 1, by omega, rfl, by go_num, ⟨ve2, vd2, vs2, vg2, ?_, HE2.out ve2 V7.out, HE3.out vs2 S7.out⟩, K7.out, B7.out⟩
                    rw [HS.out]
                    exact H7.out
                · obtain rfl : j = n := by omega
                  go_wp2
                  go_ret
                  refine ⟨by rw [HP.out]; rfl, ⟨ve', vd', vs', vg', ?_, ?_⟩, K6.out⟩
                  · rw [HP.out]
                    have := H6.out
                    rw [N.out, List.take_length] at this
                    exact this
                  · rw [HP.out]
                    have := S6.out
                    rw [N.out, List.take_length] at this
                    exact this
end Go.Proofs.YthjdkjinkmdclaaGreat

/- Letters: Get: what it answers. -/
namespace Go.Proofs.YthjdkjinkmdclaaGreat
open Go.RowKit

/-- The letter that is none. -/
def zeroL : Array Value := letC Lt.zero (.slice none 0 0) (.slice none 0 0) (.slice none 0 0) (.slice none 0 0)
theorem Lg.new {w : World} {A : Option Addr} {n c : Nat} {xs : List Int} (hb : Bs w (.slice A n c) xs) (hby : ∀ c ∈ xs, byt c) (hl : xs.length ≤ 70368744177664) :
    Lg w (((w.alloc (.cells zeroL 36)).alloc (.cells #[.slice A n c, .bool false] 84)).alloc (.cells zeroL 36)) (w.heap.size + 1) (w.heap.size + 1 + 1) Lt.zero (.slice none 0 0) (.slice none 0 0) (.slice none 0 0) (.slice none 0 0) (xs, false) := by
  have b3 := below_alloc3_ w (.cells zeroL 36) (.cells #[.slice A n c, .bool false] 84) (.cells zeroL 36)
  obtain ⟨A', c', hv, hc, hlx, hh⟩ := id hb
  injection hv with e1 e2 e3
  subst e2
  have k1 := (Blk.new (w.alloc (.cells zeroL 36)) 84 #[.slice A xs.length c, .bool false]).alloc (.cells zeroL 36)
  have k2 := Blk.new ((w.alloc (.cells zeroL 36)).alloc (.cells #[.slice A xs.length c, .bool false] 84)) 36 zeroL
  simp only [World.size_alloc] at k1 k2
  exact ⟨⟨⟨A, c, k1, hb⟩, by omega, b3, hby, hl⟩, k2, by omega, Lv.zero _ _⟩
theorem setCells_blk {g t : Nat} : ∀ (vs pre rest : List Value) (w : World), rest.length = vs.length → Blk w g t (pre ++ rest).toArray → Blk (w.setCells g pre.length vs) g t (pre ++ vs).toArray
  | [], pre, rest, w, h, hk => by
    have : rest = [] := List.eq_nil_of_length_eq_zero (by simpa using h)
    subst this; exact hk
  | v :: vs, pre, [], w, h, hk => by simp at h
  | v :: vs, pre, r :: rest, w, h, hk => by
    have h1 : ((pre ++ r :: rest).toArray).setIfInBounds pre.length v = ((pre ++ [v]) ++ rest).toArray := by
      simp [List.setIfInBounds_toArray]
    have h2 := hk.set_ pre.length v
    rw [h1] at h2
    have := setCells_blk vs (pre ++ [v]) rest _ (by simpa using h) h2
    simpa [World.setCells] using this
theorem setCells_below {B : Nat} {w0 : World} {g : Nat} (hg : B ≤ g) : ∀ (vs : List Value) (i : Nat) (w : World), Below B w0 w → Below B w0 (w.setCells g i vs)
  | [], _, _, h => h
  | _v :: vs, i, _w, h => setCells_below hg vs (i + 1) _ (h.setCell hg _)
theorem setCells_kq {w0 : World} {p g : Nat} : ∀ (vs : List Value) (i : Nat) (w : World), Kq w0 w p g → Kq w0 (w.setCells g i vs) p g
  | [], _, _, h => h
  | v :: vs, i, _w, h => setCells_kq vs (i + 1) _ (h.trans (Kq.setg (g := g) (i := i) p v))
theorem Blk.there {w : World} {g t : Nat} {cs : Array Value} (h : Blk w g t cs) {n : Nat} (hn : n = cs.size) : w.there g 0 n := fun j hj => by
  subst hn
  rw [Nat.zero_add, h.cell, Array.getElem?_eq_getElem hj]
  exact ⟨rfl, h.free j⟩
theorem Blk.range {w : World} {g t : Nat} {cs : List Value} (h : Blk w g t cs.toArray) : w.rangeAt g 0 cs := fun j v hj => by
  rw [Nat.zero_add, h.cell]
  simpa using hj
theorem let_size : (Tryz.prog.info? 36).map (·.size) = some 17 := by kernel_rfl
/-- What Get answers, as values. -/
def GetA (o : Option Lt) (B : Nat) (e : Ending) (w' : World) : Prop := match o with
  | some L => ∃ ve vd vs vg, e = .returned (.tuple #[.agg (letC L ve vd vs vg), .int .i64 0]) ∧ Lv B w' L ve vd vs vg
  | none => e = .returned (.tuple #[.agg zeroL, .int .i64 4])
/-- What Get answers; entries and steps are not got of one letter. -/
def GetB (o : Option Lt) (B : Nat) (e : Ending) (w' : World) : Prop := match o with
  | some L => ∃ ve vd vs vg, e = .returned (.tuple #[.agg (letC L ve vd vs vg), .int .i64 0]) ∧ Lv B w' L ve vd vs vg ∧ (L.es = [] ∨ vs = .slice none 0 0)
  | none => e = .returned (.tuple #[.agg zeroL, .int .i64 4])
theorem pcs_cmd {k : Int} {ps : List Pc} (h : pcs k = some ps) (hc : .command ∈ ps) : .entries ∉ ps := by
  unfold pcs at h
  repeat' split at h
  all_goals first
    | (injection h with h; subst h; revert hc; decide)
    | cases h
set_option maxHeartbeats 8000000 in
set_option maxRecDepth 100000 in
theorem Get_any2 {w : World} {v : Value} {xs : List Int} (hb : Bs w v xs) (hby : ∀ c ∈ xs, byt c) (hl : xs.length ≤ 70368744177664) :
    Calls Tryz.prog 16 #[v] w fun e w' => GetB (getL xs) w.heap.size e w' ∧ Below w.heap.size w w' := by
  obtain ⟨A, c, rfl, -⟩ := id hb
  have NEW := Lib.hid (Lg.new hb hby hl)
  have CN := Lib.hid (through_get (Lg.new hb hby hl) rfl)
  have KR := Lib.hid (((Blk.new w 36 zeroL).alloc (.cells #[.slice A xs.length c, .bool false] 84)).alloc (.cells zeroL 36))
  have hG : (match pcs (headG xs).1.kind with
    | none => none
    | some ps => if (gRun ps (headG xs)).2.2 = false ∧ (gRun ps (headG xs)).2.1 = [] ∧ 0 ≤ (gRun ps (headG xs)).1.e then some (gRun ps (headG xs)).1 else none) = getL xs := rfl
  have hh : gRun heads (Lt.zero, (xs, false)) = headG xs := rfl
  rw [hh] at CN
  have hE0 : (headG xs).1.es = [] := gRun_es heads (Lt.zero, (xs, false)) (by decide)
  obtain ⟨hx, hhx⟩ : ∃ x, x = headG xs := ⟨_, rfl⟩
  rw [← hhx] at CN hG hE0
  have E0 := Lib.hid hE0
  have GL := Lib.hid hG
  clear hb hby hl hG hh hhx hE0
  go_enter Tryz.func16, Tryz.ntmps16
  go_upto_region 3 with fail
  go_cut [31] (fun s31 wx => ∃ L ve vd vs vg s' no, Lg w wx (w.heap.size + 1) (w.heap.size + 1 + 1) L ve vd vs vg s' ∧ Blk wx w.heap.size 36 zeroL ∧ s31 = .bool no ∧ (getL xs = if no = true then none else some L) ∧ (L.es = [] ∨ vs = .slice none 0 0))
  case first =>
    rcases hps : pcs hx.1.kind with - | ps
    · have HP := Lib.hid hps
      rw [hps] at CN
      clear hps
      go_wp2_with fail
      refine CN.out.mono ?_
      rintro e w2 ⟨rfl, ⟨ve, vd, vs, vg, h2, hs2⟩, q2⟩
      have H2 := Lib.hid h2
      have R2 := Lib.hid (q2.2 _ _ _ (by omega) (by omega) KR.out)
      clear h2 q2 hs2
      go_wp2
      go_meet
      refine ⟨_, ve, vd, vs, vg, _, true, H2.out, R2.out, rfl, ?_, .inl E0.out⟩
      rw [← GL.out, HP.out, if_pos rfl]
    · have HP := Lib.hid hps
      rw [hps] at CN
      have GL2 := Lib.hid (show getL xs = if (gRun ps hx).2.2 = false ∧ (gRun ps hx).2.1 = [] ∧ 0 ≤ (gRun ps hx).1.e then some (gRun ps hx).1 else none by rw [← GL.out, hps])
      rw [show (some ps).getD [] = ps from rfl] at CN
      have hEC : .command ∈ ps → (gRun ps hx).1.es = [] := fun hc => by rw [gRun_es ps hx (pcs_cmd HP.out hc)]; exact E0.out
      obtain ⟨y, hy⟩ : ∃ y, y = gRun ps hx := ⟨_, rfl⟩
      rw [← hy] at CN GL2 hEC
      have EC := Lib.hid hEC
      clear hps hy hEC
      obtain ⟨L, ys, b⟩ := y
      simp only at CN GL2 EC
      go_wp2_with fail
      refine CN.out.mono ?_
      rintro e w2 ⟨rfl, ⟨ve, vd, vs, vg, h2, hs2⟩, q2⟩
      have H2 := Lib.hid h2
      have S2 := Lib.hid hs2
      have R2 := Lib.hid (q2.2 _ _ _ (by omega) (by omega) KR.out)
      obtain ⟨A2, c2, hk2, hf2⟩ := h2.gl.ex
      have d0 := hk2.cell 0
      have d1 := hk2.cell 1
      have d13 : w2.cell? ⟨w.heap.size + 1 + 1, 13, none⟩ = some (.int .i64 L.e) := by rw [h2.lb.cell]; rfl
      simp only [List.getElem?_toArray, List.getElem?_cons_zero, List.getElem?_cons_succ] at d0 d1
      obtain ⟨m, hm⟩ : ∃ m, m = ys.length := ⟨_, rfl⟩
      have M := Lib.hid hm
      rw [← hm] at d0
      have FIN := Lib.hid (show ∀ no : Bool, (no = true ↔ ¬ (b = false ∧ ys = [] ∧ 0 ≤ L.e)) → ∃ L' ve vd vs vg s' no', Lg w w2 (w.heap.size + 1) (w.heap.size + 1 + 1) L' ve vd vs vg s' ∧ Blk w2 w.heap.size 36 zeroL ∧ Value.bool no = .bool no' ∧ (getL xs = if no' = true then none else some L') ∧ (L'.es = [] ∨ vs = .slice none 0 0) from by
        intro no hno
        refine ⟨L, ve, vd, vs, vg, (ys, b), no, H2.out, R2.out, rfl, ?_, by
          by_cases hc : Pc.command ∈ ps
          · exact .inl (EC.out hc)
          · exact .inr (S2.out hc)⟩
        rw [GL2.out]
        cases no
        · rw [if_pos (Decidable.of_not_not (fun h => Bool.false_ne_true (hno.2 h)))]; rfl
        · rw [if_neg (hno.1 rfl)]; rfl)
      clear h2 q2 hk2 hf2 hm CN hs2
      cases b
      · by_cases hm0 : m = 0
        · subst hm0
          by_cases hE : L.e < 0
          · go_wp2
            go_meet
            exact FIN.out true ⟨fun _ h => by have := h.2.2; omega, fun _ => rfl⟩
          · go_wp2
            go_meet
            exact FIN.out (decide (L.e < 0)) ⟨fun h => (by have := of_decide_eq_true h; omega), fun h => absurd ⟨trivial, List.eq_nil_of_length_eq_zero M.out.symm, by omega⟩ h⟩
        · have hm1 : (0 : Int) < m := by omega
          go_wp2
          go_meet
          exact FIN.out true ⟨fun _ h => by have := M.out; rw [h.2.1] at this; exact hm0 this, fun _ => rfl⟩
      · go_wp2
        go_meet
        exact FIN.out true ⟨fun _ h => (by cases h.1), fun _ => rfl⟩
  case rest =>
    obtain ⟨L, ve, vd, vs, vg, s', no, h2, r2, rfl, hgl, htwo⟩ := hcut
    have TWO := Lib.hid htwo
    clear htwo
    have HGL := Lib.hid hgl
    have H2 := Lib.hid h2
    have R2 := Lib.hid r2
    have hb2 := h2.gl.bel
    have BB := Lib.hid hb2
    clear hgl CN NEW KR GL hb2
    have TH := Lib.hid (r2.there (n := 17) rfl)
    clear r2
    cases no
    · have GLX := Lib.hid (show getL xs = some L from HGL.out)
      obtain ⟨⟨e1, ⟨Ae, ne, rfl⟩⟩, ⟨d1, ⟨Ad, nd, rfl⟩⟩, ⟨As, rfl, s1⟩, ⟨Ag, rfl, g1⟩⟩ := id h2.lv
      obtain ⟨ns, hns⟩ : ∃ n, n = L.steps.length := ⟨_, rfl⟩
      obtain ⟨ng, hng⟩ : ∃ n, n = L.gots.length := ⟨_, rfl⟩
      rw [← hns, ← hng] at h2 H2
      rw [← hns] at TWO
      obtain ⟨A2, c2, hkp, -⟩ := h2.gl.ex
      have HKP := Lib.hid hkp
      have RG := Lib.hid (Blk.range (cs := [.int .u8 L.kind, .int .u8 L.src, .int .u8 L.dst, .int .u64 L.term, .int .u64 L.index, .int .u64 L.mark, .int .u64 L.commit, .bool L.yes, .slice Ae ne ne, .slice Ad nd nd, .int .u8 L.cl, .int .u64 L.num, .slice As ns ns, .int .i64 L.e, .int .i64 L.re, .int .i64 L.ra, .slice Ag ng ng]) h2.lb)
      have kf : Blk (wc.setCells w.heap.size 0 [.int .u8 L.kind, .int .u8 L.src, .int .u8 L.dst, .int .u64 L.term, .int .u64 L.index, .int .u64 L.mark, .int .u64 L.commit, .bool L.yes, .slice Ae ne ne, .slice Ad nd nd, .int .u8 L.cl, .int .u64 L.num, .slice As ns ns, .int .i64 L.e, .int .i64 L.re, .int .i64 L.ra, .slice Ag ng ng]) w.heap.size 36 (letC L (.slice Ae ne ne) (.slice Ad nd nd) (.slice As ns ns) (.slice Ag ng ng)) := setCells_blk [.int .u8 L.kind, .int .u8 L.src, .int .u8 L.dst, .int .u64 L.term, .int .u64 L.index, .int .u64 L.mark, .int .u64 L.commit, .bool L.yes, .slice Ae ne ne, .slice Ad nd nd, .int .u8 L.cl, .int .u64 L.num, .slice As ns ns, .int .i64 L.e, .int .i64 L.re, .int .i64 L.ra, .slice Ag ng ng] [] [.int .u8 0, .int .u8 0, .int .u8 0, .int .u64 0, .int .u64 0, .int .u64 0, .int .u64 0, .bool false, .slice none 0 0, .slice none 0 0, .int .u8 0, .int .u64 0, .slice none 0 0, .int .i64 0, .int .i64 0, .int .i64 0, .slice none 0 0] wc rfl R2.out
      have BF := Lib.hid (setCells_below (Nat.le_refl w.heap.size) [.int .u8 L.kind, .int .u8 L.src, .int .u8 L.dst, .int .u64 L.term, .int .u64 L.index, .int .u64 L.mark, .int .u64 L.commit, .bool L.yes, .slice Ae ne ne, .slice Ad nd nd, .int .u8 L.cl, .int .u64 L.num, .slice As ns ns, .int .i64 L.e, .int .i64 L.re, .int .i64 L.ra, .slice Ag ng ng] 0 _ BB.out)
      have LF := Lib.hid (H2.out.lv.kq (setCells_kq (p := w.heap.size + 1) (g := w.heap.size) [.int .u8 L.kind, .int .u8 L.src, .int .u8 L.dst, .int .u64 L.term, .int .u64 L.index, .int .u64 L.mark, .int .u64 L.commit, .bool L.yes, .slice Ae ne ne, .slice Ad nd nd, .int .u8 L.cl, .int .u64 L.num, .slice As ns ns, .int .i64 L.e, .int .i64 L.re, .int .i64 L.ra, .slice Ag ng ng] 0 wc (Kq.refl wc _ _)) HKP.out R2.out)
      have KF := Lib.hid kf
      clear h2 hkp HGL e1 d1 s1 g1 hns hng kf
      go_upto_region 5 with fail
      refine wp_region_lit ?_
      refine wpList_load_mid rfl 36 _ rfl (w.heap.size + 1 + 1) 0 rfl [.int .u8 L.kind, .int .u8 L.src, .int .u8 L.dst, .int .u64 L.term, .int .u64 L.index, .int .u64 L.mark, .int .u64 L.commit, .bool L.yes, .slice Ae ne ne, .slice Ad nd nd, .int .u8 L.cl, .int .u64 L.num, .slice As ns ns, .int .i64 L.e, .int .i64 L.re, .int .i64 L.ra, .slice Ag ng ng] _ RG.out Tryz.underlying36 rfl let_size ?_
      refine wpList_store_mid rfl 36 _ _ rfl w.heap.size 0 #[.int .u8 L.kind, .int .u8 L.src, .int .u8 L.dst, .int .u64 L.term, .int .u64 L.index, .int .u64 L.mark, .int .u64 L.commit, .bool L.yes, .slice Ae ne ne, .slice Ad nd nd, .int .u8 L.cl, .int .u64 L.num, .slice As ns ns, .int .i64 L.e, .int .i64 L.re, .int .i64 L.ra, .slice Ag ng ng] rfl rfl TH.out let_size (by simp [Value.oneCell']) ?_
      go_wp2
      have kf := KF.out
      clear KF
      generalize World.setCells wc w.heap.size 0 _ = wf at *
      have f0 := kf.cell 0
      have f1 := kf.cell 1
      have f2 := kf.cell 2
      have f3 := kf.cell 3
      have f4 := kf.cell 4
      have f5 := kf.cell 5
      have f6 := kf.cell 6
      have f7 := kf.cell 7
      have f8 := kf.cell 8
      have f9 := kf.cell 9
      have f10 := kf.cell 10
      have f11 := kf.cell 11
      have f12 := kf.cell 12
      have f13 := kf.cell 13
      have f14 := kf.cell 14
      have f15 := kf.cell 15
      have f16 := kf.cell 16
      simp only [letC, List.getElem?_toArray, List.getElem?_cons_zero, List.getElem?_cons_succ] at f0 f1 f2 f3 f4 f5 f6 f7 f8 f9 f10 f11 f12 f13 f14 f15 f16
      refine bodyPost_ret (v := .tuple #[.agg (letC L (.slice Ae ne ne) (.slice Ad nd nd) (.slice As ns ns) (.slice Ag ng ng)), .int .i64 0]) (by simp [results, Tryz.results16, go_sem, letC, f0, f1, f2, f3, f4, f5, f6, f7, f8, f9, f10, f11, f12, f13, f14, f15, f16]) rfl ?_
      rw [GLX.out]
      exact ⟨⟨_, _, _, _, rfl, LF.out, TWO.out⟩, BF.out⟩
    · have GLX := Lib.hid (show getL xs = none from HGL.out)
      have KF := Lib.hid (show Blk (wc.setCells w.heap.size 0 [.int .u8 0, .int .u8 0, .int .u8 0, .int .u64 0, .int .u64 0, .int .u64 0, .int .u64 0, .bool false, .slice none 0 0, .slice none 0 0, .int .u8 0, .int .u64 0, .slice none 0 0, .int .i64 0, .int .i64 0, .int .i64 0, .slice none 0 0]) w.heap.size 36 zeroL from setCells_blk [.int .u8 0, .int .u8 0, .int .u8 0, .int .u64 0, .int .u64 0, .int .u64 0, .int .u64 0, .bool false, .slice none 0 0, .slice none 0 0, .int .u8 0, .int .u64 0, .slice none 0 0, .int .i64 0, .int .i64 0, .int .i64 0, .slice none 0 0] [] [.int .u8 0, .int .u8 0, .int .u8 0, .int .u64 0, .int .u64 0, .int .u64 0, .int .u64 0, .bool false, .slice none 0 0, .slice none 0 0, .int .u8 0, .int .u64 0, .slice none 0 0, .int .i64 0, .int .i64 0, .int .i64 0, .slice none 0 0] wc rfl R2.out)
      have BF := Lib.hid (setCells_below (Nat.le_refl w.heap.size) [.int .u8 0, .int .u8 0, .int .u8 0, .int .u64 0, .int .u64 0, .int .u64 0, .int .u64 0, .bool false, .slice none 0 0, .slice none 0 0, .int .u8 0, .int .u64 0, .slice none 0 0, .int .i64 0, .int .i64 0, .int .i64 0, .slice none 0 0] 0 _ BB.out)
      clear h2 HGL
      go_upto_region 4 with fail
      refine wp_region_lit ?_
      refine wpList_plain rfl fun K hK => ?_
      go_simp
      refine hK _ _ ?_
      refine wpList_store_mid rfl 36 _ _ rfl w.heap.size 0 #[.int .u8 0, .int .u8 0, .int .u8 0, .int .u64 0, .int .u64 0, .int .u64 0, .int .u64 0, .bool false, .slice none 0 0, .slice none 0 0, .int .u8 0, .int .u64 0, .slice none 0 0, .int .i64 0, .int .i64 0, .int .i64 0, .slice none 0 0] rfl rfl TH.out let_size (by simp [Value.oneCell']) ?_
      go_wp2
      have kf := KF.out
      clear KF
      generalize World.setCells wc w.heap.size 0 _ = wf at *
      have f0 := kf.cell 0
      have f1 := kf.cell 1
      have f2 := kf.cell 2
      have f3 := kf.cell 3
      have f4 := kf.cell 4
      have f5 := kf.cell 5
      have f6 := kf.cell 6
      have f7 := kf.cell 7
      have f8 := kf.cell 8
      have f9 := kf.cell 9
      have f10 := kf.cell 10
      have f11 := kf.cell 11
      have f12 := kf.cell 12
      have f13 := kf.cell 13
      have f14 := kf.cell 14
      have f15 := kf.cell 15
      have f16 := kf.cell 16
      simp only [zeroL, letC, Lt.zero, List.getElem?_toArray, List.getElem?_cons_zero, List.getElem?_cons_succ] at f0 f1 f2 f3 f4 f5 f6 f7 f8 f9 f10 f11 f12 f13 f14 f15 f16
      refine bodyPost_ret (v := .tuple #[.agg zeroL, .int .i64 4]) (by simp [results, Tryz.results16, go_sem, zeroL, letC, Lt.zero, f0, f1, f2, f3, f4, f5, f6, f7, f8, f9, f10, f11, f12, f13, f14, f15, f16]) rfl ?_
      rw [GLX.out]
      exact ⟨rfl, BF.out⟩
theorem Get_any {w : World} {v : Value} {xs : List Int} (hb : Bs w v xs) (hby : ∀ c ∈ xs, byt c) (hl : xs.length ≤ 70368744177664) :
    Calls Tryz.prog 16 #[v] w fun e w' => GetA (getL xs) w.heap.size e w' ∧ Below w.heap.size w w' := by
  refine (Get_any2 hb hby hl).mono ?_
  rintro e w' ⟨h1, h2⟩
  refine ⟨?_, h2⟩
  revert h1
  cases getL xs with
  | none => exact fun h1 => h1
  | some L =>
    rintro ⟨ve, vd, vs, vg, q1, q2, -⟩
    exact ⟨ve, vd, vs, vg, q1, q2⟩
end Go.Proofs.YthjdkjinkmdclaaGreat

/- letters: lives, the chapter's examples. -/
namespace Go.Proofs.YthjdkjinkmdclaaGreat
open Go.RowKit

def exL : Lt := ⟨2, 1, 2, 3, 0, 0, 0, true, [], [], 0, 0, [], 0, 0, 0, []⟩
theorem exL_put : putL exL = ([2, 1, 2, 3, 1, 0], 0) := by
  have h0 : nb 0 = [0] := nb_lt (by decide)
  have h3 : nb 3 = [3] := nb_lt (by decide)
  unfold putL
  simp [exL, pcs, heads, putPcs, putPc, h0, h3]
theorem exL_get : getL [2, 1, 2, 3, 1, 0] = some exL := by rfl
theorem exL_none : getL [2, 1, 2, 3, 2, 0] = none := by rfl
theorem exL_okp : ∀ p, okPc exL p := by
  intro p
  cases p
  case yes => trivial
  case entries => exact ⟨Nat.zero_le _, fun t ht => by cases ht⟩
  case data => exact ⟨(fun c hc => by cases hc), Nat.zero_le _⟩
  case command => exact ⟨Nat.zero_le _, fun c hc => by cases hc⟩
  case reply => exact ⟨⟨⟨by decide, by decide⟩, ⟨by decide, by decide⟩, rfl⟩, Nat.zero_le _, fun c hc => by cases hc⟩
  all_goals exact ⟨by decide, by decide⟩
/-- What was got can be put. -/
theorem Lv.lw {B : Nat} {w : World} {L : Lt} {ve vd vs vg : Value} (h : Lv B w L ve vd vs vg) (ho : ∀ p, okPc L p) : Lw w L ve vd vs vg := by
  obtain ⟨⟨a, -⟩, ⟨b, -⟩, ⟨A, -, c⟩, ⟨G, -, d⟩⟩ := h
  refine ⟨a.ents, b.bs, c.rd, d.rd, LtOk.of_ ho, Nat.le_trans (ho .entries).1 (by decide), fun e he => Nat.le_trans ((ho .entries).2 e he).1.2.1 (by decide), Nat.le_trans (ho .data).2 (by decide), Nat.le_trans (ho .command).1 (by decide), Nat.le_trans (ho .reply).2.1 (by decide)⟩
/-- The letter's lists, as slices. -/
theorem Lv.sl {B : Nat} {w : World} {L : Lt} {ve vd vs vg : Value} (h : Lv B w L ve vd vs vg) : ∃ Ae ne Ad nd As ns Ag ng, ve = .slice Ae ne ne ∧ vd = .slice Ad nd nd ∧ vs = .slice As ns ns ∧ vg = .slice Ag ng ng := by
  obtain ⟨⟨-, ⟨Ae, ne, rfl⟩⟩, ⟨-, ⟨Ad, nd, rfl⟩⟩, ⟨As, rfl, -⟩, ⟨Ag, rfl, -⟩⟩ := h
  exact ⟨Ae, ne, Ad, nd, As, _, Ag, _, rfl, rfl, rfl, rfl⟩
set_option maxHeartbeats 1000000 in
set_option maxRecDepth 100000 in
theorem llives (w : World) : Calls Tryz.prog 6 #[] w fun e w' => e = .returned (.bool true) ∧ Below w.heap.size w w' := by
  have PL := Lib.hid exL_put
  have GL := Lib.hid exL_get
  have GN := Lib.hid exL_none
  have hs : strOfNums [2, 1, 2, 3, 1, 0] = ⟨#[2, 1, 2, 3, 1, 0]⟩ := by decide
  have SS := Lib.hid hs
  have HW := Lib.hid (show Lw w exL (.slice none 0 0) (.slice none 0 0) (.slice none 0 0) (.slice none 0 0) from Lv.lw (B := 0) ⟨⟨EntsO.nil_ _ _, _, _, rfl⟩, ⟨Bo.nil_ _ _, _, _, rfl⟩, ⟨none, rfl, .inl ⟨rfl, rfl, rfl⟩⟩, ⟨none, rfl, .inl ⟨rfl, rfl, rfl⟩⟩⟩ exL_okp)
  clear hs
  go_enter Tryz.func6, Tryz.ntmps6
  go_wp2_with fail
  refine (Put_any (L := exL) HW.out).mono ?_
  rintro e w1 ⟨v1, rfl, ho, hb, hc⟩
  rw [PL.out] at ho ⊢
  have B1 := Lib.hid hb
  have O1 := Lib.hid ho.bs
  have Y1 := Lib.hid (show ∀ c ∈ ([2, 1, 2, 3, 1, 0] : List Int), byt c by intro c hc; simp at hc; rcases hc with rfl | rfl | rfl | rfl | rfl | rfl <;> exact ⟨by decide, by decide⟩)
  have Y2 := Lib.hid (show ∀ c ∈ ([2, 1, 2, 3, 2, 0] : List Int), byt c by intro c hc; simp at hc; rcases hc with rfl | rfl | rfl | rfl | rfl | rfl <;> exact ⟨by decide, by decide⟩)
  obtain ⟨A1, m1, rfl⟩ := hc
  clear ho hb
  go_wp2_with fail
  refine (Get_any O1.out Y1.out (by decide)).mono ?_
  rintro e w2 ⟨ha, hb⟩
  rw [GL.out] at ha
  obtain ⟨ve, vd, vs, vg, rfl, hv⟩ := ha
  obtain ⟨Ae, ne, Ad, nd, As, ns, Ag, ng, rfl, rfl, rfl, rfl⟩ := hv.sl
  have B2 := Lib.hid (B1.out.trans (hb.mono B1.out.size))
  have O2 := Lib.hid (O1.out.below hb)
  have K3 := Lib.hid (Blk.new w2 36 (letC exL (.slice Ae ne ne) (.slice Ad nd nd) (.slice As ns ns) (.slice Ag ng ng)))
  have b3 := below_alloc_ w2 (.cells (letC exL (.slice Ae ne ne) (.slice Ad nd nd) (.slice As ns ns) (.slice Ag ng ng)) 36)
  have B3 := Lib.hid (B2.out.trans (b3.mono B2.out.size))
  have O3 := Lib.hid (O2.out.below b3)
  simp only [letC, exL] at B3 O3 K3 ⊢
  clear hv hb b3 O1 O2 B1 B2
  go_wp2_with fail
  obtain ⟨w3, hw3⟩ : ∃ x, x = w2.alloc (.cells #[.int .u8 2, .int .u8 1, .int .u8 2, .int .u64 3, .int .u64 0, .int .u64 0, .int .u64 0, .bool true, .slice Ae ne ne, .slice Ad nd nd, .int .u8 0, .int .u64 0, .slice As ns ns, .int .i64 0, .int .i64 0, .int .i64 0, .slice Ag ng ng] 36) := ⟨_, rfl⟩
  rw [← hw3] at B3 O3 K3 ⊢
  have hz : w2.heap.size + 1 = w3.heap.size := by rw [hw3]; simp
  clear hw3
  have hx := Bs.lits w3 [2, 1, 2, 3, 2, 0]
  have b5 := below_alloc_ w3 (.cells (bc [2, 1, 2, 3, 2, 0]).toArray 5)
  simp only [bc, List.map_cons, List.map_nil, List.length_cons, List.length_nil, Nat.zero_add, Nat.reduceAdd] at hx b5
  try rw [hz]
  refine (Get_any hx Y2.out (by decide)).mono ?_
  rintro e w5 ⟨ha, hb⟩
  rw [GN.out] at ha
  obtain rfl : e = .returned (.tuple #[.agg zeroL, .int .i64 4]) := ha
  have hzl : zeroL = #[.int .u8 0, .int .u8 0, .int .u8 0, .int .u64 0, .int .u64 0, .int .u64 0, .int .u64 0, .bool false, .slice none 0 0, .slice none 0 0, .int .u8 0, .int .u64 0, .slice none 0 0, .int .i64 0, .int .i64 0, .int .i64 0, .slice none 0 0] := rfl
  rw [hzl]
  have b6 := b5.trans (hb.mono b5.size)
  have b7 := b6.alloc b6.size (.cells #[.int .u8 0, .int .u8 0, .int .u8 0, .int .u64 0, .int .u64 0, .int .u64 0, .int .u64 0, .bool false, .slice none 0 0, .slice none 0 0, .int .u8 0, .int .u64 0, .slice none 0 0, .int .i64 0, .int .i64 0, .int .i64 0, .slice none 0 0] 36)
  have B7 := Lib.hid (B3.out.trans (b7.mono B3.out.size))
  have hcv := run_convert_bs (P := Tryz.prog) (O3.out.below b7) 25 5 9 Tryz.underlying25 Tryz.underlying5 Tryz.underlying9
  rw [SS.out] at hcv
  have k7 := K3.out.below b7 K3.out.lt
  have d0 := k7.cell 0
  have d1 := k7.cell 1
  have d2 := k7.cell 2
  have d3 := k7.cell 3
  have d7 := k7.cell 7
  simp only [List.getElem?_toArray, List.getElem?_cons_zero, List.getElem?_cons_succ] at d0 d1 d2 d3 d7
  clear hx b5 hb b6 b7 k7 hzl
  go_wp2
  go_ret
  exact ⟨rfl, B7.out⟩
end Go.Proofs.YthjdkjinkmdclaaGreat
