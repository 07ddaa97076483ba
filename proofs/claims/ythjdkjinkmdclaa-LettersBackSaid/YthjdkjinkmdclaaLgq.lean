/- Letters: the parts of a letter, got. -/
import Derived.Test.YthjdkjinkmdclaaLgc
import Derived.Test.YthjdkjinkmdclaaLgd
import Derived.Test.YthjdkjinkmdclaaLgf
import Derived.Test.YthjdkjinkmdclaaLpq
namespace Go.Proofs.Ythjdkjinkmdclaa
open Go.RowKit

theorem EntsO.le {B B' : Nat} {w : World} {v : Value} {es : List Ent} (h : EntsO B w v es) (hb : B' ≤ B) : EntsO B' w v es := by
  obtain ⟨ss, h1, h2, h3, h4⟩ := h
  exact ⟨ss, h1, h2.le hb, fun j a b => by obtain ⟨A, q1, q2⟩ := h3 j a b; exact ⟨A, q1, q2.le hb⟩, h4⟩
/-- Offers that were got, in a block of their own. -/
def GtO (B : Nat) (w : World) (s : Value) (rows : List (List Int)) : Prop := ∃ A, s = .slice A rows.length rows.length ∧ Ow B w 102 2 s rows.length (rows.flatMap (fc gotK))
/-- What a letter's lists are, each in blocks of its own. -/
structure Lv (B : Nat) (w : World) (L : Lt) (ve vd vs vg : Value) : Prop where
  es : EntsO B w ve L.es ∧ Clp ve
  data : Bo B w vd L.data ∧ Clp vd
  steps : StO B w vs L.steps
  gots : GtO B w vg L.gots
theorem Lv.zero (B : Nat) (w : World) : Lv B w Lt.zero (.slice none 0 0) (.slice none 0 0) (.slice none 0 0) (.slice none 0 0) :=
  ⟨⟨EntsO.nil_ _ _, _, _, rfl⟩, ⟨Bo.nil_ _ _, _, _, rfl⟩, ⟨none, rfl, .inl ⟨rfl, rfl, rfl⟩⟩, ⟨none, rfl, .inl ⟨rfl, rfl, rfl⟩⟩⟩
theorem Lv.of_ {B : Nat} {w : World} {L M : Lt} {ve vd vs vg : Value} (h : Lv B w L ve vd vs vg) (h1 : M.es = L.es) (h2 : M.data = L.data) (h3 : M.steps = L.steps) (h4 : M.gots = L.gots) : Lv B w M ve vd vs vg := by
  obtain ⟨a, b, c, d⟩ := h
  exact ⟨by rw [h1]; exact a, by rw [h2]; exact b, by rw [h3]; exact c, by rw [h4]; exact d⟩
theorem Lv.kq {B p l : Nat} {w w' : World} {L : Lt} {ve vd vs vg : Value} {cp cl : Array Value} (h : Lv B w L ve vd vs vg) (k : Kq w w' p l) (hp : Blk w p 55 cp) (hl : Blk w l 36 cl) : Lv B w' L ve vd vs vg := by
  obtain ⟨⟨a, a'⟩, ⟨b, b'⟩, ⟨A, c1, c2⟩, ⟨G, d1, d2⟩⟩ := h
  exact ⟨⟨a.kq k hp (by decide) (by decide) hl (by decide) (by decide), a'⟩, ⟨Ow.kq b k hp (by decide) hl (by decide), b'⟩, ⟨A, c1, c2.kq k hp (by decide) hl (by decide)⟩, ⟨G, d1, d2.kq k hp (by decide) hl (by decide)⟩⟩
theorem Lv.below {B : Nat} {w w' : World} {L : Lt} {ve vd vs vg : Value} (h : Lv B w L ve vd vs vg) (hb : Below w.heap.size w w') : Lv B w' L ve vd vs vg := by
  obtain ⟨⟨a, a'⟩, ⟨b, b'⟩, c, ⟨G, d1, d2⟩⟩ := h
  exact ⟨⟨a.below hb, a'⟩, ⟨b.below hb, b'⟩, c.below hb, ⟨G, d1, d2.below hb⟩⟩
/-- Getting a letter: what is being got in block p, the letter in block l. -/
structure Lg (W0 w : World) (p l : Nat) (L : Lt) (ve vd vs vg : Value) (s : Gs) : Prop where
  gl : Gl W0 w p s
  lb : Blk w l 36 (letC L ve vd vs vg)
  l0 : W0.heap.size ≤ l
  lv : Lv W0.heap.size w L ve vd vs vg
theorem Lg.below {W0 w w' : World} {p l : Nat} {L : Lt} {ve vd vs vg : Value} {s : Gs} (h : Lg W0 w p l L ve vd vs vg s) (hb : Below w.heap.size w w') : Lg W0 w' p l L ve vd vs vg s :=
  ⟨h.gl.below hb, h.lb.below hb h.lb.lt, h.l0, h.lv.below hb⟩
theorem Lg.drew {W0 w : World} {p l : Nat} {L : Lt} {ve vd vs vg : Value} {s : Gs} (h : Lg W0 w p l L ve vd vs vg s) : Lg W0 w.drew p l L ve vd vs vg s := h.below (Below.refl _ _).drew
theorem Lg.ne {W0 w : World} {p l : Nat} {L : Lt} {ve vd vs vg : Value} {s : Gs} (h : Lg W0 w p l L ve vd vs vg s) : p ≠ l := h.gl.ne h.lb (by decide)
/-- One of the plain fields is set. -/
theorem Lg.upd {W0 w w' : World} {p l : Nat} {L M : Lt} {ve vd vs vg : Value} {s s' : Gs} {cs : Array Value} (h : Lg W0 w p l L ve vd vs vg s) (g : Gl W0 w' p s') (b : Blk w' l 36 cs) (k : Kq w w' p l) (hc : cs = letC M ve vd vs vg)
    (h1 : M.es = L.es) (h2 : M.data = L.data) (h3 : M.steps = L.steps) (h4 : M.gots = L.gots) : Lg W0 w' p l M ve vd vs vg s' := by
  subst hc
  obtain ⟨A, c, hk, -⟩ := h.gl.ex
  exact ⟨g, b, h.l0, (h.lv.kq k hk h.lb).of_ h1 h2 h3 h4⟩
theorem Lg.keep {W0 w w' : World} {p l : Nat} {L : Lt} {ve vd vs vg : Value} {s : Gs} (h : Lg W0 w p l L ve vd vs vg s) (k : Kq w w' p l) : Lv W0.heap.size w' L ve vd vs vg := by
  obtain ⟨A, c, hk, -⟩ := h.gl.ex
  exact h.lv.kq k hk h.lb
theorem qm_num (p : Nat) : ∀ W, (method 259 54 (.pointer (some ⟨p, 0, none⟩)) "countinghouse/letters.num").run Try.prog W = .ok (68, .pointer (some ⟨p, 0, none⟩)) W := fun _ => by kernel_rfl
theorem qn_num (p : Nat) : ∀ W, (nilAhead 259 54 (.pointer (some ⟨p, 0, none⟩)) "countinghouse/letters.num").run Try.prog W = .ok (some false) W := fun _ => by kernel_rfl
theorem qm_one (p : Nat) : ∀ W, (method 259 54 (.pointer (some ⟨p, 0, none⟩)) "countinghouse/letters.one").run Try.prog W = .ok (69, .pointer (some ⟨p, 0, none⟩)) W := fun _ => by kernel_rfl
theorem qn_one (p : Nat) : ∀ W, (nilAhead 259 54 (.pointer (some ⟨p, 0, none⟩)) "countinghouse/letters.one").run Try.prog W = .ok (some false) W := fun _ => by kernel_rfl
theorem qm_yes (p : Nat) : ∀ W, (method 259 54 (.pointer (some ⟨p, 0, none⟩)) "countinghouse/letters.yes").run Try.prog W = .ok (72, .pointer (some ⟨p, 0, none⟩)) W := fun _ => by kernel_rfl
theorem qn_yes (p : Nat) : ∀ W, (nilAhead 259 54 (.pointer (some ⟨p, 0, none⟩)) "countinghouse/letters.yes").run Try.prog W = .ok (some false) W := fun _ => by kernel_rfl
theorem qm_text (p : Nat) : ∀ W, (method 259 54 (.pointer (some ⟨p, 0, none⟩)) "countinghouse/letters.text").run Try.prog W = .ok (71, .pointer (some ⟨p, 0, none⟩)) W := fun _ => by kernel_rfl
theorem qn_text (p : Nat) : ∀ W, (nilAhead 259 54 (.pointer (some ⟨p, 0, none⟩)) "countinghouse/letters.text").run Try.prog W = .ok (some false) W := fun _ => by kernel_rfl
theorem qm_entries (p : Nat) : ∀ W, (method 259 54 (.pointer (some ⟨p, 0, none⟩)) "countinghouse/letters.entries").run Try.prog W = .ok (67, .pointer (some ⟨p, 0, none⟩)) W := fun _ => by kernel_rfl
theorem qn_entries (p : Nat) : ∀ W, (nilAhead 259 54 (.pointer (some ⟨p, 0, none⟩)) "countinghouse/letters.entries").run Try.prog W = .ok (some false) W := fun _ => by kernel_rfl
theorem qm_command (p : Nat) : ∀ W, (method 259 54 (.pointer (some ⟨p, 0, none⟩)) "countinghouse/letters.command").run Try.prog W = .ok (66, .pointer (some ⟨p, 0, none⟩)) W := fun _ => by kernel_rfl
theorem qn_command (p : Nat) : ∀ W, (nilAhead 259 54 (.pointer (some ⟨p, 0, none⟩)) "countinghouse/letters.command").run Try.prog W = .ok (some false) W := fun _ => by kernel_rfl
theorem qm_reply (p : Nat) : ∀ W, (method 259 54 (.pointer (some ⟨p, 0, none⟩)) "countinghouse/letters.reply").run Try.prog W = .ok (70, .pointer (some ⟨p, 0, none⟩)) W := fun _ => by kernel_rfl
theorem qn_reply (p : Nat) : ∀ W, (nilAhead 259 54 (.pointer (some ⟨p, 0, none⟩)) "countinghouse/letters.reply").run Try.prog W = .ok (some false) W := fun _ => by kernel_rfl
set_option maxHeartbeats 2000000 in
theorem gp_index {W0 w : World} {p l : Nat} {L : Lt} {ve vd vs vg : Value} {s : Gs} (h : Lg W0 w p l L ve vd vs vg s) :
    Calls Try.prog 12 #[.iface 54 (.pointer (some ⟨p, 0, none⟩)), .pointer (some ⟨l, 0, none⟩)] w fun e w' => e = .returned (.tuple #[]) ∧ (Lg W0 w' p l (gPc L s .index).1 ve vd vs vg (gPc L s .index).2) ∧ Kq w w' p l := by
  have hm := qm_num p
  have hn := qn_num p
  have CN := Lib.hid (hnum_any (o := 4) h.drew.gl h.drew.lb (by decide) h.l0 (show 4 < 17 by decide))
  have H := Lib.hid h
  clear h
  go_enter Try.func12, Try.ntmps12
  go_wp2_with fail
  go_region_law (go_simp; go_at_call 68; refine CN.out.mono ?_; rintro e w' ⟨rfl, h1, k1, q1⟩)
  all_goals
    exact bodyPost_end (results_none rfl _ _ _) rfl ⟨rfl, H.out.drew.upd h1 k1 q1 (by simp [letC, gPc]) rfl rfl rfl rfl, (Kq.drew w p l).trans q1⟩
set_option maxHeartbeats 2000000 in
theorem gp_mark {W0 w : World} {p l : Nat} {L : Lt} {ve vd vs vg : Value} {s : Gs} (h : Lg W0 w p l L ve vd vs vg s) :
    Calls Try.prog 13 #[.iface 54 (.pointer (some ⟨p, 0, none⟩)), .pointer (some ⟨l, 0, none⟩)] w fun e w' => e = .returned (.tuple #[]) ∧ (Lg W0 w' p l (gPc L s .mark).1 ve vd vs vg (gPc L s .mark).2) ∧ Kq w w' p l := by
  have hm := qm_num p
  have hn := qn_num p
  have CN := Lib.hid (hnum_any (o := 5) h.drew.gl h.drew.lb (by decide) h.l0 (show 5 < 17 by decide))
  have H := Lib.hid h
  clear h
  go_enter Try.func13, Try.ntmps13
  go_wp2_with fail
  go_region_law (go_simp; go_at_call 68; refine CN.out.mono ?_; rintro e w' ⟨rfl, h1, k1, q1⟩)
  all_goals
    exact bodyPost_end (results_none rfl _ _ _) rfl ⟨rfl, H.out.drew.upd h1 k1 q1 (by simp [letC, gPc]) rfl rfl rfl rfl, (Kq.drew w p l).trans q1⟩
set_option maxHeartbeats 2000000 in
theorem gp_commit {W0 w : World} {p l : Nat} {L : Lt} {ve vd vs vg : Value} {s : Gs} (h : Lg W0 w p l L ve vd vs vg s) :
    Calls Try.prog 15 #[.iface 54 (.pointer (some ⟨p, 0, none⟩)), .pointer (some ⟨l, 0, none⟩)] w fun e w' => e = .returned (.tuple #[]) ∧ (Lg W0 w' p l (gPc L s .commit).1 ve vd vs vg (gPc L s .commit).2) ∧ Kq w w' p l := by
  have hm := qm_num p
  have hn := qn_num p
  have CN := Lib.hid (hnum_any (o := 6) h.drew.gl h.drew.lb (by decide) h.l0 (show 6 < 17 by decide))
  have H := Lib.hid h
  clear h
  go_enter Try.func15, Try.ntmps15
  go_wp2_with fail
  go_region_law (go_simp; go_at_call 68; refine CN.out.mono ?_; rintro e w' ⟨rfl, h1, k1, q1⟩)
  all_goals
    exact bodyPost_end (results_none rfl _ _ _) rfl ⟨rfl, H.out.drew.upd h1 k1 q1 (by simp [letC, gPc]) rfl rfl rfl rfl, (Kq.drew w p l).trans q1⟩
set_option maxHeartbeats 2000000 in
theorem gp_num {W0 w : World} {p l : Nat} {L : Lt} {ve vd vs vg : Value} {s : Gs} (h : Lg W0 w p l L ve vd vs vg s) :
    Calls Try.prog 19 #[.iface 54 (.pointer (some ⟨p, 0, none⟩)), .pointer (some ⟨l, 0, none⟩)] w fun e w' => e = .returned (.tuple #[]) ∧ (Lg W0 w' p l (gPc L s .num).1 ve vd vs vg (gPc L s .num).2) ∧ Kq w w' p l := by
  have hm := qm_num p
  have hn := qn_num p
  have CN := Lib.hid (hnum_any (o := 11) h.drew.gl h.drew.lb (by decide) h.l0 (show 11 < 17 by decide))
  have H := Lib.hid h
  clear h
  go_enter Try.func19, Try.ntmps19
  go_wp2_with fail
  go_region_law (go_simp; go_at_call 68; refine CN.out.mono ?_; rintro e w' ⟨rfl, h1, k1, q1⟩)
  all_goals
    exact bodyPost_end (results_none rfl _ _ _) rfl ⟨rfl, H.out.drew.upd h1 k1 q1 (by simp [letC, gPc]) rfl rfl rfl rfl, (Kq.drew w p l).trans q1⟩
set_option maxHeartbeats 2000000 in
theorem gp_client {W0 w : World} {p l : Nat} {L : Lt} {ve vd vs vg : Value} {s : Gs} (h : Lg W0 w p l L ve vd vs vg s) :
    Calls Try.prog 18 #[.iface 54 (.pointer (some ⟨p, 0, none⟩)), .pointer (some ⟨l, 0, none⟩)] w fun e w' => e = .returned (.tuple #[]) ∧ (Lg W0 w' p l (gPc L s .client).1 ve vd vs vg (gPc L s .client).2) ∧ Kq w w' p l := by
  have hm := qm_one p
  have hn := qn_one p
  have CN := Lib.hid (hone_any (o := 10) h.drew.gl h.drew.lb (by decide) h.l0 L.cl rfl)
  have H := Lib.hid h
  clear h
  go_enter Try.func18, Try.ntmps18
  go_wp2_with fail
  go_region_law (go_simp; go_at_call 69; refine CN.out.mono ?_; rintro e w' ⟨rfl, h1, k1, q1⟩)
  all_goals
    exact bodyPost_end (results_none rfl _ _ _) rfl ⟨rfl, H.out.drew.upd h1 k1 q1 (by simp [letC, gPc]) rfl rfl rfl rfl, (Kq.drew w p l).trans q1⟩
set_option maxHeartbeats 2000000 in
theorem gp_yes {W0 w : World} {p l : Nat} {L : Lt} {ve vd vs vg : Value} {s : Gs} (h : Lg W0 w p l L ve vd vs vg s) :
    Calls Try.prog 14 #[.iface 54 (.pointer (some ⟨p, 0, none⟩)), .pointer (some ⟨l, 0, none⟩)] w fun e w' => e = .returned (.tuple #[]) ∧ (Lg W0 w' p l (gPc L s .yes).1 ve vd vs vg (gPc L s .yes).2) ∧ Kq w w' p l := by
  have hm := qm_yes p
  have hn := qn_yes p
  have CN := Lib.hid (hyes_any (o := 7) h.drew.gl h.drew.lb (by decide) h.l0 (show 7 < 17 by decide))
  have H := Lib.hid h
  clear h
  go_enter Try.func14, Try.ntmps14
  go_wp2_with fail
  go_region_law (go_simp; go_at_call 72; refine CN.out.mono ?_; rintro e w' ⟨rfl, h1, k1, q1⟩)
  all_goals
    exact bodyPost_end (results_none rfl _ _ _) rfl ⟨rfl, H.out.drew.upd h1 k1 q1 (by simp [letC, gPc]) rfl rfl rfl rfl, (Kq.drew w p l).trans q1⟩
set_option maxHeartbeats 2000000 in
theorem gp_data {W0 w : World} {p l : Nat} {L : Lt} {ve vd vs vg : Value} {s : Gs} (h : Lg W0 w p l L ve vd vs vg s) :
    Calls Try.prog 17 #[.iface 54 (.pointer (some ⟨p, 0, none⟩)), .pointer (some ⟨l, 0, none⟩)] w fun e w' => e = .returned (.tuple #[]) ∧ (∃ vd', Lg W0 w' p l (gPc L s .data).1 ve vd' vs vg (gPc L s .data).2) ∧ Kq w w' p l := by
  have hm := qm_text p
  have hn := qn_text p
  have CN := Lib.hid (htext_any (o := 9) h.drew.gl h.drew.lb (by decide) h.l0 L.data vd rfl)
  have H := Lib.hid h
  clear h
  go_enter Try.func17, Try.ntmps17
  go_wp2_with fail
  go_region_law (go_simp; go_at_call 71; refine CN.out.mono ?_; rintro e w' ⟨rfl, v1, h1, k1, q1, o1⟩)
  all_goals
    refine bodyPost_end (results_none rfl _ _ _) rfl ⟨rfl, ⟨v1, h1, k1, H.out.l0, ?_⟩, (Kq.drew w p l).trans q1⟩
    have hv := H.out.drew.keep q1
    refine ⟨hv.es, ?_, hv.steps, hv.gots⟩
    show Bo _ _ _ (gText L.data s).1 ∧ Clp _
    rcases o1 with ⟨rfl, h2⟩ | ⟨h2, h3⟩
    · rw [h2]; exact hv.data
    · exact ⟨h2.le H.out.drew.gl.bel.size, h3⟩
theorem gPc_ents {L : Lt} (s : Gs) (he : L.es = []) : gPc L s .entries = ({ L with es := (gAll s).1 }, (gAll s).2) := by
  unfold gAll
  simp only [gPc]
  split
  · cases L; simp only at he; subst he; rfl
  · rw [he]
theorem gPc_cmd {L : Lt} (s : Gs) : gPc L s .command = ({ L with steps := (getC s.1).1 }, ([], s.2 || (getC s.1).2)) := by
  simp only [gPc, getC]
  rcases allP (cmdP s.1) with k | a <;> simp
theorem gPc_reply {L : Lt} (s : Gs) : gPc L s .reply = ({ L with re := (getR s.1).1.1, ra := (getR s.1).1.2.1, gots := (getR s.1).1.2.2 }, ([], s.2 || (getR s.1).2)) := by
  simp only [gPc, getR]
  rcases allP (replyP s.1) with k | a <;> simp
set_option maxHeartbeats 2000000 in
theorem gp_entries {W0 w : World} {p l : Nat} {L : Lt} {ve vd vs vg : Value} {s : Gs} (h : Lg W0 w p l L ve vd vs vg s) (he : L.es = []) (hv : ve = .slice none 0 0) :
    Calls Try.prog 16 #[.iface 54 (.pointer (some ⟨p, 0, none⟩)), .pointer (some ⟨l, 0, none⟩)] w fun e w' => e = .returned (.tuple #[]) ∧ (∃ ve', Lg W0 w' p l (gPc L s .entries).1 ve' vd vs vg (gPc L s .entries).2) ∧ Kq w w' p l := by
  have hm := qm_entries p
  have hn := qn_entries p
  subst hv
  have CN := Lib.hid (hents_any (o := 8) h.drew.gl h.drew.lb h.l0 rfl)
  rw [gPc_ents s he]
  have H := Lib.hid h
  clear h he
  go_enter Try.func16, Try.ntmps16
  go_wp2_with fail
  go_region_law (go_simp; go_at_call 67; refine CN.out.mono ?_; rintro e w' ⟨rfl, v1, h1, k1, q1, o1, c1⟩)
  all_goals
    refine bodyPost_end (results_none rfl _ _ _) rfl ⟨rfl, ⟨v1, h1, k1, H.out.l0, ?_⟩, (Kq.drew w p l).trans q1⟩
    have hv := H.out.drew.keep q1
    exact ⟨⟨o1.le H.out.drew.gl.bel.size, c1⟩, hv.data, hv.steps, hv.gots⟩
set_option maxHeartbeats 2000000 in
theorem gp_command {W0 w : World} {p l : Nat} {L : Lt} {ve vd vs vg : Value} {s : Gs} (h : Lg W0 w p l L ve vd vs vg s) :
    Calls Try.prog 20 #[.iface 54 (.pointer (some ⟨p, 0, none⟩)), .pointer (some ⟨l, 0, none⟩)] w fun e w' => e = .returned (.tuple #[]) ∧ (∃ vs', Lg W0 w' p l (gPc L s .command).1 ve vd vs' vg (gPc L s .command).2) ∧ Kq w w' p l := by
  have hm := qm_command p
  have hn := qn_command p
  have CN := Lib.hid (hcommand_any (o := 12) h.drew.gl h.drew.lb (by decide) h.l0 (show 12 < 17 by decide))
  rw [gPc_cmd s]
  have H := Lib.hid h
  clear h
  go_enter Try.func20, Try.ntmps20
  go_wp2_with fail
  go_region_law (go_simp; go_at_call 66; refine CN.out.mono ?_; rintro e w' ⟨rfl, A1, h1, k1, q1, o1⟩)
  all_goals
    refine bodyPost_end (results_none rfl _ _ _) rfl ⟨rfl, ⟨_, h1, k1, H.out.l0, ?_⟩, (Kq.drew w p l).trans q1⟩
    have hv := H.out.drew.keep q1
    exact ⟨hv.es, hv.data, ⟨A1, rfl, o1.le H.out.drew.gl.bel.size⟩, hv.gots⟩
set_option maxHeartbeats 2000000 in
theorem gp_reply {W0 w : World} {p l : Nat} {L : Lt} {ve vd vs vg : Value} {s : Gs} (h : Lg W0 w p l L ve vd vs vg s) :
    Calls Try.prog 22 #[.iface 54 (.pointer (some ⟨p, 0, none⟩)), .pointer (some ⟨l, 0, none⟩)] w fun e w' => e = .returned (.tuple #[]) ∧ (∃ vg', Lg W0 w' p l (gPc L s .reply).1 ve vd vs vg' (gPc L s .reply).2) ∧ Kq w w' p l := by
  have hm := qm_reply p
  have hn := qn_reply p
  have CN := Lib.hid (hreply_any (o := 14) h.drew.gl h.drew.lb (by decide) h.l0 (show 16 < 17 by decide))
  rw [gPc_reply s]
  have H := Lib.hid h
  clear h
  go_enter Try.func22, Try.ntmps22
  go_wp2_with fail
  go_region_law (go_simp; go_at_call 70; refine CN.out.mono ?_; rintro e w' ⟨rfl, A1, h1, k1, q1, o1⟩)
  all_goals
    refine bodyPost_end (results_none rfl _ _ _) rfl ⟨rfl, ⟨_, h1, k1, H.out.l0, ?_⟩, (Kq.drew w p l).trans q1⟩
    have hv := H.out.drew.keep q1
    exact ⟨hv.es, hv.data, hv.steps, ⟨A1, rfl, o1.le H.out.drew.gl.bel.size⟩⟩
set_option maxHeartbeats 2000000 in
theorem gp_wrong {W0 w : World} {p l : Nat} {L : Lt} {ve vd vs vg : Value} {s : Gs} (h : Lg W0 w p l L ve vd vs vg s) :
    Calls Try.prog 21 #[.iface 54 (.pointer (some ⟨p, 0, none⟩)), .pointer (some ⟨l, 0, none⟩)] w fun e w' => e = .returned (.tuple #[]) ∧ (Lg W0 w' p l (gPc L s .wrong).1 ve vd vs vg (gPc L s .wrong).2) ∧ Kq w w' p l := by
  have hm := qm_num p
  have hn := qn_num p
  have c13 : w.cell? ⟨l, 13, none⟩ = some (.int .i64 L.e) := by rw [h.lb.cell]; rfl
  obtain ⟨n, hne⟩ : ∃ n : Int, n = IntKind.u64.wrap L.e := ⟨_, rfl⟩
  have b1 := below_alloc_ w (.cells #[.int .u64 n] 23)
  have CN := Lib.hid (hnum_any (o := 0) (h.gl.below b1) (Blk.new w 23 #[.int .u64 n]) (by decide) h.gl.bel.size (by simp))
  have hlw := h.lb.lt
  have hlq : l ≠ w.heap.size := by omega
  have HL := Lib.hid (h.lb.below b1 h.lb.lt)
  have HP := Lib.hid h.ne
  have H := Lib.hid h
  have KB := Lib.hid (Kq.below b1 p l)
  have GP := Lib.hid (show gPc L s .wrong = ({ L with e := IntKind.i64.wrap ((gNum s).1 : Int) }, (gNum s).2) from rfl)
  obtain ⟨x, hx⟩ : ∃ x, x = (gNum s).1 := ⟨_, rfl⟩
  rw [← hx] at CN GP
  rw [GP.out]
  obtain ⟨y, hy⟩ : ∃ y, y = IntKind.i64.wrap (x : Int) := ⟨_, rfl⟩
  have YY := Lib.hid hy
  obtain ⟨z, hz⟩ : ∃ z, z = L.e := ⟨_, rfl⟩
  rw [← hz] at c13 hne
  have n1 := hne.symm
  have y1 := hy.symm
  rw [← hy]
  clear h hx b1 hy hne hlw
  have HZ := Lib.hid hz
  clear hz
  go_enter Try.func21, Try.ntmps21
  go_wp2_with fail
  refine CN.out.mono ?_
  rintro e w2 ⟨rfl, h1, k1, q1⟩
  have kl := q1.2 _ _ _ HP.out.symm hlq HL.out
  have fl := kl.free
  have d0 := k1.cell 0
  have d0' : w2.cell? ⟨w.heap.size, 0, none⟩ = some (.int .u64 x) := d0
  have l13 : w2.cell? ⟨l, 13, none⟩ = some (.int .i64 z) := by rw [HZ.out, kl.cell]; rfl
  have QQ := Lib.hid (KB.out.aside q1 (Nat.le_refl _))
  have G1 := Lib.hid h1
  have KL := Lib.hid kl
  clear d0 h1 k1 kl q1 CN c13
  go_wp2
  refine bodyPost_end (results_none rfl _ _ _) rfl ⟨rfl, ?_, QQ.out.trans (Kq.setg p _)⟩
  exact H.out.upd (G1.out.setg HP.out H.out.l0 13 _) (KL.out.set_ 13 _) (QQ.out.trans (Kq.setg p _)) (by simp [letC]) rfl rfl rfl rfl
end Go.Proofs.Ythjdkjinkmdclaa
