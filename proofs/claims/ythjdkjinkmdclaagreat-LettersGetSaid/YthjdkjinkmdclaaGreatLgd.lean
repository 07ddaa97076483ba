/- Letters: getting a command, a reply: the code's. -/
import Derived.Test.YthjdkjinkmdclaaGreatLgb
import Derived.Test.YthjdkjinkmdclaaGreatPwc
import Derived.Test.YthjdkjinkmdclaaGreatPwr
namespace Go.Proofs.YthjdkjinkmdclaaGreat
open Go.RowKit

/-- A command; whether the bytes are none. -/
def getC (xs : List Int) : List (List Int) × Bool := match allP (cmdP xs) with
  | .ok a => (a, false)
  | .error _ => ([], true)
def getR (xs : List Int) : (Int × Int × List (List Int)) × Bool := match allP (replyP xs) with
  | .ok a => ((a.1.headD 0, a.1.tail.headD 0, a.2), false)
  | .error _ => ((0, 0, []), true)
theorem getcmd_any (v : Value) (xs : List Int) (w : World) (h : Bs w v xs) (hby : ∀ c ∈ xs, byt c) (hl : xs.length ≤ 70368744177664) :
    Calls Tryz.prog 123 #[v] w fun e w' => ∃ A k, e = .returned (.tuple #[.agg #[.slice A (getC xs).1.length (getC xs).1.length], .int .i64 k]) ∧ decide (k ≠ 0) = (getC xs).2 ∧ Ow w.heap.size w' 104 10 (.slice A (getC xs).1.length (getC xs).1.length) (getC xs).1.length ((getC xs).1.flatMap (fc stepK)) ∧ Below w.heap.size w w' := by
  refine (Get_cmd_any v xs w h hby hl).mono ?_
  intro e w' hp
  unfold GPost at hp
  unfold getC
  rcases hr : allP (cmdP xs) with k | a
  · rw [hr] at hp
    obtain ⟨rfl, hb⟩ := hp
    have hk := allP_bad cod_cmd hr
    exact ⟨none, k, rfl, by simp; omega, .inl ⟨rfl, rfl, rfl⟩, hb⟩
  · rw [hr] at hp
    obtain ⟨v, rfl, hq, hb⟩ := hp
    obtain ⟨r0, A0, rfl, rfl, ho⟩ := cmdQ_ex hq
    exact ⟨A0, 0, rfl, by simp, ho, hb⟩
theorem getreply_any (v : Value) (xs : List Int) (w : World) (h : Bs w v xs) (hby : ∀ c ∈ xs, byt c) (hl : xs.length ≤ 70368744177664) :
    Calls Tryz.prog 127 #[v] w fun e w' => ∃ A k, e = .returned (.tuple #[.agg #[.int .i64 (getR xs).1.1, .int .i64 (getR xs).1.2.1, .slice A (getR xs).1.2.2.length (getR xs).1.2.2.length], .int .i64 k]) ∧ decide (k ≠ 0) = (getR xs).2 ∧ Ow w.heap.size w' 108 2 (.slice A (getR xs).1.2.2.length (getR xs).1.2.2.length) (getR xs).1.2.2.length ((getR xs).1.2.2.flatMap (fc gotK)) ∧ Below w.heap.size w w' := by
  refine (Get_reply_any v xs w h hby hl).mono ?_
  intro e w' hp
  unfold GPost at hp
  unfold getR
  rcases hr : allP (replyP xs) with k | a
  · rw [hr] at hp
    obtain ⟨rfl, hb⟩ := hp
    have hk := allP_bad cod_reply hr
    exact ⟨none, k, rfl, by simp; omega, .inl ⟨rfl, rfl, rfl⟩, hb⟩
  · rw [hr] at hp
    obtain ⟨v, rfl, hq, hb⟩ := hp
    obtain ⟨x0, x1, r2, A2, rfl, rfl, ho⟩ := replyQ_ex hq
    exact ⟨A2, 0, rfl, by simp, ho, hb⟩

set_option maxHeartbeats 400000 in
set_option maxRecDepth 100000 in
theorem hcommand_any {W0 w : World} {p : Nat} {s : Gs} (h : Gl W0 w p s) {g o t : Nat} {cs : Array Value} (hg : Blk w g t cs) (ht : t ≠ 84) (hg0 : W0.heap.size ≤ g) (ho : o < cs.size) :
    Calls Tryz.prog 116 #[.pointer (some ⟨p, 0, none⟩), .pointer (some ⟨g, o, none⟩)] w fun e w' => e = .returned (.tuple #[]) ∧ ∃ A, Gl W0 w' p ([], s.2 || (getC s.1).2) ∧ Blk w' g t (cs.setIfInBounds o (.slice A (getC s.1).1.length (getC s.1).1.length)) ∧ Kq w w' p g ∧ Ow w.heap.size w' 104 10 (.slice A (getC s.1).1.length (getC s.1).1.length) (getC s.1).1.length ((getC s.1).1.flatMap (fc stepK)) := by
  obtain ⟨xs, b⟩ := s
  have hne := h.ne hg ht
  obtain ⟨A, c, hk, hf⟩ := h.ex
  have c0 := hk.cell 0
  simp only [List.getElem?_toArray, List.getElem?_cons_zero] at c0
  have H := Lib.hid h
  have HG := Lib.hid hg
  have CN := Lib.hid (getcmd_any (.slice A xs.length c) xs w (hf.below h.bel) h.ok h.le)
  obtain ⟨x, hx⟩ : ∃ x, x = (getC xs).1 := ⟨_, rfl⟩
  obtain ⟨bb, hbb⟩ : ∃ bb, bb = (getC xs).2 := ⟨_, rfl⟩
  have HO := Lib.hid ho
  rw [← hx, ← hbb] at CN
  rw [← hx, ← hbb]
  obtain ⟨n, hn⟩ : ∃ n, n = x.length := ⟨_, rfl⟩
  rw [← hn] at CN ⊢
  clear hk hg hf h hx hbb ho hn
  go_enter Tryz.func116, Tryz.ntmps116
  go_wp2_with fail
  refine CN.out.mono ?_
  rintro e w1 ⟨A1, k, rfl, hkk, ho1, hb1⟩
  have b2 := hb1.trans ((below_alloc_ w1 (.cells #[.slice A1 n n] 28)).mono hb1.size)
  have h2 := H.out.below b2
  have kg := HG.out.below b2 HG.out.lt
  have hpl := H.out.lt
  have ho2 := (Ow.below ho1 (below_alloc_ w1 (.cells #[.slice A1 n n] 28)))
  obtain ⟨A2, c2, hk, hf⟩ := h2.ex
  have fp := hk.free
  have fg := kg.free
  have c2 := hk.cell 0
  have c1 := hk.cell 1
  have d0 := (Blk.new w1 28 #[.slice A1 n n]).cell 0
  obtain ⟨cv, hcv⟩ : ∃ cv, cs[o]? = some cv := ⟨_, Array.getElem?_eq_getElem HO.out⟩
  have cg := (kg.cell o).trans hcv
  simp only [List.getElem?_toArray, List.getElem?_cons_zero, List.getElem?_cons_succ] at c2 c1 d0
  have QQ := Lib.hid (Kq.below b2 p g)
  have H2 := Lib.hid h2
  have KG := Lib.hid kg
  have O2 := Lib.hid ho2
  have KK := Lib.hid hkk
  have HGL := Lib.hid HG.out.lt
  have HPL := Lib.hid hpl
  clear hk hf h2 kg ho2 hkk b2 hb1 ho1 hcv hpl CN
  have key : ∀ (b2 : Bool), b2 = (b || bb) → ∀ wf, wf = ((((w1.alloc (.cells #[.slice A1 n n] 28)).setCell ⟨g, o, none⟩ (.slice A1 n n)).setCell ⟨p, 1, none⟩ (.bool b2)).setCell ⟨p, 0, none⟩ (.slice none 0 0)).drew → ∃ A, Gl W0 wf p ([], b || bb) ∧ Blk wf g t (cs.setIfInBounds o (.slice A n n)) ∧ Kq w wf p g ∧ Ow w.heap.size wf 104 10 (.slice A n n) n (x.flatMap (fc stepK)) := by
    rintro _ rfl wf rfl
    obtain ⟨f1, f2, f3⟩ := Gl.put3 (o := o) (u := .slice A1 n n) (b' := b || bb) H2.out KG.out hne hg0 (Bs.empty (A := none) (c := 0) (ys := []) rfl rfl) (by simp) (by simp)
    exact ⟨A1, f1, f2, QQ.out.trans f3, Ow.below (Ow.far (Ow.far (Ow.far O2.out (p := ⟨g, o, none⟩) HGL.out _) (p := ⟨p, 1, none⟩) HPL.out _) (p := ⟨p, 0, none⟩) HPL.out _) (Below.refl _ _).drew⟩
  have KEY := Lib.hid key
  clear key
  cases b
  · by_cases hk0 : k = 0
    · subst hk0
      obtain rfl : bb = false := by have := KK.out; simpa using this.symm
      go_wp2
      go_region
      exact bodyPost_end (results_none rfl _ _ _) rfl ⟨rfl, KEY.out false rfl _ rfl⟩
    · have hkb : (k == 0) = false := beq_eq_false_iff_ne.2 hk0
      obtain rfl : bb = true := by have := KK.out; rw [← this]; exact decide_eq_true hk0
      go_wp2
      go_region
      refine bodyPost_end (results_none rfl _ _ _) rfl ⟨rfl, KEY.out _ ?_ _ rfl⟩
      simp [hk0]
  · go_wp2
    go_region
    exact bodyPost_end (results_none rfl _ _ _) rfl ⟨rfl, KEY.out true rfl _ rfl⟩
set_option maxHeartbeats 400000 in
set_option maxRecDepth 100000 in
theorem hreply_any {W0 w : World} {p : Nat} {s : Gs} (h : Gl W0 w p s) {g o t : Nat} {cs : Array Value} (hg : Blk w g t cs) (ht : t ≠ 84) (hg0 : W0.heap.size ≤ g) (ho : o + 2 < cs.size) :
    Calls Tryz.prog 120 #[.pointer (some ⟨p, 0, none⟩), .pointer (some ⟨g, o, none⟩)] w fun e w' => e = .returned (.tuple #[]) ∧ ∃ A, Gl W0 w' p ([], s.2 || (getR s.1).2) ∧ Blk w' g t (((cs.setIfInBounds o (.int .i64 (getR s.1).1.1)).setIfInBounds (o + 1) (.int .i64 (getR s.1).1.2.1)).setIfInBounds (o + 2) (.slice A (getR s.1).1.2.2.length (getR s.1).1.2.2.length)) ∧ Kq w w' p g ∧ Ow w.heap.size w' 108 2 (.slice A (getR s.1).1.2.2.length (getR s.1).1.2.2.length) (getR s.1).1.2.2.length ((getR s.1).1.2.2.flatMap (fc gotK)) := by
  obtain ⟨xs, b⟩ := s
  have hne := h.ne hg ht
  obtain ⟨A, c, hk, hf⟩ := h.ex
  have c0 := hk.cell 0
  simp only [List.getElem?_toArray, List.getElem?_cons_zero] at c0
  have H := Lib.hid h
  have HG := Lib.hid hg
  have CN := Lib.hid (getreply_any (.slice A xs.length c) xs w (hf.below h.bel) h.ok h.le)
  obtain ⟨y, hy⟩ : ∃ y, y = (getR xs).1 := ⟨_, rfl⟩
  obtain ⟨bb, hbb⟩ : ∃ bb, bb = (getR xs).2 := ⟨_, rfl⟩
  have HO := Lib.hid ho
  rw [← hy, ← hbb] at CN
  rw [← hy, ← hbb]
  obtain ⟨E, F, x⟩ := y
  simp only at CN ⊢
  obtain ⟨n, hn⟩ : ∃ n, n = x.length := ⟨_, rfl⟩
  rw [← hn] at CN ⊢
  clear hk hg hf h hy hbb ho hn
  go_enter Tryz.func120, Tryz.ntmps120
  go_wp2_with fail
  refine CN.out.mono ?_
  rintro e w1 ⟨A1, k, rfl, hkk, ho1, hb1⟩
  have b2 := hb1.trans ((below_alloc_ w1 (.cells #[.int .i64 E, .int .i64 F, .slice A1 n n] 34)).mono hb1.size)
  have h2 := H.out.below b2
  have kg := HG.out.below b2 HG.out.lt
  have hpl := H.out.lt
  have ho2 := (Ow.below ho1 (below_alloc_ w1 (.cells #[.int .i64 E, .int .i64 F, .slice A1 n n] 34)))
  obtain ⟨A2, c2, hk, hf⟩ := h2.ex
  have fp := hk.free
  have fg := kg.free
  have c2 := hk.cell 0
  have c1 := hk.cell 1
  have d0 := (Blk.new w1 34 #[.int .i64 E, .int .i64 F, .slice A1 n n]).cell 0
  have d1 := (Blk.new w1 34 #[.int .i64 E, .int .i64 F, .slice A1 n n]).cell 1
  have d2 := (Blk.new w1 34 #[.int .i64 E, .int .i64 F, .slice A1 n n]).cell 2
  obtain ⟨cv, hcv⟩ : ∃ cv, cs[o]? = some cv := ⟨_, Array.getElem?_eq_getElem (by have := HO.out; omega)⟩
  have cg := (kg.cell o).trans hcv
  obtain ⟨cv1, hcv1⟩ : ∃ cv, cs[o + 1]? = some cv := ⟨_, Array.getElem?_eq_getElem (by have := HO.out; omega)⟩
  have cg1 := (kg.cell (o + 1)).trans hcv1
  obtain ⟨cv2, hcv2⟩ : ∃ cv, cs[o + 2]? = some cv := ⟨_, Array.getElem?_eq_getElem HO.out⟩
  have cg2 := (kg.cell (o + 2)).trans hcv2
  simp only [List.getElem?_toArray, List.getElem?_cons_zero, List.getElem?_cons_succ] at c2 c1 d0 d1 d2
  have QQ := Lib.hid (Kq.below b2 p g)
  have H2 := Lib.hid h2
  have KG := Lib.hid kg
  have O2 := Lib.hid ho2
  have KK := Lib.hid hkk
  have HGL := Lib.hid HG.out.lt
  have HPL := Lib.hid hpl
  clear hk hf h2 kg ho2 hkk b2 hb1 ho1 hcv hcv1 hcv2 hpl CN
  have key : ∀ (b2 : Bool), b2 = (b || bb) → ∀ wf, wf = ((((((w1.alloc (.cells #[.int .i64 E, .int .i64 F, .slice A1 n n] 34)).setCell ⟨g, o, none⟩ (.int .i64 E)).setCell ⟨g, o + 1, none⟩ (.int .i64 F)).setCell ⟨g, o + 2, none⟩ (.slice A1 n n)).setCell ⟨p, 1, none⟩ (.bool b2)).setCell ⟨p, 0, none⟩ (.slice none 0 0)).drew → ∃ A, Gl W0 wf p ([], b || bb) ∧ Blk wf g t (((cs.setIfInBounds o (.int .i64 E)).setIfInBounds (o + 1) (.int .i64 F)).setIfInBounds (o + 2) (.slice A n n)) ∧ Kq w wf p g ∧ Ow w.heap.size wf 108 2 (.slice A n n) n (x.flatMap (fc gotK)) := by
    rintro _ rfl wf rfl
    obtain ⟨f1, f2, f3⟩ := Gl.put3 (o := o + 2) (u := .slice A1 n n) (b' := b || bb) ((H2.out.setg hne hg0 o (.int .i64 E)).setg hne hg0 (o + 1) (.int .i64 F)) ((KG.out.set_ o (.int .i64 E)).set_ (o + 1) (.int .i64 F)) hne hg0 (Bs.empty (A := none) (c := 0) (ys := []) rfl rfl) (by simp) (by simp)
    exact ⟨A1, f1, f2, ((QQ.out.trans (Kq.setg (g := g) (i := o) p _)).trans (Kq.setg (g := g) (i := o + 1) p _)).trans f3, Ow.below (Ow.far (Ow.far (Ow.far (Ow.far (Ow.far O2.out (p := ⟨g, o, none⟩) HGL.out _) (p := ⟨g, o + 1, none⟩) HGL.out _) (p := ⟨g, o + 2, none⟩) HGL.out _) (p := ⟨p, 1, none⟩) HPL.out _) (p := ⟨p, 0, none⟩) HPL.out _) (Below.refl _ _).drew⟩
  have KEY := Lib.hid key
  clear key
  cases b
  · by_cases hk0 : k = 0
    · subst hk0
      obtain rfl : bb = false := by have := KK.out; simpa using this.symm
      go_wp2
      go_region
      exact bodyPost_end (results_none rfl _ _ _) rfl ⟨rfl, KEY.out false rfl _ rfl⟩
    · have hkb : (k == 0) = false := beq_eq_false_iff_ne.2 hk0
      obtain rfl : bb = true := by have := KK.out; rw [← this]; exact decide_eq_true hk0
      go_wp2
      go_region
      refine bodyPost_end (results_none rfl _ _ _) rfl ⟨rfl, KEY.out _ ?_ _ rfl⟩
      simp [hk0]
  · go_wp2
    go_region
    exact bodyPost_end (results_none rfl _ _ _) rfl ⟨rfl, KEY.out true rfl _ rfl⟩
end Go.Proofs.YthjdkjinkmdclaaGreat
