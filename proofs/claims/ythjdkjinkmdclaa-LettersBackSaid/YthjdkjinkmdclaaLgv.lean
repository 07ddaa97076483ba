/- Letters: Get: what it answers. -/
import Derived.Test.YthjdkjinkmdclaaLgu
import Derived.Deep.MidRow
namespace Go.Proofs.Ythjdkjinkmdclaa
open Go.RowKit

/-- The letter that is none. -/
def zeroL : Array Value := letC Lt.zero (.slice none 0 0) (.slice none 0 0) (.slice none 0 0) (.slice none 0 0)
theorem Lg.new {w : World} {A : Option Addr} {n c : Nat} {xs : List Int} (hb : Bs w (.slice A n c) xs) (hby : ∀ c ∈ xs, byt c) (hl : xs.length ≤ 70368744177664) :
    Lg w (((w.alloc (.cells zeroL 36)).alloc (.cells #[.slice A n c, .bool false] 55)).alloc (.cells zeroL 36)) (w.heap.size + 1) (w.heap.size + 1 + 1) Lt.zero (.slice none 0 0) (.slice none 0 0) (.slice none 0 0) (.slice none 0 0) (xs, false) := by
  have b3 := below_alloc3_ w (.cells zeroL 36) (.cells #[.slice A n c, .bool false] 55) (.cells zeroL 36)
  obtain ⟨A', c', hv, hc, hlx, hh⟩ := id hb
  injection hv with e1 e2 e3
  subst e2
  have k1 := (Blk.new (w.alloc (.cells zeroL 36)) 55 #[.slice A xs.length c, .bool false]).alloc (.cells zeroL 36)
  have k2 := Blk.new ((w.alloc (.cells zeroL 36)).alloc (.cells #[.slice A xs.length c, .bool false] 55)) 36 zeroL
  simp only [World.size_alloc] at k1 k2
  exact ⟨⟨⟨A, c, k1, hb⟩, by omega, b3, hby, hl⟩, k2, by omega, Lv.zero _ _⟩
theorem setCells_blk {g t : Nat} : ∀ (vs pre rest : List Value) (w : World), rest.length = vs.length → Blk w g t (pre ++ rest).toArray → Blk (w.setCells g pre.length vs) g t (pre ++ vs).toArray
  | [], pre, rest, w, h, hk => by
    have : rest = [] := List.eq_nil_of_length_eq_zero (by simpa using h)
    subst this; exact hk
  | v :: vs, pre, [], w, h, hk => by simp at h
  | v :: vs, pre, r :: rest, w, h, hk => by
    have h1 : ((pre ++ r :: rest).toArray).setIfInBounds pre.length v = ((pre ++ [v]) ++ rest).toArray := by
      simp [List.setIfInBounds_toArray]
    have h2 := hk.set_ pre.length v
    rw [h1] at h2
    have := setCells_blk vs (pre ++ [v]) rest _ (by simpa using h) h2
    simpa [World.setCells] using this
theorem setCells_below {B : Nat} {w0 : World} {g : Nat} (hg : B ≤ g) : ∀ (vs : List Value) (i : Nat) (w : World), Below B w0 w → Below B w0 (w.setCells g i vs)
  | [], _, _, h => h
  | _v :: vs, i, _w, h => setCells_below hg vs (i + 1) _ (h.setCell hg _)
theorem setCells_kq {w0 : World} {p g : Nat} : ∀ (vs : List Value) (i : Nat) (w : World), Kq w0 w p g → Kq w0 (w.setCells g i vs) p g
  | [], _, _, h => h
  | v :: vs, i, _w, h => setCells_kq vs (i + 1) _ (h.trans (Kq.setg (g := g) (i := i) p v))
theorem Blk.there {w : World} {g t : Nat} {cs : Array Value} (h : Blk w g t cs) {n : Nat} (hn : n = cs.size) : w.there g 0 n := fun j hj => by
  subst hn
  rw [Nat.zero_add, h.cell, Array.getElem?_eq_getElem hj]
  exact ⟨rfl, h.free j⟩
theorem Blk.range {w : World} {g t : Nat} {cs : List Value} (h : Blk w g t cs.toArray) : w.rangeAt g 0 cs := fun j v hj => by
  rw [Nat.zero_add, h.cell]
  simpa using hj
theorem let_size : (Try.prog.info? 36).map (·.size) = some 17 := by kernel_rfl
/-- What Get answers, as values. -/
def GetA (o : Option Lt) (B : Nat) (e : Ending) (w' : World) : Prop := match o with
  | some L => ∃ ve vd vs vg, e = .returned (.tuple #[.agg (letC L ve vd vs vg), .int .i64 0]) ∧ Lv B w' L ve vd vs vg
  | none => e = .returned (.tuple #[.agg zeroL, .int .i64 4])
set_option maxHeartbeats 8000000 in
set_option maxRecDepth 100000 in
theorem Get_any {w : World} {v : Value} {xs : List Int} (hb : Bs w v xs) (hby : ∀ c ∈ xs, byt c) (hl : xs.length ≤ 70368744177664) :
    Calls Try.prog 8 #[v] w fun e w' => GetA (getL xs) w.heap.size e w' ∧ Below w.heap.size w w' := by
  obtain ⟨A, c, rfl, -⟩ := id hb
  have NEW := Lib.hid (Lg.new hb hby hl)
  have CN := Lib.hid (through_get (Lg.new hb hby hl) rfl)
  have KR := Lib.hid (((Blk.new w 36 zeroL).alloc (.cells #[.slice A xs.length c, .bool false] 55)).alloc (.cells zeroL 36))
  have hG : (match pcs (headG xs).1.kind with
    | none => none
    | some ps => if (gRun ps (headG xs)).2.2 = false ∧ (gRun ps (headG xs)).2.1 = [] ∧ 0 ≤ (gRun ps (headG xs)).1.e then some (gRun ps (headG xs)).1 else none) = getL xs := rfl
  have hh : gRun heads (Lt.zero, (xs, false)) = headG xs := rfl
  rw [hh] at CN
  obtain ⟨hx, hhx⟩ : ∃ x, x = headG xs := ⟨_, rfl⟩
  rw [← hhx] at CN hG
  have GL := Lib.hid hG
  clear hb hby hl hG hh hhx
  go_enter Try.func8, Try.ntmps8
  go_upto_region 3 with fail
  go_cut [31] (fun s31 wx => ∃ L ve vd vs vg s' no, Lg w wx (w.heap.size + 1) (w.heap.size + 1 + 1) L ve vd vs vg s' ∧ Blk wx w.heap.size 36 zeroL ∧ s31 = .bool no ∧ getL xs = if no = true then none else some L)
  case first =>
    rcases hps : pcs hx.1.kind with - | ps
    · have HP := Lib.hid hps
      rw [hps] at CN
      clear hps
      go_wp2_with fail
      refine CN.out.mono ?_
      rintro e w2 ⟨rfl, ⟨ve, vd, vs, vg, h2⟩, q2⟩
      have H2 := Lib.hid h2
      have R2 := Lib.hid (q2.2 _ _ _ (by omega) (by omega) KR.out)
      clear h2 q2
      go_wp2
      go_meet
      refine ⟨_, ve, vd, vs, vg, _, true, H2.out, R2.out, rfl, ?_⟩
      rw [← GL.out, HP.out, if_pos rfl]
    · have HP := Lib.hid hps
      rw [hps] at CN
      have GL2 := Lib.hid (show getL xs = if (gRun ps hx).2.2 = false ∧ (gRun ps hx).2.1 = [] ∧ 0 ≤ (gRun ps hx).1.e then some (gRun ps hx).1 else none by rw [← GL.out, hps])
      rw [show (some ps).getD [] = ps from rfl] at CN
      obtain ⟨y, hy⟩ : ∃ y, y = gRun ps hx := ⟨_, rfl⟩
      rw [← hy] at CN GL2
      clear hps hy
      obtain ⟨L, ys, b⟩ := y
      simp only at CN GL2
      go_wp2_with fail
      refine CN.out.mono ?_
      rintro e w2 ⟨rfl, ⟨ve, vd, vs, vg, h2⟩, q2⟩
      have H2 := Lib.hid h2
      have R2 := Lib.hid (q2.2 _ _ _ (by omega) (by omega) KR.out)
      obtain ⟨A2, c2, hk2, hf2⟩ := h2.gl.ex
      have d0 := hk2.cell 0
      have d1 := hk2.cell 1
      have d13 : w2.cell? ⟨w.heap.size + 1 + 1, 13, none⟩ = some (.int .i64 L.e) := by rw [h2.lb.cell]; rfl
      simp only [List.getElem?_toArray, List.getElem?_cons_zero, List.getElem?_cons_succ] at d0 d1
      obtain ⟨m, hm⟩ : ∃ m, m = ys.length := ⟨_, rfl⟩
      have M := Lib.hid hm
      rw [← hm] at d0
      have FIN := Lib.hid (show ∀ no : Bool, (no = true ↔ ¬ (b = false ∧ ys = [] ∧ 0 ≤ L.e)) → ∃ L' ve vd vs vg s' no', Lg w w2 (w.heap.size + 1) (w.heap.size + 1 + 1) L' ve vd vs vg s' ∧ Blk w2 w.heap.size 36 zeroL ∧ Value.bool no = .bool no' ∧ getL xs = if no' = true then none else some L' from by
        intro no hno
        refine ⟨L, ve, vd, vs, vg, (ys, b), no, H2.out, R2.out, rfl, ?_⟩
        rw [GL2.out]
        cases no
        · rw [if_pos (Decidable.of_not_not (fun h => Bool.false_ne_true (hno.2 h)))]; rfl
        · rw [if_neg (hno.1 rfl)]; rfl)
      clear h2 q2 hk2 hf2 hm CN
      cases b
      · by_cases hm0 : m = 0
        · subst hm0
          by_cases hE : L.e < 0
          · go_wp2
            go_meet
            exact FIN.out true ⟨fun _ h => by have := h.2.2; omega, fun _ => rfl⟩
          · go_wp2
            go_meet
            exact FIN.out (decide (L.e < 0)) ⟨fun h => (by have := of_decide_eq_true h; omega), fun h => absurd ⟨trivial, List.eq_nil_of_length_eq_zero M.out.symm, by omega⟩ h⟩
        · have hm1 : (0 : Int) < m := by omega
          go_wp2
          go_meet
          exact FIN.out true ⟨fun _ h => by have := M.out; rw [h.2.1] at this; exact hm0 this, fun _ => rfl⟩
      · go_wp2
        go_meet
        exact FIN.out true ⟨fun _ h => (by cases h.1), fun _ => rfl⟩
  case rest =>
    obtain ⟨L, ve, vd, vs, vg, s', no, h2, r2, rfl, hgl⟩ := hcut
    have HGL := Lib.hid hgl
    have H2 := Lib.hid h2
    have R2 := Lib.hid r2
    have hb2 := h2.gl.bel
    have BB := Lib.hid hb2
    clear hgl CN NEW KR GL hb2
    have TH := Lib.hid (r2.there (n := 17) rfl)
    clear r2
    cases no
    · have GLX := Lib.hid (show getL xs = some L from HGL.out)
      obtain ⟨⟨e1, ⟨Ae, ne, rfl⟩⟩, ⟨d1, ⟨Ad, nd, rfl⟩⟩, ⟨As, rfl, s1⟩, ⟨Ag, rfl, g1⟩⟩ := id h2.lv
      obtain ⟨ns, hns⟩ : ∃ n, n = L.steps.length := ⟨_, rfl⟩
      obtain ⟨ng, hng⟩ : ∃ n, n = L.gots.length := ⟨_, rfl⟩
      rw [← hns, ← hng] at h2 H2
      obtain ⟨A2, c2, hkp, -⟩ := h2.gl.ex
      have HKP := Lib.hid hkp
      have RG := Lib.hid (Blk.range (cs := [.int .u8 L.kind, .int .u8 L.src, .int .u8 L.dst, .int .u64 L.term, .int .u64 L.index, .int .u64 L.mark, .int .u64 L.commit, .bool L.yes, .slice Ae ne ne, .slice Ad nd nd, .int .u8 L.cl, .int .u64 L.num, .slice As ns ns, .int .i64 L.e, .int .i64 L.re, .int .i64 L.ra, .slice Ag ng ng]) h2.lb)
      have kf : Blk (wc.setCells w.heap.size 0 [.int .u8 L.kind, .int .u8 L.src, .int .u8 L.dst, .int .u64 L.term, .int .u64 L.index, .int .u64 L.mark, .int .u64 L.commit, .bool L.yes, .slice Ae ne ne, .slice Ad nd nd, .int .u8 L.cl, .int .u64 L.num, .slice As ns ns, .int .i64 L.e, .int .i64 L.re, .int .i64 L.ra, .slice Ag ng ng]) w.heap.size 36 (letC L (.slice Ae ne ne) (.slice Ad nd nd) (.slice As ns ns) (.slice Ag ng ng)) := setCells_blk [.int .u8 L.kind, .int .u8 L.src, .int .u8 L.dst, .int .u64 L.term, .int .u64 L.index, .int .u64 L.mark, .int .u64 L.commit, .bool L.yes, .slice Ae ne ne, .slice Ad nd nd, .int .u8 L.cl, .int .u64 L.num, .slice As ns ns, .int .i64 L.e, .int .i64 L.re, .int .i64 L.ra, .slice Ag ng ng] [] [.int .u8 0, .int .u8 0, .int .u8 0, .int .u64 0, .int .u64 0, .int .u64 0, .int .u64 0, .bool false, .slice none 0 0, .slice none 0 0, .int .u8 0, .int .u64 0, .slice none 0 0, .int .i64 0, .int .i64 0, .int .i64 0, .slice none 0 0] wc rfl R2.out
      have BF := Lib.hid (setCells_below (Nat.le_refl w.heap.size) [.int .u8 L.kind, .int .u8 L.src, .int .u8 L.dst, .int .u64 L.term, .int .u64 L.index, .int .u64 L.mark, .int .u64 L.commit, .bool L.yes, .slice Ae ne ne, .slice Ad nd nd, .int .u8 L.cl, .int .u64 L.num, .slice As ns ns, .int .i64 L.e, .int .i64 L.re, .int .i64 L.ra, .slice Ag ng ng] 0 _ BB.out)
      have LF := Lib.hid (H2.out.lv.kq (setCells_kq (p := w.heap.size + 1) (g := w.heap.size) [.int .u8 L.kind, .int .u8 L.src, .int .u8 L.dst, .int .u64 L.term, .int .u64 L.index, .int .u64 L.mark, .int .u64 L.commit, .bool L.yes, .slice Ae ne ne, .slice Ad nd nd, .int .u8 L.cl, .int .u64 L.num, .slice As ns ns, .int .i64 L.e, .int .i64 L.re, .int .i64 L.ra, .slice Ag ng ng] 0 wc (Kq.refl wc _ _)) HKP.out R2.out)
      have KF := Lib.hid kf
      clear h2 hkp HGL e1 d1 s1 g1 hns hng kf
      go_upto_region 5 with fail
      refine wp_region_lit ?_
      refine wpList_load_mid rfl 36 _ rfl (w.heap.size + 1 + 1) 0 rfl [.int .u8 L.kind, .int .u8 L.src, .int .u8 L.dst, .int .u64 L.term, .int .u64 L.index, .int .u64 L.mark, .int .u64 L.commit, .bool L.yes, .slice Ae ne ne, .slice Ad nd nd, .int .u8 L.cl, .int .u64 L.num, .slice As ns ns, .int .i64 L.e, .int .i64 L.re, .int .i64 L.ra, .slice Ag ng ng] _ RG.out Try.underlying36 rfl let_size ?_
      refine wpList_store_mid rfl 36 _ _ rfl w.heap.size 0 #[.int .u8 L.kind, .int .u8 L.src, .int .u8 L.dst, .int .u64 L.term, .int .u64 L.index, .int .u64 L.mark, .int .u64 L.commit, .bool L.yes, .slice Ae ne ne, .slice Ad nd nd, .int .u8 L.cl, .int .u64 L.num, .slice As ns ns, .int .i64 L.e, .int .i64 L.re, .int .i64 L.ra, .slice Ag ng ng] rfl rfl TH.out let_size (by simp [Value.oneCell']) ?_
      go_wp2
      have kf := KF.out
      clear KF
      generalize World.setCells wc w.heap.size 0 _ = wf at *
      have f0 := kf.cell 0
      have f1 := kf.cell 1
      have f2 := kf.cell 2
      have f3 := kf.cell 3
      have f4 := kf.cell 4
      have f5 := kf.cell 5
      have f6 := kf.cell 6
      have f7 := kf.cell 7
      have f8 := kf.cell 8
      have f9 := kf.cell 9
      have f10 := kf.cell 10
      have f11 := kf.cell 11
      have f12 := kf.cell 12
      have f13 := kf.cell 13
      have f14 := kf.cell 14
      have f15 := kf.cell 15
      have f16 := kf.cell 16
      simp only [letC, List.getElem?_toArray, List.getElem?_cons_zero, List.getElem?_cons_succ] at f0 f1 f2 f3 f4 f5 f6 f7 f8 f9 f10 f11 f12 f13 f14 f15 f16
      refine bodyPost_ret (v := .tuple #[.agg (letC L (.slice Ae ne ne) (.slice Ad nd nd) (.slice As ns ns) (.slice Ag ng ng)), .int .i64 0]) (by simp [results, Try.results8, go_sem, letC, f0, f1, f2, f3, f4, f5, f6, f7, f8, f9, f10, f11, f12, f13, f14, f15, f16]) rfl ?_
      rw [GLX.out]
      exact ⟨⟨_, _, _, _, rfl, LF.out⟩, BF.out⟩
    · have GLX := Lib.hid (show getL xs = none from HGL.out)
      have KF := Lib.hid (show Blk (wc.setCells w.heap.size 0 [.int .u8 0, .int .u8 0, .int .u8 0, .int .u64 0, .int .u64 0, .int .u64 0, .int .u64 0, .bool false, .slice none 0 0, .slice none 0 0, .int .u8 0, .int .u64 0, .slice none 0 0, .int .i64 0, .int .i64 0, .int .i64 0, .slice none 0 0]) w.heap.size 36 zeroL from setCells_blk [.int .u8 0, .int .u8 0, .int .u8 0, .int .u64 0, .int .u64 0, .int .u64 0, .int .u64 0, .bool false, .slice none 0 0, .slice none 0 0, .int .u8 0, .int .u64 0, .slice none 0 0, .int .i64 0, .int .i64 0, .int .i64 0, .slice none 0 0] [] [.int .u8 0, .int .u8 0, .int .u8 0, .int .u64 0, .int .u64 0, .int .u64 0, .int .u64 0, .bool false, .slice none 0 0, .slice none 0 0, .int .u8 0, .int .u64 0, .slice none 0 0, .int .i64 0, .int .i64 0, .int .i64 0, .slice none 0 0] wc rfl R2.out)
      have BF := Lib.hid (setCells_below (Nat.le_refl w.heap.size) [.int .u8 0, .int .u8 0, .int .u8 0, .int .u64 0, .int .u64 0, .int .u64 0, .int .u64 0, .bool false, .slice none 0 0, .slice none 0 0, .int .u8 0, .int .u64 0, .slice none 0 0, .int .i64 0, .int .i64 0, .int .i64 0, .slice none 0 0] 0 _ BB.out)
      clear h2 HGL
      go_upto_region 4 with fail
      refine wp_region_lit ?_
      refine wpList_plain rfl fun K hK => ?_
      go_simp
      refine hK _ _ ?_
      refine wpList_store_mid rfl 36 _ _ rfl w.heap.size 0 #[.int .u8 0, .int .u8 0, .int .u8 0, .int .u64 0, .int .u64 0, .int .u64 0, .int .u64 0, .bool false, .slice none 0 0, .slice none 0 0, .int .u8 0, .int .u64 0, .slice none 0 0, .int .i64 0, .int .i64 0, .int .i64 0, .slice none 0 0] rfl rfl TH.out let_size (by simp [Value.oneCell']) ?_
      go_wp2
      have kf := KF.out
      clear KF
      generalize World.setCells wc w.heap.size 0 _ = wf at *
      have f0 := kf.cell 0
      have f1 := kf.cell 1
      have f2 := kf.cell 2
      have f3 := kf.cell 3
      have f4 := kf.cell 4
      have f5 := kf.cell 5
      have f6 := kf.cell 6
      have f7 := kf.cell 7
      have f8 := kf.cell 8
      have f9 := kf.cell 9
      have f10 := kf.cell 10
      have f11 := kf.cell 11
      have f12 := kf.cell 12
      have f13 := kf.cell 13
      have f14 := kf.cell 14
      have f15 := kf.cell 15
      have f16 := kf.cell 16
      simp only [zeroL, letC, Lt.zero, List.getElem?_toArray, List.getElem?_cons_zero, List.getElem?_cons_succ] at f0 f1 f2 f3 f4 f5 f6 f7 f8 f9 f10 f11 f12 f13 f14 f15 f16
      refine bodyPost_ret (v := .tuple #[.agg zeroL, .int .i64 4]) (by simp [results, Try.results8, go_sem, zeroL, letC, Lt.zero, f0, f1, f2, f3, f4, f5, f6, f7, f8, f9, f10, f11, f12, f13, f14, f15, f16]) rfl ?_
      rw [GLX.out]
      exact ⟨rfl, BF.out⟩
end Go.Proofs.Ythjdkjinkmdclaa
