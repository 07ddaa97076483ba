import Derived.Test.YthjdkjinkmdclaaGreatLbz
import Derived.Deep.MidRow
/- law23: a letter as the document has it. -/
namespace Go.Proofs.YthjdkjinkmdclaaGreat
open Go.RowKit

theorem setCells_blk_ {g t : Nat} : ∀ (vs pre rest : List Value) (w : World), rest.length = vs.length → Blk w g t (pre ++ rest).toArray → Blk (w.setCells g pre.length vs) g t (pre ++ vs).toArray
  | [], pre, rest, w, h, hk => by
    have : rest = [] := List.eq_nil_of_length_eq_zero (by simpa using h)
    subst this; exact hk
  | v :: vs, pre, [], w, h, hk => by simp at h
  | v :: vs, pre, r :: rest, w, h, hk => by
    have h1 : ((pre ++ r :: rest).toArray).setIfInBounds pre.length v = ((pre ++ [v]) ++ rest).toArray := by
      simp [List.setIfInBounds_toArray]
    have h2 := hk.set_ pre.length v
    rw [h1] at h2
    have := setCells_blk_ vs (pre ++ [v]) rest _ (by simpa using h) h2
    simpa [World.setCells] using this
theorem setCells_below_ {B : Nat} {w0 : World} {g : Nat} (hg : B ≤ g) : ∀ (vs : List Value) (i : Nat) (w : World), Below B w0 w → Below B w0 (w.setCells g i vs)
  | [], _, _, h => h
  | _v :: vs, i, _w, h => setCells_below_ hg vs (i + 1) _ (h.setCell hg _)
theorem Blk.there_ {w : World} {g t : Nat} {cs : Array Value} (h : Blk w g t cs) {n : Nat} (hn : n = cs.size) : w.there g 0 n := fun j hj => by
  subst hn
  rw [Nat.zero_add, h.cell, Array.getElem?_eq_getElem hj]
  exact ⟨rfl, h.free j⟩
theorem other_size : (Tryz.prog.info? 44).map (·.size) = some 17 := by kernel_rfl
set_option maxHeartbeats 600000 in
set_option maxRecDepth 100000 in
theorem other_any {w : World} {L : Lt} {ve vd vs vg : Value} (hw : Lw w L ve vd vs vg) :
    Calls Tryz.prog 10 #[.agg (letC L ve vd vs vg)] w fun e w' => e = .returned (.agg (letO L ve vd vs vg)) ∧ Below w.heap.size w w' := by
  obtain ⟨Ae, ce, Ad, cd, As, cs, Ag, cg, rfl, rfl, rfl, rfl⟩ := hw.sl
  have kb := hw.ok.kind
  obtain ⟨ne, hne⟩ : ∃ n, n = L.es.length := ⟨_, rfl⟩
  obtain ⟨nd, hnd⟩ : ∃ n, n = L.data.length := ⟨_, rfl⟩
  obtain ⟨ns, hns⟩ : ∃ n, n = L.steps.length := ⟨_, rfl⟩
  obtain ⟨ng, hng⟩ : ∃ n, n = L.gots.length := ⟨_, rfl⟩
  rw [← hne, ← hnd, ← hns, ← hng]
  clear hne hnd hns hng hw
  have hwk : IntKind.i64.wrap L.kind = L.kind := by rw [IntKind.wrap_i64]; unfold byt at kb; omega
  have b2 := below_alloc2_ w (.cells #[.int .u8 L.kind, .int .u8 L.src, .int .u8 L.dst, .int .u64 L.term, .int .u64 L.index, .int .u64 L.mark, .int .u64 L.commit, .bool L.yes, .slice Ae ne ce, .slice Ad nd cd, .int .u8 L.cl, .int .u64 L.num, .slice As ns cs, .int .i64 L.e, .int .i64 L.re, .int .i64 L.ra, .slice Ag ng cg] 36) (.cells #[.int .i64 0, .int .u8 0, .int .u8 0, .int .u64 0, .int .u64 0, .int .u64 0, .int .u64 0, .bool false, .slice none 0 0, .slice none 0 0, .int .u8 0, .int .u64 0, .slice none 0 0, .int .i64 0, .int .i64 0, .int .i64 0, .slice none 0 0] 44)
  have kL := (Blk.new w 36 #[.int .u8 L.kind, .int .u8 L.src, .int .u8 L.dst, .int .u64 L.term, .int .u64 L.index, .int .u64 L.mark, .int .u64 L.commit, .bool L.yes, .slice Ae ne ce, .slice Ad nd cd, .int .u8 L.cl, .int .u64 L.num, .slice As ns cs, .int .i64 L.e, .int .i64 L.re, .int .i64 L.ra, .slice Ag ng cg]).alloc (.cells #[.int .i64 0, .int .u8 0, .int .u8 0, .int .u64 0, .int .u64 0, .int .u64 0, .int .u64 0, .bool false, .slice none 0 0, .slice none 0 0, .int .u8 0, .int .u64 0, .slice none 0 0, .int .i64 0, .int .i64 0, .int .i64 0, .slice none 0 0] 44)
  have kR := Blk.new (w.alloc (.cells #[.int .u8 L.kind, .int .u8 L.src, .int .u8 L.dst, .int .u64 L.term, .int .u64 L.index, .int .u64 L.mark, .int .u64 L.commit, .bool L.yes, .slice Ae ne ce, .slice Ad nd cd, .int .u8 L.cl, .int .u64 L.num, .slice As ns cs, .int .i64 L.e, .int .i64 L.re, .int .i64 L.ra, .slice Ag ng cg] 36)) 44 #[.int .i64 0, .int .u8 0, .int .u8 0, .int .u64 0, .int .u64 0, .int .u64 0, .int .u64 0, .bool false, .slice none 0 0, .slice none 0 0, .int .u8 0, .int .u64 0, .slice none 0 0, .int .i64 0, .int .i64 0, .int .i64 0, .slice none 0 0]
  rw [World.size_alloc] at kR
  have R0 := Lib.hid kR
  have B2 := Lib.hid b2
  simp only [letC]
  have c0 := kL.cell 0
  have c1 := kL.cell 1
  have c2 := kL.cell 2
  have c3 := kL.cell 3
  have c4 := kL.cell 4
  have c5 := kL.cell 5
  have c6 := kL.cell 6
  have c7 := kL.cell 7
  have c8 := kL.cell 8
  have c9 := kL.cell 9
  have c10 := kL.cell 10
  have c11 := kL.cell 11
  have c12 := kL.cell 12
  have c13 := kL.cell 13
  have c14 := kL.cell 14
  have c15 := kL.cell 15
  have c16 := kL.cell 16
  simp only [List.getElem?_toArray, List.getElem?_cons_zero, List.getElem?_cons_succ] at c0 c1 c2 c3 c4 c5 c6 c7 c8 c9 c10 c11 c12 c13 c14 c15 c16
  have TH := Lib.hid (kR.there_ (n := 17) rfl)
  clear kb kL kR b2
  go_enter Tryz.func10, Tryz.ntmps10
  go_upto_region 1 with fail
  refine wp_region_lit ?_
  go_wp2_with (refine wpList_store_mid rfl 44 _ _ rfl (w.heap.size + 1) 0 #[.int .i64 L.kind, .int .u8 L.src, .int .u8 L.dst, .int .u64 L.term, .int .u64 L.index, .int .u64 L.mark, .int .u64 L.commit, .bool L.yes, .slice Ae ne ce, .slice Ad nd cd, .int .u8 L.cl, .int .u64 L.num, .slice As ns cs, .int .i64 L.e, .int .i64 L.re, .int .i64 L.ra, .slice Ag ng cg] rfl rfl TH.out other_size (by simp [Value.oneCell']) ?_)
  have kf : Blk (((w.alloc (.cells #[.int .u8 L.kind, .int .u8 L.src, .int .u8 L.dst, .int .u64 L.term, .int .u64 L.index, .int .u64 L.mark, .int .u64 L.commit, .bool L.yes, .slice Ae ne ce, .slice Ad nd cd, .int .u8 L.cl, .int .u64 L.num, .slice As ns cs, .int .i64 L.e, .int .i64 L.re, .int .i64 L.ra, .slice Ag ng cg] 36)).alloc (.cells #[.int .i64 0, .int .u8 0, .int .u8 0, .int .u64 0, .int .u64 0, .int .u64 0, .int .u64 0, .bool false, .slice none 0 0, .slice none 0 0, .int .u8 0, .int .u64 0, .slice none 0 0, .int .i64 0, .int .i64 0, .int .i64 0, .slice none 0 0] 44)).setCells (w.heap.size + 1) 0 [.int .i64 L.kind, .int .u8 L.src, .int .u8 L.dst, .int .u64 L.term, .int .u64 L.index, .int .u64 L.mark, .int .u64 L.commit, .bool L.yes, .slice Ae ne ce, .slice Ad nd cd, .int .u8 L.cl, .int .u64 L.num, .slice As ns cs, .int .i64 L.e, .int .i64 L.re, .int .i64 L.ra, .slice Ag ng cg]) (w.heap.size + 1) 44 (letO L (.slice Ae ne ce) (.slice Ad nd cd) (.slice As ns cs) (.slice Ag ng cg)) := setCells_blk_ [.int .i64 L.kind, .int .u8 L.src, .int .u8 L.dst, .int .u64 L.term, .int .u64 L.index, .int .u64 L.mark, .int .u64 L.commit, .bool L.yes, .slice Ae ne ce, .slice Ad nd cd, .int .u8 L.cl, .int .u64 L.num, .slice As ns cs, .int .i64 L.e, .int .i64 L.re, .int .i64 L.ra, .slice Ag ng cg] [] [.int .i64 0, .int .u8 0, .int .u8 0, .int .u64 0, .int .u64 0, .int .u64 0, .int .u64 0, .bool false, .slice none 0 0, .slice none 0 0, .int .u8 0, .int .u64 0, .slice none 0 0, .int .i64 0, .int .i64 0, .int .i64 0, .slice none 0 0] ((w.alloc (.cells #[.int .u8 L.kind, .int .u8 L.src, .int .u8 L.dst, .int .u64 L.term, .int .u64 L.index, .int .u64 L.mark, .int .u64 L.commit, .bool L.yes, .slice Ae ne ce, .slice Ad nd cd, .int .u8 L.cl, .int .u64 L.num, .slice As ns cs, .int .i64 L.e, .int .i64 L.re, .int .i64 L.ra, .slice Ag ng cg] 36)).alloc (.cells #[.int .i64 0, .int .u8 0, .int .u8 0, .int .u64 0, .int .u64 0, .int .u64 0, .int .u64 0, .bool false, .slice none 0 0, .slice none 0 0, .int .u8 0, .int .u64 0, .slice none 0 0, .int .i64 0, .int .i64 0, .int .i64 0, .slice none 0 0] 44)) rfl R0.out
  have BF := Lib.hid (show Below w.heap.size w (((w.alloc (.cells #[.int .u8 L.kind, .int .u8 L.src, .int .u8 L.dst, .int .u64 L.term, .int .u64 L.index, .int .u64 L.mark, .int .u64 L.commit, .bool L.yes, .slice Ae ne ce, .slice Ad nd cd, .int .u8 L.cl, .int .u64 L.num, .slice As ns cs, .int .i64 L.e, .int .i64 L.re, .int .i64 L.ra, .slice Ag ng cg] 36)).alloc (.cells #[.int .i64 0, .int .u8 0, .int .u8 0, .int .u64 0, .int .u64 0, .int .u64 0, .int .u64 0, .bool false, .slice none 0 0, .slice none 0 0, .int .u8 0, .int .u64 0, .slice none 0 0, .int .i64 0, .int .i64 0, .int .i64 0, .slice none 0 0] 44)).setCells (w.heap.size + 1) 0 [.int .i64 L.kind, .int .u8 L.src, .int .u8 L.dst, .int .u64 L.term, .int .u64 L.index, .int .u64 L.mark, .int .u64 L.commit, .bool L.yes, .slice Ae ne ce, .slice Ad nd cd, .int .u8 L.cl, .int .u64 L.num, .slice As ns cs, .int .i64 L.e, .int .i64 L.re, .int .i64 L.ra, .slice Ag ng cg]) from setCells_below_ (Nat.le_succ _) _ _ _ B2.out)
  generalize World.setCells _ (w.heap.size + 1) 0 _ = wf at *
  have f0 := kf.cell 0
  have f1 := kf.cell 1
  have f2 := kf.cell 2
  have f3 := kf.cell 3
  have f4 := kf.cell 4
  have f5 := kf.cell 5
  have f6 := kf.cell 6
  have f7 := kf.cell 7
  have f8 := kf.cell 8
  have f9 := kf.cell 9
  have f10 := kf.cell 10
  have f11 := kf.cell 11
  have f12 := kf.cell 12
  have f13 := kf.cell 13
  have f14 := kf.cell 14
  have f15 := kf.cell 15
  have f16 := kf.cell 16
  simp only [letO, List.getElem?_toArray, List.getElem?_cons_zero, List.getElem?_cons_succ] at f0 f1 f2 f3 f4 f5 f6 f7 f8 f9 f10 f11 f12 f13 f14 f15 f16
  refine bodyPost_ret (v := .agg (letO L (.slice Ae ne ce) (.slice Ad nd cd) (.slice As ns cs) (.slice Ag ng cg))) (by simp [results, Tryz.results10, go_sem, letO, f0, f1, f2, f3, f4, f5, f6, f7, f8, f9, f10, f11, f12, f13, f14, f15, f16]) rfl ?_
  exact ⟨rfl, BF.out⟩
end Go.Proofs.YthjdkjinkmdclaaGreat

/- law23: a twin of a letter. -/
namespace Go.Proofs.YthjdkjinkmdclaaGreat
open Go.RowKit

/-- Entries in new memory, the steps of each with room behind them. -/
def TwE (B : Nat) (w : World) (v : Value) (es : List Ent) : Prop :=
  ∃ ss : List Value, ss.length = es.length ∧ Ow B w 63 5 v es.length ((es.zip ss).flatMap ecells) ∧ ∀ (j : Nat) (h : j < es.length) (h' : j < ss.length), Tw B w 104 10 ss[j] es[j].2.length (es[j].2.flatMap (fc stepK)) stepMk
theorem Tw.below_ {B size n : Nat} {e : TypeId} {w w' : World} {v : Value} {xs ms : List Value} (h : Tw B w e size v n xs ms) (hb : Below w.heap.size w w') : Tw B w' e size v n xs ms := by
  obtain ⟨A, c, hv, h1, h2, h3⟩ := h
  exact ⟨A, c, hv, h1, h2, h3.below hb⟩
theorem TwE.below {B : Nat} {w w' : World} {v : Value} {es : List Ent} (h : TwE B w v es) (hb : Below w.heap.size w w') : TwE B w' v es := by
  obtain ⟨ss, h1, h2, h3⟩ := h
  exact ⟨ss, h1, h2.below hb, fun j a b => (h3 j a b).below_ hb⟩
theorem Blk.range_ {w : World} {g t : Nat} {cs : List Value} (h : Blk w g t cs.toArray) : w.rangeAt g 0 cs := fun j v hj => by
  rw [Nat.zero_add, h.cell]
  simpa using hj
theorem Ow.setCells_ {B size n g t : Nat} {e : TypeId} {v : Value} {xs : List Value} (hne : e ≠ t) : ∀ (vs : List Value) (i : Nat) (w : World) (cs : Array Value), Blk w g t cs → Ow B w e size v n xs → Ow B (w.setCells g i vs) e size v n xs
  | [], _, _, _, _, h => h
  | u :: vs, i, _w, _cs, hb, h => Ow.setCells_ hne vs (i + 1) _ _ (hb.set_ i u) (h.aside hb hne i u)
theorem Tw.setCells_ {B size n g t : Nat} {e : TypeId} {v : Value} {xs ms : List Value} (hne : e ≠ t) (vs : List Value) (i : Nat) {w : World} {cs : Array Value} (hb : Blk w g t cs) (h : Tw B w e size v n xs ms) : Tw B (w.setCells g i vs) e size v n xs ms := by
  obtain ⟨A, c, hv, h1, h2, h3⟩ := h
  exact ⟨A, c, hv, h1, h2, Ow.setCells_ hne vs i _ _ hb h3⟩
theorem TwE.setCells_ {B g t : Nat} {v : Value} {es : List Ent} (h1 : 63 ≠ t) (h2 : 104 ≠ t) (vs : List Value) (i : Nat) {w : World} {cs : Array Value} (hb : Blk w g t cs) (h : TwE B w v es) : TwE B (w.setCells g i vs) v es := by
  obtain ⟨ss, q1, q2, q3⟩ := h
  exact ⟨ss, q1, Ow.setCells_ h1 vs i _ _ hb q2, fun j a b => Tw.setCells_ h2 vs i hb (q3 j a b)⟩
theorem TwE.le_ {B B' : Nat} {w : World} {v : Value} {es : List Ent} (h : TwE B w v es) (hb : B' ≤ B) : TwE B' w v es := by
  obtain ⟨ss, q1, q2, q3⟩ := h
  exact ⟨ss, q1, q2.le hb, fun j a b => (q3 j a b).le_ hb⟩
theorem Tw.grew_ {B B2 size size2 n n2 : Nat} {e e2 : TypeId} {w w' : World} {s v v' : Value} {xs ms ys : List Value} (h : Tw B w e size s n xs ms) (ho : Ow B2 w e2 size2 v n2 ys) (hg : Grew w w' v v') (hne : e ≠ e2) : Tw B w' e size s n xs ms := by
  obtain ⟨A, c, hv, h1, h2, h3⟩ := h
  refine ⟨A, c, hv, h1, h2, ?_⟩
  rcases h3 with h | ⟨g, c, cur, hv2, hB, hk, h⟩
  · exact .inl h
  · exact .inr ⟨g, c, cur, hv2, hB, hk.grown hg.1 (fun he => Ow.notat ho hk hne he.symm), h⟩
/-- One entry more. -/
theorem TwE.snoc {B : Nat} {w w' : World} {v v' : Value} {es : List Ent} {e : Ent} {s : Value} {ss : List Value} (h1 : ss.length = es.length) (h2 : Ow B w 63 5 v es.length ((es.zip ss).flatMap ecells))
    (h3 : ∀ (j : Nat) (h : j < es.length) (h' : j < ss.length), Tw B w 104 10 ss[j] es[j].2.length (es[j].2.flatMap (fc stepK)) stepMk)
    (hg : Grew w w' v v') (ho : Ow B w' 63 5 v' (es.length + 1) ((es.zip ss).flatMap ecells ++ ecells (e, s))) (hs : Tw B w 104 10 s e.2.length (e.2.flatMap (fc stepK)) stepMk) : TwE B w' v' (es ++ [e]) := by
  refine ⟨ss ++ [s], by simp [h1], ?_, ?_⟩
  · rw [List.zip_append h1.symm, List.flatMap_append, List.length_append]
    simpa using ho
  · intro j a b
    rcases Nat.lt_or_ge j es.length with hj | hj
    · rw [List.getElem_append_left (by omega), List.getElem_append_left hj]
      exact (h3 j hj (by omega)).grew_ h2 hg (by decide)
    · have hje : j = es.length := by simp at a; omega
      subst hje
      rw [List.getElem_append_right (by omega), List.getElem_append_right (by omega)]
      simp only [h1, Nat.sub_self, List.getElem_cons_zero]
      exact hs.grew_ h2 hg (by decide)
theorem entry_inf_ : (Tryz.prog.info? 63).map (fun i => (i.zero, i.size, i.bytes)) = some (some (.agg #[.int .u64 0, .int .u64 0, .int .u8 0, .int .u64 0, .slice none 0 0]), 5, 56) := by kernel_rfl
theorem let_size_ : (Tryz.prog.info? 36).map (·.size) = some 17 := by kernel_rfl
set_option maxHeartbeats 1000000 in
set_option maxRecDepth 100000 in
theorem Twin_let {w : World} {L : Lt} {ve vd vs vg : Value} (hw : Lw w L ve vd vs vg) :
    Calls Tryz.prog 7 #[.agg (letC L ve vd vs vg)] w fun e w' => ∃ ve' vd' vs', e = .returned (.agg (letC L ve' vd' vs' vg)) ∧ (∃ gd, vd' = .slice (some ⟨gd, 0, none⟩) L.data.length (L.data.length + 2)) ∧ TwE w.heap.size w' ve' L.es ∧ Tw w.heap.size w' 5 1 vd' L.data.length (bc L.data) [.int .u8 195, .int .u8 195] ∧ Tw w.heap.size w' 104 10 vs' L.steps.length (L.steps.flatMap (fc stepK)) stepMk ∧ Below w.heap.size w w' := by
  obtain ⟨Ae, ce, Ad, cd, As, cs, Ag, cg, rfl, rfl, rfl, rfl⟩ := hw.sl
  obtain ⟨ne, hne⟩ : ∃ n, n = L.es.length := ⟨_, rfl⟩
  obtain ⟨nd, hnd⟩ : ∃ n, n = L.data.length := ⟨_, rfl⟩
  obtain ⟨ns, hns⟩ : ∃ n, n = L.steps.length := ⟨_, rfl⟩
  obtain ⟨ng, hng⟩ : ∃ n, n = L.gots.length := ⟨_, rfl⟩
  have ND := Lib.hid hnd
  have NE := Lib.hid hne
  have NS := Lib.hid hns
  have W0 := Lib.hid hw
  rw [← hne, ← hnd, ← hns, ← hng] at W0 ⊢
  have b2 := below_alloc2_ w (.cells (letC L (.slice Ae ne ce) (.slice Ad nd cd) (.slice As ns cs) (.slice Ag ng cg)) 36) (.cells (letC Lt.zero (.slice none 0 0) (.slice none 0 0) (.slice none 0 0) (.slice none 0 0)) 36)
  have kL := (Blk.new w 36 (letC L (.slice Ae ne ce) (.slice Ad nd cd) (.slice As ns cs) (.slice Ag ng cg))).alloc (.cells (letC Lt.zero (.slice none 0 0) (.slice none 0 0) (.slice none 0 0) (.slice none 0 0)) 36)
  have kR := Blk.new (w.alloc (.cells (letC L (.slice Ae ne ce) (.slice Ad nd cd) (.slice As ns cs) (.slice Ag ng cg)) 36)) 36 (letC Lt.zero (.slice none 0 0) (.slice none 0 0) (.slice none 0 0) (.slice none 0 0))
  rw [World.size_alloc] at kR
  have KL := Lib.hid kL
  have KR := Lib.hid kR
  have B2 := Lib.hid b2
  simp only [letC, Lt.zero] at KL KR B2 ⊢
  have c9 := KL.out.cell 9
  simp only [List.getElem?_toArray, List.getElem?_cons_zero, List.getElem?_cons_succ] at c9
  clear b2 kL kR hw hne hnd hns hng
  go_enter Tryz.func7, Tryz.ntmps7
  go_upto_region 1 with fail
  go_cut [] (fun wx => ∃ A1 c1, ((∃ gd : Nat, A1 = some ⟨gd, 0, none⟩) ∧ c1 = nd + 2) ∧ Blk wx w.heap.size 36 (letC L (.slice Ae ne ce) (.slice A1 nd c1) (.slice As ns cs) (.slice Ag ng cg)) ∧ Blk wx (w.heap.size + 1) 36 (letC Lt.zero (.slice none 0 0) (.slice none 0 0) (.slice none 0 0) (.slice none 0 0)) ∧ Tw (w.heap.size + 2) wx 5 1 (.slice A1 nd c1) nd (bc L.data) [.int .u8 195, .int .u8 195] ∧ Below w.heap.size w wx)
  case first =>
    have DD := Lib.hid (W0.out.data.below B2.out)
    have d6 := W0.out.d6
    go_wp2_with fail
    refine (Twin_bytec _ L.data _ DD.out d6).mono ?_
    rintro e w2 ⟨g1, rfl, hT, hB⟩
    have kl := KL.out.below hB KL.out.lt
    have kr := KR.out.below hB KR.out.lt
    have fl := kl.free
    have c9' := kl.cell 9
    simp only [List.getElem?_toArray, List.getElem?_cons_zero, List.getElem?_cons_succ] at c9'
    rw [← ND.out] at hT ⊢
    obtain ⟨A1, hA1⟩ : ∃ A : Option Addr, A = some ⟨g1, 0, none⟩ := ⟨_, rfl⟩
    obtain ⟨c1, hc1⟩ : ∃ c, c = nd + 2 := ⟨_, rfl⟩
    rw [← hA1, ← hc1] at hT
    have hc1' : (nd : Int) + 2 = (c1 : Int) := by omega
    try simp only [← hA1, ← hc1]
    have HA1 := Lib.hid (show (∃ gd : Nat, A1 = some ⟨gd, 0, none⟩) ∧ c1 = nd + 2 from ⟨⟨_, hA1⟩, hc1⟩)
    clear hc1' hA1 hc1
    have FIN := Lib.hid (show ∃ A1' c1', ((∃ gd : Nat, A1' = some ⟨gd, 0, none⟩) ∧ c1' = nd + 2) ∧ Blk (w2.setCell ⟨w.heap.size, 9, none⟩ (.slice A1 nd c1)) w.heap.size 36 (letC L (.slice Ae ne ce) (.slice A1' nd c1') (.slice As ns cs) (.slice Ag ng cg)) ∧ Blk (w2.setCell ⟨w.heap.size, 9, none⟩ (.slice A1 nd c1)) (w.heap.size + 1) 36 (letC Lt.zero (.slice none 0 0) (.slice none 0 0) (.slice none 0 0) (.slice none 0 0)) ∧ Tw (w.heap.size + 2) (w2.setCell ⟨w.heap.size, 9, none⟩ (.slice A1 nd c1)) 5 1 (.slice A1' nd c1') nd (bc L.data) [.int .u8 195, .int .u8 195] ∧ Below w.heap.size w (w2.setCell ⟨w.heap.size, 9, none⟩ (.slice A1 nd c1)) from by
      refine ⟨A1, c1, HA1.out, ?_, kr.far (p := ⟨w.heap.size, 9, none⟩) (by simp) _, ?_, (B2.out.trans (hB.mono B2.out.size)).setCell (Nat.le_refl _) _⟩
      · have := kl.set_ 9 (.slice A1 nd c1)
        simpa [letC] using this
      · exact (hT.le_ (B' := w.heap.size + 2) (by simp)).aside kl (by decide) 9 _)
    clear kl kr hT hB c9
    go_wp2
    go_meet
    exact FIN.out
  case rest =>
  obtain ⟨A1, c1, ha1, kl, kr, t1, b1⟩ := hcut
  have HA1 := Lib.hid ha1
  have KL1 := Lib.hid kl
  have KR1 := Lib.hid kr
  have T1 := Lib.hid t1
  have B1 := Lib.hid b1
  have c10 := kl.cell 10
  have c11 := kl.cell 11
  have c12 := kl.cell 12
  simp only [letC, List.getElem?_toArray, List.getElem?_cons_zero, List.getElem?_cons_succ] at c10 c11 c12
  clear kl kr t1 b1 c9 KL KR B2 ha1
  go_upto_region 2 with fail
  go_cut [] (fun wx => ∃ A2 c2, Blk wx w.heap.size 36 (letC L (.slice Ae ne ce) (.slice A1 nd c1) (.slice A2 ns c2) (.slice Ag ng cg)) ∧ Blk wx (w.heap.size + 1) 36 (letC Lt.zero (.slice none 0 0) (.slice none 0 0) (.slice none 0 0) (.slice none 0 0)) ∧ Tw (w.heap.size + 2) wx 5 1 (.slice A1 nd c1) nd (bc L.data) [.int .u8 195, .int .u8 195] ∧ Tw (w.heap.size + 2) wx 104 10 (.slice A2 ns c2) ns (L.steps.flatMap (fc stepK)) stepMk ∧ Below w.heap.size w wx)
  case first =>
    have DD := Lib.hid (show Steps wc (.slice As ns cs) L.steps from Rd.below W0.out.steps B1.out)
    have d6 := W0.out.t6
    have hr2 : w.heap.size + 2 ≤ wc.heap.size := by have := KR1.out.lt; omega
    go_wp2_with fail
    refine (Twin_call L.cl L.num _ L.steps _ DD.out d6).mono ?_
    rintro e w2 ⟨A2, c2, rfl, hT, hB⟩
    have kl := KL1.out.below hB KL1.out.lt
    have kr := KR1.out.below hB KR1.out.lt
    have fl := kl.free
    have d10 := kl.cell 10
    have d11 := kl.cell 11
    have d12 := kl.cell 12
    simp only [letC, List.getElem?_toArray, List.getElem?_cons_zero, List.getElem?_cons_succ] at d10 d11 d12
    rw [← NS.out] at hT ⊢
    have FIN := Lib.hid (show ∃ A2' c2', Blk (((w2.setCell ⟨w.heap.size, 10, none⟩ (.int .u8 L.cl)).setCell ⟨w.heap.size, 11, none⟩ (.int .u64 L.num)).setCell ⟨w.heap.size, 12, none⟩ (.slice A2 ns c2)) w.heap.size 36 (letC L (.slice Ae ne ce) (.slice A1 nd c1) (.slice A2' ns c2') (.slice Ag ng cg)) ∧ Blk (((w2.setCell ⟨w.heap.size, 10, none⟩ (.int .u8 L.cl)).setCell ⟨w.heap.size, 11, none⟩ (.int .u64 L.num)).setCell ⟨w.heap.size, 12, none⟩ (.slice A2 ns c2)) (w.heap.size + 1) 36 (letC Lt.zero (.slice none 0 0) (.slice none 0 0) (.slice none 0 0) (.slice none 0 0)) ∧ Tw (w.heap.size + 2) (((w2.setCell ⟨w.heap.size, 10, none⟩ (.int .u8 L.cl)).setCell ⟨w.heap.size, 11, none⟩ (.int .u64 L.num)).setCell ⟨w.heap.size, 12, none⟩ (.slice A2 ns c2)) 5 1 (.slice A1 nd c1) nd (bc L.data) [.int .u8 195, .int .u8 195] ∧ Tw (w.heap.size + 2) (((w2.setCell ⟨w.heap.size, 10, none⟩ (.int .u8 L.cl)).setCell ⟨w.heap.size, 11, none⟩ (.int .u64 L.num)).setCell ⟨w.heap.size, 12, none⟩ (.slice A2 ns c2)) 104 10 (.slice A2' ns c2') ns (L.steps.flatMap (fc stepK)) stepMk ∧ Below w.heap.size w (((w2.setCell ⟨w.heap.size, 10, none⟩ (.int .u8 L.cl)).setCell ⟨w.heap.size, 11, none⟩ (.int .u64 L.num)).setCell ⟨w.heap.size, 12, none⟩ (.slice A2 ns c2)) from by
      have s1 := kl.set_ 10 (.int .u8 L.cl)
      have s2 := s1.set_ 11 (.int .u64 L.num)
      have s3 := s2.set_ 12 (.slice A2 ns c2)
      refine ⟨A2, c2, by simpa [letC] using s3, ((kr.far (p := ⟨w.heap.size, 10, none⟩) (by simp) _).far (p := ⟨w.heap.size, 11, none⟩) (by simp) _).far (p := ⟨w.heap.size, 12, none⟩) (by simp) _, ?_, ?_, ?_⟩
      · exact (((T1.out.below_ hB).aside kl (by decide) 10 _).aside s1 (by decide) 11 _).aside s2 (by decide) 12 _
      · exact (((hT.le_ (B' := w.heap.size + 2) hr2).aside kl (by decide) 10 _).aside s1 (by decide) 11 _).aside s2 (by decide) 12 _
      · exact (((B1.out.trans (hB.mono B1.out.size)).setCell (p := ⟨w.heap.size, 10, none⟩) (Nat.le_refl _) _).setCell (p := ⟨w.heap.size, 11, none⟩) (Nat.le_refl _) _).setCell (p := ⟨w.heap.size, 12, none⟩) (Nat.le_refl _) _)
    clear kl kr hT hB c10 c11 c12 hr2
    go_wp2
    go_meet
    exact FIN.out
  case rest =>
  obtain ⟨A2, c2, kl, kr, t1, t2, b2⟩ := hcut
  have KL2 := Lib.hid kl
  have KR2 := Lib.hid kr
  have U1 := Lib.hid t1
  have U2 := Lib.hid t2
  have B2 := Lib.hid b2
  have he6 := W0.out.e6
  rw [← NE.out] at he6
  clear kl kr t1 t2 b2 KL1 KR1 T1 B1 c10 c11 c12
  go_wp2_with fail
  go_loopg [3, 4, 5] ne (fun g c3 c4 c5 wr => ∃ j : Nat, j ≤ ne ∧ g = ne - j ∧ c4 = .int .i64 j ∧ (∃ m p, c3 = .slice m j p) ∧ TwE (w.heap.size + 2) wr c3 (L.es.take j) ∧ Blk wr w.heap.size 36 (letC L (.slice Ae ne ce) (.slice A1 nd c1) (.slice A2 ns c2) (.slice Ag ng cg)) ∧ Blk wr (w.heap.size + 1) 36 (letC Lt.zero (.slice none 0 0) (.slice none 0 0) (.slice none 0 0) (.slice none 0 0)) ∧ Tw (w.heap.size + 2) wr 5 1 (.slice A1 nd c1) nd (bc L.data) [.int .u8 195, .int .u8 195] ∧ Tw (w.heap.size + 2) wr 104 10 (.slice A2 ns c2) ns (L.steps.flatMap (fc stepK)) stepMk ∧ Below w.heap.size w wr)
  case atStart => exact ⟨0, Nat.zero_le _, by omega, rfl, ⟨_, _, rfl⟩, ⟨[], rfl, .inl ⟨rfl, rfl, rfl⟩, fun j h => by simp at h⟩, KL2.out, KR2.out, U1.out, U2.out, B2.out⟩
  case round =>
    obtain ⟨j, hj, hg, rfl, ⟨A3, p3, rfl⟩, he, kl, kr, t1, t2, bw⟩ := hrel
    have G := Lib.hid hg
    have E3 := Lib.hid he
    have KL3 := Lib.hid kl
    have KR3 := Lib.hid kr
    have V1 := Lib.hid t1
    have V2 := Lib.hid t2
    have BW := Lib.hid bw
    have c8 := kl.cell 8
    simp only [letC, List.getElem?_toArray, List.getElem?_cons_zero, List.getElem?_cons_succ] at c8
    clear hg he kl kr t1 t2 bw KL2 KR2 U1 U2 B2
    by_cases hjn : j < ne
    · have hjn' : (j : Int) < ne := by omega
      have hjl : j < L.es.length := by rw [← NE.out]; exact hjn
      have hwj : IntKind.i64.wrap ((j : Int) + 1) = (j : Int) + 1 := IntWalk.i64_in _ (by omega)
      have hj0 : (0 : Int) ≤ j := by omega
      have WE := W0.out.es.below BW.out
      obtain ⟨ge, oe, ce', hv, -, hge, hcell⟩ := WE.at_ (by omega)
      injection hv with hv1 hv2 hv3
      subst hv1
      clear hv2 hv3
      obtain ⟨s, hs, hh⟩ := hcell j hjl
      have hf := (W0.out.ok.es _ (List.getElem_mem hjl)).1
      have hl6 := W0.out.s6 _ (List.getElem_mem hjl)
      obtain ⟨e, he⟩ : ∃ e, e = L.es[j] := ⟨_, rfl⟩
      have hT : L.es.take (j + 1) = L.es.take j ++ [L.es[j]] := List.take_succ_eq_append_getElem hjl
      rw [← he] at hs hh hf hl6 hT
      obtain ⟨ef, rows⟩ := e
      obtain ⟨x0, x1, x2, x3, rfl, -, -, -, -⟩ := entry_fok hf
      simp only at hs hl6
      have HT := Lib.hid hT
      have c0 : wr.cell? ⟨ge, oe + j * 5, none⟩ = some (.int .u64 x0) := by have := hh 0 (.int .u64 x0) (by omega) rfl; simpa using this
      have c1 : wr.cell? ⟨ge, oe + j * 5 + 1, none⟩ = some (.int .u64 x1) := hh 1 (.int .u64 x1) (by omega) rfl
      have c2 : wr.cell? ⟨ge, oe + j * 5 + 2, none⟩ = some (.int .u8 x2) := hh 2 (.int .u8 x2) (by omega) rfl
      have c3 : wr.cell? ⟨ge, oe + j * 5 + 3, none⟩ = some (.int .u64 x3) := hh 3 (.int .u64 x3) (by omega) rfl
      have c4 : wr.cell? ⟨ge, oe + j * 5 + 4, none⟩ = some s := hh 4 s (by omega) rfl
      obtain ⟨As', cs', rfl, -⟩ := id hs
      obtain ⟨nr, hnr⟩ : ∃ n, n = rows.length := ⟨_, rfl⟩
      have NR := Lib.hid hnr
      rw [← hnr] at hl6
      have ba := below_alloc_ wr (.cells #[.int .u64 x0, .int .u64 x1, .int .u8 x2, .int .u64 x3, .slice As' nr cs'] 63)
      have KB := Lib.hid (Blk.new wr 63 #[.int .u64 x0, .int .u64 x1, .int .u8 x2, .int .u64 x3, .slice As' nr cs'])
      have ST := Lib.hid (show Steps (wr.alloc (.cells #[.int .u64 x0, .int .u64 x1, .int .u8 x2, .int .u64 x3, .slice As' nr cs'] 63)) (.slice As' nr cs') rows from by rw [hnr] at ba ⊢; exact Rd.below hs ba)
      have BA := Lib.hid ba
      simp only [← hnr] at c4 ⊢
      clear WE hcell hh hs hf he hT hnr ba
      go_upto_region 8 with fail
      go_cut [3, 4, 5] (fun s3 s4 s5 wx => s3 = .slice A3 j p3 ∧ s4 = .int .i64 j ∧ s5 = .pointer (some ⟨wr.heap.size, 0, none⟩) ∧ ∃ A6 c6, Blk wx wr.heap.size 63 #[.int .u64 x0, .int .u64 x1, .int .u8 x2, .int .u64 x3, .slice A6 nr c6] ∧ Tw (w.heap.size + 2) wx 104 10 (.slice A6 nr c6) nr (rows.flatMap (fc stepK)) stepMk ∧ Below wr.heap.size wr wx)
      case first =>
        as_aux_lemma =>
          have k2 := KB.out.cell 2
          have k3 := KB.out.cell 3
          have k4 := KB.out.cell 4
          simp only [List.getElem?_toArray, List.getElem?_cons_zero, List.getElem?_cons_succ] at k2 k3 k4
          have CC := Lib.hid (Twin_call x2 x3 (.slice As' nr cs') rows _ ST.out (by rw [← NR.out]; exact hl6))
          clear c0 c1 c2 c3 c4 c8
          go_wp2_with fail
          refine CC.out.mono ?_
          rintro e w6 ⟨A6, c6, rfl, hT, hB⟩
          rw [← NR.out] at hT ⊢
          have kb := KB.out.below hB KB.out.lt
          have fl := kb.free
          have d2 := kb.cell 2
          have d3 := kb.cell 3
          have d4 := kb.cell 4
          simp only [List.getElem?_toArray, List.getElem?_cons_zero, List.getElem?_cons_succ] at d2 d3 d4
          have s1 := kb.set_ 2 (.int .u8 x2)
          have s2 := s1.set_ 3 (.int .u64 x3)
          have s3 := s2.set_ 4 (.slice A6 nr c6)
          have hr2 : w.heap.size + 2 ≤ (wr.alloc (.cells #[.int .u64 x0, .int .u64 x1, .int .u8 x2, .int .u64 x3, .slice As' nr cs'] 63)).heap.size := by have := KR3.out.lt; simp; omega
          have FIN := Lib.hid (show Blk (((w6.setCell ⟨wr.heap.size, 2, none⟩ (.int .u8 x2)).setCell ⟨wr.heap.size, 3, none⟩ (.int .u64 x3)).setCell ⟨wr.heap.size, 4, none⟩ (.slice A6 nr c6)) wr.heap.size 63 #[.int .u64 x0, .int .u64 x1, .int .u8 x2, .int .u64 x3, .slice A6 nr c6] ∧ Tw (w.heap.size + 2) (((w6.setCell ⟨wr.heap.size, 2, none⟩ (.int .u8 x2)).setCell ⟨wr.heap.size, 3, none⟩ (.int .u64 x3)).setCell ⟨wr.heap.size, 4, none⟩ (.slice A6 nr c6)) 104 10 (.slice A6 nr c6) nr (rows.flatMap (fc stepK)) stepMk ∧ Below wr.heap.size wr (((w6.setCell ⟨wr.heap.size, 2, none⟩ (.int .u8 x2)).setCell ⟨wr.heap.size, 3, none⟩ (.int .u64 x3)).setCell ⟨wr.heap.size, 4, none⟩ (.slice A6 nr c6)) from
            ⟨by simpa using s3, ((((hT.le_ hr2).aside kb (by decide) 2 _).aside s1 (by decide) 3 _).aside s2 (by decide) 4 _), (((BA.out.trans (hB.mono BA.out.size)).setCell (p := ⟨wr.heap.size, 2, none⟩) (Nat.le_refl _) _).setCell (p := ⟨wr.heap.size, 3, none⟩) (Nat.le_refl _) _).setCell (p := ⟨wr.heap.size, 4, none⟩) (Nat.le_refl _) _⟩)
          clear kb hT hB s1 s2 s3 hr2 k2 k3 k4
          go_wp2
          go_meet
          exact ⟨rfl, rfl, rfl, _, _, FIN.out⟩
      case rest =>
      clear c0 c1 c2 c3 c4 c8 KB ST BA
      obtain ⟨rfl, rfl, rfl, A6, c6, kb, t6, b6⟩ := hcut
      have d0 := kb.cell 0
      have d1 := kb.cell 1
      have d2 := kb.cell 2
      have d3 := kb.cell 3
      have d4 := kb.cell 4
      simp only [List.getElem?_toArray, List.getElem?_cons_zero, List.getElem?_cons_succ] at d0 d1 d2 d3 d4
      obtain ⟨ss, q1, q2, q3⟩ := E3.out.below b6
      have hlt : (L.es.take j).length = j := by rw [List.length_take]; omega
      rw [hlt] at q1 q2
      have ba := below_alloc_ wc (.cells #[.int .u64 x0, .int .u64 x1, .int .u8 x2, .int .u64 x3, .slice A6 nr c6] 63)
      have QO := Lib.hid (q2.below ba)
      have Q1 := Lib.hid q1
      have Q3 := Lib.hid (fun (i : Nat) (a : i < (L.es.take j).length) (b : i < ss.length) => (q3 i a b).below_ ba)
      have T6 := Lib.hid (t6.below_ ba)
      have bz := b6.trans (ba.mono b6.size)
      have KL4 := Lib.hid (KL3.out.below bz KL3.out.lt)
      have KR4 := Lib.hid (KR3.out.below bz KR3.out.lt)
      have V14 := Lib.hid (V1.out.below_ bz)
      have V24 := Lib.hid (V2.out.below_ bz)
      have BW4 := Lib.hid (BW.out.trans (bz.mono BW.out.size))
      have SZ := Lib.hid (show w.heap.size + 2 ≤ (wc.alloc (.cells #[.int .u64 x0, .int .u64 x1, .int .u8 x2, .int .u64 x3, .slice A6 nr c6] 63)).heap.size from by have := KR4.out.lt; omega)
      have HL := Lib.hid hlt
      clear kb t6 b6 q1 q2 q3 ba bz KL3 KR3 V1 V2 BW E3 hlt
      go_wp2_with (at_builtin; go_must (refine wpList_ow_rows (n := j) (m := 1) rfl _ _ 24 63 _ 5 56 rfl Tryz.underlying24 entry_inf_ rfl (by decide) rfl QO.out SZ.out (Rd.lits wc 63 5 1 [.int .u64 x0, .int .u64 x1, .int .u8 x2, .int .u64 x3, .slice A6 nr c6] rfl) (by simp [Value.oneCell']) rfl (by omega) (by unfold maxLen; omega) ?_); intro v9 w9 ho9 hg9)
      obtain ⟨A9, c9, rfl⟩ := ho9.sl_
      have HO := Lib.hid ho9
      have HG := Lib.hid hg9
      clear ho9 hg9
      go_roundg (ne - (j + 1))
      case measure => have := G.out; omega
      case rel =>
        refine ⟨j + 1, by omega, rfl, by go_num, ⟨_, _, rfl⟩, ?_, KL4.out.grown HG.out.1 (fun he => Ow.notat QO.out KL4.out (by decide) he.symm), KR4.out.grown HG.out.1 (fun he => Ow.notat QO.out KR4.out (by decide) he.symm), V14.out.grew_ QO.out HG.out (by decide), V24.out.grew_ QO.out HG.out (by decide), BW4.out.grown HG.out.1 BW4.out.size (fun k hk => Nat.le_trans (by omega) (QO.out.blk_lt k hk))⟩
        rw [HT.out]
        refine TwE.snoc (ss := ss) (s := .slice A6 nr c6) (by rw [HL.out]; exact Q1.out) (by rw [HL.out]; exact QO.out) Q3.out HG.out (by rw [HL.out]; exact HO.out) ?_
        show Tw _ _ 104 10 _ rows.length _ _
        rw [← NR.out]
        exact T6.out
    · obtain rfl : j = ne := by omega
      have fl := KL3.out.free
      have kl8 := KL3.out.set_ 8 (.slice A3 j p3)
      have kr8 := KR3.out.far (p := ⟨w.heap.size, 8, none⟩) (by simp) (.slice A3 j p3)
      have RG := Lib.hid (Blk.range_ (cs := [.int .u8 L.kind, .int .u8 L.src, .int .u8 L.dst, .int .u64 L.term, .int .u64 L.index, .int .u64 L.mark, .int .u64 L.commit, .bool L.yes, .slice A3 j p3, .slice A1 nd c1, .int .u8 L.cl, .int .u64 L.num, .slice A2 ns c2, .int .i64 L.e, .int .i64 L.re, .int .i64 L.ra, .slice Ag ng cg]) (by simpa [letC] using kl8))
      have TH := Lib.hid (kr8.there_ (n := 17) rfl)
      have KF := Lib.hid (show Blk ((wr.setCell ⟨w.heap.size, 8, none⟩ (.slice A3 j p3)).setCells (w.heap.size + 1) 0 [.int .u8 L.kind, .int .u8 L.src, .int .u8 L.dst, .int .u64 L.term, .int .u64 L.index, .int .u64 L.mark, .int .u64 L.commit, .bool L.yes, .slice A3 j p3, .slice A1 nd c1, .int .u8 L.cl, .int .u64 L.num, .slice A2 ns c2, .int .i64 L.e, .int .i64 L.re, .int .i64 L.ra, .slice Ag ng cg]) (w.heap.size + 1) 36 (letC L (.slice A3 j p3) (.slice A1 nd c1) (.slice A2 ns c2) (.slice Ag ng cg)) from setCells_blk_ [.int .u8 L.kind, .int .u8 L.src, .int .u8 L.dst, .int .u64 L.term, .int .u64 L.index, .int .u64 L.mark, .int .u64 L.commit, .bool L.yes, .slice A3 j p3, .slice A1 nd c1, .int .u8 L.cl, .int .u64 L.num, .slice A2 ns c2, .int .i64 L.e, .int .i64 L.re, .int .i64 L.ra, .slice Ag ng cg] [] [.int .u8 0, .int .u8 0, .int .u8 0, .int .u64 0, .int .u64 0, .int .u64 0, .int .u64 0, .bool false, .slice none 0 0, .slice none 0 0, .int .u8 0, .int .u64 0, .slice none 0 0, .int .i64 0, .int .i64 0, .int .i64 0, .slice none 0 0] _ rfl kr8)
      have BF := Lib.hid (show Below w.heap.size w ((wr.setCell ⟨w.heap.size, 8, none⟩ (.slice A3 j p3)).setCells (w.heap.size + 1) 0 [.int .u8 L.kind, .int .u8 L.src, .int .u8 L.dst, .int .u64 L.term, .int .u64 L.index, .int .u64 L.mark, .int .u64 L.commit, .bool L.yes, .slice A3 j p3, .slice A1 nd c1, .int .u8 L.cl, .int .u64 L.num, .slice A2 ns c2, .int .i64 L.e, .int .i64 L.re, .int .i64 L.ra, .slice Ag ng cg]) from setCells_below_ (Nat.le_succ _) _ _ _ (BW.out.setCell (p := ⟨w.heap.size, 8, none⟩) (Nat.le_refl _) _))
      have EF := Lib.hid (show TwE (w.heap.size + 2) ((wr.setCell ⟨w.heap.size, 8, none⟩ (.slice A3 j p3)).setCells (w.heap.size + 1) 0 [.int .u8 L.kind, .int .u8 L.src, .int .u8 L.dst, .int .u64 L.term, .int .u64 L.index, .int .u64 L.mark, .int .u64 L.commit, .bool L.yes, .slice A3 j p3, .slice A1 nd c1, .int .u8 L.cl, .int .u64 L.num, .slice A2 ns c2, .int .i64 L.e, .int .i64 L.re, .int .i64 L.ra, .slice Ag ng cg]) _ (L.es.take j) from TwE.setCells_ (by decide) (by decide) [.int .u8 L.kind, .int .u8 L.src, .int .u8 L.dst, .int .u64 L.term, .int .u64 L.index, .int .u64 L.mark, .int .u64 L.commit, .bool L.yes, .slice A3 j p3, .slice A1 nd c1, .int .u8 L.cl, .int .u64 L.num, .slice A2 ns c2, .int .i64 L.e, .int .i64 L.re, .int .i64 L.ra, .slice Ag ng cg] 0 kr8 (TwE.setCells_ (by decide) (by decide) [.slice A3 j p3] 8 KL3.out E3.out))
      have DF := Lib.hid (show Tw (w.heap.size + 2) ((wr.setCell ⟨w.heap.size, 8, none⟩ (.slice A3 j p3)).setCells (w.heap.size + 1) 0 [.int .u8 L.kind, .int .u8 L.src, .int .u8 L.dst, .int .u64 L.term, .int .u64 L.index, .int .u64 L.mark, .int .u64 L.commit, .bool L.yes, .slice A3 j p3, .slice A1 nd c1, .int .u8 L.cl, .int .u64 L.num, .slice A2 ns c2, .int .i64 L.e, .int .i64 L.re, .int .i64 L.ra, .slice Ag ng cg]) 5 1 (.slice A1 nd c1) nd (bc L.data) [.int .u8 195, .int .u8 195] from Tw.setCells_ (by decide) [.int .u8 L.kind, .int .u8 L.src, .int .u8 L.dst, .int .u64 L.term, .int .u64 L.index, .int .u64 L.mark, .int .u64 L.commit, .bool L.yes, .slice A3 j p3, .slice A1 nd c1, .int .u8 L.cl, .int .u64 L.num, .slice A2 ns c2, .int .i64 L.e, .int .i64 L.re, .int .i64 L.ra, .slice Ag ng cg] 0 kr8 (Tw.setCells_ (by decide) [.slice A3 j p3] 8 KL3.out V1.out))
      have SF := Lib.hid (show Tw (w.heap.size + 2) ((wr.setCell ⟨w.heap.size, 8, none⟩ (.slice A3 j p3)).setCells (w.heap.size + 1) 0 [.int .u8 L.kind, .int .u8 L.src, .int .u8 L.dst, .int .u64 L.term, .int .u64 L.index, .int .u64 L.mark, .int .u64 L.commit, .bool L.yes, .slice A3 j p3, .slice A1 nd c1, .int .u8 L.cl, .int .u64 L.num, .slice A2 ns c2, .int .i64 L.e, .int .i64 L.re, .int .i64 L.ra, .slice Ag ng cg]) 104 10 (.slice A2 ns c2) ns (L.steps.flatMap (fc stepK)) stepMk from Tw.setCells_ (by decide) [.int .u8 L.kind, .int .u8 L.src, .int .u8 L.dst, .int .u64 L.term, .int .u64 L.index, .int .u64 L.mark, .int .u64 L.commit, .bool L.yes, .slice A3 j p3, .slice A1 nd c1, .int .u8 L.cl, .int .u64 L.num, .slice A2 ns c2, .int .i64 L.e, .int .i64 L.re, .int .i64 L.ra, .slice Ag ng cg] 0 kr8 (Tw.setCells_ (by decide) [.slice A3 j p3] 8 KL3.out V2.out))
      clear kl8 kr8
      go_upto_region 11 with fail
      refine wp_region_lit ?_
      refine wpList_load_mid rfl 36 _ rfl w.heap.size 0 rfl [.int .u8 L.kind, .int .u8 L.src, .int .u8 L.dst, .int .u64 L.term, .int .u64 L.index, .int .u64 L.mark, .int .u64 L.commit, .bool L.yes, .slice A3 j p3, .slice A1 nd c1, .int .u8 L.cl, .int .u64 L.num, .slice A2 ns c2, .int .i64 L.e, .int .i64 L.re, .int .i64 L.ra, .slice Ag ng cg] _ RG.out Tryz.underlying36 rfl let_size_ ?_
      go_wp2_with (refine wpList_store_mid rfl 36 _ _ rfl (w.heap.size + 1) 0 #[.int .u8 L.kind, .int .u8 L.src, .int .u8 L.dst, .int .u64 L.term, .int .u64 L.index, .int .u64 L.mark, .int .u64 L.commit, .bool L.yes, .slice A3 j p3, .slice A1 nd c1, .int .u8 L.cl, .int .u64 L.num, .slice A2 ns c2, .int .i64 L.e, .int .i64 L.re, .int .i64 L.ra, .slice Ag ng cg] rfl rfl TH.out let_size_ (by simp [Value.oneCell']) ?_)
      have kf := KF.out
      generalize World.setCells _ (w.heap.size + 1) 0 _ = wf at *
      have f0 := kf.cell 0
      have f1 := kf.cell 1
      have f2 := kf.cell 2
      have f3 := kf.cell 3
      have f4 := kf.cell 4
      have f5 := kf.cell 5
      have f6 := kf.cell 6
      have f7 := kf.cell 7
      have f8 := kf.cell 8
      have f9 := kf.cell 9
      have f10 := kf.cell 10
      have f11 := kf.cell 11
      have f12 := kf.cell 12
      have f13 := kf.cell 13
      have f14 := kf.cell 14
      have f15 := kf.cell 15
      have f16 := kf.cell 16
      simp only [letC, List.getElem?_toArray, List.getElem?_cons_zero, List.getElem?_cons_succ] at f0 f1 f2 f3 f4 f5 f6 f7 f8 f9 f10 f11 f12 f13 f14 f15 f16
      refine bodyPost_ret (v := .agg (letC L (.slice A3 j p3) (.slice A1 nd c1) (.slice A2 ns c2) (.slice Ag ng cg))) (by simp [results, Tryz.results7, go_sem, letC, f0, f1, f2, f3, f4, f5, f6, f7, f8, f9, f10, f11, f12, f13, f14, f15, f16]) rfl ?_
      refine ⟨_, _, _, rfl, ?_, ?_, ?_, ?_, BF.out⟩
      · obtain ⟨⟨gd, h1⟩, h2⟩ := HA1.out
        exact ⟨gd, by rw [h1, h2, ND.out]⟩
      · have := EF.out.le_ (show w.heap.size ≤ w.heap.size + 2 by omega)
        have e1 : L.es.take j = L.es := by rw [NE.out, List.take_length]
        rw [e1] at this
        exact this
      · exact DF.out.le_ (by omega)
      · exact SF.out.le_ (by omega)
end Go.Proofs.YthjdkjinkmdclaaGreat
