import Derived.Test.YthjdkjinkmdclaaGreatRnx
import Derived.Deep.MidRow
import Derived.Test.YthjdkjinkmdclaaGreatTwq
import Derived.Test.YthjdkjinkmdclaaGreatLgx
import Derived.Test.YthjdkjinkmdclaaGreatLgr
import Derived.Test.YthjdkjinkmdclaaGreatBkx
/- law23: a letter as the document has it. -/
namespace Go.Proofs.YthjdkjinkmdclaaGreat
open Go.RowKit

theorem setCells_blk_ {g t : Nat} : ∀ (vs pre rest : List Value) (w : World), rest.length = vs.length → Blk w g t (pre ++ rest).toArray → Blk (w.setCells g pre.length vs) g t (pre ++ vs).toArray
  | [], pre, rest, w, h, hk => by
    have : rest = [] := List.eq_nil_of_length_eq_zero (by simpa using h)
    subst this; exact hk
  | v :: vs, pre, [], w, h, hk => by simp at h
  | v :: vs, pre, r :: rest, w, h, hk => by
    have h1 : ((pre ++ r :: rest).toArray).setIfInBounds pre.length v = ((pre ++ [v]) ++ rest).toArray := by
      simp [List.setIfInBounds_toArray]
    have h2 := hk.set_ pre.length v
    rw [h1] at h2
    have := setCells_blk_ vs (pre ++ [v]) rest _ (by simpa using h) h2
    simpa [World.setCells] using this
theorem setCells_below_ {B : Nat} {w0 : World} {g : Nat} (hg : B ≤ g) : ∀ (vs : List Value) (i : Nat) (w : World), Below B w0 w → Below B w0 (w.setCells g i vs)
  | [], _, _, h => h
  | _v :: vs, i, _w, h => setCells_below_ hg vs (i + 1) _ (h.setCell hg _)
theorem Blk.there_ {w : World} {g t : Nat} {cs : Array Value} (h : Blk w g t cs) {n : Nat} (hn : n = cs.size) : w.there g 0 n := fun j hj => by
  subst hn
  rw [Nat.zero_add, h.cell, Array.getElem?_eq_getElem hj]
  exact ⟨rfl, h.free j⟩
theorem other_size : (Tryz.prog.info? 44).map (·.size) = some 17 := by kernel_rfl
set_option maxHeartbeats 600000 in
set_option maxRecDepth 100000 in
theorem other_any {w : World} {L : Lt} {ve vd vs vg : Value} (hw : Lw w L ve vd vs vg) :
    Calls Tryz.prog 10 #[.agg (letC L ve vd vs vg)] w fun e w' => e = .returned (.agg (letO L ve vd vs vg)) ∧ Below w.heap.size w w' := by
  obtain ⟨Ae, ce, Ad, cd, As, cs, Ag, cg, rfl, rfl, rfl, rfl⟩ := hw.sl
  have kb := hw.ok.kind
  obtain ⟨ne, hne⟩ : ∃ n, n = L.es.length := ⟨_, rfl⟩
  obtain ⟨nd, hnd⟩ : ∃ n, n = L.data.length := ⟨_, rfl⟩
  obtain ⟨ns, hns⟩ : ∃ n, n = L.steps.length := ⟨_, rfl⟩
  obtain ⟨ng, hng⟩ : ∃ n, n = L.gots.length := ⟨_, rfl⟩
  rw [← hne, ← hnd, ← hns, ← hng]
  clear hne hnd hns hng hw
  have hwk : IntKind.i64.wrap L.kind = L.kind := by rw [IntKind.wrap_i64]; unfold byt at kb; omega
  have b2 := below_alloc2_ w (.cells #[.int .u8 L.kind, .int .u8 L.src, .int .u8 L.dst, .int .u64 L.term, .int .u64 L.index, .int .u64 L.mark, .int .u64 L.commit, .bool L.yes, .slice Ae ne ce, .slice Ad nd cd, .int .u8 L.cl, .int .u64 L.num, .slice As ns cs, .int .i64 L.e, .int .i64 L.re, .int .i64 L.ra, .slice Ag ng cg] 36) (.cells #[.int .i64 0, .int .u8 0, .int .u8 0, .int .u64 0, .int .u64 0, .int .u64 0, .int .u64 0, .bool false, .slice none 0 0, .slice none 0 0, .int .u8 0, .int .u64 0, .slice none 0 0, .int .i64 0, .int .i64 0, .int .i64 0, .slice none 0 0] 44)
  have kL := (Blk.new w 36 #[.int .u8 L.kind, .int .u8 L.src, .int .u8 L.dst, .int .u64 L.term, .int .u64 L.index, .int .u64 L.mark, .int .u64 L.commit, .bool L.yes, .slice Ae ne ce, .slice Ad nd cd, .int .u8 L.cl, .int .u64 L.num, .slice As ns cs, .int .i64 L.e, .int .i64 L.re, .int .i64 L.ra, .slice Ag ng cg]).alloc (.cells #[.int .i64 0, .int .u8 0, .int .u8 0, .int .u64 0, .int .u64 0, .int .u64 0, .int .u64 0, .bool false, .slice none 0 0, .slice none 0 0, .int .u8 0, .int .u64 0, .slice none 0 0, .int .i64 0, .int .i64 0, .int .i64 0, .slice none 0 0] 44)
  have kR := Blk.new (w.alloc (.cells #[.int .u8 L.kind, .int .u8 L.src, .int .u8 L.dst, .int .u64 L.term, .int .u64 L.index, .int .u64 L.mark, .int .u64 L.commit, .bool L.yes, .slice Ae ne ce, .slice Ad nd cd, .int .u8 L.cl, .int .u64 L.num, .slice As ns cs, .int .i64 L.e, .int .i64 L.re, .int .i64 L.ra, .slice Ag ng cg] 36)) 44 #[.int .i64 0, .int .u8 0, .int .u8 0, .int .u64 0, .int .u64 0, .int .u64 0, .int .u64 0, .bool false, .slice none 0 0, .slice none 0 0, .int .u8 0, .int .u64 0, .slice none 0 0, .int .i64 0, .int .i64 0, .int .i64 0, .slice none 0 0]
  rw [World.size_alloc] at kR
  have R0 := Lib.hid kR
  have B2 := Lib.hid b2
  simp only [letC]
  have c0 := kL.cell 0
  have c1 := kL.cell 1
  have c2 := kL.cell 2
  have c3 := kL.cell 3
  have c4 := kL.cell 4
  have c5 := kL.cell 5
  have c6 := kL.cell 6
  have c7 := kL.cell 7
  have c8 := kL.cell 8
  have c9 := kL.cell 9
  have c10 := kL.cell 10
  have c11 := kL.cell 11
  have c12 := kL.cell 12
  have c13 := kL.cell 13
  have c14 := kL.cell 14
  have c15 := kL.cell 15
  have c16 := kL.cell 16
  simp only [List.getElem?_toArray, List.getElem?_cons_zero, List.getElem?_cons_succ] at c0 c1 c2 c3 c4 c5 c6 c7 c8 c9 c10 c11 c12 c13 c14 c15 c16
  have TH := Lib.hid (kR.there_ (n := 17) rfl)
  clear kb kL kR b2
  go_enter Tryz.func10, Tryz.ntmps10
  go_upto_region 1 with fail
  refine wp_region_lit ?_
  go_wp2_with (refine wpList_store_mid rfl 44 _ _ rfl (w.heap.size + 1) 0 #[.int .i64 L.kind, .int .u8 L.src, .int .u8 L.dst, .int .u64 L.term, .int .u64 L.index, .int .u64 L.mark, .int .u64 L.commit, .bool L.yes, .slice Ae ne ce, .slice Ad nd cd, .int .u8 L.cl, .int .u64 L.num, .slice As ns cs, .int .i64 L.e, .int .i64 L.re, .int .i64 L.ra, .slice Ag ng cg] rfl rfl TH.out other_size (by simp [Value.oneCell']) ?_)
  have kf : Blk (((w.alloc (.cells #[.int .u8 L.kind, .int .u8 L.src, .int .u8 L.dst, .int .u64 L.term, .int .u64 L.index, .int .u64 L.mark, .int .u64 L.commit, .bool L.yes, .slice Ae ne ce, .slice Ad nd cd, .int .u8 L.cl, .int .u64 L.num, .slice As ns cs, .int .i64 L.e, .int .i64 L.re, .int .i64 L.ra, .slice Ag ng cg] 36)).alloc (.cells #[.int .i64 0, .int .u8 0, .int .u8 0, .int .u64 0, .int .u64 0, .int .u64 0, .int .u64 0, .bool false, .slice none 0 0, .slice none 0 0, .int .u8 0, .int .u64 0, .slice none 0 0, .int .i64 0, .int .i64 0, .int .i64 0, .slice none 0 0] 44)).setCells (w.heap.size + 1) 0 [.int .i64 L.kind, .int .u8 L.src, .int .u8 L.dst, .int .u64 L.term, .int .u64 L.index, .int .u64 L.mark, .int .u64 L.commit, .bool L.yes, .slice Ae ne ce, .slice Ad nd cd, .int .u8 L.cl, .int .u64 L.num, .slice As ns cs, .int .i64 L.e, .int .i64 L.re, .int .i64 L.ra, .slice Ag ng cg]) (w.heap.size + 1) 44 (letO L (.slice Ae ne ce) (.slice Ad nd cd) (.slice As ns cs) (.slice Ag ng cg)) := setCells_blk_ [.int .i64 L.kind, .int .u8 L.src, .int .u8 L.dst, .int .u64 L.term, .int .u64 L.index, .int .u64 L.mark, .int .u64 L.commit, .bool L.yes, .slice Ae ne ce, .slice Ad nd cd, .int .u8 L.cl, .int .u64 L.num, .slice As ns cs, .int .i64 L.e, .int .i64 L.re, .int .i64 L.ra, .slice Ag ng cg] [] [.int .i64 0, .int .u8 0, .int .u8 0, .int .u64 0, .int .u64 0, .int .u64 0, .int .u64 0, .bool false, .slice none 0 0, .slice none 0 0, .int .u8 0, .int .u64 0, .slice none 0 0, .int .i64 0, .int .i64 0, .int .i64 0, .slice none 0 0] ((w.alloc (.cells #[.int .u8 L.kind, .int .u8 L.src, .int .u8 L.dst, .int .u64 L.term, .int .u64 L.index, .int .u64 L.mark, .int .u64 L.commit, .bool L.yes, .slice Ae ne ce, .slice Ad nd cd, .int .u8 L.cl, .int .u64 L.num, .slice As ns cs, .int .i64 L.e, .int .i64 L.re, .int .i64 L.ra, .slice Ag ng cg] 36)).alloc (.cells #[.int .i64 0, .int .u8 0, .int .u8 0, .int .u64 0, .int .u64 0, .int .u64 0, .int .u64 0, .bool false, .slice none 0 0, .slice none 0 0, .int .u8 0, .int .u64 0, .slice none 0 0, .int .i64 0, .int .i64 0, .int .i64 0, .slice none 0 0] 44)) rfl R0.out
  have BF := Lib.hid (show Below w.heap.size w (((w.alloc (.cells #[.int .u8 L.kind, .int .u8 L.src, .int .u8 L.dst, .int .u64 L.term, .int .u64 L.index, .int .u64 L.mark, .int .u64 L.commit, .bool L.yes, .slice Ae ne ce, .slice Ad nd cd, .int .u8 L.cl, .int .u64 L.num, .slice As ns cs, .int .i64 L.e, .int .i64 L.re, .int .i64 L.ra, .slice Ag ng cg] 36)).alloc (.cells #[.int .i64 0, .int .u8 0, .int .u8 0, .int .u64 0, .int .u64 0, .int .u64 0, .int .u64 0, .bool false, .slice none 0 0, .slice none 0 0, .int .u8 0, .int .u64 0, .slice none 0 0, .int .i64 0, .int .i64 0, .int .i64 0, .slice none 0 0] 44)).setCells (w.heap.size + 1) 0 [.int .i64 L.kind, .int .u8 L.src, .int .u8 L.dst, .int .u64 L.term, .int .u64 L.index, .int .u64 L.mark, .int .u64 L.commit, .bool L.yes, .slice Ae ne ce, .slice Ad nd cd, .int .u8 L.cl, .int .u64 L.num, .slice As ns cs, .int .i64 L.e, .int .i64 L.re, .int .i64 L.ra, .slice Ag ng cg]) from setCells_below_ (Nat.le_succ _) _ _ _ B2.out)
  generalize World.setCells _ (w.heap.size + 1) 0 _ = wf at *
  have f0 := kf.cell 0
  have f1 := kf.cell 1
  have f2 := kf.cell 2
  have f3 := kf.cell 3
  have f4 := kf.cell 4
  have f5 := kf.cell 5
  have f6 := kf.cell 6
  have f7 := kf.cell 7
  have f8 := kf.cell 8
  have f9 := kf.cell 9
  have f10 := kf.cell 10
  have f11 := kf.cell 11
  have f12 := kf.cell 12
  have f13 := kf.cell 13
  have f14 := kf.cell 14
  have f15 := kf.cell 15
  have f16 := kf.cell 16
  simp only [letO, List.getElem?_toArray, List.getElem?_cons_zero, List.getElem?_cons_succ] at f0 f1 f2 f3 f4 f5 f6 f7 f8 f9 f10 f11 f12 f13 f14 f15 f16
  refine bodyPost_ret (v := .agg (letO L (.slice Ae ne ce) (.slice Ad nd cd) (.slice As ns cs) (.slice Ag ng cg))) (by simp [results, Tryz.results10, go_sem, letO, f0, f1, f2, f3, f4, f5, f6, f7, f8, f9, f10, f11, f12, f13, f14, f15, f16]) rfl ?_
  exact ⟨rfl, BF.out⟩
end Go.Proofs.YthjdkjinkmdclaaGreat

/- law23: a twin of a letter. -/
namespace Go.Proofs.YthjdkjinkmdclaaGreat
open Go.RowKit

/-- Entries in new memory, the steps of each with room behind them. -/
def TwE (B : Nat) (w : World) (v : Value) (es : List Ent) : Prop :=
  ∃ ss : List Value, ss.length = es.length ∧ Ow B w 63 5 v es.length ((es.zip ss).flatMap ecells) ∧ ∀ (j : Nat) (h : j < es.length) (h' : j < ss.length), Tw B w 104 10 ss[j] es[j].2.length (es[j].2.flatMap (fc stepK)) stepMk
theorem Tw.below_ {B size n : Nat} {e : TypeId} {w w' : World} {v : Value} {xs ms : List Value} (h : Tw B w e size v n xs ms) (hb : Below w.heap.size w w') : Tw B w' e size v n xs ms := by
  obtain ⟨A, c, hv, h1, h2, h3⟩ := h
  exact ⟨A, c, hv, h1, h2, h3.below hb⟩
theorem TwE.below {B : Nat} {w w' : World} {v : Value} {es : List Ent} (h : TwE B w v es) (hb : Below w.heap.size w w') : TwE B w' v es := by
  obtain ⟨ss, h1, h2, h3⟩ := h
  exact ⟨ss, h1, h2.below hb, fun j a b => (h3 j a b).below_ hb⟩
theorem Blk.range_ {w : World} {g t : Nat} {cs : List Value} (h : Blk w g t cs.toArray) : w.rangeAt g 0 cs := fun j v hj => by
  rw [Nat.zero_add, h.cell]
  simpa using hj
theorem Ow.setCells_ {B size n g t : Nat} {e : TypeId} {v : Value} {xs : List Value} (hne : e ≠ t) : ∀ (vs : List Value) (i : Nat) (w : World) (cs : Array Value), Blk w g t cs → Ow B w e size v n xs → Ow B (w.setCells g i vs) e size v n xs
  | [], _, _, _, _, h => h
  | u :: vs, i, _w, _cs, hb, h => Ow.setCells_ hne vs (i + 1) _ _ (hb.set_ i u) (h.aside hb hne i u)
theorem Tw.setCells_ {B size n g t : Nat} {e : TypeId} {v : Value} {xs ms : List Value} (hne : e ≠ t) (vs : List Value) (i : Nat) {w : World} {cs : Array Value} (hb : Blk w g t cs) (h : Tw B w e size v n xs ms) : Tw B (w.setCells g i vs) e size v n xs ms := by
  obtain ⟨A, c, hv, h1, h2, h3⟩ := h
  exact ⟨A, c, hv, h1, h2, Ow.setCells_ hne vs i _ _ hb h3⟩
theorem TwE.setCells_ {B g t : Nat} {v : Value} {es : List Ent} (h1 : 63 ≠ t) (h2 : 104 ≠ t) (vs : List Value) (i : Nat) {w : World} {cs : Array Value} (hb : Blk w g t cs) (h : TwE B w v es) : TwE B (w.setCells g i vs) v es := by
  obtain ⟨ss, q1, q2, q3⟩ := h
  exact ⟨ss, q1, Ow.setCells_ h1 vs i _ _ hb q2, fun j a b => Tw.setCells_ h2 vs i hb (q3 j a b)⟩
theorem TwE.le_ {B B' : Nat} {w : World} {v : Value} {es : List Ent} (h : TwE B w v es) (hb : B' ≤ B) : TwE B' w v es := by
  obtain ⟨ss, q1, q2, q3⟩ := h
  exact ⟨ss, q1, q2.le hb, fun j a b => (q3 j a b).le_ hb⟩
theorem Tw.grew_ {B B2 size size2 n n2 : Nat} {e e2 : TypeId} {w w' : World} {s v v' : Value} {xs ms ys : List Value} (h : Tw B w e size s n xs ms) (ho : Ow B2 w e2 size2 v n2 ys) (hg : Grew w w' v v') (hne : e ≠ e2) : Tw B w' e size s n xs ms := by
  obtain ⟨A, c, hv, h1, h2, h3⟩ := h
  refine ⟨A, c, hv, h1, h2, ?_⟩
  rcases h3 with h | ⟨g, c, cur, hv2, hB, hk, h⟩
  · exact .inl h
  · exact .inr ⟨g, c, cur, hv2, hB, hk.grown hg.1 (fun he => Ow.notat ho hk hne he.symm), h⟩
/-- One entry more. -/
theorem TwE.snoc {B : Nat} {w w' : World} {v v' : Value} {es : List Ent} {e : Ent} {s : Value} {ss : List Value} (h1 : ss.length = es.length) (h2 : Ow B w 63 5 v es.length ((es.zip ss).flatMap ecells))
    (h3 : ∀ (j : Nat) (h : j < es.length) (h' : j < ss.length), Tw B w 104 10 ss[j] es[j].2.length (es[j].2.flatMap (fc stepK)) stepMk)
    (hg : Grew w w' v v') (ho : Ow B w' 63 5 v' (es.length + 1) ((es.zip ss).flatMap ecells ++ ecells (e, s))) (hs : Tw B w 104 10 s e.2.length (e.2.flatMap (fc stepK)) stepMk) : TwE B w' v' (es ++ [e]) := by
  refine ⟨ss ++ [s], by simp [h1], ?_, ?_⟩
  · rw [List.zip_append h1.symm, List.flatMap_append, List.length_append]
    simpa using ho
  · intro j a b
    rcases Nat.lt_or_ge j es.length with hj | hj
    · rw [List.getElem_append_left (by omega), List.getElem_append_left hj]
      exact (h3 j hj (by omega)).grew_ h2 hg (by decide)
    · have hje : j = es.length := by simp at a; omega
      subst hje
      rw [List.getElem_append_right (by omega), List.getElem_append_right (by omega)]
      simp only [h1, Nat.sub_self, List.getElem_cons_zero]
      exact hs.grew_ h2 hg (by decide)
theorem entry_inf_ : (Tryz.prog.info? 63).map (fun i => (i.zero, i.size, i.bytes)) = some (some (.agg #[.int .u64 0, .int .u64 0, .int .u8 0, .int .u64 0, .slice none 0 0]), 5, 56) := by kernel_rfl
theorem let_size_ : (Tryz.prog.info? 36).map (·.size) = some 17 := by kernel_rfl
set_option maxHeartbeats 1000000 in
set_option maxRecDepth 100000 in
theorem Twin_let {w : World} {L : Lt} {ve vd vs vg : Value} (hw : Lw w L ve vd vs vg) :
    Calls Tryz.prog 7 #[.agg (letC L ve vd vs vg)] w fun e w' => ∃ ve' vd' vs', e = .returned (.agg (letC L ve' vd' vs' vg)) ∧ (∃ gd, vd' = .slice (some ⟨gd, 0, none⟩) L.data.length (L.data.length + 2)) ∧ TwE w.heap.size w' ve' L.es ∧ Tw w.heap.size w' 5 1 vd' L.data.length (bc L.data) [.int .u8 195, .int .u8 195] ∧ Tw w.heap.size w' 104 10 vs' L.steps.length (L.steps.flatMap (fc stepK)) stepMk ∧ Below w.heap.size w w' := by
  obtain ⟨Ae, ce, Ad, cd, As, cs, Ag, cg, rfl, rfl, rfl, rfl⟩ := hw.sl
  obtain ⟨ne, hne⟩ : ∃ n, n = L.es.length := ⟨_, rfl⟩
  obtain ⟨nd, hnd⟩ : ∃ n, n = L.data.length := ⟨_, rfl⟩
  obtain ⟨ns, hns⟩ : ∃ n, n = L.steps.length := ⟨_, rfl⟩
  obtain ⟨ng, hng⟩ : ∃ n, n = L.gots.length := ⟨_, rfl⟩
  have ND := Lib.hid hnd
  have NE := Lib.hid hne
  have NS := Lib.hid hns
  have W0 := Lib.hid hw
  rw [← hne, ← hnd, ← hns, ← hng] at W0 ⊢
  have b2 := below_alloc2_ w (.cells (letC L (.slice Ae ne ce) (.slice Ad nd cd) (.slice As ns cs) (.slice Ag ng cg)) 36) (.cells (letC Lt.zero (.slice none 0 0) (.slice none 0 0) (.slice none 0 0) (.slice none 0 0)) 36)
  have kL := (Blk.new w 36 (letC L (.slice Ae ne ce) (.slice Ad nd cd) (.slice As ns cs) (.slice Ag ng cg))).alloc (.cells (letC Lt.zero (.slice none 0 0) (.slice none 0 0) (.slice none 0 0) (.slice none 0 0)) 36)
  have kR := Blk.new (w.alloc (.cells (letC L (.slice Ae ne ce) (.slice Ad nd cd) (.slice As ns cs) (.slice Ag ng cg)) 36)) 36 (letC Lt.zero (.slice none 0 0) (.slice none 0 0) (.slice none 0 0) (.slice none 0 0))
  rw [World.size_alloc] at kR
  have KL := Lib.hid kL
  have KR := Lib.hid kR
  have B2 := Lib.hid b2
  simp only [letC, Lt.zero] at KL KR B2 ⊢
  have c9 := KL.out.cell 9
  simp only [List.getElem?_toArray, List.getElem?_cons_zero, List.getElem?_cons_succ] at c9
  clear b2 kL kR hw hne hnd hns hng
  go_enter Tryz.func7, Tryz.ntmps7
  go_upto_region 1 with fail
  go_cut [] (fun wx => ∃ A1 c1, ((∃ gd : Nat, A1 = some ⟨gd, 0, none⟩) ∧ c1 = nd + 2) ∧ Blk wx w.heap.size 36 (letC L (.slice Ae ne ce) (.slice A1 nd c1) (.slice As ns cs) (.slice Ag ng cg)) ∧ Blk wx (w.heap.size + 1) 36 (letC Lt.zero (.slice none 0 0) (.slice none 0 0) (.slice none 0 0) (.slice none 0 0)) ∧ Tw (w.heap.size + 2) wx 5 1 (.slice A1 nd c1) nd (bc L.data) [.int .u8 195, .int .u8 195] ∧ Below w.heap.size w wx)
  case first =>
    have DD := Lib.hid (W0.out.data.below B2.out)
    have d6 := W0.out.d6
    go_wp2_with fail
    refine (Twin_bytec _ L.data _ DD.out d6).mono ?_
    rintro e w2 ⟨g1, rfl, hT, hB⟩
    have kl := KL.out.below hB KL.out.lt
    have kr := KR.out.below hB KR.out.lt
    have fl := kl.free
    have c9' := kl.cell 9
    simp only [List.getElem?_toArray, List.getElem?_cons_zero, List.getElem?_cons_succ] at c9'
    rw [← ND.out] at hT ⊢
    obtain ⟨A1, hA1⟩ : ∃ A : Option Addr, A = some ⟨g1, 0, none⟩ := ⟨_, rfl⟩
    obtain ⟨c1, hc1⟩ : ∃ c, c = nd + 2 := ⟨_, rfl⟩
    rw [← hA1, ← hc1] at hT
    have hc1' : (nd : Int) + 2 = (c1 : Int) := by omega
    try simp only [← hA1, ← hc1]
    have HA1 := Lib.hid (show (∃ gd : Nat, A1 = some ⟨gd, 0, none⟩) ∧ c1 = nd + 2 from ⟨⟨_, hA1⟩, hc1⟩)
    clear hc1' hA1 hc1
    have FIN := Lib.hid (show ∃ A1' c1', ((∃ gd : Nat, A1' = some ⟨gd, 0, none⟩) ∧ c1' = nd + 2) ∧ Blk (w2.setCell ⟨w.heap.size, 9, none⟩ (.slice A1 nd c1)) w.heap.size 36 (letC L (.slice Ae ne ce) (.slice A1' nd c1') (.slice As ns cs) (.slice Ag ng cg)) ∧ Blk (w2.setCell ⟨w.heap.size, 9, none⟩ (.slice A1 nd c1)) (w.heap.size + 1) 36 (letC Lt.zero (.slice none 0 0) (.slice none 0 0) (.slice none 0 0) (.slice none 0 0)) ∧ Tw (w.heap.size + 2) (w2.setCell ⟨w.heap.size, 9, none⟩ (.slice A1 nd c1)) 5 1 (.slice A1' nd c1') nd (bc L.data) [.int .u8 195, .int .u8 195] ∧ Below w.heap.size w (w2.setCell ⟨w.heap.size, 9, none⟩ (.slice A1 nd c1)) from by
      refine ⟨A1, c1, HA1.out, ?_, kr.far (p := ⟨w.heap.size, 9, none⟩) (by simp) _, ?_, (B2.out.trans (hB.mono B2.out.size)).setCell (Nat.le_refl _) _⟩
      · have := kl.set_ 9 (.slice A1 nd c1)
        simpa [letC] using this
      · exact (hT.le_ (B' := w.heap.size + 2) (by simp)).aside kl (by decide) 9 _)
    clear kl kr hT hB c9
    go_wp2
    go_meet
    exact FIN.out
  case rest =>
  obtain ⟨A1, c1, ha1, kl, kr, t1, b1⟩ := hcut
  have HA1 := Lib.hid ha1
  have KL1 := Lib.hid kl
  have KR1 := Lib.hid kr
  have T1 := Lib.hid t1
  have B1 := Lib.hid b1
  have c10 := kl.cell 10
  have c11 := kl.cell 11
  have c12 := kl.cell 12
  simp only [letC, List.getElem?_toArray, List.getElem?_cons_zero, List.getElem?_cons_succ] at c10 c11 c12
  clear kl kr t1 b1 c9 KL KR B2 ha1
  go_upto_region 2 with fail
  go_cut [] (fun wx => ∃ A2 c2, Blk wx w.heap.size 36 (letC L (.slice Ae ne ce) (.slice A1 nd c1) (.slice A2 ns c2) (.slice Ag ng cg)) ∧ Blk wx (w.heap.size + 1) 36 (letC Lt.zero (.slice none 0 0) (.slice none 0 0) (.slice none 0 0) (.slice none 0 0)) ∧ Tw (w.heap.size + 2) wx 5 1 (.slice A1 nd c1) nd (bc L.data) [.int .u8 195, .int .u8 195] ∧ Tw (w.heap.size + 2) wx 104 10 (.slice A2 ns c2) ns (L.steps.flatMap (fc stepK)) stepMk ∧ Below w.heap.size w wx)
  case first =>
    have DD := Lib.hid (show Steps wc (.slice As ns cs) L.steps from Rd.below W0.out.steps B1.out)
    have d6 := W0.out.t6
    have hr2 : w.heap.size + 2 ≤ wc.heap.size := by have := KR1.out.lt; omega
    go_wp2_with fail
    refine (Twin_call L.cl L.num _ L.steps _ DD.out d6).mono ?_
    rintro e w2 ⟨A2, c2, rfl, hT, hB⟩
    have kl := KL1.out.below hB KL1.out.lt
    have kr := KR1.out.below hB KR1.out.lt
    have fl := kl.free
    have d10 := kl.cell 10
    have d11 := kl.cell 11
    have d12 := kl.cell 12
    simp only [letC, List.getElem?_toArray, List.getElem?_cons_zero, List.getElem?_cons_succ] at d10 d11 d12
    rw [← NS.out] at hT ⊢
    have FIN := Lib.hid (show ∃ A2' c2', Blk (((w2.setCell ⟨w.heap.size, 10, none⟩ (.int .u8 L.cl)).setCell ⟨w.heap.size, 11, none⟩ (.int .u64 L.num)).setCell ⟨w.heap.size, 12, none⟩ (.slice A2 ns c2)) w.heap.size 36 (letC L (.slice Ae ne ce) (.slice A1 nd c1) (.slice A2' ns c2') (.slice Ag ng cg)) ∧ Blk (((w2.setCell ⟨w.heap.size, 10, none⟩ (.int .u8 L.cl)).setCell ⟨w.heap.size, 11, none⟩ (.int .u64 L.num)).setCell ⟨w.heap.size, 12, none⟩ (.slice A2 ns c2)) (w.heap.size + 1) 36 (letC Lt.zero (.slice none 0 0) (.slice none 0 0) (.slice none 0 0) (.slice none 0 0)) ∧ Tw (w.heap.size + 2) (((w2.setCell ⟨w.heap.size, 10, none⟩ (.int .u8 L.cl)).setCell ⟨w.heap.size, 11, none⟩ (.int .u64 L.num)).setCell ⟨w.heap.size, 12, none⟩ (.slice A2 ns c2)) 5 1 (.slice A1 nd c1) nd (bc L.data) [.int .u8 195, .int .u8 195] ∧ Tw (w.heap.size + 2) (((w2.setCell ⟨w.heap.size, 10, none⟩ (.int .u8 L.cl)).setCell ⟨w.heap.size, 11, none⟩ (.int .u64 L.num)).setCell ⟨w.heap.size, 12, none⟩ (.slice A2 ns c2)) 104 10 (.slice A2' ns c2') ns (L.steps.flatMap (fc stepK)) stepMk ∧ Below w.heap.size w (((w2.setCell ⟨w.heap.size, 10, none⟩ (.int .u8 L.cl)).setCell ⟨w.heap.size, 11, none⟩ (.int .u64 L.num)).setCell ⟨w.heap.size, 12, none⟩ (.slice A2 ns c2)) from by
      have s1 := kl.set_ 10 (.int .u8 L.cl)
      have s2 := s1.set_ 11 (.int .u64 L.num)
      have s3 := s2.set_ 12 (.slice A2 ns c2)
      refine ⟨A2, c2, by simpa [letC] using s3, ((kr.far (p := ⟨w.heap.size, 10, none⟩) (by simp) _).far (p := ⟨w.heap.size, 11, none⟩) (by simp) _).far (p := ⟨w.heap.size, 12, none⟩) (by simp) _, ?_, ?_, ?_⟩
      · exact (((T1.out.below_ hB).aside kl (by decide) 10 _).aside s1 (by decide) 11 _).aside s2 (by decide) 12 _
      · exact (((hT.le_ (B' := w.heap.size + 2) hr2).aside kl (by decide) 10 _).aside s1 (by decide) 11 _).aside s2 (by decide) 12 _
      · exact (((B1.out.trans (hB.mono B1.out.size)).setCell (p := ⟨w.heap.size, 10, none⟩) (Nat.le_refl _) _).setCell (p := ⟨w.heap.size, 11, none⟩) (Nat.le_refl _) _).setCell (p := ⟨w.heap.size, 12, none⟩) (Nat.le_refl _) _)
    clear kl kr hT hB c10 c11 c12 hr2
    go_wp2
    go_meet
    exact FIN.out
  case rest =>
  obtain ⟨A2, c2, kl, kr, t1, t2, b2⟩ := hcut
  have KL2 := Lib.hid kl
  have KR2 := Lib.hid kr
  have U1 := Lib.hid t1
  have U2 := Lib.hid t2
  have B2 := Lib.hid b2
  have he6 := W0.out.e6
  rw [← NE.out] at he6
  clear kl kr t1 t2 b2 KL1 KR1 T1 B1 c10 c11 c12
  go_wp2_with fail
  go_loopg [3, 4, 5] ne (fun g c3 c4 c5 wr => ∃ j : Nat, j ≤ ne ∧ g = ne - j ∧ c4 = .int .i64 j ∧ (∃ m p, c3 = .slice m j p) ∧ TwE (w.heap.size + 2) wr c3 (L.es.take j) ∧ Blk wr w.heap.size 36 (letC L (.slice Ae ne ce) (.slice A1 nd c1) (.slice A2 ns c2) (.slice Ag ng cg)) ∧ Blk wr (w.heap.size + 1) 36 (letC Lt.zero (.slice none 0 0) (.slice none 0 0) (.slice none 0 0) (.slice none 0 0)) ∧ Tw (w.heap.size + 2) wr 5 1 (.slice A1 nd c1) nd (bc L.data) [.int .u8 195, .int .u8 195] ∧ Tw (w.heap.size + 2) wr 104 10 (.slice A2 ns c2) ns (L.steps.flatMap (fc stepK)) stepMk ∧ Below w.heap.size w wr)
  case atStart => exact ⟨0, Nat.zero_le _, by omega, rfl, ⟨_, _, rfl⟩, ⟨[], rfl, .inl ⟨rfl, rfl, rfl⟩, fun j h => by simp at h⟩, KL2.out, KR2.out, U1.out, U2.out, B2.out⟩
  case round =>
    obtain ⟨j, hj, hg, rfl, ⟨A3, p3, rfl⟩, he, kl, kr, t1, t2, bw⟩ := hrel
    have G := Lib.hid hg
    have E3 := Lib.hid he
    have KL3 := Lib.hid kl
    have KR3 := Lib.hid kr
    have V1 := Lib.hid t1
    have V2 := Lib.hid t2
    have BW := Lib.hid bw
    have c8 := kl.cell 8
    simp only [letC, List.getElem?_toArray, List.getElem?_cons_zero, List.getElem?_cons_succ] at c8
    clear hg he kl kr t1 t2 bw KL2 KR2 U1 U2 B2
    by_cases hjn : j < ne
    · have hjn' : (j : Int) < ne := by omega
      have hjl : j < L.es.length := by rw [← NE.out]; exact hjn
      have hwj : IntKind.i64.wrap ((j : Int) + 1) = (j : Int) + 1 := IntWalk.i64_in _ (by omega)
      have hj0 : (0 : Int) ≤ j := by omega
      have WE := W0.out.es.below BW.out
      obtain ⟨ge, oe, ce', hv, -, hge, hcell⟩ := WE.at_ (by omega)
      injection hv with hv1 hv2 hv3
      subst hv1
      clear hv2 hv3
      obtain ⟨s, hs, hh⟩ := hcell j hjl
      have hf := (W0.out.ok.es _ (List.getElem_mem hjl)).1
      have hl6 := W0.out.s6 _ (List.getElem_mem hjl)
      obtain ⟨e, he⟩ : ∃ e, e = L.es[j] := ⟨_, rfl⟩
      have hT : L.es.take (j + 1) = L.es.take j ++ [L.es[j]] := List.take_succ_eq_append_getElem hjl
      rw [← he] at hs hh hf hl6 hT
      obtain ⟨ef, rows⟩ := e
      obtain ⟨x0, x1, x2, x3, rfl, -, -, -, -⟩ := entry_fok hf
      simp only at hs hl6
      have HT := Lib.hid hT
      have c0 : wr.cell? ⟨ge, oe + j * 5, none⟩ = some (.int .u64 x0) := by have := hh 0 (.int .u64 x0) (by omega) rfl; simpa using this
      have c1 : wr.cell? ⟨ge, oe + j * 5 + 1, none⟩ = some (.int .u64 x1) := hh 1 (.int .u64 x1) (by omega) rfl
      have c2 : wr.cell? ⟨ge, oe + j * 5 + 2, none⟩ = some (.int .u8 x2) := hh 2 (.int .u8 x2) (by omega) rfl
      have c3 : wr.cell? ⟨ge, oe + j * 5 + 3, none⟩ = some (.int .u64 x3) := hh 3 (.int .u64 x3) (by omega) rfl
      have c4 : wr.cell? ⟨ge, oe + j * 5 + 4, none⟩ = some s := hh 4 s (by omega) rfl
      obtain ⟨As', cs', rfl, -⟩ := id hs
      obtain ⟨nr, hnr⟩ : ∃ n, n = rows.length := ⟨_, rfl⟩
      have NR := Lib.hid hnr
      rw [← hnr] at hl6
      have ba := below_alloc_ wr (.cells #[.int .u64 x0, .int .u64 x1, .int .u8 x2, .int .u64 x3, .slice As' nr cs'] 63)
      have KB := Lib.hid (Blk.new wr 63 #[.int .u64 x0, .int .u64 x1, .int .u8 x2, .int .u64 x3, .slice As' nr cs'])
      have ST := Lib.hid (show Steps (wr.alloc (.cells #[.int .u64 x0, .int .u64 x1, .int .u8 x2, .int .u64 x3, .slice As' nr cs'] 63)) (.slice As' nr cs') rows from by rw [hnr] at ba ⊢; exact Rd.below hs ba)
      have BA := Lib.hid ba
      simp only [← hnr] at c4 ⊢
      clear WE hcell hh hs hf he hT hnr ba
      go_upto_region 8 with fail
      go_cut [3, 4, 5] (fun s3 s4 s5 wx => s3 = .slice A3 j p3 ∧ s4 = .int .i64 j ∧ s5 = .pointer (some ⟨wr.heap.size, 0, none⟩) ∧ ∃ A6 c6, Blk wx wr.heap.size 63 #[.int .u64 x0, .int .u64 x1, .int .u8 x2, .int .u64 x3, .slice A6 nr c6] ∧ Tw (w.heap.size + 2) wx 104 10 (.slice A6 nr c6) nr (rows.flatMap (fc stepK)) stepMk ∧ Below wr.heap.size wr wx)
      case first =>
        as_aux_lemma =>
          have k2 := KB.out.cell 2
          have k3 := KB.out.cell 3
          have k4 := KB.out.cell 4
          simp only [List.getElem?_toArray, List.getElem?_cons_zero, List.getElem?_cons_succ] at k2 k3 k4
          have CC := Lib.hid (Twin_call x2 x3 (.slice As' nr cs') rows _ ST.out (by rw [← NR.out]; exact hl6))
          clear c0 c1 c2 c3 c4 c8
          go_wp2_with fail
          refine CC.out.mono ?_
          rintro e w6 ⟨A6, c6, rfl, hT, hB⟩
          rw [← NR.out] at hT ⊢
          have kb := KB.out.below hB KB.out.lt
          have fl := kb.free
          have d2 := kb.cell 2
          have d3 := kb.cell 3
          have d4 := kb.cell 4
          simp only [List.getElem?_toArray, List.getElem?_cons_zero, List.getElem?_cons_succ] at d2 d3 d4
          have s1 := kb.set_ 2 (.int .u8 x2)
          have s2 := s1.set_ 3 (.int .u64 x3)
          have s3 := s2.set_ 4 (.slice A6 nr c6)
          have hr2 : w.heap.size + 2 ≤ (wr.alloc (.cells #[.int .u64 x0, .int .u64 x1, .int .u8 x2, .int .u64 x3, .slice As' nr cs'] 63)).heap.size := by have := KR3.out.lt; simp; omega
          have FIN := Lib.hid (show Blk (((w6.setCell ⟨wr.heap.size, 2, none⟩ (.int .u8 x2)).setCell ⟨wr.heap.size, 3, none⟩ (.int .u64 x3)).setCell ⟨wr.heap.size, 4, none⟩ (.slice A6 nr c6)) wr.heap.size 63 #[.int .u64 x0, .int .u64 x1, .int .u8 x2, .int .u64 x3, .slice A6 nr c6] ∧ Tw (w.heap.size + 2) (((w6.setCell ⟨wr.heap.size, 2, none⟩ (.int .u8 x2)).setCell ⟨wr.heap.size, 3, none⟩ (.int .u64 x3)).setCell ⟨wr.heap.size, 4, none⟩ (.slice A6 nr c6)) 104 10 (.slice A6 nr c6) nr (rows.flatMap (fc stepK)) stepMk ∧ Below wr.heap.size wr (((w6.setCell ⟨wr.heap.size, 2, none⟩ (.int .u8 x2)).setCell ⟨wr.heap.size, 3, none⟩ (.int .u64 x3)).setCell ⟨wr.heap.size, 4, none⟩ (.slice A6 nr c6)) from
            ⟨by simpa using s3, ((((hT.le_ hr2).aside kb (by decide) 2 _).aside s1 (by decide) 3 _).aside s2 (by decide) 4 _), (((BA.out.trans (hB.mono BA.out.size)).setCell (p := ⟨wr.heap.size, 2, none⟩) (Nat.le_refl _) _).setCell (p := ⟨wr.heap.size, 3, none⟩) (Nat.le_refl _) _).setCell (p := ⟨wr.heap.size, 4, none⟩) (Nat.le_refl _) _⟩)
          clear kb hT hB s1 s2 s3 hr2 k2 k3 k4
          go_wp2
          go_meet
          exact ⟨rfl, rfl, rfl, _, _, FIN.out⟩
      case rest =>
      clear c0 c1 c2 c3 c4 c8 KB ST BA
      obtain ⟨rfl, rfl, rfl, A6, c6, kb, t6, b6⟩ := hcut
      have d0 := kb.cell 0
      have d1 := kb.cell 1
      have d2 := kb.cell 2
      have d3 := kb.cell 3
      have d4 := kb.cell 4
      simp only [List.getElem?_toArray, List.getElem?_cons_zero, List.getElem?_cons_succ] at d0 d1 d2 d3 d4
      obtain ⟨ss, q1, q2, q3⟩ := E3.out.below b6
      have hlt : (L.es.take j).length = j := by rw [List.length_take]; omega
      rw [hlt] at q1 q2
      have ba := below_alloc_ wc (.cells #[.int .u64 x0, .int .u64 x1, .int .u8 x2, .int .u64 x3, .slice A6 nr c6] 63)
      have QO := Lib.hid (q2.below ba)
      have Q1 := Lib.hid q1
      have Q3 := Lib.hid (fun (i : Nat) (a : i < (L.es.take j).length) (b : i < ss.length) => (q3 i a b).below_ ba)
      have T6 := Lib.hid (t6.below_ ba)
      have bz := b6.trans (ba.mono b6.size)
      have KL4 := Lib.hid (KL3.out.below bz KL3.out.lt)
      have KR4 := Lib.hid (KR3.out.below bz KR3.out.lt)
      have V14 := Lib.hid (V1.out.below_ bz)
      have V24 := Lib.hid (V2.out.below_ bz)
      have BW4 := Lib.hid (BW.out.trans (bz.mono BW.out.size))
      have SZ := Lib.hid (show w.heap.size + 2 ≤ (wc.alloc (.cells #[.int .u64 x0, .int .u64 x1, .int .u8 x2, .int .u64 x3, .slice A6 nr c6] 63)).heap.size from by have := KR4.out.lt; omega)
      have HL := Lib.hid hlt
      clear kb t6 b6 q1 q2 q3 ba bz KL3 KR3 V1 V2 BW E3 hlt
      go_wp2_with (at_builtin; go_must (refine wpList_ow_rows (n := j) (m := 1) rfl _ _ 24 63 _ 5 56 rfl Tryz.underlying24 entry_inf_ rfl (by decide) rfl QO.out SZ.out (Rd.lits wc 63 5 1 [.int .u64 x0, .int .u64 x1, .int .u8 x2, .int .u64 x3, .slice A6 nr c6] rfl) (by simp [Value.oneCell']) rfl (by omega) (by unfold maxLen; omega) ?_); intro v9 w9 ho9 hg9)
      obtain ⟨A9, c9, rfl⟩ := ho9.sl_
      have HO := Lib.hid ho9
      have HG := Lib.hid hg9
      clear ho9 hg9
      go_roundg (ne - (j + 1))
      case measure => have := G.out; omega
      case rel =>
        refine ⟨j + 1, by omega, rfl, by go_num, ⟨_, _, rfl⟩, ?_, KL4.out.grown HG.out.1 (fun he => Ow.notat QO.out KL4.out (by decide) he.symm), KR4.out.grown HG.out.1 (fun he => Ow.notat QO.out KR4.out (by decide) he.symm), V14.out.grew_ QO.out HG.out (by decide), V24.out.grew_ QO.out HG.out (by decide), BW4.out.grown HG.out.1 BW4.out.size (fun k hk => Nat.le_trans (by omega) (QO.out.blk_lt k hk))⟩
        rw [HT.out]
        refine TwE.snoc (ss := ss) (s := .slice A6 nr c6) (by rw [HL.out]; exact Q1.out) (by rw [HL.out]; exact QO.out) Q3.out HG.out (by rw [HL.out]; exact HO.out) ?_
        show Tw _ _ 104 10 _ rows.length _ _
        rw [← NR.out]
        exact T6.out
    · obtain rfl : j = ne := by omega
      have fl := KL3.out.free
      have kl8 := KL3.out.set_ 8 (.slice A3 j p3)
      have kr8 := KR3.out.far (p := ⟨w.heap.size, 8, none⟩) (by simp) (.slice A3 j p3)
      have RG := Lib.hid (Blk.range_ (cs := [.int .u8 L.kind, .int .u8 L.src, .int .u8 L.dst, .int .u64 L.term, .int .u64 L.index, .int .u64 L.mark, .int .u64 L.commit, .bool L.yes, .slice A3 j p3, .slice A1 nd c1, .int .u8 L.cl, .int .u64 L.num, .slice A2 ns c2, .int .i64 L.e, .int .i64 L.re, .int .i64 L.ra, .slice Ag ng cg]) (by simpa [letC] using kl8))
      have TH := Lib.hid (kr8.there_ (n := 17) rfl)
      have KF := Lib.hid (show Blk ((wr.setCell ⟨w.heap.size, 8, none⟩ (.slice A3 j p3)).setCells (w.heap.size + 1) 0 [.int .u8 L.kind, .int .u8 L.src, .int .u8 L.dst, .int .u64 L.term, .int .u64 L.index, .int .u64 L.mark, .int .u64 L.commit, .bool L.yes, .slice A3 j p3, .slice A1 nd c1, .int .u8 L.cl, .int .u64 L.num, .slice A2 ns c2, .int .i64 L.e, .int .i64 L.re, .int .i64 L.ra, .slice Ag ng cg]) (w.heap.size + 1) 36 (letC L (.slice A3 j p3) (.slice A1 nd c1) (.slice A2 ns c2) (.slice Ag ng cg)) from setCells_blk_ [.int .u8 L.kind, .int .u8 L.src, .int .u8 L.dst, .int .u64 L.term, .int .u64 L.index, .int .u64 L.mark, .int .u64 L.commit, .bool L.yes, .slice A3 j p3, .slice A1 nd c1, .int .u8 L.cl, .int .u64 L.num, .slice A2 ns c2, .int .i64 L.e, .int .i64 L.re, .int .i64 L.ra, .slice Ag ng cg] [] [.int .u8 0, .int .u8 0, .int .u8 0, .int .u64 0, .int .u64 0, .int .u64 0, .int .u64 0, .bool false, .slice none 0 0, .slice none 0 0, .int .u8 0, .int .u64 0, .slice none 0 0, .int .i64 0, .int .i64 0, .int .i64 0, .slice none 0 0] _ rfl kr8)
      have BF := Lib.hid (show Below w.heap.size w ((wr.setCell ⟨w.heap.size, 8, none⟩ (.slice A3 j p3)).setCells (w.heap.size + 1) 0 [.int .u8 L.kind, .int .u8 L.src, .int .u8 L.dst, .int .u64 L.term, .int .u64 L.index, .int .u64 L.mark, .int .u64 L.commit, .bool L.yes, .slice A3 j p3, .slice A1 nd c1, .int .u8 L.cl, .int .u64 L.num, .slice A2 ns c2, .int .i64 L.e, .int .i64 L.re, .int .i64 L.ra, .slice Ag ng cg]) from setCells_below_ (Nat.le_succ _) _ _ _ (BW.out.setCell (p := ⟨w.heap.size, 8, none⟩) (Nat.le_refl _) _))
      have EF := Lib.hid (show TwE (w.heap.size + 2) ((wr.setCell ⟨w.heap.size, 8, none⟩ (.slice A3 j p3)).setCells (w.heap.size + 1) 0 [.int .u8 L.kind, .int .u8 L.src, .int .u8 L.dst, .int .u64 L.term, .int .u64 L.index, .int .u64 L.mark, .int .u64 L.commit, .bool L.yes, .slice A3 j p3, .slice A1 nd c1, .int .u8 L.cl, .int .u64 L.num, .slice A2 ns c2, .int .i64 L.e, .int .i64 L.re, .int .i64 L.ra, .slice Ag ng cg]) _ (L.es.take j) from TwE.setCells_ (by decide) (by decide) [.int .u8 L.kind, .int .u8 L.src, .int .u8 L.dst, .int .u64 L.term, .int .u64 L.index, .int .u64 L.mark, .int .u64 L.commit, .bool L.yes, .slice A3 j p3, .slice A1 nd c1, .int .u8 L.cl, .int .u64 L.num, .slice A2 ns c2, .int .i64 L.e, .int .i64 L.re, .int .i64 L.ra, .slice Ag ng cg] 0 kr8 (TwE.setCells_ (by decide) (by decide) [.slice A3 j p3] 8 KL3.out E3.out))
      have DF := Lib.hid (show Tw (w.heap.size + 2) ((wr.setCell ⟨w.heap.size, 8, none⟩ (.slice A3 j p3)).setCells (w.heap.size + 1) 0 [.int .u8 L.kind, .int .u8 L.src, .int .u8 L.dst, .int .u64 L.term, .int .u64 L.index, .int .u64 L.mark, .int .u64 L.commit, .bool L.yes, .slice A3 j p3, .slice A1 nd c1, .int .u8 L.cl, .int .u64 L.num, .slice A2 ns c2, .int .i64 L.e, .int .i64 L.re, .int .i64 L.ra, .slice Ag ng cg]) 5 1 (.slice A1 nd c1) nd (bc L.data) [.int .u8 195, .int .u8 195] from Tw.setCells_ (by decide) [.int .u8 L.kind, .int .u8 L.src, .int .u8 L.dst, .int .u64 L.term, .int .u64 L.index, .int .u64 L.mark, .int .u64 L.commit, .bool L.yes, .slice A3 j p3, .slice A1 nd c1, .int .u8 L.cl, .int .u64 L.num, .slice A2 ns c2, .int .i64 L.e, .int .i64 L.re, .int .i64 L.ra, .slice Ag ng cg] 0 kr8 (Tw.setCells_ (by decide) [.slice A3 j p3] 8 KL3.out V1.out))
      have SF := Lib.hid (show Tw (w.heap.size + 2) ((wr.setCell ⟨w.heap.size, 8, none⟩ (.slice A3 j p3)).setCells (w.heap.size + 1) 0 [.int .u8 L.kind, .int .u8 L.src, .int .u8 L.dst, .int .u64 L.term, .int .u64 L.index, .int .u64 L.mark, .int .u64 L.commit, .bool L.yes, .slice A3 j p3, .slice A1 nd c1, .int .u8 L.cl, .int .u64 L.num, .slice A2 ns c2, .int .i64 L.e, .int .i64 L.re, .int .i64 L.ra, .slice Ag ng cg]) 104 10 (.slice A2 ns c2) ns (L.steps.flatMap (fc stepK)) stepMk from Tw.setCells_ (by decide) [.int .u8 L.kind, .int .u8 L.src, .int .u8 L.dst, .int .u64 L.term, .int .u64 L.index, .int .u64 L.mark, .int .u64 L.commit, .bool L.yes, .slice A3 j p3, .slice A1 nd c1, .int .u8 L.cl, .int .u64 L.num, .slice A2 ns c2, .int .i64 L.e, .int .i64 L.re, .int .i64 L.ra, .slice Ag ng cg] 0 kr8 (Tw.setCells_ (by decide) [.slice A3 j p3] 8 KL3.out V2.out))
      clear kl8 kr8
      go_upto_region 11 with fail
      refine wp_region_lit ?_
      refine wpList_load_mid rfl 36 _ rfl w.heap.size 0 rfl [.int .u8 L.kind, .int .u8 L.src, .int .u8 L.dst, .int .u64 L.term, .int .u64 L.index, .int .u64 L.mark, .int .u64 L.commit, .bool L.yes, .slice A3 j p3, .slice A1 nd c1, .int .u8 L.cl, .int .u64 L.num, .slice A2 ns c2, .int .i64 L.e, .int .i64 L.re, .int .i64 L.ra, .slice Ag ng cg] _ RG.out Tryz.underlying36 rfl let_size_ ?_
      go_wp2_with (refine wpList_store_mid rfl 36 _ _ rfl (w.heap.size + 1) 0 #[.int .u8 L.kind, .int .u8 L.src, .int .u8 L.dst, .int .u64 L.term, .int .u64 L.index, .int .u64 L.mark, .int .u64 L.commit, .bool L.yes, .slice A3 j p3, .slice A1 nd c1, .int .u8 L.cl, .int .u64 L.num, .slice A2 ns c2, .int .i64 L.e, .int .i64 L.re, .int .i64 L.ra, .slice Ag ng cg] rfl rfl TH.out let_size_ (by simp [Value.oneCell']) ?_)
      have kf := KF.out
      generalize World.setCells _ (w.heap.size + 1) 0 _ = wf at *
      have f0 := kf.cell 0
      have f1 := kf.cell 1
      have f2 := kf.cell 2
      have f3 := kf.cell 3
      have f4 := kf.cell 4
      have f5 := kf.cell 5
      have f6 := kf.cell 6
      have f7 := kf.cell 7
      have f8 := kf.cell 8
      have f9 := kf.cell 9
      have f10 := kf.cell 10
      have f11 := kf.cell 11
      have f12 := kf.cell 12
      have f13 := kf.cell 13
      have f14 := kf.cell 14
      have f15 := kf.cell 15
      have f16 := kf.cell 16
      simp only [letC, List.getElem?_toArray, List.getElem?_cons_zero, List.getElem?_cons_succ] at f0 f1 f2 f3 f4 f5 f6 f7 f8 f9 f10 f11 f12 f13 f14 f15 f16
      refine bodyPost_ret (v := .agg (letC L (.slice A3 j p3) (.slice A1 nd c1) (.slice A2 ns c2) (.slice Ag ng cg))) (by simp [results, Tryz.results7, go_sem, letC, f0, f1, f2, f3, f4, f5, f6, f7, f8, f9, f10, f11, f12, f13, f14, f15, f16]) rfl ?_
      refine ⟨_, _, _, rfl, ?_, ?_, ?_, ?_, BF.out⟩
      · obtain ⟨⟨gd, h1⟩, h2⟩ := HA1.out
        exact ⟨gd, by rw [h1, h2, ND.out]⟩
      · have := EF.out.le_ (show w.heap.size ≤ w.heap.size + 2 by omega)
        have e1 : L.es.take j = L.es := by rw [NE.out, List.take_length]
        rw [e1] at this
        exact this
      · exact DF.out.le_ (by omega)
      · exact SF.out.le_ (by omega)
end Go.Proofs.YthjdkjinkmdclaaGreat

/- law23: whether a twin of a letter was left as it was. -/
namespace Go.Proofs.YthjdkjinkmdclaaGreat
open Go.RowKit

theorem TwE.at_ {B : Nat} {w : World} {v : Value} {es : List Ent} (h : TwE B w v es) (h0 : 0 < es.length) :
    ∃ g o c, v = .slice (some ⟨g, o, none⟩) es.length c ∧ es.length ≤ c ∧ g < w.heap.size ∧ ∀ (j : Nat) (hj : j < es.length), ∃ s, Tw B w 104 10 s es[j].2.length (es[j].2.flatMap (fc stepK)) stepMk ∧ ∀ i u, i < 5 → (ecells (es[j], s))[i]? = some u → w.cell? ⟨g, o + j * 5 + i, none⟩ = some u := by
  obtain ⟨ss, h1, h2', h3⟩ := h
  have h2 := h2'.rd
  have hz : (es.zip ss).length = es.length := by rw [List.length_zip]; omega
  rw [← hz] at h2
  obtain ⟨g, o, c, rfl, hc, hg, hh⟩ := Rd.at_ ecells_len h2 (by omega)
  rw [hz] at hc ⊢
  refine ⟨g, o, c, rfl, hc, hg, fun j hj => ⟨ss[j]'(by omega), h3 j hj (by omega), fun i u hi hu => hh j (by omega) i u hi ?_⟩⟩
  rw [List.getElem_zip]; exact hu
theorem TwE.sl_ {B : Nat} {w : World} {v : Value} {es : List Ent} (h : TwE B w v es) : ∃ A c, v = .slice A es.length c := by
  obtain ⟨ss, h1, h2, h3⟩ := h
  exact h2.sl_
theorem Tw.sl_ {B size n : Nat} {e : TypeId} {w : World} {v : Value} {xs ms : List Value} (h : Tw B w e size v n xs ms) : ∃ A c, v = .slice A n c := by
  obtain ⟨A, c, hv, -⟩ := h
  exact ⟨A, c, hv⟩
set_option maxHeartbeats 2000000 in
set_option maxRecDepth 100000 in
theorem Left_let {B : Nat} {w : World} {L : Lt} {ve vd vs vg ve' vd' vs' : Value} (hw : Lw w L ve vd vs vg) (he : TwE B w ve' L.es)
    (hd : Tw B w 5 1 vd' L.data.length (bc L.data) [.int .u8 195, .int .u8 195]) (hs : Tw B w 104 10 vs' L.steps.length (L.steps.flatMap (fc stepK)) stepMk) :
    Calls Tryz.prog 12 #[.agg (letC L ve' vd' vs' vg), .agg (letC L ve vd vs vg)] w fun e w' => e = .returned (.bool true) ∧ Below w.heap.size w w' := by
  obtain ⟨Ae, ce, Ad, cd, As, cs, Ag, cg, rfl, rfl, rfl, rfl⟩ := hw.sl
  obtain ⟨Ae', ce', rfl⟩ := he.sl_
  obtain ⟨Ad', cd', rfl⟩ := hd.sl_
  obtain ⟨As', cs', rfl⟩ := hs.sl_
  obtain ⟨ne, hne⟩ : ∃ n, n = L.es.length := ⟨_, rfl⟩
  obtain ⟨nd, hnd⟩ : ∃ n, n = L.data.length := ⟨_, rfl⟩
  obtain ⟨ns, hns⟩ : ∃ n, n = L.steps.length := ⟨_, rfl⟩
  obtain ⟨ng, hng⟩ : ∃ n, n = L.gots.length := ⟨_, rfl⟩
  have ND := Lib.hid hnd
  have NE := Lib.hid hne
  have NS := Lib.hid hns
  have E6 := hw.e6
  rw [← hne] at E6
  rw [← hne, ← hnd, ← hns, ← hng] at hw ⊢
  rw [← hne] at he
  rw [← hnd] at hd
  rw [← hns] at hs
  have W0 := Lib.hid hw
  have b2 := below_alloc2_ w (.cells (letC L (.slice Ae' ne ce') (.slice Ad' nd cd') (.slice As' ns cs') (.slice Ag ng cg)) 36) (.cells (letC L (.slice Ae ne ce) (.slice Ad nd cd) (.slice As ns cs) (.slice Ag ng cg)) 36)
  have k0 := (Blk.new w 36 (letC L (.slice Ae' ne ce') (.slice Ad' nd cd') (.slice As' ns cs') (.slice Ag ng cg))).alloc (.cells (letC L (.slice Ae ne ce) (.slice Ad nd cd) (.slice As ns cs) (.slice Ag ng cg)) 36)
  have k1 := Blk.new (w.alloc (.cells (letC L (.slice Ae' ne ce') (.slice Ad' nd cd') (.slice As' ns cs') (.slice Ag ng cg)) 36)) 36 (letC L (.slice Ae ne ce) (.slice Ad nd cd) (.slice As ns cs) (.slice Ag ng cg))
  rw [World.size_alloc] at k1
  have K0 := Lib.hid k0
  have K1 := Lib.hid k1
  have B2 := Lib.hid b2
  have W2 := Lib.hid (hw.below b2)
  have E2 := Lib.hid (he.below b2)
  have D2 := Lib.hid (hd.below_ b2)
  have S2 := Lib.hid (hs.below_ b2)
  clear hw he hd hs b2 k0 k1 hne hnd hns hng
  simp only [letC] at K0 K1 B2 W2 E2 D2 S2 ⊢
  go_enter Tryz.func12, Tryz.ntmps12
  go_upto_region 1 with fail
  obtain ⟨w2, hw2⟩ : ∃ w2, w2 = (w.alloc (.cells #[.int .u8 L.kind, .int .u8 L.src, .int .u8 L.dst, .int .u64 L.term, .int .u64 L.index, .int .u64 L.mark, .int .u64 L.commit, .bool L.yes, .slice Ae' ne ce', .slice Ad' nd cd', .int .u8 L.cl, .int .u64 L.num, .slice As' ns cs', .int .i64 L.e, .int .i64 L.re, .int .i64 L.ra, .slice Ag ng cg] 36)).alloc (.cells #[.int .u8 L.kind, .int .u8 L.src, .int .u8 L.dst, .int .u64 L.term, .int .u64 L.index, .int .u64 L.mark, .int .u64 L.commit, .bool L.yes, .slice Ae ne ce, .slice Ad nd cd, .int .u8 L.cl, .int .u64 L.num, .slice As ns cs, .int .i64 L.e, .int .i64 L.re, .int .i64 L.ra, .slice Ag ng cg] 36) := ⟨_, rfl⟩
  rw [← hw2] at K0 K1 B2 W2 E2 D2 S2 ⊢
  clear hw2
  go_cut [28] (fun s28 wx => s28 = .bool false ∧ Below w2.heap.size w2 wx)
  case first =>
    as_aux_lemma =>
      have c9 := K0.out.cell 9
      have c10 := K0.out.cell 10
      have c11 := K0.out.cell 11
      have c12 := K0.out.cell 12
      have c8 := K0.out.cell 8
      have e9 := K1.out.cell 9
      have e10 := K1.out.cell 10
      have e11 := K1.out.cell 11
      have e12 := K1.out.cell 12
      have e8 := K1.out.cell 8
      simp only [List.getElem?_toArray, List.getElem?_cons_zero, List.getElem?_cons_succ] at c8 c9 c10 c11 c12 e8 e9 e10 e11 e12
      have CL := Lib.hid (Left_byte B _ _ L.data w2 (by rw [← ND.out]; exact D2.out) W2.out.data W2.out.d6)
      have CS := Lib.hid (fun u (hu : Below w2.heap.size w2 u) => Left_call B L.cl L.num _ _ L.steps (fun q hq => fok_len _ _ (W2.out.ok.steps q hq)) u (by rw [← NS.out]; exact S2.out.below_ hu) (Rd.below W2.out.steps hu) W2.out.t6)
      go_wp2_with fail
      refine CL.out.mono ?_
      rintro e w3 ⟨rfl, b3⟩
      have B3 := Lib.hid b3
      have k0 := K0.out.below b3 K0.out.lt
      have k1 := K1.out.below b3 K1.out.lt
      have d10 := k0.cell 10
      have d11 := k0.cell 11
      have d12 := k0.cell 12
      have f10 := k1.cell 10
      have f11 := k1.cell 11
      have f12 := k1.cell 12
      simp only [List.getElem?_toArray, List.getElem?_cons_zero, List.getElem?_cons_succ] at d10 d11 d12 f10 f11 f12
      have CC := Lib.hid (CS.out w3 b3)
      have K03 := Lib.hid k0
      have K13 := Lib.hid k1
      clear b3 k0 k1 CL c8 c9 c10 c11 c12 e8 e9 e10 e11 e12
      go_wp2_with fail
      refine CC.out.mono ?_
      rintro e w4 ⟨rfl, b4⟩
      have B4 := Lib.hid (B3.out.trans (b4.mono B3.out.size))
      have k0 := K03.out.below b4 K03.out.lt
      have k1 := K13.out.below b4 K13.out.lt
      have d8 := k0.cell 8
      have f8 := k1.cell 8
      simp only [List.getElem?_toArray, List.getElem?_cons_zero, List.getElem?_cons_succ] at d8 f8
      clear b4 k0 k1 d10 d11 d12 f10 f11 f12
      go_wp2
      go_meet
      exact ⟨rfl, B4.out⟩
  case rest =>
  obtain ⟨rfl, b3⟩ := hcut
  have B3 := Lib.hid b3
  clear b3
  go_wp2_with fail
  go_loopg [5] ne (fun g c5 wr => ∃ j : Nat, j ≤ ne ∧ g = ne - j ∧ c5 = .int .i64 j ∧ Below w2.heap.size w2 wr)
  case atStart => exact ⟨0, Nat.zero_le _, by omega, rfl, B3.out⟩
  case round =>
    obtain ⟨j, hj, hg, rfl, bw⟩ := hrel
    have G := Lib.hid hg
    have BW := Lib.hid bw
    have KL := Lib.hid (K0.out.below bw K0.out.lt)
    have KR := Lib.hid (K1.out.below bw K1.out.lt)
    have c8 := KR.out.cell 8
    simp only [List.getElem?_toArray, List.getElem?_cons_zero, List.getElem?_cons_succ] at c8
    clear hg bw
    by_cases hjn : j < ne
    · have hjn' : (j : Int) < ne := by omega
      have hjl : j < L.es.length := by rw [← NE.out]; exact hjn
      have hwj : IntKind.i64.wrap ((j : Int) + 1) = (j : Int) + 1 := IntWalk.i64_in _ (by omega)
      have hj0 : (0 : Int) ≤ j := by omega
      obtain ⟨ge, oe, ce2, hv, -, hge, hcell⟩ := (W2.out.es.below BW.out).at_ (by omega)
      injection hv with hv1 hv2 hv3
      subst hv1
      clear hv2 hv3
      obtain ⟨gt, ot, ce3, hv, -, hgt, hcellt⟩ := (E2.out.below BW.out).at_ (by omega)
      injection hv with hv1 hv2 hv3
      subst hv1
      clear hv2 hv3
      obtain ⟨s, hs, hh⟩ := hcell j hjl
      obtain ⟨t, ht, hht⟩ := hcellt j hjl
      have hf := W2.out.ok.es _ (List.getElem_mem hjl)
      have hl6 := W2.out.s6 _ (List.getElem_mem hjl)
      obtain ⟨e, he⟩ : ∃ e, e = L.es[j] := ⟨_, rfl⟩
      rw [← he] at hs hh hf hl6 ht hht
      obtain ⟨ef, rows⟩ := e
      obtain ⟨x0, x1, x2, x3, rfl, -, -, -, -⟩ := entry_fok hf.1
      simp only at hs hl6 ht
      have c2 : wr.cell? ⟨ge, oe + j * 5 + 2, none⟩ = some (.int .u8 x2) := hh 2 (.int .u8 x2) (by omega) rfl
      have c3 : wr.cell? ⟨ge, oe + j * 5 + 3, none⟩ = some (.int .u64 x3) := hh 3 (.int .u64 x3) (by omega) rfl
      have c4 : wr.cell? ⟨ge, oe + j * 5 + 4, none⟩ = some s := hh 4 s (by omega) rfl
      have t2 : wr.cell? ⟨gt, ot + j * 5 + 2, none⟩ = some (.int .u8 x2) := hht 2 (.int .u8 x2) (by omega) rfl
      have t3 : wr.cell? ⟨gt, ot + j * 5 + 3, none⟩ = some (.int .u64 x3) := hht 3 (.int .u64 x3) (by omega) rfl
      have t4 : wr.cell? ⟨gt, ot + j * 5 + 4, none⟩ = some t := hht 4 t (by omega) rfl
      obtain ⟨A1, n1, rfl, -⟩ := id hs
      obtain ⟨A2, n2, rfl, -⟩ := id ht
      have b8 := KL.out.cell 8
      simp only [List.getElem?_toArray, List.getElem?_cons_zero, List.getElem?_cons_succ] at b8
      have CC := Lib.hid (Left_call B x2 x3 _ _ rows (fun q hq => fok_len _ _ (hf.2 q hq)) wr.drew (ht.below_ (Below.refl _ wr).drew) (Rd.below hs (Below.refl _ wr).drew) hl6)
      clear hcell hcellt hh hht hs ht hf he hl6
      go_upto_region 6 with fail
      have S0 := Lib.hid (show (fun w' => w'.cell? ⟨w.heap.size, 8, none⟩ = some (.slice (some ⟨gt, ot, none⟩) ne ce') ∧ w'.cell? ⟨w.heap.size + 1, 8, none⟩ = some (.slice (some ⟨ge, oe, none⟩) ne ce) ∧ w'.cell? ⟨ge, oe + j * 5 + 2, none⟩ = some (.int .u8 x2) ∧ w'.cell? ⟨ge, oe + j * 5 + 3, none⟩ = some (.int .u64 x3) ∧ w'.cell? ⟨ge, oe + j * 5 + 4, none⟩ = some (.slice A1 rows.length n1) ∧ w'.cell? ⟨gt, ot + j * 5 + 2, none⟩ = some (.int .u8 x2) ∧ w'.cell? ⟨gt, ot + j * 5 + 3, none⟩ = some (.int .u64 x3) ∧ w'.cell? ⟨gt, ot + j * 5 + 4, none⟩ = some (.slice A2 rows.length n2)) wr.drew from ⟨b8, c8, c2, c3, c4, t2, t3, t4⟩)
      have SS := Lib.hid (show ∀ X, Below wr.drew.heap.size wr.drew X → (fun w' => w'.cell? ⟨w.heap.size, 8, none⟩ = some (.slice (some ⟨gt, ot, none⟩) ne ce') ∧ w'.cell? ⟨w.heap.size + 1, 8, none⟩ = some (.slice (some ⟨ge, oe, none⟩) ne ce) ∧ w'.cell? ⟨ge, oe + j * 5 + 2, none⟩ = some (.int .u8 x2) ∧ w'.cell? ⟨ge, oe + j * 5 + 3, none⟩ = some (.int .u64 x3) ∧ w'.cell? ⟨ge, oe + j * 5 + 4, none⟩ = some (.slice A1 rows.length n1) ∧ w'.cell? ⟨gt, ot + j * 5 + 2, none⟩ = some (.int .u8 x2) ∧ w'.cell? ⟨gt, ot + j * 5 + 3, none⟩ = some (.int .u64 x3) ∧ w'.cell? ⟨gt, ot + j * 5 + 4, none⟩ = some (.slice A2 rows.length n2)) X from fun X hb => ⟨(hb.cell KL.out.lt).trans b8, (hb.cell KR.out.lt).trans c8, (hb.cell hge).trans c2, (hb.cell hge).trans c3, (hb.cell hge).trans c4, (hb.cell hgt).trans t2, (hb.cell hgt).trans t3, (hb.cell hgt).trans t4⟩)
      clear b8 c8 c2 c3 c4 t2 t3 t4
      simp only at S0 SS
      go_region_held3 (fun w' => w'.cell? ⟨w.heap.size, 8, none⟩ = some (.slice (some ⟨gt, ot, none⟩) ne ce') ∧ w'.cell? ⟨w.heap.size + 1, 8, none⟩ = some (.slice (some ⟨ge, oe, none⟩) ne ce) ∧ w'.cell? ⟨ge, oe + j * 5 + 2, none⟩ = some (.int .u8 x2) ∧ w'.cell? ⟨ge, oe + j * 5 + 3, none⟩ = some (.int .u64 x3) ∧ w'.cell? ⟨ge, oe + j * 5 + 4, none⟩ = some (.slice A1 rows.length n1) ∧ w'.cell? ⟨gt, ot + j * 5 + 2, none⟩ = some (.int .u8 x2) ∧ w'.cell? ⟨gt, ot + j * 5 + 3, none⟩ = some (.int .u64 x3) ∧ w'.cell? ⟨gt, ot + j * 5 + 4, none⟩ = some (.slice A2 rows.length n2)) (first
        | (with_reducible exact S7.out)
        | (with_reducible exact S0.out)
        | fail)
        (first
        | (go_at_call 32; refine CC.out.mono ?_; rintro e u7 ⟨rfl, b7⟩; have B7 := Lib.hid b7; have S7 := Lib.hid (SS.out _ b7); clear b7))
      have BF := Lib.hid (BW.out.trans ((Below.refl _ wr).drew.trans (B7.out) |>.mono BW.out.size))
      go_wp2
      go_roundg (ne - (j + 1))
      case measure => have := G.out; omega
      case rel => exact ⟨j + 1, by omega, rfl, by go_num, BF.out⟩
    · obtain rfl : j = ne := by omega
      go_wp2
      go_ret
      exact ⟨rfl, B2.out.trans (BW.out.mono B2.out.size)⟩
end Go.Proofs.YthjdkjinkmdclaaGreat

/- LettersPut: the walk. -/
namespace Go.Proofs.YthjdkjinkmdclaaGreat
open Go.RowKit

theorem putL_cases (L : Lt) : putL L = ([], 1) ∨ ∃ bs, putL L = (bs, 0) := by
  unfold putL
  split
  · exact .inl rfl
  · split
    · exact .inl rfl
    · exact .inr ⟨_, rfl⟩
theorem putL_len {w : World} {L : Lt} {ve vd vs vg : Value} (hw : Lw w L ve vd vs vg) : (putL L).1.length ≤ 1000000000 := by
  rcases putL_cases L with h | ⟨bs, h⟩
  · rw [h]; simp
  obtain ⟨ps, hps, hb, -⟩ := putL_ok hw.ok h
  have h1 := fm_len (fun q => (putPc L q).1) 80000000 (putPc_len hw) (heads ++ ps)
  have h2 := pcs_len hps
  rw [h, hb]
  simp only [heads, List.length_append, List.length_cons, List.length_nil] at h1 ⊢
  omega
theorem wpList_load_midW {P : Program} {ops : Array Oper} {rest : List Oper} {dst : Option Nat} {ty ty2 : TypeId} {x : Operand} {pos : String} {after : Array Edge} {guard : Option (Nat × Bool)} {a : Act} {w : World} {Q : Exit → Act → World → Prop} (b o : Nat) (cs : List Value) {d : TypeDesc} (hw : Region.wanted { dst := dst, op := .load ty x, type := ty2, pos := pos, after := after, guard := guard } (yielded ops a.tmps) = true)
    (hx : a.eval x = .pointer (some ⟨b, o, none⟩)) (hc : w.rangeAt b o cs)
    (hu : P.underlying ty = some d) (hd : d.isRow = true) (hi : (P.info? ty).map (·.size) = some cs.length)
    (h : wpList P ops Q rest (a.put dst (.agg cs.toArray)) w) : wpList P ops Q ({ dst := dst, op := .load ty x, type := ty2, pos := pos, after := after, guard := guard } :: rest) a w :=
  wpList_step fun K hK => by rw [if_pos hw]; exact wp_load_mid ty x rfl b o hx cs d hc hu hd hi (hK _ _ h)
theorem TwE.ents {B : Nat} {w : World} {v : Value} {es : List Ent} (h : TwE B w v es) : Ents w v es := by
  obtain ⟨ss, h1, h2, h3⟩ := h
  exact ⟨ss, h1, h2.rd, fun j a b => (h3 j a b).rd⟩
/-- A twin's bytes, as a page. -/
theorem Tw.page_ {B g n c : Nat} {w : World} {xs ms : List Value} (h : Tw B w 5 1 (.slice (some ⟨g, 0, none⟩) n c) n xs ms) (hc : c ≤ 4611686018427387904) :
    (∀ m b, (⟨0, some (g, n, c), m, b⟩ : Pg).In w False False) ∧ B ≤ g ∧ g < w.heap.size := by
  obtain ⟨A, c', hv, h1, -, h3⟩ := h
  injection hv with q1 q2 q3
  subst q1; subst q3
  rcases h3 with ⟨hv2, _, _⟩ | ⟨g2, c2, cur, hv2, hB, hg, hcc, hl, hs, ht⟩
  · cases hv2
  injection hv2 with q1 q2 q3
  injection q1 with q1
  injection q1 with q1
  subst q1; subst q3
  exact ⟨fun m b => ⟨cur, hg, by omega, by simpa [kK] using hs, hc, fun h => h.elim, fun h => h.elim⟩, hB, hg.lt⟩
/-- Bytes of one's own, as a page. -/
theorem Bo.page_ {B n : Nat} {A : Option Addr} {w : World} {xs : List Int} (h : Bo B w (.slice A n n) xs) (hx : xs.length ≤ 4611686018427387904) :
    ∃ lie, Value.slice A n n = slOf lie ∧ (∀ m b, (⟨0, lie, m, b⟩ : Pg).In w False False) ∧ ∀ g, bkOf lie = some g → B ≤ g ∧ g < w.heap.size := by
  rcases h with ⟨hv, _, _⟩ | ⟨g, c, cur, hv, hB, hg, hcc, hl, hs, ht⟩
  · exact ⟨none, hv, fun _ _ => trivial, fun _ h => by cases h⟩
  · injection hv with h1 h2 h3
    subst h1
    obtain rfl : n = xs.length := h2
    obtain rfl : c = xs.length := h3.symm
    refine ⟨some (g, xs.length, xs.length), rfl, fun m b => ⟨cur, hg, hcc, by simpa [kK] using hs, by omega, fun h => h.elim, fun h => h.elim⟩, fun k hk => ?_⟩
    obtain rfl : g = k := by simpa [bkOf] using hk
    exact ⟨hB, hg.lt⟩
theorem Pg.In.keep {p : Pg} {w w' : World} {a b : Prop} (h : p.In w a b) (hk : ∀ g t cs, t ≠ 50 → t ≠ 81 → Blk w g t cs → Blk w' g t cs) : p.In w' a b := by
  obtain ⟨kd, lie, m, b0⟩ := p
  match lie, h with
  | none, _ => trivial
  | some (g, n, c), ⟨cur, hb, h1⟩ => exact ⟨cur, hk _ _ _ (fun e => kE_book kd e.symm) (fun e => kE_page kd e.symm) hb, h1⟩
theorem Pg.In.bel {p : Pg} {w w' : World} {a b : Prop} (h : p.In w a b) (hb : Below w.heap.size w w') : p.In w' a b := by
  obtain ⟨kd, lie, m, b0⟩ := p
  match lie, h with
  | none, _ => trivial
  | some (g, n, c), ⟨cur, hk, h1⟩ => exact ⟨cur, hk.below hb hk.lt, h1⟩
theorem Pg.In.keepA {p : Pg} {w : World} {a b : Prop} (h : p.In w a b) (o : Obj) : p.In (w.alloc o) a b := h.keep fun _ _ _ _ _ hk => hk.alloc o
set_option maxHeartbeats 4000000 in
set_option maxRecDepth 100000 in
theorem lput_walk {w : World} {L : Lt} {ve vd vs vg : Value} (h : Lr w L ve vd vs vg) :
    Calls Tryz.prog 3 #[.agg (letC L ve vd vs vg)] w fun e w' => e = .returned (.bool true) ∧ Below w.heap.size w w' := by
  obtain ⟨Ae0, ne0, ce, rfl⟩ : ∃ A n c, ve = .slice A n c := by obtain ⟨ss, h1, ⟨A, c, hv, -⟩, h3⟩ := h.es; exact ⟨A, _, c, hv⟩
  obtain ⟨Ad0, nd0, cd, rfl⟩ : ∃ A n c, vd = .slice A n c := by obtain ⟨A, c, hv, -⟩ := h.data; exact ⟨A, _, c, hv⟩
  obtain ⟨As0, ns0, cs, rfl⟩ : ∃ A n c, vs = .slice A n c := by obtain ⟨A, c, hv, -⟩ := h.steps; exact ⟨A, _, c, hv⟩
  obtain ⟨Ag0, ng0, cg, rfl⟩ : ∃ A n c, vg = .slice A n c := by obtain ⟨A, c, hv, -⟩ := h.gots; exact ⟨A, _, c, hv⟩
  have b0 := below_alloc_ w (.cells (letC L (.slice Ae0 ne0 ce) (.slice Ad0 nd0 cd) (.slice As0 ns0 cs) (.slice Ag0 ng0 cg)) 36)
  have H := Lib.hid (h.below b0)
  have K := Lib.hid (Blk.new w 36 (letC L (.slice Ae0 ne0 ce) (.slice Ad0 nd0 cd) (.slice As0 ns0 cs) (.slice Ag0 ng0 cg)))
  have B0 := Lib.hid b0
  simp only [letC] at H K B0 ⊢
  clear h b0
  go_enter Tryz.func3, Tryz.ntmps3
  go_upto_region 1 with fail
  obtain ⟨w0, hw0⟩ : ∃ w0, w0 = w.alloc (.cells #[.int .u8 L.kind, .int .u8 L.src, .int .u8 L.dst, .int .u64 L.term, .int .u64 L.index, .int .u64 L.mark, .int .u64 L.commit, .bool L.yes, .slice Ae0 ne0 ce, .slice Ad0 nd0 cd, .int .u8 L.cl, .int .u64 L.num, .slice As0 ns0 cs, .int .i64 L.e, .int .i64 L.re, .int .i64 L.ra, .slice Ag0 ng0 cg] 36) := ⟨_, rfl⟩
  rw [← hw0] at H K B0 ⊢
  clear hw0
  have R0 := Lib.hid (Blk.range_ (cs := [.int .u8 L.kind, .int .u8 L.src, .int .u8 L.dst, .int .u64 L.term, .int .u64 L.index, .int .u64 L.mark, .int .u64 L.commit, .bool L.yes, .slice Ae0 ne0 ce, .slice Ad0 nd0 cd, .int .u8 L.cl, .int .u64 L.num, .slice As0 ns0 cs, .int .i64 L.e, .int .i64 L.re, .int .i64 L.ra, .slice Ag0 ng0 cg]) K.out)
  refine wp_region_lit ?_
  refine wpList_load_mid rfl 36 _ rfl w.heap.size 0 rfl [.int .u8 L.kind, .int .u8 L.src, .int .u8 L.dst, .int .u64 L.term, .int .u64 L.index, .int .u64 L.mark, .int .u64 L.commit, .bool L.yes, .slice Ae0 ne0 ce, .slice Ad0 nd0 cd, .int .u8 L.cl, .int .u64 L.num, .slice As0 ns0 cs, .int .i64 L.e, .int .i64 L.re, .int .i64 L.ra, .slice Ag0 ng0 cg] _ R0.out Tryz.underlying36 rfl let_size_ ?_
  go_wp2_with fail
  refine (great_any H.out).mono ?_
  rintro e w1 ⟨ha, hb⟩
  have B1 := Lib.hid (B0.out.trans (hb.mono B0.out.size))
  have H1 := Lib.hid (H.out.below hb)
  have K1 := Lib.hid (K.out.below hb K.out.lt)
  clear hb H K B0 R0
  rcases ha with rfl | ⟨rfl, sm⟩
  · as_aux_lemma =>
      go_wp2_with fail
      refine (llives _).mono ?_
      rintro e w2 ⟨rfl, b2⟩
      have B2 := Lib.hid (B1.out.trans (b2.mono B1.out.size))
      clear b2
      go_wp2
      go_ret
      exact ⟨rfl, B2.out⟩
  have LW := Lib.hid (H1.out.lw sm)
  have EB := Lib.hid (putL_len LW.out)
  clear sm H1
  obtain ⟨eb, ek, hEB⟩ : ∃ a b, putL L = (a, b) := ⟨_, _, rfl⟩
  rw [hEB] at EB
  have PL := Lib.hid hEB
  clear hEB
  go_upto_region 3 with fail
  go_cut [3] (fun s3 wx => ∃ q Ae2 ne2 ce2 gd Ad2 nd2 cd2 As2 ns2 cs2, s3 = .pointer (some ⟨q, 0, none⟩) ∧ (Ad2 = some ⟨gd, 0, none⟩ ∧ nd2 = L.data.length ∧ cd2 = L.data.length + 2) ∧ Blk wx q 36 (letC L (.slice Ae2 ne2 ce2) (.slice Ad2 nd2 cd2) (.slice As2 ns2 cs2) (.slice Ag0 ng0 cg)) ∧ TwE w1.heap.size wx (.slice Ae2 ne2 ce2) L.es ∧ Tw w1.heap.size wx 5 1 (.slice Ad2 nd2 cd2) L.data.length (bc L.data) [.int .u8 195, .int .u8 195] ∧ Tw w1.heap.size wx 104 10 (.slice As2 ns2 cs2) L.steps.length (L.steps.flatMap (fc stepK)) stepMk ∧ Below w1.heap.size w1 wx)
  case first =>
    as_aux_lemma =>
      have R1 := Lib.hid (Blk.range_ (cs := [.int .u8 L.kind, .int .u8 L.src, .int .u8 L.dst, .int .u64 L.term, .int .u64 L.index, .int .u64 L.mark, .int .u64 L.commit, .bool L.yes, .slice Ae0 ne0 ce, .slice Ad0 nd0 cd, .int .u8 L.cl, .int .u64 L.num, .slice As0 ns0 cs, .int .i64 L.e, .int .i64 L.re, .int .i64 L.ra, .slice Ag0 ng0 cg]) K1.out)
      refine wp_region_lit ?_
      refine wpList_load_mid rfl 36 _ rfl w.heap.size 0 rfl [.int .u8 L.kind, .int .u8 L.src, .int .u8 L.dst, .int .u64 L.term, .int .u64 L.index, .int .u64 L.mark, .int .u64 L.commit, .bool L.yes, .slice Ae0 ne0 ce, .slice Ad0 nd0 cd, .int .u8 L.cl, .int .u64 L.num, .slice As0 ns0 cs, .int .i64 L.e, .int .i64 L.re, .int .i64 L.ra, .slice Ag0 ng0 cg] _ R1.out Tryz.underlying36 rfl let_size_ ?_
      go_wp2_with fail
      refine (Twin_let LW.out).mono ?_
      rintro e w2 ⟨ve', vd', vs', rfl, ⟨gd, hgd⟩, hE, hD, hS, hB⟩
      obtain ⟨Ae2, ne2, ce2, rfl⟩ : ∃ A n c, ve' = .slice A n c := by obtain ⟨A, c, hv⟩ := hE.sl_; exact ⟨A, _, c, hv⟩
      obtain ⟨Ad2, nd2, cd2, rfl⟩ : ∃ A n c, vd' = .slice A n c := by obtain ⟨A, c, hv⟩ := hD.sl_; exact ⟨A, _, c, hv⟩
      obtain ⟨As2, ns2, cs2, rfl⟩ : ∃ A n c, vs' = .slice A n c := by obtain ⟨A, c, hv⟩ := hS.sl_; exact ⟨A, _, c, hv⟩
      have GD := Lib.hid (show Ad2 = some ⟨gd, 0, none⟩ ∧ nd2 = L.data.length ∧ cd2 = L.data.length + 2 from by injection hgd with q1 q2 q3; exact ⟨q1, q2, q3⟩)
      have b4 := below_alloc_ w2 (.cells (letC L (.slice Ae2 ne2 ce2) (.slice Ad2 nd2 cd2) (.slice As2 ns2 cs2) (.slice Ag0 ng0 cg)) 36)
      have KT := Lib.hid (Blk.new w2 36 (letC L (.slice Ae2 ne2 ce2) (.slice Ad2 nd2 cd2) (.slice As2 ns2 cs2) (.slice Ag0 ng0 cg)))
      have E4 := Lib.hid (hE.below b4)
      have D4 := Lib.hid (hD.below_ b4)
      have S4 := Lib.hid (hS.below_ b4)
      have B4 := Lib.hid (hB.trans (b4.mono hB.size))
      simp only [letC] at KT E4 D4 S4 B4 ⊢
      clear hE hD hS hB b4 hgd R1
      go_wp2
      go_meet
      exact ⟨_, _, _, _, _, _, _, _, _, _, _, rfl, GD.out, KT.out, E4.out, D4.out, S4.out, B4.out⟩
  case rest =>
  obtain ⟨q, Ae2, ne2, ce2, gd, Ad2, nd2, cd2, As2, ns2, cs2, rfl, gdd, kt, te, td, ts, b2⟩ := hcut
  have GD := Lib.hid gdd
  have KT := Lib.hid kt
  have TE := Lib.hid te
  have TD := Lib.hid td
  have TS := Lib.hid ts
  have B2 := Lib.hid b2
  have LT := Lib.hid (show Lw wc L (.slice Ae2 ne2 ce2) (.slice Ad2 nd2 cd2) (.slice As2 ns2 cs2) (.slice Ag0 ng0 cg) from ⟨te.ents, td.rd, ts.rd, Rd.below LW.out.gots b2, LW.out.ok, LW.out.e6, LW.out.s6, LW.out.d6, LW.out.t6, LW.out.g6⟩)
  clear gdd kt te td ts b2
  go_upto_region 4 with fail
  go_cut [4, 5] (fun s4 s5 wx => ∃ A4 m4, s4 = .slice A4 m4 m4 ∧ s5 = .int .i64 ek ∧ Bo wc.heap.size wx (.slice A4 m4 m4) eb ∧ Below wc.heap.size wc wx)
  case first =>
    as_aux_lemma =>
      have R1 := Lib.hid (Blk.range_ (cs := [.int .u8 L.kind, .int .u8 L.src, .int .u8 L.dst, .int .u64 L.term, .int .u64 L.index, .int .u64 L.mark, .int .u64 L.commit, .bool L.yes, .slice Ae2 ne2 ce2, .slice Ad2 nd2 cd2, .int .u8 L.cl, .int .u64 L.num, .slice As2 ns2 cs2, .int .i64 L.e, .int .i64 L.re, .int .i64 L.ra, .slice Ag0 ng0 cg]) KT.out)
      refine wp_region_lit ?_
      refine wpList_load_mid rfl 36 _ rfl q 0 rfl [.int .u8 L.kind, .int .u8 L.src, .int .u8 L.dst, .int .u64 L.term, .int .u64 L.index, .int .u64 L.mark, .int .u64 L.commit, .bool L.yes, .slice Ae2 ne2 ce2, .slice Ad2 nd2 cd2, .int .u8 L.cl, .int .u64 L.num, .slice As2 ns2 cs2, .int .i64 L.e, .int .i64 L.re, .int .i64 L.ra, .slice Ag0 ng0 cg] _ R1.out Tryz.underlying36 rfl let_size_ ?_
      go_wp2_with fail
      refine (Put_any LT.out).mono ?_
      rintro e w5 ⟨v5, rfl, ho, hb, A5, m5, rfl⟩
      rw [PL.out] at ho ⊢
      have HO := Lib.hid ho
      have HB := Lib.hid hb
      clear ho hb R1
      go_wp2
      go_meet
      exact ⟨_, _, rfl, rfl, HO.out, HB.out⟩
  case rest =>
  obtain ⟨A4, m4, rfl, rfl, o4, b4⟩ := hcut
  have b24 := B2.out.trans (b4.mono B2.out.size)
  have LW2 := Lib.hid (LW.out.below b24)
  have K2 := Lib.hid (K1.out.below b24 K1.out.lt)
  have KT2 := Lib.hid (KT.out.below b4 KT.out.lt)
  have TE2 := Lib.hid (TE.out.below b4)
  have TD2 := Lib.hid (TD.out.below_ b4)
  have TS2 := Lib.hid (TS.out.below_ b4)
  have BW := Lib.hid (B1.out.trans (b24.mono B1.out.size))
  have O4 := Lib.hid o4.bs
  have td := TD.out
  rw [GD.out.1, GD.out.2.1, GD.out.2.2] at td
  have td2 := TD2.out
  rw [GD.out.1, GD.out.2.1, GD.out.2.2] at td2
  have hnd : L.data.length ≤ 1000000 := LW.out.d6
  obtain ⟨-, hg1, hg2⟩ := td.page_ (by omega)
  obtain ⟨pt, -, -⟩ := td2.page_ (by omega)
  have PT := Lib.hid pt
  obtain ⟨lie, hlie, pa, ga⟩ := o4.page_ (by have := EB.out; omega)
  have PA := Lib.hid pa
  have HL := Lib.hid hlie
  have GA := Lib.hid (show ∀ g, bkOf lie = some g → gd < g from fun g hg => by have := (ga g hg).1; omega)
  have GE := Lib.hid (show w.heap.size ≤ gd from Nat.le_trans B1.out.size hg1)
  clear b24 b4 o4 td td2 hg1 hg2 pt hlie pa ga hnd LW K1 KT TE TD TS B2 LT B1
  go_upto_region 5 with fail
  go_cut [6, 7] (fun s6 s7 wx => ∃ A6 n6 c6, s6 = .slice A6 n6 c6 ∧ s7 = .int .i64 ek ∧ Bs wx (.slice A6 n6 c6) eb ∧ Below wc.heap.size wc wx)
  case first =>
    as_aux_lemma =>
      have R1 := Lib.hid (Blk.range_ (cs := [.int .u8 L.kind, .int .u8 L.src, .int .u8 L.dst, .int .u64 L.term, .int .u64 L.index, .int .u64 L.mark, .int .u64 L.commit, .bool L.yes, .slice Ae0 ne0 ce, .slice Ad0 nd0 cd, .int .u8 L.cl, .int .u64 L.num, .slice As0 ns0 cs, .int .i64 L.e, .int .i64 L.re, .int .i64 L.ra, .slice Ag0 ng0 cg]) K2.out)
      refine wp_region_lit ?_
      refine wpList_load_mid rfl 36 _ rfl w.heap.size 0 rfl [.int .u8 L.kind, .int .u8 L.src, .int .u8 L.dst, .int .u64 L.term, .int .u64 L.index, .int .u64 L.mark, .int .u64 L.commit, .bool L.yes, .slice Ae0 ne0 ce, .slice Ad0 nd0 cd, .int .u8 L.cl, .int .u64 L.num, .slice As0 ns0 cs, .int .i64 L.e, .int .i64 L.re, .int .i64 L.ra, .slice Ag0 ng0 cg] _ R1.out Tryz.underlying36 rfl let_size_ ?_
      go_wp2_with fail
      refine (other_any LW2.out).mono ?_
      rintro e w5 ⟨rfl, b5⟩
      have LW5 := Lib.hid (LW2.out.below b5)
      have B5 := Lib.hid b5
      clear b5
      go_wp2_with fail
      refine (rput_any LW5.out).mono ?_
      rintro e w6 ⟨v6, rfl, ho, hb⟩
      rw [PL.out] at ho ⊢
      obtain ⟨A6, n6, c6, rfl⟩ := ho.sl
      have HO := Lib.hid ho.bs
      have HB := Lib.hid (B5.out.trans (hb.mono B5.out.size))
      clear ho hb R1
      go_wp2
      go_meet
      exact ⟨_, _, _, rfl, rfl, HO.out, HB.out⟩
  case rest =>
  obtain ⟨A6, n6, c6, rfl, rfl, o6, b6⟩ := hcut
  have LW3 := Lib.hid (LW2.out.below b6)
  have K3 := Lib.hid (K2.out.below b6 K2.out.lt)
  have KT3 := Lib.hid (KT2.out.below b6 KT2.out.lt)
  have TE3 := Lib.hid (TE2.out.below b6)
  have TD3 := Lib.hid (TD2.out.below_ b6)
  have TS3 := Lib.hid (TS2.out.below_ b6)
  have BW3 := Lib.hid (BW.out.trans (b6.mono BW.out.size))
  have O43 := Lib.hid (O4.out.below b6)
  have PT3 := Lib.hid (fun m b => (PT.out m b).bel b6)
  have PA3 := Lib.hid (fun m b => (PA.out m b).bel b6)
  have O63 := Lib.hid o6
  clear o6 b6 LW2 K2 KT2 TE2 TD2 TS2 BW O4 PT PA
  go_upto_region 6 with fail
  go_cut [39] (fun s39 wx => s39 = .bool false ∧ Below wc.heap.size wc wx)
  case first =>
    as_aux_lemma =>
      have hk1 : (ek != ek) = false := by simp
      go_wp2_with fail
      refine (sameb_any eb eb _ _ _ O43.out O63.out (by have := EB.out; omega)).mono ?_
      rintro e w11 ⟨rfl, m11, hw11⟩
      rw [show decide (eb = eb) = true from decide_eq_true rfl]
      have hb : Below wc.heap.size wc w11 := by rw [hw11]; exact below_drewN_ _ _ _
      have B11 := Lib.hid hb
      have R3 := Lib.hid (Blk.range_ (cs := [.int .u8 L.kind, .int .u8 L.src, .int .u8 L.dst, .int .u64 L.term, .int .u64 L.index, .int .u64 L.mark, .int .u64 L.commit, .bool L.yes, .slice Ae2 ne2 ce2, .slice Ad2 nd2 cd2, .int .u8 L.cl, .int .u64 L.num, .slice As2 ns2 cs2, .int .i64 L.e, .int .i64 L.re, .int .i64 L.ra, .slice Ag0 ng0 cg]) (KT3.out.below hb KT3.out.lt))
      have R1 := Lib.hid (Blk.range_ (cs := [.int .u8 L.kind, .int .u8 L.src, .int .u8 L.dst, .int .u64 L.term, .int .u64 L.index, .int .u64 L.mark, .int .u64 L.commit, .bool L.yes, .slice Ae0 ne0 ce, .slice Ad0 nd0 cd, .int .u8 L.cl, .int .u64 L.num, .slice As0 ns0 cs, .int .i64 L.e, .int .i64 L.re, .int .i64 L.ra, .slice Ag0 ng0 cg]) (K3.out.below hb K3.out.lt))
      have CL := Lib.hid (Left_let (LW3.out.below hb) (TE3.out.below hb) (TD3.out.below_ hb) (TS3.out.below_ hb))
      clear hb hw11
      go_wp2_with (first
        | ((with_reducible show wpList _ _ _ ({ dst := some 35, op := _, type := _, pos := _, after := _, guard := _ } :: _) _ _); go_must (refine wpList_load_midW (x := .tmp 3) q 0 [.int .u8 L.kind, .int .u8 L.src, .int .u8 L.dst, .int .u64 L.term, .int .u64 L.index, .int .u64 L.mark, .int .u64 L.commit, .bool L.yes, .slice Ae2 ne2 ce2, .slice Ad2 nd2 cd2, .int .u8 L.cl, .int .u64 L.num, .slice As2 ns2 cs2, .int .i64 L.e, .int .i64 L.re, .int .i64 L.ra, .slice Ag0 ng0 cg] ?_ ?_ R3.out Tryz.underlying36 ?_ ?_ ?_; go_simp; exact rfl; exact rfl; exact let_size_))
        | ((with_reducible show wpList _ _ _ ({ dst := some 36, op := _, type := _, pos := _, after := _, guard := _ } :: _) _ _); go_must (refine wpList_load_midW (x := .tmp 1) w.heap.size 0 [.int .u8 L.kind, .int .u8 L.src, .int .u8 L.dst, .int .u64 L.term, .int .u64 L.index, .int .u64 L.mark, .int .u64 L.commit, .bool L.yes, .slice Ae0 ne0 ce, .slice Ad0 nd0 cd, .int .u8 L.cl, .int .u64 L.num, .slice As0 ns0 cs, .int .i64 L.e, .int .i64 L.re, .int .i64 L.ra, .slice Ag0 ng0 cg] ?_ ?_ R1.out Tryz.underlying36 ?_ ?_ ?_; go_simp; exact rfl; exact rfl; exact let_size_)))
      refine CL.out.mono ?_
      rintro e w12 ⟨rfl, b12⟩
      have B12 := Lib.hid (B11.out.trans (b12.mono B11.out.size))
      clear b12 R1 R3
      go_wp2
      go_meet
      exact ⟨rfl, B12.out⟩
  case rest =>
  obtain ⟨rfl, b9⟩ := hcut
  have bw4 := BW3.out.trans (b9.mono BW3.out.size)
  have M0 := Lib.hid (Bks.new_ bw4 bw4.size)
  have c9 := ((KT3.out.below b9 KT3.out.lt).alloc (.cells #[.slice none 0 0] 50)).cell 9
  simp only [letC, List.getElem?_toArray, List.getElem?_cons_zero, List.getElem?_cons_succ] at c9
  have PT4 := Lib.hid (fun m b => ((PT3.out m b).bel b9).keepA (.cells #[.slice none 0 0] 50))
  have PA4 := Lib.hid (fun m b => ((PA3.out m b).bel b9).keepA (.cells #[.slice none 0 0] 50))
  have HT := Lib.hid (show Value.slice Ad2 nd2 cd2 = slOf (some (gd, L.data.length, L.data.length + 2)) from by rw [GD.out.1, GD.out.2.1, GD.out.2.2]; rfl)
  clear b9 bw4 LW3 K3 KT3 TE3 TD3 TS3 BW3 O43 PT3 PA3 O63
  go_wp2_with fail
  rw [HT.out]
  refine (add_byte [] _ _ _ _ _ M0.out (by simp) (some (gd, L.data.length, L.data.length + 2))).mono ?_
  rintro e w15 ⟨rfl, pv1, m1, b1, em1, eb1, hM1, hk1⟩
  have M1 := Lib.hid hM1
  have PT5 := Lib.hid ((PT4.out m1 b1).keep hk1)
  have PA5 := Lib.hid (fun m b => (PA4.out m b).keep hk1)
  clear hM1 hk1 PT4 PA4 M0 c9
  go_wp2_with fail
  rw [HL.out]
  refine (add_byte _ _ _ _ _ _ M1.out (by simp) lie).mono ?_
  rintro e w16 ⟨rfl, pv2, m2, b2, em2, eb2, hM2, hk2⟩
  have M2 := Lib.hid (show Bks [⟨0, some (gd, L.data.length, L.data.length + 2), m1, b1⟩, ⟨0, lie, m2, b2⟩] _ _ _ _ _ from hM2)
  have PT6 := Lib.hid (PT5.out.keep hk2)
  have PA6 := Lib.hid ((PA5.out m2 b2).keep hk2)
  clear hM2 hk2 PT5 PA5 M1
  go_wp2_with fail
  refine (apart_any [⟨0, some (gd, L.data.length, L.data.length + 2), m1, b1⟩, ⟨0, lie, m2, b2⟩] (by
      intro p hp
      simp only [List.mem_cons, List.not_mem_nil, or_false] at hp
      rcases hp with rfl | rfl
      · exact ⟨(show (0 : Nat) < 3 by decide), em1, eb1⟩
      · exact ⟨(show (0 : Nat) < 3 by decide), em2, eb2⟩) (by
      intro i j hi hj hij g hg
      have hi' : i = 0 ∨ i = 1 := by simp at hi; omega
      have hj' : j = 0 ∨ j = 1 := by simp at hj; omega
      rcases hi' with rfl | rfl <;> rcases hj' with rfl | rfl
      · exact absurd rfl hij
      · intro hg2
        have q1 := GA.out g hg2
        have q2 : gd = g := Option.some.inj hg
        omega
      · intro hg2
        have q1 := GA.out g hg
        have q2 : gd = g := Option.some.inj hg2
        omega
      · exact absurd rfl hij) (by simp) _ _ w.heap.size _ (by
      intro p hp g hg
      simp only [List.mem_cons, List.not_mem_nil, or_false] at hp
      have q3 := GE.out
      rcases hp with rfl | rfl
      · have q2 : gd = g := Option.some.inj hg
        omega
      · have q1 := GA.out g hg
        omega) M2.out.bk (M2.out.ow.le (Nat.zero_le _)) (by
      intro p hp
      simp only [List.mem_cons, List.not_mem_nil, or_false] at hp
      rcases hp with rfl | rfl
      · exact PT6.out
      · exact PA6.out) M2.out.le).mono ?_
  rintro e w18 ⟨rfl, hb⟩
  have B18 := Lib.hid (M2.out.bel.trans hb)
  clear hb M2 PT6 PA6
  go_wp2_with fail
  refine (llives _).mono ?_
  rintro e w19 ⟨rfl, hb⟩
  have B19 := Lib.hid (B18.out.trans (hb.mono B18.out.size))
  clear hb
  go_wp2
  go_ret
  exact ⟨rfl, B19.out⟩
end Go.Proofs.YthjdkjinkmdclaaGreat
