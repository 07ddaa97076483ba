import Derived.Test.YtoiclicechfmgaaGreatDoorMem
import Derived.Laws.AppendOwnNone
import Derived.Test.YtoiclicechfmgaaGreatDoorLoz
import Derived.Test.YtoiclicechfmgaaGreatDoorDoz
import Derived.Deep.RegionLawGrows
import Derived.Deep.RegionHeld3
import Derived.Deep.AppendLies
/- slices.Clone and slices.Clip at one element type: the same elements in new memory; no room behind. -/
namespace Go.Proofs.YtoiclicechfmgaaGreatDoor
open Go.RowKit

theorem cen_info : (Tryz.prog.info? 170).map (fun i => (i.zero, i.size, i.bytes)) = some (some (.agg #[.int .u64 0, .int .u64 0, .int .u8 0, .int .u64 0, .slice none 0 0]), 5, 56) := by kernel_rfl

theorem cen_clone_nil (w : World) : Calls Tryz.prog 97 #[.slice none 0 0] w fun e w' => e = .returned (.slice none 0 0) ∧ w = w' := by
  have q := fun (w : World) (a : Option Addr) (n c n' c' : Nat) => Lib.run_eql_slice_nil (P := Tryz.prog) w _ _ a n c n' c' Tryz.underlying132
  go_enter Tryz.func97, Tryz.ntmps97
  go_wp2
  go_ret
  exact ⟨rfl, rfl⟩

set_option maxHeartbeats 400000 in
theorem cen_clone_any (v : Value) (n : Nat) (xs : List Value) (w : World) (h : Rd w 5 v n xs) (h1 : ∀ u ∈ xs, u.oneCell' = true) (hn : n * 56 ≤ 140737488355328) (hn2 : n ≤ 4611686018427387904) :
    Calls Tryz.prog 97 #[v] w fun e w' => ∃ v', e = .returned v' ∧ Ow w.heap.size w' 170 5 v' n xs ∧ Below w.heap.size w w' := by
  obtain ⟨A, c, rfl, hc, hl, hcell⟩ := h
  have q := fun (w : World) (a : Option Addr) (n c n' c' : Nat) => Lib.run_eql_slice_nil (P := Tryz.prog) w _ _ a n c n' c' Tryz.underlying132
  obtain ⟨i0, hi, hz0, hz1, hz2⟩ := info_parts cen_info
  have hnm : n ≤ maxLen := by unfold maxLen; omega
  cases A with
  | none =>
    rcases hcell with rfl | ⟨g, o, hA, _⟩
    · have hx : xs = [] := List.eq_nil_of_length_eq_zero (by simpa using hl)
      subst hx
      go_enter Tryz.func97, Tryz.ntmps97
      go_wp2
      go_ret
      exact ⟨_, rfl, .inl ⟨rfl, rfl, rfl⟩, Below.refl _ _⟩
    · cases hA
  | some ad =>
    rcases Nat.eq_zero_or_pos n with h0 | h0
    · subst h0
      have hx : xs = [] := List.eq_nil_of_length_eq_zero (by simpa using hl)
      subst hx
      clear hcell
      go_enter Tryz.func97, Tryz.ntmps97
      go_wp2
      go_ret
      exact ⟨_, rfl, .inr ⟨w.heap.size, 0, #[], rfl, Nat.le_refl _, Blk.new _ _ _, Nat.le_refl _, by simp, by simp, by simp⟩, below_alloc_ _ _⟩
    · rcases hcell with h | ⟨g, o, hA, hg, hcells⟩
      · omega
      · injection hA with hA
        subst hA
        have hown : (w.alloc (.cells #[] 170)).ownsRow w.heap.size 170 5 (.slice (some ⟨w.heap.size, 0, none⟩) 0 0) 0 [] :=
          ⟨by simp, .inr ⟨w.heap.size, 0, #[], rfl, Nat.le_refl _, heap_alloc_new _ _, Nat.le_refl _, by unfold maxLen; omega, by simp, by simp⟩⟩
        have hnews : ∀ j u, xs[j]? = some u → (w.alloc (.cells #[] 170)).cell? ((⟨g, o, none⟩ : Addr).add j) = some u := fun j u hu => by
          have := hcells j u hu
          rw [World.cell?_alloc_lt _ _ _ (by simp [Addr.add]; split <;> exact hg)]
          rcases Nat.eq_zero_or_pos j with hj | hj
          · subst hj; simpa [Addr.add] using this
          · have hj' : ¬ j = 0 := by omega
            simpa [Addr.add, hj'] using this
        have HO := Lib.hid hown
        have HN := Lib.hid hnews
        have HL := Lib.hid hl
        have H1 := Lib.hid h1
        clear hown hnews hl h1 hcells
        go_enter Tryz.func97, Tryz.ntmps97
        go_wp2_with (at_builtin; refine wpList_append_lies _ rfl _ _ 132 rfl w.heap.size 170 i0 (.agg #[.int .u64 0, .int .u64 0, .int .u8 0, .int .u64 0, .slice none 0 0]) 5 56 Tryz.underlying132 hi hz0 hz1 hz2 rfl (by decide) _ _ _ rfl HO.out ⟨g, o, none⟩ n c xs rfl HL.out HN.out H1.out h0 (by simpa using hnm) (by simpa using hn) (by simp) (w.heap.size + 1) (by simp) ?_; intro g' cap' w1 hown' hgrow _ _)
        go_ret
        refine ⟨_, rfl, ?_, ?_⟩
        · have := Ow.of_own hown'
          simpa using this
        · exact (below_alloc_ w _).grown hgrow (by simp) (fun k e => by cases e; exact Nat.le_refl _)
end Go.Proofs.YtoiclicechfmgaaGreatDoor

/- logs: an entry is added to a content. -/
namespace Go.Proofs.YtoiclicechfmgaaGreatDoor
open Go.RowKit

theorem wp_region_quiet_cls2 {ι : Type} (F : ι → World) (n0 : ι) {P : Program} {id : Nat} {Q : Exit → Act → World → Prop} {a : Act} {w : World} {l : List Oper} (h0 : F n0 = w.drew) (hm : P.follows .mixedOrders = true) (hB : Region.lexB .any l.toArray = true)
    (h : wpQuiet P l.toArray (fun w' => ∃ n, w' = F n) (fun a' => ∀ w', (∃ n, w' = F n) → Q .normal a' w') l a) : (Code.region id l.toArray true).wp P Q a w :=
  wp_region_quiet (C := fun w' => ∃ n, w' = F n) hm hB ⟨n0, h0.symm⟩ (by simpa using h)
theorem cls_new2 (w : World) : ∃ (ι : Type) (F : ι → World) (n0 : ι), F n0 = w.drew ∧ (∀ n, Below w.heap.size w (F n)) ∧ ∀ w', Below w.heap.size w w' → ∃ n, w' = F n :=
  ⟨{ w' : World // Below w.heap.size w w' }, Subtype.val, ⟨w.drew, (Below.refl _ w).drew⟩, rfl, fun n => n.2, fun w' h => ⟨⟨w', h⟩, rfl⟩⟩

/-- The blocks of X lie as told. -/
def Has (w : World) (X : List (Nat × Obj)) : Prop := ∀ q ∈ X, w.heap[q.1]? = some q.2
/-- The slice v holds these entries, in the blocks of X. -/
def El (v : Value) (es : List Ent) (X : List (Nat × Obj)) : Prop :=
  ∃ ss : List Value, ss.length = es.length ∧ (∀ w, Has w X → Rd w 5 v es.length ((es.zip ss).flatMap ecells)) ∧ ∀ (j : Nat) (h : j < es.length) (h' : j < ss.length), ∀ w, Has w X → Steps w ss[j] es[j].2
theorem El.ents {v : Value} {es : List Ent} {X : List (Nat × Obj)} {w : World} (h : El v es X) (hX : Has w X) : Ents w v es := by
  obtain ⟨ss, h1, h2, h3⟩ := h
  exact ⟨ss, h1, h2 w hX, fun j a b => h3 j a b w hX⟩
theorem El.nil (X : List (Nat × Obj)) : El (.slice none 0 0) [] X := ⟨[], rfl, fun _ _ => ⟨none, 0, rfl, Nat.le_refl _, by simp, .inl rfl⟩, fun j h => by simp at h⟩
theorem El.mono {v : Value} {es : List Ent} {X Y : List (Nat × Obj)} (h : El v es X) (hY : ∀ q ∈ X, q ∈ Y) : El v es Y := by
  obtain ⟨ss, h1, h2, h3⟩ := h
  exact ⟨ss, h1, fun w hw => h2 w fun q hq => hw q (hY q hq), fun j a b w hw => h3 j a b w fun q hq => hw q (hY q hq)⟩
/-- A slice of its own, by the block it lies in. -/
theorem Ow.has {B e size n : Nat} {w : World} {v : Value} {xs : List Value} (h : Ow B w e size v n xs) : ∃ Y : List (Nat × Obj), (∀ q ∈ Y, B ≤ q.1 ∧ w.heap[q.1]? = some q.2) ∧ ∀ w', Has w' Y → Rd w' size v n xs := by
  rcases h with ⟨rfl, h0, hx⟩ | ⟨g, c, cur, rfl, hB, hg, hh⟩
  · exact ⟨[], by simp, fun w' _ => Ow.rd (B := 0) (e := e) (.inl ⟨rfl, h0, hx⟩)⟩
  · exact ⟨[(g, .cells cur e)], fun q hq => by simp at hq; subst hq; exact ⟨hB, hg⟩, fun w' hw => Ow.rd (B := 0) (e := e) (.inr ⟨g, c, cur, rfl, Nat.zero_le _, hw (g, .cells cur e) (by simp), hh⟩)⟩
theorem zip_take_cells : ∀ (k : Nat) (es : List Ent) (ss : List Value), ss.length = es.length → k ≤ es.length → ((es.take k).zip (ss.take k)).flatMap ecells = ((es.zip ss).flatMap ecells).take (k * 5)
  | 0, es, ss, _, _ => by simp
  | k + 1, [], ss, _, hk => absurd hk (by simp)
  | k + 1, a :: es, [], hl, _ => absurd hl (by simp)
  | k + 1, a :: es, b :: ss, hl, hk => by
    have h5 := ecells_len (a, b)
    simp only [List.take_succ_cons, List.zip_cons_cons, List.flatMap_cons]
    rw [zip_take_cells k es ss (by simpa using hl) (by simpa using hk), show (k + 1) * 5 = (ecells (a, b)).length + k * 5 by omega, List.take_length_add_append]
theorem zip_snoc_cells (es : List Ent) (ss : List Value) (hl : ss.length = es.length) (k : Nat) (hk : k ≤ es.length) (e : Ent) (s : Value) :
    ((es.take k ++ [e]).zip (ss.take k ++ [s])).flatMap ecells = ((es.zip ss).flatMap ecells).take (k * 5) ++ ecells (e, s) := by
  rw [List.zip_append (by simp; omega), List.flatMap_append, zip_take_cells k es ss hl hk]
  simp
/-- The entries behind an append to the first k. -/
theorem El.snoc {v' s : Value} {es : List Ent} {ss : List Value} {X Y Z : List (Nat × Obj)} {k : Nat} {e : Ent} (h1 : ss.length = es.length) (h3 : ∀ (j : Nat) (h : j < es.length) (h' : j < ss.length), ∀ w, Has w X → Steps w ss[j] es[j].2) (hk : k ≤ es.length)
    (hY : ∀ w', Has w' Y → Rd w' 5 v' (k + 1) (((es.zip ss).flatMap ecells).take (k * 5) ++ ecells (e, s))) (hs : ∀ w', Has w' Z → Steps w' s e.2) : El v' (es.take k ++ [e]) (Y ++ (Z ++ X)) := by
  have hl : (es.take k).length = k := by simp; omega
  have hl2 : (ss.take k).length = k := by simp; omega
  refine ⟨ss.take k ++ [s], by simp [hl, hl2], fun w hw => ?_, fun j a b w hw => ?_⟩
  · rw [zip_snoc_cells es ss h1 k hk e s, List.length_append, hl]
    exact hY w fun q hq => hw q (List.mem_append_left _ hq)
  · rcases Nat.lt_or_ge j k with hj | hj
    · rw [List.getElem_append_left (by omega), List.getElem_append_left (by omega), List.getElem_take, List.getElem_take]
      exact h3 j (by omega) (by omega) w fun q hq => hw q (List.mem_append_right _ (List.mem_append_right _ hq))
    · obtain rfl : j = k := by simp [hl] at a; omega
      rw [List.getElem_append_right (by omega), List.getElem_append_right (by omega)]
      simp only [hl, hl2, Nat.sub_self, List.getElem_cons_zero]
      exact hs w fun q hq => hw q (List.mem_append_right _ (List.mem_append_left _ hq))
/-- What add leaves. -/
def addP (bi bt : Nat) (es : List Ent) (i : Nat) (t : Int) (e : Ent) : Option (List Ent) :=
  if i ≤ bi ∨ bi + es.length + 1 < i then none else if t < (termP bi bt es (i - 1)).1 then none else some (es.take (i - bi - 1) ++ [e])
theorem keepS {X Y : World} {a0 a1 a2 a3 a4 a5 : Addr} {v0 v1 v2 v3 v4 v5 : Value} (h : X.cell? a0 = some v0 ∧ X.cell? a1 = some v1 ∧ X.cell? a2 = some v2 ∧ X.cell? a3 = some v3 ∧ X.cell? a4 = some v4 ∧ X.cell? a5 = some v5) (hb : Below X.heap.size X Y) :
    Y.cell? a0 = some v0 ∧ Y.cell? a1 = some v1 ∧ Y.cell? a2 = some v2 ∧ Y.cell? a3 = some v3 ∧ Y.cell? a4 = some v4 ∧ Y.cell? a5 = some v5 :=
  ⟨(hb.cell (block_lt_of_cell h.1)).trans h.1, (hb.cell (block_lt_of_cell h.2.1)).trans h.2.1, (hb.cell (block_lt_of_cell h.2.2.1)).trans h.2.2.1, (hb.cell (block_lt_of_cell h.2.2.2.1)).trans h.2.2.2.1, (hb.cell (block_lt_of_cell h.2.2.2.2.1)).trans h.2.2.2.2.1, (hb.cell (block_lt_of_cell h.2.2.2.2.2)).trans h.2.2.2.2.2⟩
theorem news_one {i t x n : Int} {A : Option Addr} {m c : Nat} {u : Value} (hu : u ∈ [Value.int .u64 i, .int .u64 t, .int .u8 x, .int .u64 n, .slice A m c]) : u.oneCell' = true := by
  simp at hu
  rcases hu with rfl | rfl | rfl | rfl | rfl <;> rfl
theorem es_info : (Tryz.prog.info? 170).map (fun i => (i.zero, i.size, i.bytes)) = some (some (.agg #[.int .u64 0, .int .u64 0, .int .u8 0, .int .u64 0, .slice none 0 0]), 5, 56) := cen_info
/-- What add answers and leaves. -/
def AddR (w : World) (p bi bt : Nat) (X : List (Nat × Obj)) (r : Option (List Ent)) (e : Ending) (w' : World) : Prop := match r with
  | none => e = .returned (.bool false) ∧ Below w.heap.size w w'
  | some es' => e = .returned (.bool true) ∧ ∃ ev' Y, El ev' es' (Y ++ X) ∧ (∀ q ∈ Y, w.heap.size ≤ q.1 ∧ w'.heap[q.1]? = some q.2) ∧ w.grownBy w' (some p) ∧ Blk w' p 134 #[.int .u64 bi, .int .u64 bt, ev']

theorem add_fin {w w4 w5 : World} {p bi bt k : Nat} {ev v5 s : Value} {es : List Ent} {ss : List Value} {X : List (Nat × Obj)} {e : Ent} (hp : p < w.heap.size) (h1 : ss.length = es.length) (h3 : ∀ (j : Nat) (h : j < es.length) (h' : j < ss.length), ∀ w, Has w X → Steps w ss[j] es[j].2) (hk : k ≤ es.length)
    (b4 : Below w.heap.size w w4) (b5 : Below w4.heap.size w4 w5) (ho4 : Ow w.heap.size w4 235 10 s e.2.length (e.2.flatMap (fc stepK))) (ho5 : Ow w.heap.size w5 170 5 v5 (k + 1) (((es.zip ss).flatMap ecells).take (k * 5) ++ ecells (e, s)))
    (kp : Blk w5 p 134 #[.int .u64 bi, .int .u64 bt, ev]) : AddR w p bi bt X (some (es.take k ++ [e])) (.returned (.bool true)) (w5.setCell ⟨p, 2, none⟩ v5) := by
  obtain ⟨Y, y1, y2⟩ := ho5.has
  obtain ⟨Z, z1, z2⟩ := (ho4.below b5).has
  have far : ∀ q : Nat × Obj, w.heap.size ≤ q.1 ∧ w5.heap[q.1]? = some q.2 → w.heap.size ≤ q.1 ∧ (w5.setCell ⟨p, 2, none⟩ v5).heap[q.1]? = some q.2 := fun q hq => ⟨hq.1, (heap_setCell_other w5 ⟨p, 2, none⟩ q.1 v5 (by have := hq.1; show q.1 ≠ p; omega)).trans hq.2⟩
  refine ⟨rfl, v5, Y ++ Z, (List.append_assoc Y Z X).symm ▸ El.snoc h1 h3 hk y2 z2, fun q hq => ?_, ?_, kp.set_ 2 _⟩
  · rcases List.mem_append.1 hq with hq | hq
    · exact far q (y1 q hq)
    · exact far q (z1 q hq)
  · exact grown_trans_ (grown_below_ (b4.trans (b5.mono b4.size)) _) (grown_set_ w5 p 2 v5)

set_option maxHeartbeats 2000000 in
set_option maxRecDepth 100000 in
theorem ladd_any (p bi bt i : Nat) (ev : Value) (es : List Ent) (X : List (Nat × Obj)) (t x n : Int) (sv : Value) (st : List (List Int)) (w : World) (hk : Blk w p 134 #[.int .u64 bi, .int .u64 bt, ev]) (hE : El ev es X) (hX : Has w X) (hw : Wf bi es) (hl : es.length ≤ 100000)
    (hi : i < 18446744073709551616) (hb : bi + es.length < 18446744073709551615) (hs : Steps w sv st) (hst : st.length ≤ 1000000) :
    Calls Tryz.prog 91 #[.pointer (some ⟨p, 0, none⟩), .agg #[.int .u64 i, .int .u64 t, .int .u8 x, .int .u64 n, sv]] w (AddR w p bi bt X (addP bi bt es i t ([(i : Int), t, x, n], st))) := by
  have b0 := below_alloc_ w (.cells #[.int .u64 i, .int .u64 t, .int .u8 x, .int .u64 n, sv] 170)
  have k0 := Blk.new w 170 #[.int .u64 i, .int .u64 t, .int .u8 x, .int .u64 n, sv]
  have kp := hk.below b0 hk.lt
  have hN : w.heap.size < (w.alloc (.cells #[.int .u64 i, .int .u64 t, .int .u8 x, .int .u64 n, sv] 170)).heap.size := by simp
  obtain ⟨As, cs, rfl, -⟩ := id hs
  have WW := Lib.hid (show ∃ w0, w0 = w.alloc (.cells #[.int .u64 i, .int .u64 t, .int .u8 x, .int .u64 n, .slice As st.length cs] 170) from ⟨_, rfl⟩)
  obtain ⟨w0, hw0⟩ := WW.out
  have hCt : Ct w0 p bi bt ev := by
    rw [hw0]
    exact ⟨by rw [kp.cell]; rfl, by rw [kp.cell]; rfl, by rw [kp.cell]; rfl⟩
  have hEn : Ents w0 ev es := by rw [hw0]; exact (hE.ents hX).below b0
  rw [← hw0] at b0 k0 kp hN
  have c0 := k0.cell 0
  have c1 := k0.cell 1
  have c2 := k0.cell 2
  have c3 := k0.cell 3
  have c4 := k0.cell 4
  simp at c0 c1 c2 c3 c4
  obtain ⟨g0, g1, g2⟩ := id hCt
  have HW0 := Lib.hid hw0
  have B0 := Lib.hid b0
  have K0 := Lib.hid k0
  have KP := Lib.hid kp
  have CT := Lib.hid hCt
  have EN := Lib.hid hEn
  have HW := Lib.hid hw
  have HL := Lib.hid hl
  have HB := Lib.hid hb
  have HE := Lib.hid hE
  have HX := Lib.hid hX
  have HS := Lib.hid (show Steps w0 (.slice As st.length cs) st from Rd.below hs b0)
  have HST := Lib.hid hst
  have HI := Lib.hid hi
  by_cases h1 : i ≤ bi
  · have R := Lib.hid (show addP bi bt es i t ([(i : Int), t, x, n], st) = none from by unfold addP; rw [if_pos (.inl h1)])
    have n1 : decide ((i : Int) ≤ (bi : Int)) = true := decide_eq_true (by omega)
    have n2 : (i : Int) ≤ (bi : Int) := by omega
    obtain ⟨m, hm⟩ : ∃ m, m = st.length := ⟨_, rfl⟩
    rw [R.out, ← hm]
    rw [← hm] at hw0
    have HW1 := Lib.hid hw0
    clear hk hE hX hw hl hi hb hs hst b0 k0 kp hN hCt hEn h1 hm hw0 WW
    go_enter Tryz.func91, Tryz.ntmps91
    go_upto_region 1 with fail
    rw [← HW1.out]
    go_quiet (fail)
    go_wp2
    go_ret
    exact ⟨rfl, B0.out.trans ((below_drewN_ _ _ _))⟩
  have n1 : decide ((i : Int) ≤ (bi : Int)) = false := decide_eq_false (by omega)
  have n2 : ¬ (i : Int) ≤ (bi : Int) := by omega
  obtain ⟨E, hE0⟩ : ∃ E, E = bi + es.length := ⟨_, rfl⟩
  obtain ⟨E1, hE1⟩ : ∃ E1, E1 = E + 1 := ⟨_, rfl⟩
  have wE : IntKind.u64.wrap ((E : Int) + 1) = (E1 : Int) := (IntWalk.u64_in _ (by omega)).trans (by omega)
  obtain ⟨ι, F, f0, hf0, hF1, hF2⟩ := cls_new2 w0
  have hHl : es.length ≤ 1000000 := by omega
  have LE := Lib.hid (fun n => (lend_any p bi bt ev es (F n) (CT.out.below (hF1 n)) (EN.out.below (hF1 n)) HW.out hHl).mono fun e w'' (hh : e = Ending.returned (.agg #[.int .u64 ((bi + es.length : Nat) : Int), .int .u64 (endT bt es)]) ∧ Below (F n).heap.size (F n) w'') => (show e = Ending.returned (.agg #[.int .u64 ((bi + es.length : Nat) : Int), .int .u64 (endT bt es)]) ∧ ∃ m, w'' = F m from ⟨hh.1, hF2 _ ((hF1 n).trans (hh.2.mono (hF1 n).size))⟩))
  rw [← hE0] at LE
  have BF := Lib.hid hF1
  have d0 : ∀ n, (F n).cell? ⟨w.heap.size, 0, none⟩ = some (.int .u64 i) := fun n => ((hF1 n).cell (block_lt_of_cell c0)).trans c0
  have d1 : ∀ n, (F n).cell? ⟨p, 0, none⟩ = some (.int .u64 bi) := fun n => ((hF1 n).cell (block_lt_of_cell g0)).trans g0
  have hfd := mark_field
  haveI : Nonempty ι := ⟨f0⟩
  obtain ⟨m, hm⟩ : ∃ m, m = st.length := ⟨_, rfl⟩
  have MM := Lib.hid hm
  have hw1 := HW0.out
  rw [← hm] at hw1 ⊢
  have HW1 := Lib.hid hw1
  have TRM := Lib.hid (lterm_any p bi bt (i - 1) ev es)
  by_cases h2 : E1 < i
  · have R := Lib.hid (show addP bi bt es i t ([(i : Int), t, x, n], st) = none from by unfold addP; rw [if_pos (.inr (by omega))])
    have n3 : (E1 : Int) < (i : Int) := by omega
    have n4 : decide ((E1 : Int) < (i : Int)) = true := decide_eq_true n3
    rw [R.out]
    clear hk hE hX hw hl hi hb hs hst b0 k0 kp hN hCt hEn h1 hm hw0 WW hF1 hF2 hw1 g0 g1 g2 c0 c1 c2 c3 c4 hE0 hE1 h2 hHl
    go_enter Tryz.func91, Tryz.ntmps91
    go_upto_region 1 with fail
    rw [← HW1.out]
    refine wp_region_quiet_cls2 F f0 hf0 (by kernel_rfl) (by kernel_rfl) ?_
    repeat (go_big_quiet_step ((go_at_call 65; exact LE.out _)))
    refine wpQuiet_nil ?_
    rintro _ ⟨nq, rfl⟩
    go_wp2
    go_ret
    exact ⟨rfl, bel2 B0.out (BF.out nq)⟩
  have n3 : ¬ (E1 : Int) < (i : Int) := by omega
  have n4 : decide ((E1 : Int) < (i : Int)) = false := decide_eq_false n3
  obtain ⟨i1, hi1⟩ : ∃ i1, i1 = i - 1 := ⟨_, rfl⟩
  have n5 : (i : Int) - 1 = (i1 : Int) := by omega
  have n6 : IntKind.u64.wrap (i1 : Int) = (i1 : Int) := IntWalk.u64_in _ (by omega)
  have hi1l : i1 < 18446744073709551616 := by omega
  have hbl : bi + es.length < 18446744073709551616 := by omega
  rw [← hi1] at TRM
  obtain ⟨k, hk0⟩ : ∃ k, k = i - bi - 1 := ⟨_, rfl⟩
  obtain ⟨k1, hk1⟩ : ∃ k1, k1 = k + 1 := ⟨_, rfl⟩
  have n7 : (i : Int) - (bi : Int) = (k1 : Int) := by omega
  have n8 : (k1 : Int) - 1 = (k : Int) := by omega
  have n9 : IntKind.u64.wrap (k1 : Int) = (k1 : Int) := IntWalk.u64_in _ (by omega)
  have n10 : IntKind.u64.wrap (k : Int) = (k : Int) := IntWalk.u64_in _ (by omega)
  have hkl : k ≤ es.length := by omega
  have n11 : (k : Int) ≤ 100000 := by omega
  by_cases h3 : t < (termP bi bt es i1).1
  · have R := Lib.hid (show addP bi bt es i t ([(i : Int), t, x, n], st) = none from by unfold addP; rw [if_neg (by omega), ← hi1, if_pos h3])
    rw [R.out]
    obtain ⟨tb, htb⟩ : ∃ tb, tb = (termP bi bt es i1).1 := ⟨_, rfl⟩
    have TB := Lib.hid htb
    rw [← htb] at h3
    have n12 : decide (t < tb) = true := decide_eq_true h3
    clear hk hE hX hw hl hi hb hs hst b0 k0 kp hN hCt hEn h1 hm hw0 WW hF1 hF2 hw1 g0 g1 g2 hE0 hE1 h2 hHl hi1 hk0 hk1 htb
    go_enter Tryz.func91, Tryz.ntmps91
    go_upto_region 1 with fail
    rw [← HW1.out]
    refine wp_region_quiet_cls2 F f0 hf0 (by kernel_rfl) (by kernel_rfl) ?_
    repeat (go_big_quiet_step ((go_at_call 65; exact LE.out _)))
    refine wpQuiet_nil ?_
    rintro _ ⟨nq, rfl⟩
    have BN := Lib.hid (BF.out nq)
    have CN := Lib.hid (CT.out.below BN.out)
    have e0 := d0 nq
    have e1 := (BN.out.cell (block_lt_of_cell c1)).trans c1
    have d1' := d1 nq
    generalize F nq = w1 at *
    clear d0 d1 c0 c1 c2 c3 c4
    go_wp2_with fail
    refine (TRM.out w1 CN.out (EN.out.below BN.out) HW.out (by have := HL.out; omega) hi1l hbl).mono ?_
    rintro e w2 ⟨rfl, b2⟩
    have B2 := Lib.hid b2
    have e1' := (b2.cell (block_lt_of_cell e1)).trans e1
    clear b2 e0 e1
    rw [← TB.out]
    go_wp2
    go_ret
    exact ⟨rfl, bel2 (bel2 B0.out BN.out) B2.out⟩
  have R := Lib.hid (show addP bi bt es i t ([(i : Int), t, x, n], st) = some (es.take k ++ [([(i : Int), t, x, n], st)]) from by unfold addP; rw [if_neg (by omega), ← hi1, if_neg h3, hk0])
  rw [R.out]
  obtain ⟨tb, htb⟩ : ∃ tb, tb = (termP bi bt es i1).1 := ⟨_, rfl⟩
  have TB := Lib.hid htb
  rw [← htb] at h3
  have n12 : decide (t < tb) = false := decide_eq_false h3
  obtain ⟨ss, hss1, hss2, hss3⟩ := id hE
  obtain ⟨A, c, hv, hc, hlx, hcell⟩ := hss2 w hX
  subst hv
  have HOLD := Lib.hid (show ∀ W', Below w.heap.size w W' → ∀ b, A = some b → ∀ j u, (((es.zip ss).flatMap ecells).take (k * 5))[j]? = some u → W'.cell? (b.add j) = some u from fun W' hb b hA j u hu => by
    rcases hcell with h0 | ⟨g, o, hA', hg, hh⟩
    · have : (((es.zip ss).flatMap ecells).take (k * 5)).length = 0 := by rw [List.length_take, hlx, h0]; simp
      rw [List.getElem?_eq_none (by omega)] at hu; cases hu
    · rw [hA'] at hA; cases hA
      rw [Addr.add_lit]
      have hu' : ((es.zip ss).flatMap ecells)[j]? = some u := by
        rw [List.getElem?_take] at hu; split at hu
        · exact hu
        · cases hu
      exact (hb.cell (p := ⟨g, o + j, none⟩) hg).trans (hh j u hu'))
  have HLO := Lib.hid (show (((es.zip ss).flatMap ecells).take (k * 5)).length = k * 5 from by rw [List.length_take, hlx]; omega)
  have HNO := Lib.hid (show A = none → k = 0 ∧ k = 0 from fun hA => by
    rcases hcell with h0 | ⟨g, o, hA', -⟩
    · omega
    · rw [hA] at hA'; cases hA')
  have HS1 := Lib.hid hss1
  have HS3 := Lib.hid hss3
  have HP := Lib.hid hk.lt
  obtain ⟨L, hL⟩ : ∃ L, L = es.length := ⟨_, rfl⟩
  rw [← hL] at hc g2
  have KL := Lib.hid hkl
  have n13 : (k : Int) ≤ (c : Int) := by omega
  have LL := Lib.hid hL
  clear hk hE hX hw hl hi hb hs hst b0 k0 kp hN hCt hEn h1 hm hw0 WW hF1 hF2 hw1 hE0 hE1 h2 hHl hi1 hk0 hk1 htb hss1 hss2 hss3 hlx hcell hL hkl h3
  go_enter Tryz.func91, Tryz.ntmps91
  go_upto_region 1 with fail
  rw [← HW1.out]
  refine wp_region_quiet_cls2 F f0 hf0 (by kernel_rfl) (by kernel_rfl) ?_
  repeat (go_big_quiet_step ((go_at_call 65; exact LE.out _)))
  refine wpQuiet_nil ?_
  rintro _ ⟨nq, rfl⟩
  have BN := Lib.hid (BF.out nq)
  have CN := Lib.hid (CT.out.below BN.out)
  have e0 := d0 nq
  have e1 := (BN.out.cell (block_lt_of_cell c1)).trans c1
  have d1' := d1 nq
  generalize F nq = w1 at *
  go_wp2_with fail
  refine (TRM.out w1 CN.out (EN.out.below BN.out) HW.out (by have := HL.out; omega) hi1l hbl).mono ?_
  rintro e w2 ⟨rfl, b2⟩
  have B2 := Lib.hid (bel2 BN.out b2)
  clear b2 e0 e1 d1' d0 d1
  have e0 := (B2.out.cell (block_lt_of_cell c0)).trans c0
  have e1 := (B2.out.cell (block_lt_of_cell c1)).trans c1
  have e2 := (B2.out.cell (block_lt_of_cell c2)).trans c2
  have e3 := (B2.out.cell (block_lt_of_cell c3)).trans c3
  have e4 := (B2.out.cell (block_lt_of_cell c4)).trans c4
  have q0 := (B2.out.cell (block_lt_of_cell g0)).trans g0
  have q2 := (B2.out.cell (block_lt_of_cell g2)).trans g2
  rw [← MM.out] at e4
  clear c0 c1 c2 c3 c4 g0 g1 g2
  rw [← TB.out]
  go_upto_region 6 with fail
  go_quiet (fail)
  have B3 := Lib.hid (show Below w0.heap.size w0 (w2.drewN nq) from B2.out.trans (below_drewN_ _ _ _))
  replace e0 : (w2.drewN nq).cell? _ = _ := e0
  replace e1 : (w2.drewN nq).cell? _ = _ := e1
  replace e2 : (w2.drewN nq).cell? _ = _ := e2
  replace e3 : (w2.drewN nq).cell? _ = _ := e3
  replace e4 : (w2.drewN nq).cell? _ = _ := e4
  replace q2 : (w2.drewN nq).cell? _ = _ := q2
  generalize w2.drewN nq = w3 at *
  go_upto_region 7 with fail
  obtain ⟨i0, hi0, hz0, hz1, hz2⟩ := info_parts es_info
  have HS' := HS.out
  rw [← MM.out] at HS'
  have HS2 := Lib.hid HS'
  clear HS'
  go_region_law (first
    | (refine step_append_grows rfl _ _ 132 rfl 170 i0 (.agg #[.int .u64 0, .int .u64 0, .int .u8 0, .int .u64 0, .slice none 0 0]) 5 56 Tryz.underlying132 hi0 hz0 hz1 hz2 rfl (by decide) A k k (((es.zip ss).flatMap ecells).take (k * 5)) rfl HNO.out HLO.out (HOLD.out _ (bel2 (bel2 B0.out (by first | exact B3.out | exact B3.out.drew)) (bel2 b4 (below_alloc_ _ _)))) ⟨w4.heap.size, 0, none⟩ 1 1 [.int .u64 i, .int .u64 t, .int .u8 x, .int .u64 n, .slice P4 st.length st.length] rfl rfl (fun j u hu => by rw [Addr.add_lit, Nat.zero_add, (Blk.new w4 170 #[.int .u64 i, .int .u64 t, .int .u8 x, .int .u64 n, .slice P4 st.length st.length]).cell]; simpa using hu) (fun u hu => news_one hu) (Nat.lt_succ_self _) (by unfold maxLen; omega) (by omega) ?_; intro v5 w5 ho5 hg5; obtain ⟨A5, c5, rfl, -, -⟩ := (Ow.of_own ho5).clip; have B5 := Lib.hid (show Below w0.heap.size w0 w5 from bel2 (by first | exact B3.out | exact B3.out.drew) (bel2 (bel2 b4 (below_alloc_ _ _)) (below_of_grown_ hg5))); have K5 := Lib.hid (KP.out.below B5.out KP.out.lt); have ff5 := K5.out.free 2; have q5 : w5.cell? ⟨p, 2, none⟩ = some (.slice A L c) := ((below_of_grown_ hg5).cell (block_lt_of_cell (q4a _))).trans (q4a _))
    | (go_simp; go_at_call 118; refine (lown_any i t x n _ st _ (Rd.below HS2.out (by first | exact B3.out | exact B3.out.drew)) HST.out).mono ?_; rintro e w4 ⟨P4, rfl, h4, b4⟩; have q4 := (b4.cell (block_lt_of_cell q2)).trans q2; have q4a : ∀ o, (w4.alloc o).cell? ⟨p, 2, none⟩ = some (.slice A L c) := fun o => ((below_alloc_ w4 o).cell (block_lt_of_cell q4)).trans q4))
  all_goals
    have B4 := Lib.hid (show Below w.heap.size w w4 from bel2 (bel2 B0.out (by first | exact B3.out | exact B3.out.drew)) b4)
    have FIN := Lib.hid (add_fin (X := X) (e := ([(i : Int), t, x, n], st)) HP.out HS1.out HS3.out KL.out B4.out (bel2 (below_alloc_ _ _) (below_of_grown_ hg5)) (h4.le (by have := (bel2 B0.out B3.out).size; exact this)) ((Ow.of_own ho5).le (by have := B4.out.size; simp; omega)) K5.out)
    clear h4 ho5 hg5 b4 q4 q4a q5
    go_wp2
    go_ret
    exact FIN.out
end Go.Proofs.YtoiclicechfmgaaGreatDoor
