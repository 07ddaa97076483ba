import Derived.Test.YtnegondlkfeleaaDoorLqb
import Derived.Test.YtnegondlkfeleaaDoorLoj
/- logs: Term, From; End of a log that no call made. -/
namespace Go.Proofs.YtnegondlkfeleaaDoor
open Go.RowKit

set_option maxHeartbeats 1000000 in
set_option maxRecDepth 100000 in
theorem lTerm_any (p bi bt d i : Nat) (ev : Value) (es : List Ent) (size : Int) (lost : Bool) (w : World) (h : Blk w p 37 (lgC bi bt ev d size lost)) (he : Ents w ev es) (hw : Wf bi es) (hl : es.length ≤ 1000000) (hi : i < 18446744073709551616) (hb : bi + es.length < 18446744073709551616) :
    Calls Tryd.prog 11 #[.pointer (some ⟨p, 0, none⟩), .int .u64 i] w fun e w' => e = .returned (.tuple #[.int .u64 (termP bi bt es i).1, .bool (termP bi bt es i).2]) ∧ Below w.heap.size w w' := by
  have TM := Lib.hid (lterm_any p bi bt i ev es w h.ct he hw hl hi hb)
  obtain ⟨t, ht⟩ : ∃ t, t = (termP bi bt es i).1 := ⟨_, rfl⟩
  obtain ⟨b, hbb⟩ : ∃ b, b = (termP bi bt es i).2 := ⟨_, rfl⟩
  have a3 := h.cell 3
  simp [lgC] at a3
  rw [← ht, ← hbb] at TM ⊢
  clear h he hw hl hi hb ht hbb
  go_enter Tryd.func11, Tryd.ntmps11
  go_wp2_with fail
  refine TM.out.mono ?_
  rintro e w1 ⟨rfl, b1⟩
  have B1 := Lib.hid b1
  clear b1
  go_wp2
  go_ret2
  exact ⟨rfl, B1.out⟩

/-- The loop of From, behind k entries of el. -/
structure FrI (N : Nat) (w : World) (el : List Ent) (k : Nat) (v : Value) (wr : World) : Prop where
  sl : ∃ A c, v = .slice A k c
  ex : ∃ ss Y, ss.length = k ∧ Ow N wr 59 5 v k (((el.take k).zip ss).flatMap ecells) ∧ (∀ q ∈ Y, N ≤ q.1 ∧ wr.heap[q.1]? = some q.2 ∧ some q.1 ≠ v.ownBlock) ∧ ∀ (j : Nat) (h : j < el.length) (h' : j < ss.length), ∀ w' : World, Has w' Y → Steps w' ss[j] el[j].2
  bel : Below N w wr
  le : N ≤ wr.heap.size
theorem FrI.nil (w : World) (el : List Ent) : FrI w.heap.size w el 0 (.slice none 0 0) w :=
  ⟨⟨_, _, rfl⟩, ⟨[], [], rfl, .inl ⟨rfl, rfl, by simp⟩, by simp, fun j _ h => by simp at h⟩, Below.refl _ _, Nat.le_refl _⟩
theorem FrI.step {N : Nat} {w wr w7 w8 : World} {el : List Ent} {k : Nat} {v v' s : Value} {ss : List Value} {Y : List (Nat × Obj)} (hk : k < el.length) (hss : ss.length = k) (hY : ∀ q ∈ Y, N ≤ q.1 ∧ wr.heap[q.1]? = some q.2 ∧ some q.1 ≠ v.ownBlock)
    (hst : ∀ (j : Nat) (h : j < el.length) (h' : j < ss.length), ∀ w' : World, Has w' Y → Steps w' ss[j] el[j].2) (ho : Ow N wr 59 5 v k (((el.take k).zip ss).flatMap ecells)) (hbw : Below N w wr) (hle : N ≤ wr.heap.size)
    (h7 : Below wr.heap.size wr w7) (hs : Ow wr.heap.size w7 107 10 s el[k].2.length (el[k].2.flatMap (fc stepK)))
    (hsl : ∃ A c, v' = .slice A (k + 1) c) (ho8 : Ow N w8 59 5 v' (k + 1) (((el.take k).zip ss).flatMap ecells ++ ecells (el[k], s))) (hG : Grew w7 w8 v v') : FrI N w el (k + 1) v' w8 := by
  obtain ⟨Z, z1, z2⟩ := hs.has
  have hob : ∀ j, v.ownBlock = some j → N ≤ j ∧ j < wr.heap.size := fun j hj => by
    rcases ho with ⟨rfl, _⟩ | ⟨g, cap, cur, rfl, hB, hg, _⟩
    · simp [Value.ownBlock] at hj
    · simp [Value.ownBlock] at hj; subst hj; exact ⟨hB, hg.lt⟩
  have hsz := h7.size
  have go : ∀ q : Nat × Obj, N ≤ q.1 → w7.heap[q.1]? = some q.2 → some q.1 ≠ v.ownBlock → N ≤ q.1 ∧ w8.heap[q.1]? = some q.2 ∧ some q.1 ≠ v'.ownBlock := fun q h1 h2 h3 => by
    refine ⟨h1, (hG.1.block _ (lt_of_heap h2) h3).trans h2, ?_⟩
    rcases hG.2 with e | e
    · rw [e]; exact h3
    · intro e'; have := e _ e'.symm; have := lt_of_heap h2; omega
  have htk : el.take (k + 1) = el.take k ++ [el[k]] := by rw [List.take_add_one, List.getElem?_eq_getElem hk]; rfl
  have hlk : (el.take k).length = k := by rw [List.length_take]; omega
  refine ⟨hsl, ⟨ss ++ [s], Z ++ Y, by simp [hss], ?_, fun q hq => ?_, fun j h h' w' hw => ?_⟩, ?_, ?_⟩
  · rw [htk, List.zip_append (by rw [hlk, hss]), List.flatMap_append]
    simpa using ho8
  · rcases List.mem_append.1 hq with hq | hq
    · obtain ⟨h1, h2⟩ := z1 q hq
      exact go q (by omega) h2 (fun e => by have := hob _ e.symm; omega)
    · obtain ⟨h1, h2, h3⟩ := hY q hq
      exact go q h1 ((h7.block _ (lt_of_heap h2)).trans h2) h3
  · rcases Nat.lt_or_ge j k with hj | hj
    · rw [List.getElem_append_left (by omega)]
      exact hst j h (by omega) w' fun q hq => hw q (List.mem_append_right _ hq)
    · obtain rfl : j = k := by rw [List.length_append, List.length_singleton] at h'; omega
      rw [List.getElem_append_right (by omega)]
      simp only [hss, Nat.sub_self, List.getElem_cons_zero]
      exact z2 w' fun q hq => hw q (List.mem_append_left _ hq)
  · have h1 : Below N w w7 := hbw.trans (h7.mono hle)
    exact h1.grown hG.1 (by omega) (fun j e => (hob j e).1)
  · have := hG.1.size; omega
theorem FrI.end_ {N : Nat} {w wr : World} {el : List Ent} {A : Option Addr} {c : Nat} (h : FrI N w el el.length (.slice A el.length c) wr) : ∃ Y, El (.slice A el.length el.length) el Y ∧ ∀ q ∈ Y, N ≤ q.1 ∧ wr.heap[q.1]? = some q.2 := by
  obtain ⟨-, ⟨ss, Y, hss, ho, hY, hst⟩, -, -⟩ := h
  rw [List.take_length] at ho
  obtain ⟨A', c', e, -, ho'⟩ := ho.clip
  injection e with e1 e2 e3
  subst e1
  obtain ⟨Z, z1, z2⟩ := ho'.has
  refine ⟨Z ++ Y, ⟨ss, hss, fun w' hw => z2 w' fun q hq => hw q (List.mem_append_left _ hq), fun j h h' w' hw => hst j h h' w' fun q hq => hw q (List.mem_append_right _ hq)⟩, fun q hq => ?_⟩
  rcases List.mem_append.1 hq with hq | hq
  · exact z1 q hq
  · exact ⟨(hY q hq).1, (hY q hq).2.1⟩

/-- What From gives. -/
def fromP (bi : Nat) (es : List Ent) (i m : Nat) : List Ent := if i ≤ bi ∨ bi + es.length < i ∨ m < 1 then [] else (es.drop (i - bi - 1)).take m
end Go.Proofs.YtnegondlkfeleaaDoor

/- logs: From. -/
namespace Go.Proofs.YtnegondlkfeleaaDoor
open Go.RowKit

set_option maxHeartbeats 2000000 in
set_option maxRecDepth 100000 in
theorem lFrom_any (p bi bt d i m : Nat) (ev : Value) (es : List Ent) (size : Int) (lost : Bool) (X : List (Nat × Obj)) (w : World) (h : Blk w p 37 (lgC bi bt ev d size lost)) (hE : El ev es X) (hX : Has w X) (hw : Wf bi es) (hl : es.length ≤ 100000) (hi : i < 18446744073709551616) (hb : bi + es.length < 18446744073709551615)
    (hst : ∀ e ∈ es, e.2.length ≤ 1000000) (hm : 1 ≤ m) (hm2 : m ≤ 1000000) :
    Calls Tryd.prog 15 #[.pointer (some ⟨p, 0, none⟩), .int .u64 i, .int .i64 m] w fun e w' => ∃ P Y, e = .returned (.slice P (fromP bi es i m).length (fromP bi es i m).length) ∧ El (.slice P (fromP bi es i m).length (fromP bi es i m).length) (fromP bi es i m) Y ∧ (∀ q ∈ Y, w.heap.size ≤ q.1 ∧ w'.heap[q.1]? = some q.2) ∧ Below w.heap.size w w' := by
  have EN := Lib.hid (hE.ents hX)
  have LE := Lib.hid (lend_any p bi bt ev es w h.ct EN.out hw (by omega))
  obtain ⟨E, hE0⟩ : ∃ E, E = bi + es.length := ⟨_, rfl⟩
  rw [← hE0] at LE
  have K0 := Lib.hid h
  have a0 := h.cell 0
  have a2 := h.cell 2
  simp [lgC] at a0 a2
  have hfd := mark_field
  by_cases h1 : i ≤ bi
  · have hR : fromP bi es i m = [] := by unfold fromP; rw [if_pos (.inl h1)]
    rw [hR]
    have n1 : decide ((i : Int) ≤ (bi : Int)) = true := decide_eq_true (by omega)
    have n2 : (i : Int) ≤ (bi : Int) := by omega
    clear h hE hX hw hl hi hb hst hm hm2 hR h1 hE0
    go_enter Tryd.func15, Tryd.ntmps15
    go_wp2
    go_ret
    exact ⟨none, [], rfl, El.nil _, by simp, Below.refl _ _⟩
  have n1 : decide ((i : Int) ≤ (bi : Int)) = false := decide_eq_false (by omega)
  have n2 : ¬ (i : Int) ≤ (bi : Int) := by omega
  by_cases h2 : E < i
  · have hR : fromP bi es i m = [] := by unfold fromP; rw [if_pos (.inr (.inl (by omega)))]
    rw [hR]
    have n3 : (E : Int) < (i : Int) := by omega
    have n4 : decide ((E : Int) < (i : Int)) = true := decide_eq_true n3
    clear h hE hX hw hl hi hb hst hm hm2 hR h1 hE0 h2
    go_enter Tryd.func15, Tryd.ntmps15
    go_wp2_with fail
    refine LE.out.mono ?_
    rintro e w1 ⟨rfl, b1⟩
    have B1 := Lib.hid b1
    clear b1
    go_wp2
    go_ret
    exact ⟨none, [], rfl, El.nil _, by simp, B1.out⟩
  have n3 : ¬ (E : Int) < (i : Int) := by omega
  have n4 : decide ((E : Int) < (i : Int)) = false := decide_eq_false n3
  have n5 : decide (E < i) = false := decide_eq_false h2
  have m11b : decide ((m : Int) < 1) = false := decide_eq_false (by omega)
  obtain ⟨j0, hj0⟩ : ∃ j, j = i - bi - 1 := ⟨_, rfl⟩
  have hR : fromP bi es i m = (es.drop j0).take m := by unfold fromP; rw [if_neg (by omega), hj0]
  rw [hR]
  obtain ⟨el, hel⟩ : ∃ el, el = (es.drop j0).take m := ⟨_, rfl⟩
  rw [← hel]
  obtain ⟨L, hL⟩ : ∃ L, L = el.length := ⟨_, rfl⟩
  obtain ⟨nn, hnn⟩ : ∃ nn, nn = es.length - j0 := ⟨_, rfl⟩
  have hLm : L = min m nn := by rw [hL, hel, List.length_take, List.length_drop, hnn]
  obtain ⟨j1, hj1⟩ : ∃ j1, j1 = j0 + 1 := ⟨_, rfl⟩
  have m1 : (i : Int) - (bi : Int) = (j1 : Int) := by omega
  have m2 : (j1 : Int) - 1 = (j0 : Int) := by omega
  have m3 : IntKind.u64.wrap (j1 : Int) = (j1 : Int) := IntWalk.u64_in _ (by omega)
  have m4 : IntKind.u64.wrap (j0 : Int) = (j0 : Int) := IntWalk.u64_in _ (by omega)
  obtain ⟨g, o, c, hv, hc, hg, hcell⟩ := EN.out.at_ (by omega)
  subst hv
  have HC := Lib.hid hcell
  have HG := Lib.hid hg
  have HST := Lib.hid hst
  have HW := Lib.hid hw
  obtain ⟨N, hN⟩ : ∃ N, N = es.length := ⟨_, rfl⟩
  rw [← hN] at a2 hc hl hnn
  have NN := Lib.hid hN
  have m5 : (j0 : Int) ≤ (N : Int) := by omega
  have m6 : (N : Int) ≤ (c : Int) := by omega
  have m7 : ¬ c = j0 := by omega
  have m8 : (N : Int) ≤ 100000 := by omega
  have m9 : N - j0 = nn := hnn.symm
  have m10 : min (nn : Int) (m : Int) = (L : Int) := by omega
  have m11 : ¬ (m : Int) < 1 := by omega
  have m12 : (L : Int) ≤ (nn : Int) := by omega
  obtain ⟨cc, hcc⟩ : ∃ cc, cc = c - j0 := ⟨_, rfl⟩
  have m13 : (L : Int) ≤ (cc : Int) := by omega
  have m14 : c - j0 = cc := hcc.symm
  have LL := Lib.hid hL
  have EL := Lib.hid hel
  have HJ := Lib.hid (show j0 + L ≤ N by omega)
  have HL5 := Lib.hid hl
  clear h hE hX hw hl hi hb hst hm hm2 hR h1 hE0 h2 hj0 hel hL hnn hj1 hcell hg hN hc hcc
  have BE := Lib.hid (show ∀ (k : Nat) (hk : k < el.length), ∃ hk' : j0 + k < es.length, el[k] = es[j0 + k] from fun k hk => by
    have h1 : j0 + k < es.length := by have := HJ.out; have := LL.out; have := NN.out; omega
    refine ⟨h1, ?_⟩
    have h2 : ∀ (l : List Ent) (hl : l = (es.drop j0).take m) (hk : k < l.length), l[k] = es[j0 + k] := fun l hl hk => by
      subst hl; rw [List.getElem_take, List.getElem_drop]
    exact h2 el EL.out hk)
  have key : m = L ∧ m < nn ∨ m = L ∧ nn = L ∨ nn = L ∧ nn < m := by omega
  clear hLm
  rcases key with ⟨q1, hmn⟩ | ⟨q1, q2⟩ | ⟨q1, hmn⟩
  case' inl => subst m
  case' inr.inl => subst m; subst nn
  case' inr.inr => subst nn
  all_goals
    go_enter Tryd.func15, Tryd.ntmps15
    go_wp2_with fail
    refine LE.out.mono ?_
    rintro e w1 ⟨rfl, b1⟩
    have B1 := Lib.hid b1
    have k1 := K0.out.below b1 K0.out.lt
    have c0 := k1.cell 0
    have c2 := k1.cell 2
    simp [lgC] at c0 c2
    rw [NN.out.symm] at c2
    clear b1 k1 a0 a2
    go_wp2_with fail
    go_quiet (fail)
    have B2 := Lib.hid (show Below w.heap.size w (w1.drewN nq) from B1.out.trans (below_drewN_ _ _ _))
    clear c0 c2
    generalize w1.drewN nq = w2 at *
    have I0 := Lib.hid (show FrI w2.heap.size w2 el 0 (.slice none 0 0) w2 from FrI.nil w2 el)
    go_wp2_with fail
    go_loopw [6, 57] (fun s6 s57 wr => ∃ k : Nat, s57 = .int .i64 (k : Int) ∧ k ≤ L ∧ FrI w2.heap.size w2 el k s6 wr) (fun _ s57 _ => L - (intOf s57).toNat)
    case atStart => exact ⟨0, rfl, Nat.zero_le _, I0.out⟩
    case round =>
      obtain ⟨k, rfl, hk, hI⟩ := hrel
      have II := Lib.hid hI
      obtain ⟨Ab, cb, hsb⟩ := hI.sl
      subst hsb
      clear hI
      by_cases hlt : k < L
      · have hke : k < el.length := by have := LL.out; omega
        obtain ⟨hje, hee⟩ := BE.out k hke
        obtain ⟨sv, hs, hh⟩ := HC.out (j0 + k) hje
        obtain ⟨x1, x2, x3, hx⟩ := HW.out (j0 + k) hje
        obtain ⟨x0, hx0⟩ : ∃ x0 : Int, x0 = ((bi + 1 + (j0 + k) : Nat) : Int) := ⟨_, rfl⟩
        rw [← hx0] at hx
        have hec : ecells (es[j0 + k], sv) = [.int .u64 x0, .int .u64 x1, .int .u8 x2, .int .u64 x3, sv] := by simp [ecells, hx, entryK, fc]
        rw [hec, Nat.add_mul, ← Nat.add_assoc] at hh
        have hl0 := HG.out
        have bw : Below w.heap.size w wr := B2.out.trans (II.out.bel.mono B2.out.size)
        have d0 : wr.cell? ⟨g, o + j0 * 5 + k * 5, none⟩ = some (.int .u64 x0) := cell_on bw hl0 (by have := hh 0 (.int .u64 x0) (by omega) rfl; simpa using this)
        have d1 := cell_on bw hl0 (hh 1 (.int .u64 x1) (by omega) rfl)
        have d2 := cell_on bw hl0 (hh 2 (.int .u8 x2) (by omega) rfl)
        have d3 := cell_on bw hl0 (hh 3 (.int .u64 x3) (by omega) rfl)
        have d4 := cell_on bw hl0 (hh 4 sv (by omega) rfl)
        obtain ⟨Asv, csv, rfl, -⟩ := id hs
        obtain ⟨q, hq⟩ : ∃ q, q = es[j0 + k].2 := ⟨_, rfl⟩
        have hq2 : el[k].2 = q := by rw [hee, hq]
        have hek : el[k] = ([x0, x1, x2, x3], q) := by rw [hee, hq, ← hx]
        have hql : q.length ≤ 1000000 := by rw [hq]; exact HST.out _ (List.getElem_mem hje)
        rw [← hq] at hs d4
        obtain ⟨mq, hmq⟩ : ∃ mq, mq = q.length := ⟨_, rfl⟩
        have OW := Lib.hid (lown_any x0 x1 x2 x3 (.slice Asv q.length csv) q (wr.alloc (.cells #[.int .u64 x0, .int .u64 x1, .int .u8 x2, .int .u64 x3, .slice Asv q.length csv] 59)) (Rd.below hs (bw.trans ((below_alloc_ wr _).mono (by have := B2.out.size; have := II.out.bel.size; omega)))) hql)
        rw [← hmq] at d4 OW
        have MQ := Lib.hid hmq
        have KE := Lib.hid hke
        have Q2 := Lib.hid hq2
        have EK := Lib.hid hek
        have LT := Lib.hid hlt
        have hlt' : (k : Int) < (L : Int) := by omega
        obtain ⟨ss, Y, hss, ho, hY, hstp⟩ := II.out.ex
        have OX := Lib.hid (And.intro hss (And.intro ho (And.intro hY hstp)))
        clear hee hje hs hh hx hec hl0 bw hq hq2 hek hql hmq hss ho hY hstp hx0 hk
        go_wp2_with fail
        refine OW.out.mono ?_
        rintro e w5 ⟨P5, rfl, h5, b5⟩
        have B5 := Lib.hid (bel2 (below_alloc_ wr (.cells #[.int .u64 x0, .int .u64 x1, .int .u8 x2, .int .u64 x3, .slice Asv mq csv] 59)) b5)
        have H5 := Lib.hid (h5.le (by simp) : Ow wr.heap.size w5 _ _ _ _ _)
        have hO5 := OX.out.2.1.below B5.out
        have O5 := Lib.hid hO5
        clear h5 b5 d0 d1 d2 d3 d4 hO5
        go_wp2_with (at_builtin; refine wpList_ow rfl _ _ 22 59 _ 5 56 rfl Tryd.underlying22 es_info rfl (by decide) rfl #[.int .u64 x0, .int .u64 x1, .int .u8 x2, .int .u64 x3, .slice P5 mq mq] O5.out (by have := II.out.le; have := B5.out.size; omega) rfl (fun u hu => news_one (by simpa using hu)) rfl (by have := LT.out; have := HJ.out; have := HL5.out; omega) (by unfold maxLen; have := LT.out; have := HJ.out; have := HL5.out; omega) ?_; intro v6 w8 hB6 hG6; have B8 := Lib.hid hB6; have G8 := Lib.hid hG6; obtain ⟨A6, c6, rfl, -, -⟩ := hB6.clip; clear hB6 hG6)
        go_roundw
        case rel =>
          refine ⟨k + 1, by go_num, LT.out, FrI.step KE.out OX.out.1 OX.out.2.2.1 OX.out.2.2.2 OX.out.2.1 II.out.bel II.out.le B5.out (s := .slice P5 mq mq) ?_ ⟨_, _, rfl⟩ ?_ G8.out⟩
          · rw [Q2.out, ← MQ.out]; exact H5.out
          · have := B8.out
            rw [show ecells (el[k]'KE.out, Value.slice P5 mq mq) = [.int .u64 x0, .int .u64 x1, .int .u8 x2, .int .u64 x3, .slice P5 mq mq] from by simp [ecells, EK.out, entryK, fc]]
            exact this
        case measure => have := LT.out; simp [intOf]; omega
      · obtain rfl : k = L := by omega
        have hend := II.out
        rw [LL.out] at hend
        obtain ⟨Y, y1, y2⟩ := hend.end_
        have FIN := Lib.hid (And.intro y1 y2)
        have hkc : k ≤ cb := by
          obtain ⟨_, _, -, ho, -⟩ := II.out.ex
          obtain ⟨_, _, e, h, -⟩ := ho.clip
          injection e with _ _ e3
          rw [e3]; exact h
        have hk63 : k ≤ 4611686018427387904 := by have := HJ.out; have := HL5.out; omega
        clear hend y1 y2 hlt hk
        go_wp2_with fail
        refine (cen_clip Ab k cb wr hkc hk63).mono ?_
        rintro e w9 ⟨rfl, rfl⟩
        go_wp2
        go_ret
        rw [← LL.out] at FIN ⊢
        exact ⟨Ab, Y, rfl, FIN.out.1, fun q hq => ⟨Nat.le_trans B2.out.size (FIN.out.2 q hq).1, (FIN.out.2 q hq).2⟩, B2.out.trans (II.out.bel.mono B2.out.size)⟩
end Go.Proofs.YtnegondlkfeleaaDoor
