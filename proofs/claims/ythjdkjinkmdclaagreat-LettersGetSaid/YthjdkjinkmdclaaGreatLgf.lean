/- Letters: getting entries: the code's. -/
import Derived.Test.YthjdkjinkmdclaaGreatLgc
import Derived.Test.YthjdkjinkmdclaaGreatLge
namespace Go.Proofs.YthjdkjinkmdclaaGreat
open Go.RowKit

/-- Entries; what is left. -/
def gAll (s : Gs) : List Ent × Gs := if 8 < (gNum s).1 then ([], ((gNum s).2.1, true)) else gEnts (gNum s).1 [] (gNum s).2
theorem gText_byt {s : Gs} (h : ∀ c ∈ s.1, byt c) : ∀ c ∈ (gText [] s).1, byt c := by
  unfold gText
  split
  · intro c hc; cases hc
  · intro c hc
    refine h c ?_
    have h1 := List.mem_of_mem_take hc
    unfold gNum at h1
    split at h1
    · exact List.mem_of_mem_drop h1
    · exact h1
theorem gNum_len (s : Gs) : (gNum s).2.1.length ≤ s.1.length := by
  unfold gNum; split
  · simp
  · simp
theorem gText_len {s : Gs} : (gText [] s).1.length ≤ s.1.length := by
  unfold gText
  split
  · simp
  · have := gNum_len s
    simp only [List.length_take]; omega

set_option maxHeartbeats 8000000 in
set_option maxRecDepth 100000 in
theorem hents_any {W0 w : World} {p : Nat} {s : Gs} (h : Gl W0 w p s) {g o : Nat} {cs : Array Value} (hg : Blk w g 36 cs) (hg0 : W0.heap.size ≤ g) (hd : cs[o]? = some (.slice none 0 0)) :
    Calls Tryz.prog 117 #[.pointer (some ⟨p, 0, none⟩), .pointer (some ⟨g, o, none⟩)] w fun e w' => e = .returned (.tuple #[]) ∧ ∃ v', Gl W0 w' p (gAll s).2 ∧ Blk w' g 36 (cs.setIfInBounds o v') ∧ Kq w w' p g ∧ EntsO w.heap.size w' v' (gAll s).1 ∧ Clp v' := by
  have b1 := below_alloc_ w (.cells #[.int .u64 0] 23)
  have k1 := Blk.new w 23 #[.int .u64 0]
  have CN := Lib.hid (hnum_any (o := 0) (h.below b1) k1 (by decide) h.bel.size (by decide))
  have hgq : g ≠ w.heap.size := by have := hg.lt; omega
  have hne := h.ne hg (by decide)
  have HN := Lib.hid (gNum_lt h.ok)
  have KB := Lib.hid (Kq.below b1 p g)
  have HG := Lib.hid (hg.below b1 hg.lt)
  have hpq : p ≠ w.heap.size := by have := h.lt; omega
  have hsame := Lib.hid (set_same hd)
  have W0S := Lib.hid h.bel.size
  have hos := Lib.hid (show o < cs.size from (Array.getElem?_eq_some_iff.1 hd).1)
  have HD := Lib.hid hd
  clear b1 k1 h
  have hT : gAll s = if 8 < (gNum s).1 then ([], ((gNum s).2.1, true)) else gEnts (gNum s).1 [] (gNum s).2 := rfl
  obtain ⟨n, hn⟩ : ∃ n, n = (gNum s).1 := ⟨_, rfl⟩
  obtain ⟨s', hs'⟩ : ∃ s', s' = (gNum s).2 := ⟨_, rfl⟩
  rw [← hn, ← hs'] at CN hT
  rw [← hn] at HN
  have HT := Lib.hid hT
  clear hn hs' hg hT
  have hn' : (n : Int) ≤ 18446744073709551615 := by have := HN.out; omega
  go_enter Tryz.func117, Tryz.ntmps117
  go_wp2_with fail
  refine CN.out.mono ?_
  rintro e w2 ⟨rfl, h1, k1, q1⟩
  have kg := q1.2 _ _ _ hne.symm hgq HG.out
  obtain ⟨A, c, hk, hf⟩ := h1.ex
  have fp := hk.free
  have c1 := hk.cell 1
  have d0 := k1.cell 0
  simp only [List.getElem?_toArray, List.getElem?_cons_zero, List.getElem?_cons_succ] at c1
  have d0' : w2.cell? ⟨w.heap.size, 0, none⟩ = some (.int .u64 n) := d0
  have QQ := Lib.hid (KB.out.aside q1 (Nat.le_refl _))
  have H1 := Lib.hid h1
  have KG := Lib.hid kg
  clear hk hf d0 h1 k1 kg q1 CN HG KB
  by_cases h8 : 8 < n
  · have h8' : (8 : Int) < n := by omega
    have FT := Lib.hid (show gAll s = ([], (s'.1, true)) by rw [HT.out, if_pos h8])
    clear HT
    go_wp2
    refine bodyPost_ret (results_none rfl _ _ _) rfl ⟨rfl, .slice none 0 0, ?_⟩
    rw [FT.out, hsame.out]
    exact ⟨H1.out.mark true, KG.out.far (p := ⟨p, 1, none⟩) hne.symm _, QQ.out.trans (Kq.setp g _), EntsO.nil_ _ _, ⟨_, _, rfl⟩⟩
  · have h8' : ¬ (8 : Int) < n := by omega
    have FT := Lib.hid (show gAll s = gEnts n [] s' by rw [HT.out, if_neg h8])
    clear HT
    go_wp2_with fail
    go_loopg [16] n (fun q c16 wr => ∃ (j : Nat) (es : List Ent) (sj : Gs) (v : Value), j ≤ n ∧ q = n - j ∧ c16 = .int .u64 j ∧ gEnts n [] s' = gEnts (n - j) es sj ∧ es.length ≤ j ∧ Gl W0 wr p sj ∧ Blk wr g 36 (cs.setIfInBounds o v) ∧ Kq w wr p g ∧ EntsO w.heap.size wr v es)
    case atStart => exact ⟨0, [], s', .slice none 0 0, Nat.zero_le _, by omega, rfl, rfl, Nat.zero_le _, H1.out, by rw [hsame.out]; exact KG.out, QQ.out, EntsO.nil_ _ _⟩
    case round =>
      obtain ⟨j, es, sj, v, hj, hq, rfl, hE, hel, hGl, hKg, hKq, hEO⟩ := hrel
      have Q := Lib.hid hq
      have GE := Lib.hid hE
      clear hq hE H1 KG QQ c1 d0' fp
      by_cases hjn : j < n
      · have hjn' : (j : Int) < n := by omega
        have hwj : IntKind.u64.wrap ((j : Int) + 1) = (j : Int) + 1 := IntWalk.u64_in _ (by omega)
        have hGE2 : gEnts (n - j) es sj = gEnts (n - (j + 1)) (es ++ [(getE (gText [] sj).1).1]) ((gText [] sj).2.1, (gText [] sj).2.2 || (getE (gText [] sj).1).2) := by
          rw [show n - j = (n - (j + 1)) + 1 from by omega]; rfl
        have GE2 := Lib.hid (GE.out.trans hGE2)
        have ba := below_alloc_ wr (.cells #[.slice none 0 0] 25)
        have CT := Lib.hid (htext_any (o := 0) (hGl.below ba) (Blk.new wr 25 #[.slice none 0 0]) (by decide) hGl.bel.size [] (.slice none 0 0) rfl)
        have TB := Lib.hid (gText_byt hGl.ok)
        have TL := Lib.hid (Nat.le_trans (gText_len (s := sj)) hGl.le)
        have hgr : g ≠ wr.heap.size := by have := hKg.lt; omega
        have hpr : p ≠ wr.heap.size := by have := hGl.lt; omega
        have KGa := Lib.hid (hKg.below ba hKg.lt)
        have EOa := Lib.hid (hEO.below ba)
        have KQa := Lib.hid (hKq.trans (Kq.below ba p g))
        obtain ⟨xt, hxt⟩ : ∃ x, x = (gText [] sj).1 := ⟨_, rfl⟩
        obtain ⟨st, hst⟩ : ∃ x, x = (gText [] sj).2 := ⟨_, rfl⟩
        rw [← hxt, ← hst] at CT GE2
        rw [← hxt] at TB TL
        obtain ⟨ap, cp, hkp0, -⟩ := (hGl.below ba).ex
        have KPa := Lib.hid hkp0
        have SZ := Lib.hid hKq.1
        clear hGE2 ba hGl hKg hEO hKq hxt hst hkp0 GE
        go_wp2_with fail
        refine CT.out.mono ?_
        rintro e w3 ⟨rfl, v3, hg3, hb3, hq3, hv3⟩
        have y3 : Bs w3 v3 xt := by
          rcases hv3 with ⟨rfl, h0⟩ | ⟨h0, -⟩
          · exact Bs.empty h0 rfl
          · exact h0.bs
        have d3 : w3.cell? ⟨wr.heap.size, 0, none⟩ = some v3 := (hb3.cell 0).trans rfl
        have KG3 := Lib.hid (hq3.2 _ _ _ hne.symm hgr KGa.out)
        have EO3 := Lib.hid (EOa.out.kq hq3 KPa.out (by decide) (by decide) (Blk.new wr 25 #[.slice none 0 0]) (by decide) (by decide))
        have KQ3 := Lib.hid (KQa.out.aside hq3 (by have := SZ.out; simpa using this))
        have Y3 := Lib.hid y3
        have G3 := Lib.hid hg3
        clear CT KGa EOa KQa KPa hg3 hb3 hq3 hv3 y3
        go_wp2_with fail
        refine (getentry_any v3 xt w3 Y3.out TB.out TL.out).mono ?_
        rintro e w4 ⟨x0, x1, x2, x3, A4, k, hx4, rfl, hk4, hs4, hb4⟩
        obtain ⟨en, hen⟩ : ∃ e, e = (getE xt).1 := ⟨_, rfl⟩
        obtain ⟨bb, hbb⟩ : ∃ e, e = (getE xt).2 := ⟨_, rfl⟩
        rw [← hen, ← hbb] at GE2
        rw [← hen] at hx4 hs4 ⊢
        rw [← hbb] at hk4
        obtain ⟨ef, rows⟩ := en
        simp only at hx4
        subst hx4
        simp only at hs4 ⊢
        obtain ⟨xs5, b5⟩ := st
        simp only at GE2
        have ba4 := below_alloc_ w4 (.cells #[.int .u64 x0, .int .u64 x1, .int .u8 x2, .int .u64 x3, .slice A4 rows.length rows.length] 63)
        have bb5 := hb4.trans (ba4.mono hb4.size)
        have G5 := G3.out.below bb5
        have KG5 := KG3.out.below bb5 KG3.out.lt
        have KQ5 := Lib.hid (KQ3.out.trans (Kq.below bb5 p g))
        have S5 := Lib.hid (hs4.below ba4)
        have E5 := Blk.new w4 63 #[.int .u64 x0, .int .u64 x1, .int .u8 x2, .int .u64 x3, .slice A4 rows.length rows.length]
        obtain ⟨ss, h1, h2', h3', h4⟩ := EO3.out
        have LT5 := Lib.hid (StO.all_lt h1 h3')
        have h2 := h2'.below bb5
        have H3 := Lib.hid (show ∀ (j : Nat) (h : j < es.length) (h' : j < ss.length), StO w.heap.size _ ss[j] es[j].2 from fun j a b => (h3' j a b).below bb5)
        obtain ⟨Av, cv, hv, -⟩ := id h2.clip
        subst hv
        obtain ⟨em, hem⟩ : ∃ m, m = es.length := ⟨_, rfl⟩
        have HEL := Lib.hid hel
        rw [← hem] at h2 KG5 EO3 hel
        have x_l : (w4.alloc (.cells #[.int .u64 x0, .int .u64 x1, .int .u8 x2, .int .u64 x3, .slice A4 rows.length rows.length] 63)).cell? ⟨g, o, none⟩ = some (.slice Av em cv) := (KG5.cell o).trans (by simp [hos.out])
        obtain ⟨a5, c5, hkp5, -⟩ := id G5.ex
        have z_l := (hkp5.cell 1)
        simp only [List.getElem?_toArray, List.getElem?_cons_zero, List.getElem?_cons_succ] at z_l
        have y0 := E5.cell 0
        have y1 := E5.cell 1
        have y2 := E5.cell 2
        have y3 := E5.cell 3
        have y4 := E5.cell 4
        simp only [List.getElem?_toArray, List.getElem?_cons_zero, List.getElem?_cons_succ] at y0 y1 y2 y3 y4
        go_upto_region 9 with fail
        obtain ⟨nr, hnr⟩ : ∃ m, m = rows.length := ⟨_, rfl⟩
        rw [← hnr] at x_l z_l y0 y1 y2 y3 y4 h2 KG5 G5 H3 S5 hkp5 bb5 KQ5 ⊢
        obtain ⟨w5, hw5⟩ : ∃ w5, w5 = w4.alloc (.cells #[.int .u64 x0, .int .u64 x1, .int .u8 x2, .int .u64 x3, .slice A4 nr nr] 63) := ⟨_, rfl⟩
        rw [← hw5] at x_l z_l y0 y1 y2 y3 y4 h2 KG5 G5 H3 S5 hkp5 bb5 KQ5 ⊢
        have hq6 : w4.heap.size < w5.heap.size := by rw [hw5]; simp
        have hgl6 : g < w5.heap.size := KG5.lt
        have hpl6 : p < w5.heap.size := hkp5.lt
        have b6 := below_alloc_ w5 (.cells #[.int .u64 x0, .int .u64 x1, .int .u8 x2, .int .u64 x3, .slice A4 nr nr] 63)
        have KG6 := Lib.hid (show Blk (w5.alloc (.cells #[.int .u64 x0, .int .u64 x1, .int .u8 x2, .int .u64 x3, .slice A4 nr nr] 63)).drew g 36 _ from KG5.below b6.drew KG5.lt)
        have KP6 := Lib.hid (show Blk (w5.alloc (.cells #[.int .u64 x0, .int .u64 x1, .int .u8 x2, .int .u64 x3, .slice A4 nr nr] 63)).drew p 84 _ from hkp5.below b6.drew hkp5.lt)
        have O6 := Lib.hid (show Ow w.heap.size (w5.alloc (.cells #[.int .u64 x0, .int .u64 x1, .int .u8 x2, .int .u64 x3, .slice A4 nr nr] 63)).drew 63 5 (.slice Av em cv) em ((es.zip ss).flatMap ecells) from h2.below b6.drew)
        have R6 := Lib.hid (show Rd (w5.alloc (.cells #[.int .u64 x0, .int .u64 x1, .int .u8 x2, .int .u64 x3, .slice A4 nr nr] 63)).drew 5 (.slice (some ⟨w5.heap.size, 0, none⟩) 1 1) 1 (ecells (([x0, x1, x2, x3], rows), .slice A4 nr nr)) from Rd.lits w5 63 5 1 [.int .u64 x0, .int .u64 x1, .int .u8 x2, .int .u64 x3, .slice A4 nr nr] rfl)
        have x6 : (w5.alloc (.cells #[.int .u64 x0, .int .u64 x1, .int .u8 x2, .int .u64 x3, .slice A4 nr nr] 63)).cell? ⟨g, o, none⟩ = some (.slice Av em cv) := (b6.cell hgl6).trans x_l
        have z6 : (w5.alloc (.cells #[.int .u64 x0, .int .u64 x1, .int .u8 x2, .int .u64 x3, .slice A4 nr nr] 63)).cell? ⟨p, 1, none⟩ = some (.bool b5) := (b6.cell hpl6).trans z_l
        have SS := Lib.hid (show ∀ w7 v7, Ow w.heap.size w7 63 5 v7 (em + 1) ((es.zip ss).flatMap ecells ++ ecells (([x0, x1, x2, x3], rows), .slice A4 nr nr)) → Grew (w5.alloc (.cells #[.int .u64 x0, .int .u64 x1, .int .u8 x2, .int .u64 x3, .slice A4 nr nr] 63)).drew w7 (.slice Av em cv) v7 →
            (w7.cell? ⟨g, o, none⟩ = some (.slice Av em cv) ∧ w7.cell? ⟨p, 1, none⟩ = some (.bool b5) ∧ (∀ i, w7.frozen? ⟨g, i, none⟩ = false) ∧ (∀ i, w7.frozen? ⟨p, i, none⟩ = false)) ∧ ∀ b', Gl W0 ((w7.setCell ⟨g, o, none⟩ v7).setCell ⟨p, 1, none⟩ (.bool b')) p (xs5, b') ∧ Blk ((w7.setCell ⟨g, o, none⟩ v7).setCell ⟨p, 1, none⟩ (.bool b')) g 36 (cs.setIfInBounds o v7) ∧ Kq w ((w7.setCell ⟨g, o, none⟩ v7).setCell ⟨p, 1, none⟩ (.bool b')) p g ∧ EntsO w.heap.size ((w7.setCell ⟨g, o, none⟩ v7).setCell ⟨p, 1, none⟩ (.bool b')) v7 (es ++ [([x0, x1, x2, x3], rows)]) from by
          intro w7 v7 ho7 hg7
          have g6 := (G5.below b6).drew
          have g7 := g6.grew O6.out W0S.out hg7
          have kg7 := KG6.out.grown hg7.1 (fun e => Ow.notat O6.out KG6.out (by decide) e.symm)
          have kp7 := KP6.out.grown hg7.1 (fun e => Ow.notat O6.out KP6.out (by decide) e.symm)
          have q7 := ((KQ5.out.trans (Kq.below b6 p g)).trans (Kq.drew _ p g)).grew O6.out hg7
          refine ⟨⟨(kg7.cell o).trans (by simp [hos.out]), (kp7.cell 1).trans (by simp), kg7.free, kp7.free⟩, fun b' => ?_⟩
          have eo7 : EntsO w.heap.size w7 v7 (es ++ [([x0, x1, x2, x3], rows)]) := by
            have hs6 : StO w3.heap.size (w5.alloc (.cells #[.int .u64 x0, .int .u64 x1, .int .u8 x2, .int .u64 x3, .slice A4 nr nr] 63)).drew (.slice A4 nr nr) rows := S5.out.below b6.drew
            obtain ⟨A', q1, q2⟩ := hs6
            refine EntsO.snoc (B1 := w3.heap.size) h1 (by rw [← hem]; exact O6.out) (fun j a b => (H3.out j a b).below b6.drew) h4 hg7 (by rw [← hem]; exact ho7) ⟨A', q1, q2.grew O6.out hg7 (by decide)⟩ KQ3.out.1 LT5.out
          obtain ⟨f1, f2, f3⟩ : Gl W0 ((w7.setCell ⟨g, o, none⟩ v7).setCell ⟨p, 1, none⟩ (.bool b')) p (xs5, b') ∧ Blk ((w7.setCell ⟨g, o, none⟩ v7).setCell ⟨p, 1, none⟩ (.bool b')) g 36 ((cs.setIfInBounds o (.slice Av em cv)).setIfInBounds o v7) ∧ Kq w7 ((w7.setCell ⟨g, o, none⟩ v7).setCell ⟨p, 1, none⟩ (.bool b')) p g :=
            ⟨(g7.setg hne hg0 o v7).mark b', (kg7.set_ o v7).far (p := ⟨p, 1, none⟩) hne.symm _, (Kq.setg (g := g) (i := o) p v7).trans (Kq.setp (p := p) (i := 1) g _)⟩
          refine ⟨f1, ?_, q7.trans f3, eo7.kq f3 kp7 (by decide) (by decide) kg7 (by decide) (by decide)⟩
          rw [Array.setIfInBounds_setIfInBounds] at f2
          exact f2)
        have hem8 : em ≤ 8 := by omega
        have SZ6 := Lib.hid (show w.heap.size ≤ (w5.alloc (.cells #[.int .u64 x0, .int .u64 x1, .int .u8 x2, .int .u64 x3, .slice A4 nr nr] 63)).drew.heap.size from Nat.le_trans KQ5.out.1 b6.size)
        have HH := Lib.hid hk4
        clear hw5 h2 h2' h3' h4 KG5 G5 H3 S5 hkp5 bb5 KQ5 h1 hem hb4 hs4 ba4 E5 b6 G3 KG3 KQ3 EO3 Y3 TB TL hk4 hen hbb hnr d3 LT5 W0S HN HD hn' hsame
        have ONE := Lib.hid (show ∀ u ∈ ecells (([x0, x1, x2, x3], rows), .slice A4 nr nr), u.oneCell' = true from by
          intro u hu
          have : u ∈ [Value.int .u64 x0, .int .u64 x1, .int .u8 x2, .int .u64 x3, .slice A4 nr nr] := hu
          simp only [List.mem_cons, List.not_mem_nil, or_false] at this
          rcases this with rfl | rfl | rfl | rfl | rfl <;> rfl)
        cases b5
        · by_cases hk0 : k = 0
          · subst hk0
            obtain rfl : bb = false := by have := HH.out; simpa using this.symm
            go_region_law (first
              | (refine step_ow_rows rfl _ _ 24 63 (.agg #[.int .u64 0, .int .u64 0, .int .u8 0, .int .u64 0, .slice none 0 0]) 5 56 rfl Tryz.underlying24 entry_info rfl (by decide) rfl O6.out SZ6.out R6.out ONE.out rfl (by omega) (by unfold maxLen; omega) ?_; intro v7 w7 ho7 hg7; obtain ⟨⟨x7, z7, f7, p7⟩, hfin⟩ := SS.out w7 v7 ho7 hg7; have FN := Lib.hid hfin; obtain ⟨A7, c7, rfl⟩ := Ow.sl_ ho7; clear ho7 hg7 hfin))
            all_goals
              go_wp2
              go_roundg (n - (j + 1))
              case measure => have := Q.out; omega
              case rel =>
                obtain ⟨f1, f2, f3, f4⟩ := FN.out false
                exact ⟨j + 1, _, _, _, by omega, rfl, by go_num, by rw [GE2.out]; rfl, by rw [List.length_append]; exact Nat.add_le_add_right HEL.out 1, f1, f2, f3, f4⟩
          · have hkb : (k == 0) = false := beq_eq_false_iff_ne.2 hk0
            have hkb2 : (k != 0) = true := by simp [hk0]
            obtain rfl : bb = true := by have := HH.out; rw [← this]; exact decide_eq_true hk0
            go_region_law (first
              | (refine step_ow_rows rfl _ _ 24 63 (.agg #[.int .u64 0, .int .u64 0, .int .u8 0, .int .u64 0, .slice none 0 0]) 5 56 rfl Tryz.underlying24 entry_info rfl (by decide) rfl O6.out SZ6.out R6.out ONE.out rfl (by omega) (by unfold maxLen; omega) ?_; intro v7 w7 ho7 hg7; obtain ⟨⟨x7, z7, f7, p7⟩, hfin⟩ := SS.out w7 v7 ho7 hg7; have FN := Lib.hid hfin; obtain ⟨A7, c7, rfl⟩ := Ow.sl_ ho7; clear ho7 hg7 hfin))
            all_goals
              go_wp2
              go_roundg (n - (j + 1))
              case measure => have := Q.out; omega
              case rel =>
                obtain ⟨f1, f2, f3, f4⟩ := FN.out true
                exact ⟨j + 1, _, _, _, by omega, rfl, by go_num, by rw [GE2.out]; rfl, by rw [List.length_append]; exact Nat.add_le_add_right HEL.out 1, f1, f2, f3, f4⟩
        · first
          | go_region_law (first
            | (refine step_ow_rows rfl _ _ 24 63 (.agg #[.int .u64 0, .int .u64 0, .int .u8 0, .int .u64 0, .slice none 0 0]) 5 56 rfl Tryz.underlying24 entry_info rfl (by decide) rfl O6.out SZ6.out R6.out ONE.out rfl (by omega) (by unfold maxLen; omega) ?_; intro v7 w7 ho7 hg7; obtain ⟨⟨x7, z7, f7, p7⟩, hfin⟩ := SS.out w7 v7 ho7 hg7; have FN := Lib.hid hfin; obtain ⟨A7, c7, rfl⟩ := Ow.sl_ ho7; clear ho7 hg7 hfin))
          | fail
          all_goals
            go_wp2
            go_roundg (n - (j + 1))
            case measure => have := Q.out; omega
            case rel =>
              obtain ⟨f1, f2, f3, f4⟩ := FN.out true
              exact ⟨j + 1, _, _, _, by omega, rfl, by go_num, by rw [GE2.out]; (rw [Bool.true_or]), by rw [List.length_append]; exact Nat.add_le_add_right HEL.out 1, f1, f2, f3, f4⟩
      · obtain rfl : j = n := by omega
        obtain ⟨Av, cv, rfl, hcv, hEc⟩ := hEO.clip
        obtain ⟨ap, cp, hkp, -⟩ := hGl.ex
        have hfin := hEc.kq (Kq.setg (w := wr) (g := g) (i := o) p (.slice Av es.length es.length)) hkp (by decide) (by decide) hKg (by decide) (by decide)
        have x_l : wr.cell? ⟨g, o, none⟩ = some (.slice Av es.length cv) := (hKg.cell o).trans (by simp [hos.out])
        have fg := hKg.free
        have kset := hKg.set_ o (.slice Av es.length es.length)
        rw [Array.setIfInBounds_setIfInBounds] at kset
        have F1 := Lib.hid (hGl.setg hne hg0 o (.slice Av es.length es.length))
        have F2 := Lib.hid kset
        have F3 := Lib.hid (hKq.trans (Kq.setg (w := wr) (g := g) (i := o) p (.slice Av es.length es.length)))
        have F4 := Lib.hid hfin
        have GE2 := Lib.hid (show gAll s = (es, sj) by rw [FT.out, GE.out, Nat.sub_self]; rfl)
        obtain ⟨em, hem⟩ : ∃ m, m = es.length := ⟨_, rfl⟩
        rw [← hem] at x_l F1 F2 F3 F4 hcv hel
        clear hGl hKg hKq hEO hEc hkp hfin kset GE hem
        go_wp2_with fail
        refine (ent_clip Av em cv _ hcv (by omega)).mono ?_
        rintro e w9 ⟨rfl, rfl⟩
        go_wp2
        refine bodyPost_end (results_none rfl _ _ _) rfl ⟨rfl, .slice Av em em, ?_⟩
        rw [GE2.out]
        exact ⟨F1.out, F2.out, F3.out, F4.out, ⟨_, _, rfl⟩⟩
end Go.Proofs.YthjdkjinkmdclaaGreat
