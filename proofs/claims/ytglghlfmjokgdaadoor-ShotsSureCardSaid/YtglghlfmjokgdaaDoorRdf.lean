/- frames.frames: all frames of bytes, as an iterator. -/
import Derived.Test.YtglghlfmjokgdaaDoorShp
import Derived.Test.YtglghlfmjokgdaaDoorGet
import Derived.Test.YtglghlfmjokgdaaDoorRng
namespace Go.Proofs.YtglghlfmjokgdaaDoor
open Go.RowKit Go.Shelf
attribute [local go_sem] Oper.semAt_some

/-- A body, as yield is given it: its slice; where its frame ends. -/
abbrev Bod := Option Addr × Nat × Nat
def bodV (x : Bod) : Value := .slice x.1 x.2.1 x.2.1
def bodA (x : Bod) : Array Value := #[bodV x, .int .i64 (x.2.2 : Int)]
def lastTo (ys : List Bod) : Nat := (ys.getLast?.map (fun y => y.2.2)).getD 0
theorem lastTo_app (ys : List Bod) (x : Bod) : lastTo (ys ++ [x]) = x.2.2 := by simp [lastTo]
/-- Below n₀ nothing turns, no block of bytes does, and not the block Bx. -/
structure Kb (n₀ Bx : Nat) (W W' : World) : Prop where
  bel : Below n₀ W W'
  blk : ∀ g cs, Blk W g 5 cs → Blk W' g 5 cs
  box : ∀ t cs, Blk W Bx t cs → Blk W' Bx t cs
theorem Kb.trans {n₀ Bx : Nat} {A B C : World} (h : Kb n₀ Bx A B) (k : Kb n₀ Bx B C) : Kb n₀ Bx A C := ⟨h.bel.trans k.bel, fun g cs hb => k.blk g cs (h.blk g cs hb), fun t cs hb => k.box t cs (h.box t cs hb)⟩
theorem Kb.refl (n₀ Bx : Nat) (W : World) : Kb n₀ Bx W W := ⟨Below.refl _ _, fun _ _ h => h, fun _ _ h => h⟩
theorem Kb.of_below {n₀ Bx : Nat} {W W' : World} (h : Below W.heap.size W W') (hn : n₀ ≤ W.heap.size) : Kb n₀ Bx W W' := ⟨h.mono hn, fun _ _ hb => hb.below h hb.lt, fun _ _ hb => hb.below h hb.lt⟩
theorem Kb.put {n₀ Bx : Nat} (W : World) (l : Nat) (o o' : Obj) (hl : n₀ ≤ l) (h : W.heap[l]? = some o) (hc : o.isCells = false) : Kb n₀ Bx W (W.putObj l o') := by
  have hne : ∀ {g t : Nat} {cs : Array Value}, Blk W g t cs → g ≠ l := fun hb e => by subst e; unfold Blk at hb; rw [h] at hb; cases hb; cases hc
  have hlt : l < W.heap.size := (Array.getElem?_eq_some_iff.1 h).1
  refine ⟨⟨rfl, rfl, rfl, by simp [World.putObj], fun i hi => World.putObj_heap_other (by omega)⟩, fun g cs hb => (World.putObj_heap_other (hne hb)).trans hb, fun t cs hb => (World.putObj_heap_other (hne hb)).trans hb⟩
theorem Bo.kb {B : Nat} {W W' : World} {v : Value} {xs : List Int} (h : Bo B W v xs) (k : ∀ g cs, Blk W g 5 cs → Blk W' g 5 cs) : Bo B W' v xs := by
  rcases h with h0 | ⟨g, c, cur, rfl, hB, hb, h2⟩
  · exact .inl h0
  · exact .inr ⟨g, c, cur, rfl, hB, k g cur hb, h2⟩
/-- The bodies ys read as ls. -/
structure Rds (n₀ : Nat) (W : World) (ys : List Bod) (ls : List (List Int)) : Prop where
  len : ys.length = ls.length
  at_ : ∀ (j : Nat) (h : j < ys.length) (h' : j < ls.length), Bo n₀ W (bodV ys[j]) ls[j]
theorem Rds.nil (n₀ : Nat) (W : World) : Rds n₀ W [] [] := ⟨rfl, fun j h => absurd h (by simp)⟩
theorem Rds.kb {n₀ : Nat} {W W' : World} {ys : List Bod} {ls : List (List Int)} (h : Rds n₀ W ys ls) (k : ∀ g cs, Blk W g 5 cs → Blk W' g 5 cs) : Rds n₀ W' ys ls := ⟨h.len, fun j h1 h2 => (h.at_ j h1 h2).kb k⟩
theorem Rds.snoc {n₀ : Nat} {W : World} {ys : List Bod} {ls : List (List Int)} {y : Bod} {l : List Int} (h : Rds n₀ W ys ls) (hb : Bo n₀ W (bodV y) l) : Rds n₀ W (ys ++ [y]) (ls ++ [l]) := by
  have hl := h.len
  refine ⟨by simp [hl], fun j h1 h2 => ?_⟩
  rcases Nat.lt_or_ge j ys.length with hj | hj
  · rw [List.getElem_append_left hj, List.getElem_append_left (by omega)]
    exact h.at_ j hj (by omega)
  · obtain rfl : j = ys.length := by simp at h1; omega
    rw [List.getElem_append_right (Nat.le_refl _), List.getElem_append_right (by omega)]
    simpa [hl] using hb
theorem rds_own {n₀ B : Nat} (f : List Bod → List (List Int)) (p : List Bod → Prop) : OwnFrom B (fun ys W => Rds n₀ W ys (f ys) ∧ p ys) := fun s A C row hs hg hr =>
  ⟨hs.1.kb fun g cs hb => by
    refine (hg.block g hb.lt fun e => ?_).trans hb
    obtain ⟨_, o, ho, hc⟩ := hr g e.symm
    rw [show A.heap[g]? = some (.cells cs 5 (0, 0)) from hb] at ho
    (cases ho; cases hc), hs.2⟩

/-- A slice value whose address, if it has one, is a plain cell. -/
def Pl (v : Value) : Prop := ∃ A n c, v = .slice A n c ∧ (A = none ∨ ∃ g o, A = some ⟨g, o, none⟩)
theorem Pl.of_bo {B : Nat} {w : World} {v : Value} {xs : List Int} (h : Bo B w v xs) : Pl v := by
  rcases h with ⟨rfl, -⟩ | ⟨g, c, cur, rfl, -⟩
  · exact ⟨none, 0, 0, rfl, .inl rfl⟩
  · exact ⟨_, _, _, rfl, .inr ⟨g, 0, rfl⟩⟩
theorem Pl.of_bs {w : World} {v : Value} {xs : List Int} (h : Bs w v xs) (h0 : 0 < xs.length) : Pl v := by
  obtain ⟨A, c, rfl, -⟩ := id h
  obtain ⟨g, o, rfl⟩ := h.some_ h0
  exact ⟨_, _, _, rfl, .inr ⟨g, o, rfl⟩⟩

theorem frames_any (A : Option Addr) (n c : Nat) (w : World) : Calls Tryd.prog 104 #[.slice A n c] w fun e w' => e = .returned (.func (.func 121) #[] #[.pointer (some ⟨w.heap.size, 0, none⟩)]) ∧ w.alloc (.cells #[.slice A n c] 23) = w' := by
  go_enter Tryd.func104, Tryd.ntmps104
  go_wp2
  go_ret
  exact ⟨rfl, rfl⟩
theorem abides_ {β : Type} {B : Nat} {J : β → World → Prop} (h : AbidesFrom B J) {s : β} {W W' : World} (hs : J s W) (hb : Below W.heap.size W W') : J s W' := h s W _ none hs (grown_below_ hb none) (fun r e => by cases e)

set_option maxRecDepth 100000 in
set_option maxHeartbeats 4000000 in
theorem frames1_seq (n : Nat) (hn : 1 ≤ n) (bs : List Int) (A : Option Addr) (c Bx : Nat) (w1 w : World) (hby : ∀ c ∈ bs, byt c) (hl : bs.length ≤ 70368744177664) (T : Tab w1) (hB : Bs w1 (.slice A bs.length c) bs) (h0A : bs.length = 0 → A = none ∨ ∃ g o, A = some ⟨g, o, none⟩)
    (hb : Below w1.heap.size w1 w) (hBx : Blk w Bx 23 #[.slice A bs.length c]) :
    SeqW n Tryd.prog 121 #[.pointer (some ⟨Bx, 0, none⟩)] bodA (Kb w1.heap.size Bx) (fun ys W => Rds w1.heap.size W ys (rdF bs).1 ∧ lastTo ys = (rdF bs).2) (fun _ _ => True) bs.length w := by
  intro l J Jx W hW hJ hJx hY h0
  have hmix : Tryd.prog.follows .mixedOrders = true := by kernel_rfl
  have HY := Lib.hid hY
  have HJ := Lib.hid hJ
  have BY := Lib.hid hby
  have TT := Lib.hid T
  have HB := Lib.hid hB
  have HW := Lib.hid (show Below w1.heap.size w1 W from hb.trans (hW.mono hb.size))
  have HX := Lib.hid (hBx.below hW hBx.lt)
  have hcc : bs.length ≤ c := by obtain ⟨_, _, e, h, -⟩ := hB; cases e; exact h
  have hA : A = none ∨ ∃ g o, A = some ⟨g, o, none⟩ := by
    rcases Nat.eq_zero_or_pos bs.length with h | h
    · exact h0A h
    · exact .inr (hB.some_ h)
  clear hY hJ hJx hby T hB hb hW h0A hBx
  refine callsIn_of_wp Tryd.func121 rfl trivial ?_ rfl
  simp only [Tryd.ntmps121, List.size_toArray, List.length_cons, List.length_nil, Nat.reduceAdd, Nat.reduceSub, Array.replicate_succ, Array.replicate_zero, List.push_toArray, List.append_toArray, List.nil_append, List.cons_append]
  gi_wp2
  gi_loopw [3] (fun i wr => ∃ (pre : List Bod) (ls : List (List Int)) (k : Nat), i = .int .i64 (k : Int) ∧ k ≤ bs.length ∧ pre.length ≤ k ∧ lastTo pre = k ∧ J pre wr ∧ Kb w1.heap.size Bx W wr ∧ Rds w1.heap.size wr pre ls ∧ rdF bs = (ls ++ (rdF (bs.drop k)).1, k + (rdF (bs.drop k)).2))
    (fun i _ => bs.length - (intOf i).toNat)
  case atStart => exact ⟨[], [], 0, rfl, Nat.zero_le _, Nat.le_refl _, rfl, h0, Kb.refl _ _ _, Rds.nil _ _, by simp⟩
  case round =>
    obtain ⟨pre, ls, k, rfl, hto, hpl, hlast, hJs, hnx, hR, hF⟩ := hrel
    have cs : wr.cell? ⟨Bx, 0, none⟩ = some (.slice A bs.length c) := by have := (hnx.box _ _ HX.out).cell 0; simpa using this
    have RR := Lib.hid hR
    have FF := Lib.hid hF
    have LT := Lib.hid hlast
    have BW := HW.out.trans hnx.bel
    have HBr := Lib.hid (HB.out.below BW)
    have TR := Lib.hid (TT.out.below BW)
    have SZ := Lib.hid (show w1.heap.size ≤ wr.heap.size from BW.size)
    have NX := Lib.hid hnx
    clear hR hF hlast BW hnx
    obtain ⟨L, hL⟩ : ∃ L, L = bs.length := ⟨_, rfl⟩
    rw [← hL] at cs hto hcc hl HBr
    have LL := Lib.hid hL
    obtain ⟨r, hr⟩ : ∃ r, r = getF (bs.drop k) := ⟨_, rfl⟩
    have ER := Lib.hid hr
    have GL := Lib.hid (getF_len (bs := bs.drop k))
    have GB := Lib.hid (getF_bad (xs := bs.drop k))
    have GP := Lib.hid (getF_pos (xs := bs.drop k))
    have RB := Lib.hid (rdF_bad (xs := bs.drop k))
    have RO := Lib.hid (rdF_ok (xs := bs.drop k))
    rw [← ER.out] at GL GB GP RB RO
    clear hL hr
    rcases hA with rfl | ⟨g, o, rfl⟩
    · have h0 : L = 0 := by
        rcases Nat.eq_zero_or_pos L with h | h
        · exact h
        · have hs := HBr.out
          rw [LL.out] at hs
          obtain ⟨g, o, h⟩ := hs.some_ (by rw [← LL.out]; exact h); cases h
      subst h0
      obtain rfl : bs = [] := List.eq_nil_of_length_eq_zero LL.out.symm
      obtain rfl : k = 0 := by omega
      have GE := Lib.hid (fget_any _ [] wr (show Bs wr (.slice none 0 c) [] from HBr.out) (fun c hc => by cases hc) TR.out (by simp))
      obtain ⟨e2, he2⟩ : ∃ e2, getF [] = ([], 0, e2) := ⟨(getF []).2.2, rfl⟩
      have he : (e2 != 0) = true := by
        have := getF_none
        rw [he2] at this
        simpa using this
      rw [he2] at GE
      have DN := Lib.hid (show ([] : List Int).drop 0 = [] from rfl)
      have RN := Lib.hid (show rdF [] = ([], 0) from rdF_bad getF_none)
      clear he2
      gi_wp2_with fail
      refine ⟨trivial, (callsIn_wide.2 GE.out).mono ?_⟩
      rintro e w2 ⟨P, rfl, -, b1⟩
      have B1 := Lib.hid b1
      clear b1
      gi_wp2_with (refine wpListIn_skip rfl rfl ?_)
      refine bodyPost_ret (results_none rfl _ _ _) rfl ?_
      refine ⟨⟨_, rfl⟩, .inl ⟨pre, ⟨?_, ?_⟩, abides_ HJ.out hJs B1.out⟩⟩
      · have h : (rdF []).1 = ls := by
          have h := FF.out
          rw [DN.out] at h
          refine (congrArg Prod.fst h).trans ?_
          show ls ++ (rdF []).1 = ls
          rw [RN.out]
          exact List.append_nil _
        rw [h]
        exact RR.out.kb fun g cs hb => hb.below B1.out hb.lt
      · refine LT.out.trans (Eq.symm ?_)
        have h := FF.out
        rw [DN.out] at h
        refine (congrArg Prod.snd h).trans ?_
        show _ + (rdF []).2 = _ + 0
        rw [RN.out]
    · by_cases hck : c = k
      · obtain rfl : c = L := by omega
        obtain rfl : c = k := hck
        have GE := Lib.hid (fget_any _ [] wr (show Bs wr (.slice (some ⟨g, o, none⟩) 0 0) [] from ⟨_, _, rfl, Nat.le_refl _, rfl, .inl rfl⟩) (fun c hc => by cases hc) TR.out (by simp))
        obtain ⟨e2, he2⟩ : ∃ e2, getF [] = ([], 0, e2) := ⟨(getF []).2.2, rfl⟩
        have he : (e2 != 0) = true := by
          have := getF_none
          rw [he2] at this
          simpa using this
        rw [he2] at GE
        have DN := Lib.hid (show bs.drop c = [] from List.drop_eq_nil_of_le (by have := LL.out; omega))
        have RN := Lib.hid (show rdF [] = ([], 0) from rdF_bad getF_none)
        clear he2
        gi_wp2_with fail
        refine ⟨trivial, (callsIn_wide.2 GE.out).mono ?_⟩
        rintro e w2 ⟨P, rfl, -, b1⟩
        have B1 := Lib.hid b1
        clear b1
        gi_wp2_with (refine wpListIn_skip rfl rfl ?_)
        refine bodyPost_ret (results_none rfl _ _ _) rfl ?_
        refine ⟨⟨_, rfl⟩, .inl ⟨pre, ⟨?_, ?_⟩, abides_ HJ.out hJs B1.out⟩⟩
        · have h : (rdF bs).1 = ls := by
            have h := FF.out
            rw [DN.out] at h
            refine (congrArg Prod.fst h).trans ?_
            show ls ++ (rdF []).1 = ls
            rw [RN.out]
            exact List.append_nil _
          rw [h]
          exact RR.out.kb fun g cs hb => hb.below B1.out hb.lt
        · refine LT.out.trans (Eq.symm ?_)
          have h := FF.out
          rw [DN.out] at h
          refine (congrArg Prod.snd h).trans ?_
          show _ + (rdF []).2 = _ + 0
          rw [RN.out]
      have HS := Lib.hid (show Bs wr (.slice (some ⟨g, o + k, none⟩) (L - k) (c - k)) (bs.drop k) from by
        have h := HBr.out.sub k (L - k) (c - k) (by omega) (by omega)
        rwa [List.take_of_length_le (by rw [List.length_drop, ← LL.out]; exact Nat.le_refl _)] at h)
      have hto' : (k : Int) ≤ (L : Int) := by omega
      have GE := Lib.hid (fget_any _ (bs.drop k) wr HS.out (fun c hc => BY.out c (List.mem_of_mem_drop hc)) TR.out (by rw [List.length_drop, ← LL.out]; omega))
      rw [← ER.out] at GE
      have hkl : (k : Int) ≤ 70368744177664 := by omega
      obtain ⟨xs, n2, e2⟩ := r
      simp only at GE GL GB GP RB RO
      have hn2 : n2 ≤ L := by have := GL.out.2; rw [List.length_drop, ← LL.out] at this; omega
      gi_wp2_with fail
      refine ⟨trivial, (callsIn_wide.2 GE.out).mono ?_⟩
      rintro e w2 ⟨P, rfl, hP, b1⟩
      have PP := Lib.hid hP
      have B1 := Lib.hid b1
      clear hP b1
      by_cases he : e2 = 0
      · subst he
        have hp := GP.out rfl
        have hlk : k < L := by have := hp.1; have h2 := hp.2; rw [List.length_drop, ← LL.out] at h2; omega
        have J2 : J pre w2 := abides_ HJ.out hJs B1.out
        obtain ⟨fn, tmps, assign, body, hy, hR⟩ := HY.out pre (P, xs.length, k + n2) w2 J2 (by rw [← LL.out]; omega)
        unfold bodA bodV at hy
        simp only at hy
        rw [Int.natCast_add] at hy
        have YY := Lib.hid hy
        clear hy
        clear hp
        gi_wp2
        rw [YY.out]
        gi_wp2
        refine hR.mono ?_
        rintro e W3 (⟨rfl, hJ3, hk3⟩ | ⟨rfl, hJx3⟩)
        · gi_wp2
          have h5 := GP.out trivial
          have h6 := h5.2
          rw [List.length_drop, ← LL.out] at h6
          have bw : Kb w1.heap.size Bx wr W3 := (Kb.of_below B1.out SZ.out).trans hk3
          refine ⟨⟨pre ++ [(P, xs.length, k + n2)], ls ++ [xs], k + n2, by go_num, by rw [← LL.out]; omega, by have := h5.1; simp; omega, lastTo_app _ _, hJ3, NX.out.trans bw, ?_, ?_⟩, ?_⟩
          · exact (RR.out.kb bw.blk).snoc (Bo.kb (Bo.le PP.out SZ.out) hk3.blk)
          · have h := FF.out
            rw [RO.out trivial, List.drop_drop] at h
            rw [h]
            simp [Nat.add_assoc]
          · have := h5.1
            have := LL.out
            simp [intOf]; omega
        · gi_wp2
          refine bodyPost_ret (results_none rfl _ _ _) rfl ?_
          exact ⟨⟨_, rfl⟩, .inr ⟨_, trivial, hJx3⟩⟩
      · have he' : (e2 != 0) = true := by simpa using he
        obtain rfl : n2 = 0 := GB.out he
        gi_wp2_with (refine wpListIn_skip rfl rfl ?_)
        refine bodyPost_ret (results_none rfl _ _ _) rfl ?_
        refine ⟨⟨_, rfl⟩, .inl ⟨pre, ⟨?_, ?_⟩, abides_ HJ.out hJs B1.out⟩⟩
        · have h : (rdF bs).1 = ls := by
            have h := FF.out
            rw [RB.out he] at h
            exact (congrArg Prod.fst h).trans (List.append_nil _)
          rw [h]
          exact RR.out.kb fun g cs hb => hb.below B1.out hb.lt
        · have h := FF.out
          rw [RB.out he] at h
          exact LT.out.trans (congrArg Prod.snd h).symm
end Go.Proofs.YtglghlfmjokgdaaDoor
