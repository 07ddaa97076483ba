/- The document's taker: a command. -/
import Derived.Test.YtielnocnnffdfaaGreatTkm
import Derived.Test.YtielnocnnffdfaaGreatRow
import Derived.Test.YtielnocnnffdfaaGreatJpc
namespace Go.Proofs.YtielnocnnffdfaaGreat
open Go.RowKit


theorem ow_apart_ {w w' : World} {B B' : Nat} {e e' : TypeId} {size size' n n' : Nat} {v v' : Value} {xs xs' : List Value} (h : Ow B w e size v n xs) (h' : Ow B' w e' size' v' n' xs') (hne : e ≠ e') (hg : w.grownBy w' v'.ownBlock) : Ow B w' e size v n xs := by
  rcases h with h | ⟨g, c, cur, rfl, hb, hk, h⟩
  · exact .inl h
  · exact .inr ⟨g, c, cur, rfl, hb, hk.grown hg (fun e => Ow.notat h' hk hne e.symm), h⟩
set_option maxHeartbeats 8000000 in
set_option maxRecDepth 100000 in
theorem tcmd_at (t : Nat) (s s2 : TS) (rows : List (List Int)) (w : World) (h : Ts w t s) (hL : rdL stepK 8 s = (rows, s2)) :
    Calls Tryz.prog 35 #[.pointer (some ⟨t, 0, none⟩)] w fun e w' => ∃ A c, e = .returned (.agg #[.slice A rows.length c]) ∧ Ow w.heap.size w' 91 10 (.slice A rows.length c) rows.length (rows.flatMap (fc stepK)) ∧ Ts w' t s2 ∧ w.grownBy w' (some t) := by
  have hlt := h.lt
  have b2 := below_alloc2_ w (.cells #[.slice none 0 0] 30) (.cells #[.slice none 0 0] 30)
  have k0 := (Blk.new w 30 #[.slice none 0 0]).alloc (.cells #[.slice none 0 0] 30)
  have k1 := Blk.new (w.alloc (.cells #[.slice none 0 0] 30)) 30 #[.slice none 0 0]
  rw [World.size_alloc] at k1
  obtain ⟨n, s1, hM⟩ : ∃ n s1, rdM 8 s = (n, s1) := ⟨_, _, rfl⟩
  have hn := rdM_le 8 s
  rw [hM] at hn
  simp only at hn
  have hL' : rdN stepK n s1 = (rows, s2) := by rw [← hL]; unfold rdL; rw [hM]
  have HL := Lib.hid hL'
  have HM := Lib.hid hM
  have T0 := Lib.hid (h.below b2)
  have KC0 := Lib.hid k1
  have K20 := Lib.hid k0
  have G0 := Lib.hid (grown_below_ b2 (some t))
  have hn' : (n : Int) ≤ 8 := by omega
  clear h hL hM hL' b2 k0 k1
  go_enter Tryz.func35, Tryz.ntmps35
  go_wp2_with fail
  refine (many_at t 8 s s1 n _ T0.out (by decide) HM.out).mono ?_
  rintro e w1 ⟨rfl, ht, hg⟩
  have T := Lib.hid ht
  have KC := Lib.hid (KC0.out.grown hg (fun e => by have := Option.some.inj e; omega))
  have K2 := Lib.hid (K20.out.grown hg (fun e => by have := Option.some.inj e; omega))
  have G := Lib.hid (grown_trans_ G0.out hg)
  clear ht hg T0 KC0 K20 G0
  go_wp2_with fail
  go_loopg [5] n (fun q ci wr => ∃ (j : Nat) (done : List (List Int)) (sj : TS) (v : Value), j ≤ n ∧ q = n - j ∧ ci = .int .i64 j ∧ done.length = j ∧ rdN stepK n s1 = (done ++ (rdN stepK (n - j) sj).1, (rdN stepK (n - j) sj).2) ∧ Ts wr t sj ∧ Blk wr (w.heap.size + 1) 30 #[v] ∧ Blk wr w.heap.size 30 #[.slice none 0 0] ∧ Ow w.heap.size wr 91 10 v j (done.flatMap (fc stepK)) ∧ w.grownBy wr (some t))
  case atStart => exact ⟨0, [], s1, .slice none 0 0, Nat.zero_le _, rfl, rfl, rfl, by simp, T.out, KC.out, K2.out, .inl ⟨rfl, rfl, rfl⟩, G.out⟩
  case round =>
    obtain ⟨j, done, sj, v, hj, hq, rfl, hdl, hrep, hT, hKC, hK2, hO, hG⟩ := hrel
    have HQ := Lib.hid hq
    have DL := Lib.hid hdl
    have RP := Lib.hid hrep
    have HT := Lib.hid hT
    have HKC := Lib.hid hKC
    have HK2 := Lib.hid hK2
    have HO := Lib.hid hO
    have HG := Lib.hid hG
    obtain ⟨ee, hee, he0, he1⟩ := hT.errno
    obtain ⟨Av, cv, rfl⟩ := hO.sl_
    have HE0 := Lib.hid he0
    have HE1 := Lib.hid he1
    have hwr : w.heap.size ≤ wr.heap.size := hG.size
    clear hq hdl hrep hT hKC hK2 hO hG he0 he1
    go_upto_region 4 with fail
    go_cut [18] (fun sb wx => sb = .bool (decide (j < n ∧ ee = 0)) ∧ wx = wr)
    case first =>
      by_cases hjn : j < n
      · have hjn' : (j : Int) < n := by omega
        by_cases hek : ee = 0
        · have b1 : (ee == 0) = true := by rw [hek]; rfl
          have HEK := Lib.hid hek
          clear hek
          go_wp2
          go_meet
          exact ⟨by simp [hjn, HEK.out], rfl⟩
        · have b1 : (ee == 0) = false := beq_eq_false_iff_ne.2 hek
          have HEK := Lib.hid hek
          clear hek
          go_wp2
          go_meet
          exact ⟨by simp [HEK.out], rfl⟩
      · have hjn' : ¬ (j : Int) < n := by omega
        go_wp2
        go_meet
        exact ⟨by simp [hjn], rfl⟩
    case rest =>
    obtain ⟨rfl, rfl⟩ := hcut
    by_cases hgo : j < n ∧ ee = 0
    · rw [decide_eq_true hgo]
      obtain ⟨hjn, hek⟩ := hgo
      have hjn' : (j : Int) < n := by omega
      obtain ⟨xs, rfl⟩ : ∃ xs, sj = .ok xs := by
        match sj, HE1 with
        | .ok xs, _ => exact ⟨xs, rfl⟩
        | .error q, HE1 => exact absurd hek (HE1.out q rfl).2
      have SP := Lib.hid (show rdN stepK (n - j) (.ok xs) = ((rdF stepK (.ok xs)).1 :: (rdN stepK (n - (j + 1)) (rdF stepK (.ok xs)).2).1, (rdN stepK (n - (j + 1)) (rdF stepK (.ok xs)).2).2) by rw [show n - j = n - (j + 1) + 1 from by omega]; rfl)
      clear hek hee
      obtain ⟨x0, s_1, hr0⟩ : ∃ a b, rd1 .u8 (.ok xs) = (a, b) := ⟨_, _, rfl⟩
      have R0 := Lib.hid hr0
      obtain ⟨x1, s_2, hr1⟩ : ∃ a b, rd1 .u8 s_1 = (a, b) := ⟨_, _, rfl⟩
      have R1 := Lib.hid hr1
      obtain ⟨x2, s_3, hr2⟩ : ∃ a b, rd1 .u8 s_2 = (a, b) := ⟨_, _, rfl⟩
      have R2 := Lib.hid hr2
      obtain ⟨x3, s_4, hr3⟩ : ∃ a b, rd1 .u8 s_3 = (a, b) := ⟨_, _, rfl⟩
      have R3 := Lib.hid hr3
      obtain ⟨x4, s_5, hr4⟩ : ∃ a b, rd1 .u8 s_4 = (a, b) := ⟨_, _, rfl⟩
      have R4 := Lib.hid hr4
      obtain ⟨x5, s_6, hr5⟩ : ∃ a b, rd1 .i64 s_5 = (a, b) := ⟨_, _, rfl⟩
      have R5 := Lib.hid hr5
      obtain ⟨x6, s_7, hr6⟩ : ∃ a b, rd1 .i64 s_6 = (a, b) := ⟨_, _, rfl⟩
      have R6 := Lib.hid hr6
      obtain ⟨x7, s_8, hr7⟩ : ∃ a b, rd1 .i64 s_7 = (a, b) := ⟨_, _, rfl⟩
      have R7 := Lib.hid hr7
      obtain ⟨x8, s_9, hr8⟩ : ∃ a b, rd1 .i64 s_8 = (a, b) := ⟨_, _, rfl⟩
      have R8 := Lib.hid hr8
      obtain ⟨x9, s_10, hr9⟩ : ∃ a b, rd1 .u64 s_9 = (a, b) := ⟨_, _, rfl⟩
      have R9 := Lib.hid hr9
      have RF := Lib.hid (show rdF stepK (.ok xs) = ([x0, x1, x2, x3, x4, x5, x6, x7, x8, x9], s_10) by simp only [stepK, rdF, hr0, hr1, hr2, hr3, hr4, hr5, hr6, hr7, hr8, hr9])
      clear hr0 hr1 hr2 hr3 hr4 hr5 hr6 hr7 hr8 hr9
      have bk := Blk.new wc 91 #[.int .u8 0, .int .u8 0, .int .u8 0, .int .u8 0, .int .u8 0, .int .i64 0, .int .i64 0, .int .i64 0, .int .i64 0, .int .u64 0]
      have B0 := Lib.hid bk
      have TT0 := Lib.hid (HT.out.below (below_alloc_ wc (.cells #[.int .u8 0, .int .u8 0, .int .u8 0, .int .u8 0, .int .u8 0, .int .i64 0, .int .i64 0, .int .i64 0, .int .i64 0, .int .u64 0] 91)))
      have GG0 := Lib.hid (grown_below_ (below_alloc_ wc (.cells #[.int .u8 0, .int .u8 0, .int .u8 0, .int .u8 0, .int .u8 0, .int .i64 0, .int .i64 0, .int .i64 0, .int .i64 0, .int .u64 0] 91)) (some t))
      have htl : t < wc.heap.size := HT.out.lt
      clear bk
      go_wp2_with fail
      refine (rd_u8 t (.ok xs) s_1 x0 _ TT0.out R0.out).mono ?_
      rintro e w1 ⟨rfl, ht, hg⟩
      have bk := B0.out.grown hg (fun e => by have := Option.some.inj e; omega)
      have f1 := bk.free
      have z1 := bk.cell 0
      simp only [List.getElem?_toArray, List.getElem?_cons_zero, List.getElem?_cons_succ] at z1
      have B1 := Lib.hid (show Blk (w1.setCell ⟨wc.heap.size, 0, none⟩ (.int .u8 x0)) wc.heap.size 91 #[.int .u8 x0, .int .u8 0, .int .u8 0, .int .u8 0, .int .u8 0, .int .i64 0, .int .i64 0, .int .i64 0, .int .i64 0, .int .u64 0] from by have := bk.set_ 0 (.int .u8 x0); simpa using this)
      have TT1 := Lib.hid (ht.grown (grown_set_ w1 wc.heap.size 0 (.int .u8 x0)) (fun k e => by have := Option.some.inj e; omega))
      have GG1 := Lib.hid (grown_far_ (grown_trans_ GG0.out hg) (p := ⟨wc.heap.size, 0, none⟩) (Nat.le_refl _) (.int .u8 x0))
      clear ht hg bk
      go_wp2_with fail
      refine (rd_u8 t s_1 s_2 x1 _ TT1.out R1.out).mono ?_
      rintro e w2 ⟨rfl, ht, hg⟩
      have bk := B1.out.grown hg (fun e => by have := Option.some.inj e; omega)
      have f2 := bk.free
      have z2 := bk.cell 1
      simp only [List.getElem?_toArray, List.getElem?_cons_zero, List.getElem?_cons_succ] at z2
      have B2 := Lib.hid (show Blk (w2.setCell ⟨wc.heap.size, 1, none⟩ (.int .u8 x1)) wc.heap.size 91 #[.int .u8 x0, .int .u8 x1, .int .u8 0, .int .u8 0, .int .u8 0, .int .i64 0, .int .i64 0, .int .i64 0, .int .i64 0, .int .u64 0] from by have := bk.set_ 1 (.int .u8 x1); simpa using this)
      have TT2 := Lib.hid (ht.grown (grown_set_ w2 wc.heap.size 1 (.int .u8 x1)) (fun k e => by have := Option.some.inj e; omega))
      have GG2 := Lib.hid (grown_far_ (grown_trans_ GG1.out hg) (p := ⟨wc.heap.size, 1, none⟩) (Nat.le_refl _) (.int .u8 x1))
      clear ht hg bk
      clear f1 z1
      go_wp2_with fail
      refine (rd_u8 t s_2 s_3 x2 _ TT2.out R2.out).mono ?_
      rintro e w3 ⟨rfl, ht, hg⟩
      have bk := B2.out.grown hg (fun e => by have := Option.some.inj e; omega)
      have f3 := bk.free
      have z3 := bk.cell 2
      simp only [List.getElem?_toArray, List.getElem?_cons_zero, List.getElem?_cons_succ] at z3
      have B3 := Lib.hid (show Blk (w3.setCell ⟨wc.heap.size, 2, none⟩ (.int .u8 x2)) wc.heap.size 91 #[.int .u8 x0, .int .u8 x1, .int .u8 x2, .int .u8 0, .int .u8 0, .int .i64 0, .int .i64 0, .int .i64 0, .int .i64 0, .int .u64 0] from by have := bk.set_ 2 (.int .u8 x2); simpa using this)
      have TT3 := Lib.hid (ht.grown (grown_set_ w3 wc.heap.size 2 (.int .u8 x2)) (fun k e => by have := Option.some.inj e; omega))
      have GG3 := Lib.hid (grown_far_ (grown_trans_ GG2.out hg) (p := ⟨wc.heap.size, 2, none⟩) (Nat.le_refl _) (.int .u8 x2))
      clear ht hg bk
      clear f2 z2
      go_wp2_with fail
      refine (rd_u8 t s_3 s_4 x3 _ TT3.out R3.out).mono ?_
      rintro e w4 ⟨rfl, ht, hg⟩
      have bk := B3.out.grown hg (fun e => by have := Option.some.inj e; omega)
      have f4 := bk.free
      have z4 := bk.cell 3
      simp only [List.getElem?_toArray, List.getElem?_cons_zero, List.getElem?_cons_succ] at z4
      have B4 := Lib.hid (show Blk (w4.setCell ⟨wc.heap.size, 3, none⟩ (.int .u8 x3)) wc.heap.size 91 #[.int .u8 x0, .int .u8 x1, .int .u8 x2, .int .u8 x3, .int .u8 0, .int .i64 0, .int .i64 0, .int .i64 0, .int .i64 0, .int .u64 0] from by have := bk.set_ 3 (.int .u8 x3); simpa using this)
      have TT4 := Lib.hid (ht.grown (grown_set_ w4 wc.heap.size 3 (.int .u8 x3)) (fun k e => by have := Option.some.inj e; omega))
      have GG4 := Lib.hid (grown_far_ (grown_trans_ GG3.out hg) (p := ⟨wc.heap.size, 3, none⟩) (Nat.le_refl _) (.int .u8 x3))
      clear ht hg bk
      clear f3 z3
      go_wp2_with fail
      refine (rd_u8 t s_4 s_5 x4 _ TT4.out R4.out).mono ?_
      rintro e w5 ⟨rfl, ht, hg⟩
      have bk := B4.out.grown hg (fun e => by have := Option.some.inj e; omega)
      have f5 := bk.free
      have z5 := bk.cell 4
      simp only [List.getElem?_toArray, List.getElem?_cons_zero, List.getElem?_cons_succ] at z5
      have B5 := Lib.hid (show Blk (w5.setCell ⟨wc.heap.size, 4, none⟩ (.int .u8 x4)) wc.heap.size 91 #[.int .u8 x0, .int .u8 x1, .int .u8 x2, .int .u8 x3, .int .u8 x4, .int .i64 0, .int .i64 0, .int .i64 0, .int .i64 0, .int .u64 0] from by have := bk.set_ 4 (.int .u8 x4); simpa using this)
      have TT5 := Lib.hid (ht.grown (grown_set_ w5 wc.heap.size 4 (.int .u8 x4)) (fun k e => by have := Option.some.inj e; omega))
      have GG5 := Lib.hid (grown_far_ (grown_trans_ GG4.out hg) (p := ⟨wc.heap.size, 4, none⟩) (Nat.le_refl _) (.int .u8 x4))
      clear ht hg bk
      clear f4 z4
      go_wp2_with fail
      refine (rd_i64 t s_5 s_6 x5 _ TT5.out R5.out).mono ?_
      rintro e w6 ⟨rfl, ht, hg⟩
      have bk := B5.out.grown hg (fun e => by have := Option.some.inj e; omega)
      have f6 := bk.free
      have z6 := bk.cell 5
      simp only [List.getElem?_toArray, List.getElem?_cons_zero, List.getElem?_cons_succ] at z6
      have B6 := Lib.hid (show Blk (w6.setCell ⟨wc.heap.size, 5, none⟩ (.int .i64 x5)) wc.heap.size 91 #[.int .u8 x0, .int .u8 x1, .int .u8 x2, .int .u8 x3, .int .u8 x4, .int .i64 x5, .int .i64 0, .int .i64 0, .int .i64 0, .int .u64 0] from by have := bk.set_ 5 (.int .i64 x5); simpa using this)
      have TT6 := Lib.hid (ht.grown (grown_set_ w6 wc.heap.size 5 (.int .i64 x5)) (fun k e => by have := Option.some.inj e; omega))
      have GG6 := Lib.hid (grown_far_ (grown_trans_ GG5.out hg) (p := ⟨wc.heap.size, 5, none⟩) (Nat.le_refl _) (.int .i64 x5))
      clear ht hg bk
      clear f5 z5
      go_wp2_with fail
      refine (rd_i64 t s_6 s_7 x6 _ TT6.out R6.out).mono ?_
      rintro e w7 ⟨rfl, ht, hg⟩
      have bk := B6.out.grown hg (fun e => by have := Option.some.inj e; omega)
      have f7 := bk.free
      have z7 := bk.cell 6
      simp only [List.getElem?_toArray, List.getElem?_cons_zero, List.getElem?_cons_succ] at z7
      have B7 := Lib.hid (show Blk (w7.setCell ⟨wc.heap.size, 6, none⟩ (.int .i64 x6)) wc.heap.size 91 #[.int .u8 x0, .int .u8 x1, .int .u8 x2, .int .u8 x3, .int .u8 x4, .int .i64 x5, .int .i64 x6, .int .i64 0, .int .i64 0, .int .u64 0] from by have := bk.set_ 6 (.int .i64 x6); simpa using this)
      have TT7 := Lib.hid (ht.grown (grown_set_ w7 wc.heap.size 6 (.int .i64 x6)) (fun k e => by have := Option.some.inj e; omega))
      have GG7 := Lib.hid (grown_far_ (grown_trans_ GG6.out hg) (p := ⟨wc.heap.size, 6, none⟩) (Nat.le_refl _) (.int .i64 x6))
      clear ht hg bk
      clear f6 z6
      go_wp2_with fail
      refine (rd_i64 t s_7 s_8 x7 _ TT7.out R7.out).mono ?_
      rintro e w8 ⟨rfl, ht, hg⟩
      have bk := B7.out.grown hg (fun e => by have := Option.some.inj e; omega)
      have f8 := bk.free
      have z8 := bk.cell 7
      simp only [List.getElem?_toArray, List.getElem?_cons_zero, List.getElem?_cons_succ] at z8
      have B8 := Lib.hid (show Blk (w8.setCell ⟨wc.heap.size, 7, none⟩ (.int .i64 x7)) wc.heap.size 91 #[.int .u8 x0, .int .u8 x1, .int .u8 x2, .int .u8 x3, .int .u8 x4, .int .i64 x5, .int .i64 x6, .int .i64 x7, .int .i64 0, .int .u64 0] from by have := bk.set_ 7 (.int .i64 x7); simpa using this)
      have TT8 := Lib.hid (ht.grown (grown_set_ w8 wc.heap.size 7 (.int .i64 x7)) (fun k e => by have := Option.some.inj e; omega))
      have GG8 := Lib.hid (grown_far_ (grown_trans_ GG7.out hg) (p := ⟨wc.heap.size, 7, none⟩) (Nat.le_refl _) (.int .i64 x7))
      clear ht hg bk
      clear f7 z7
      go_wp2_with fail
      refine (rd_i64 t s_8 s_9 x8 _ TT8.out R8.out).mono ?_
      rintro e w9 ⟨rfl, ht, hg⟩
      have bk := B8.out.grown hg (fun e => by have := Option.some.inj e; omega)
      have f9 := bk.free
      have z9 := bk.cell 8
      simp only [List.getElem?_toArray, List.getElem?_cons_zero, List.getElem?_cons_succ] at z9
      have B9 := Lib.hid (show Blk (w9.setCell ⟨wc.heap.size, 8, none⟩ (.int .i64 x8)) wc.heap.size 91 #[.int .u8 x0, .int .u8 x1, .int .u8 x2, .int .u8 x3, .int .u8 x4, .int .i64 x5, .int .i64 x6, .int .i64 x7, .int .i64 x8, .int .u64 0] from by have := bk.set_ 8 (.int .i64 x8); simpa using this)
      have TT9 := Lib.hid (ht.grown (grown_set_ w9 wc.heap.size 8 (.int .i64 x8)) (fun k e => by have := Option.some.inj e; omega))
      have GG9 := Lib.hid (grown_far_ (grown_trans_ GG8.out hg) (p := ⟨wc.heap.size, 8, none⟩) (Nat.le_refl _) (.int .i64 x8))
      clear ht hg bk
      clear f8 z8
      go_wp2_with fail
      refine (rd_u64 t s_9 s_10 x9 _ TT9.out R9.out).mono ?_
      rintro e w10 ⟨rfl, ht, hg⟩
      have bk := B9.out.grown hg (fun e => by have := Option.some.inj e; omega)
      have f10 := bk.free
      have z10 := bk.cell 9
      simp only [List.getElem?_toArray, List.getElem?_cons_zero, List.getElem?_cons_succ] at z10
      have B10 := Lib.hid (show Blk (w10.setCell ⟨wc.heap.size, 9, none⟩ (.int .u64 x9)) wc.heap.size 91 #[.int .u8 x0, .int .u8 x1, .int .u8 x2, .int .u8 x3, .int .u8 x4, .int .i64 x5, .int .i64 x6, .int .i64 x7, .int .i64 x8, .int .u64 x9] from by have := bk.set_ 9 (.int .u64 x9); simpa using this)
      have TT10 := Lib.hid (ht.grown (grown_set_ w10 wc.heap.size 9 (.int .u64 x9)) (fun k e => by have := Option.some.inj e; omega))
      have GG10 := Lib.hid (grown_far_ (grown_trans_ GG9.out hg) (p := ⟨wc.heap.size, 9, none⟩) (Nat.le_refl _) (.int .u64 x9))
      clear ht hg bk
      clear f9 z9
      go_upto_region 17 with fail
      clear f10 z10
      obtain ⟨X, hX⟩ : ∃ X, X = (w10.setCell ⟨wc.heap.size, 9, none⟩ (.int .u64 x9)) := ⟨_, rfl⟩
      rw [← hX] at B10 TT10 GG10
      rw [← hX]
      clear hX
      have BX := Lib.hid B10.out
      have TX := Lib.hid TT10.out
      have GX := Lib.hid GG10.out
      clear B10 TT10 GG10
      have bx := BX.out
      have y0 := bx.cell 0
      have y1 := bx.cell 1
      have y2 := bx.cell 2
      have y3 := bx.cell 3
      have y4 := bx.cell 4
      have y5 := bx.cell 5
      have y6 := bx.cell 6
      have y7 := bx.cell 7
      have y8 := bx.cell 8
      have y9 := bx.cell 9
      simp only [List.getElem?_toArray, List.getElem?_cons_zero, List.getElem?_cons_succ] at y0 y1 y2 y3 y4 y5 y6 y7 y8 y9
      have kcx := HKC.out.grown GX.out (fun e => by have := Option.some.inj e; omega)
      have fx := kcx.free
      have zx := kcx.cell 0
      simp only [List.getElem?_toArray, List.getElem?_cons_zero, List.getElem?_cons_succ] at zx
      have KCX := Lib.hid kcx
      have K2X := Lib.hid (HK2.out.grown GX.out (fun e => by have := Option.some.inj e; omega))
      have OX := Lib.hid (ow_grown_ HO.out GX.out (fun k e => by have := Option.some.inj e; omega))
      clear kcx
      have hWX : w.heap.size ≤ X.heap.size := Nat.le_trans hwr GX.out.size
      go_wp2_with (at_builtin; go_must (refine wpList_ow rfl _ _ 28 91 (.agg #[.int .u8 0, .int .u8 0, .int .u8 0, .int .u8 0, .int .u8 0, .int .i64 0, .int .i64 0, .int .i64 0, .int .i64 0, .int .u64 0]) 10 48 rfl Tryz.underlying28 step_info rfl (by decide) rfl #[.int .u8 x0, .int .u8 x1, .int .u8 x2, .int .u8 x3, .int .u8 x4, .int .i64 x5, .int .i64 x6, .int .i64 x7, .int .i64 x8, .int .u64 x9] OX.out hWX rfl (by simp [Value.oneCell']) rfl (by omega) (by unfold maxLen; omega) ?_); intro v3 w30 hO3 hg3; obtain ⟨A3, c3, rfl⟩ := hO3.sl_; have kc3 := KCX.out.grown hg3.1 (fun e => Ow.notat OX.out KCX.out (by decide) e.symm); have f30 := kc3.free; have z30 := kc3.cell 0; simp only [List.getElem?_toArray, List.getElem?_cons_zero, List.getElem?_cons_succ] at z30; have KC3 := Lib.hid kc3; have O3 := Lib.hid hO3; have G3 := Lib.hid hg3; clear kc3 hO3 hg3)
      go_roundg (n - (j + 1))
      case measure => have := HQ.out; omega
      case rel =>
        refine ⟨j + 1, done ++ [[x0, x1, x2, x3, x4, x5, x6, x7, x8, x9]], s_10, .slice A3 (j + 1) c3, by omega, rfl, by go_num, by simp [DL.out], ?_, ?_, ?_, ?_, ?_, ?_⟩
        · rw [RP.out, SP.out, RF.out]
          simp
        · exact (TX.out.grown G3.out.1 (fun k e => by have := Ow.blk_lt OX.out k e; omega)).grown (grown_set_ _ ((w.heap.size + 1)) 0 _) (fun k e => by have := Option.some.inj e; omega)
        · have := KC3.out.set_ 0 (.slice A3 (j + 1) c3)
          simpa using this
        · exact (K2X.out.grown G3.out.1 (fun e => Ow.notat OX.out K2X.out (by decide) e.symm)).far (p := ⟨(w.heap.size + 1), 0, none⟩) (by simp) _
        · have := Ow.aside O3.out KC3.out (by decide) 0 (.slice A3 (j + 1) c3)
          rw [List.flatMap_append]
          simpa [stepK, fc] using this
        · exact grown_far_ (grown_grew (grown_trans_ HG.out GX.out) OX.out G3.out (Nat.le_refl _)) (p := ⟨(w.heap.size + 1), 0, none⟩) (by simp) _
    · rw [decide_eq_false hgo]
      have hend : rdN stepK (n - j) sj = ([], sj) := by
        match sj, HE0 with
        | .error q, _ => exact rdN_err _ _ _
        | .ok xs, HE0 =>
          have h0 := HE0.out xs rfl
          rw [show n - j = 0 from by omega]
          rfl
      have RN := Lib.hid (show rdN stepK n s1 = (done, sj) by rw [RP.out, hend]; simp)
      clear hend hgo hee
      have hrows : done = rows ∧ sj = s2 := by
        have h1 := RN.out
        rw [HL.out] at h1
        injection h1 with h1 h2
        exact ⟨h1.symm, h2.symm⟩
      obtain ⟨rfl, rfl⟩ := hrows
      have kcx := HKC.out
      have k2x := HK2.out
      have fx := k2x.free
      have zc := kcx.cell 0
      have z2 := k2x.cell 0
      simp only [List.getElem?_toArray, List.getElem?_cons_zero, List.getElem?_cons_succ] at zc z2
      clear kcx k2x
      go_wp2
      have bf := HK2.out.set_ 0 (.slice Av j cv)
      have yy := bf.cell 0
      simp at yy
      refine bodyPost_ret (v := .agg #[.slice Av j cv]) (by simp [results, Tryz.results35, go_sem, yy]) rfl ?_
      have hdl := DL.out
      subst hdl
      refine ⟨Av, cv, rfl, Ow.aside HO.out HK2.out (by decide) 0 _, HT.out.grown (grown_set_ _ w.heap.size 0 _) (fun k e => by have := Option.some.inj e; omega), grown_far_ HG.out (p := ⟨w.heap.size, 0, none⟩) (Nat.le_refl _) _⟩
/-- The value u reads as this command. -/
def cmdV (a : List (List Int)) (w : World) (u : Value) : Prop := ∃ A c, u = .agg #[.slice A a.length c] ∧ Steps w (.slice A a.length c) a
set_option maxHeartbeats 4000000 in
set_option maxRecDepth 100000 in
theorem rget_cmd (v : Value) (xs : List Int) (w : World) (h : Bs w v xs) (hby : ∀ c ∈ xs, byt c) (hl : xs.length ≤ 4611686018427387904) :
    Calls Tryz.prog 9 #[v] w (DPost (allP (cmdP xs)) cmdV (.agg #[.slice none 0 0]) w) := by
  have S := sim_all (P := cmdP) (sim_L stepK 8) xs
  obtain ⟨rows, s2, hL⟩ : ∃ a b, rdL stepK 8 (.ok xs) = (a, b) := ⟨_, _, rfl⟩
  rw [hL] at S
  have HL := Lib.hid hL
  clear hL
  have k0 := (Blk.new w 30 #[.slice none 0 0]).alloc (.cells #[v, .int .i64 0] 79)
  have ts := Ts.new_ (h.below (below_alloc_ w (.cells #[.slice none 0 0] 30))) hby hl
  rw [World.size_alloc] at ts
  have b2 := below_alloc2_ w (.cells #[.slice none 0 0] 30) (.cells #[v, .int .i64 0] 79)
  have K0 := Lib.hid k0
  have T0 := Lib.hid ts
  have B2 := Lib.hid b2
  have SS := Lib.hid S
  obtain ⟨A, c0, rfl, -⟩ := id h
  clear h hby hl k0 ts b2 S
  go_enter Tryz.func9, Tryz.ntmps9
  go_wp2_with fail
  refine (tcmd_at (w.heap.size + 1) (.ok xs) s2 rows _ T0.out HL.out).mono ?_
  rintro e w1 ⟨A1, c1, rfl, ho, ht, hg⟩
  have B1 := Lib.hid (B2.out.grown hg (by simp; omega) (fun k e => by have := Option.some.inj e; omega))
  have K1 := Lib.hid (K0.out.grown hg (fun e => by have := Option.some.inj e; omega))
  have ba := below_alloc_ w1 (.cells #[.slice A1 rows.length c1] 30)
  have TA := Lib.hid (ht.below ba)
  have BA := Lib.hid (B1.out.trans (ba.mono B1.out.size))
  have KA := Lib.hid (K1.out.below ba K1.out.lt)
  have KC := Lib.hid (Blk.new w1 30 #[.slice A1 rows.length c1])
  have OA := Lib.hid (ho.below ba)
  have hlt1 := K1.out.lt
  clear ht hg ba ho
  go_wp2_with fail
  refine (done_any _ _ _ TA.out).mono ?_
  rintro e w2 ⟨rfl, rfl⟩
  generalize w1.alloc (.cells #[.slice A1 rows.length c1] 30) = X at *
  have fz := KA.out.free
  have zz := KA.out.cell
  obtain ⟨d, hd⟩ : ∃ d, d = dn s2 := ⟨_, rfl⟩
  rw [← hd]
  have D := Lib.hid hd
  have z0 := KA.out.cell 0
  have c0_ := KC.out.cell 0
  simp only [List.getElem?_toArray, List.getElem?_cons_zero, List.getElem?_cons_succ] at z0 c0_
  clear hd zz
  by_cases hd0 : d = 0
  · have bd : (d != 0) = false := by rw [hd0]; rfl
    have HD0 := Lib.hid hd0
    clear hd0
    go_wp2
    have bf := (KA.out.set_ 0 (.slice A1 rows.length c1))
    have y0 := bf.cell 0
    simp at y0
    refine bodyPost_ret (v := .tuple #[.agg #[.slice A1 rows.length c1], .int .i64 0]) (by simp [results, Tryz.results9, go_sem, y0]) rfl ?_
    have S1 := SS.out
    rcases hq : allP (cmdP xs) with q | a
    · rw [hq] at S1
      simp only at S1
      have e1 : dn s2 = q := by rw [← S1]
      have e2 := allP_bad cod_cmd hq
      have e3 := D.out
      have e4 := HD0.out
      exfalso
      omega
    · rw [hq] at S1
      simp only at S1
      have e1 := S1.1
      rw [← hq]
      refine dpost_ok hq (BA.out.setCell (p := ⟨w.heap.size, 0, none⟩) (Nat.le_refl _) (.slice A1 rows.length c1)) ?_
      injection e1 with e1 e2
      subst e1
      exact ⟨A1, c1, rfl, (OA.out.far (p := ⟨w.heap.size, 0, none⟩) (by simp <;> omega) _).rd⟩
  · have bd : (d != 0) = true := by simpa using hd0
    have HD0 := Lib.hid hd0
    clear hd0
    go_wp2
    have bf := (KA.out.set_ 0 (.slice none 0 0))
    have y0 := bf.cell 0
    simp at y0
    refine bodyPost_ret (v := .tuple #[.agg #[.slice none 0 0], .int .i64 d]) (by simp [results, Tryz.results9, go_sem, y0]) rfl ?_
    have S1 := SS.out
    rcases hq : allP (cmdP xs) with q | a
    · rw [hq] at S1
      simp only at S1
      have e1 : dn s2 = q := by rw [← S1]
      rw [← hq]
      exact dpost_bad hq (BA.out.setCell (p := ⟨w.heap.size, 0, none⟩) (Nat.le_refl _) (.slice none 0 0)) (D.out.trans e1)
    · rw [hq] at S1
      simp only at S1
      exfalso
      refine HD0.out ?_
      rw [D.out]
      exact S1.2
end Go.Proofs.YtielnocnnffdfaaGreat
