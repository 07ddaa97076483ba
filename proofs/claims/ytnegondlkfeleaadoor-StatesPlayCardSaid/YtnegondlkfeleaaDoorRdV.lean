/- states.read; Open of a disk that has a promise. -/
import Derived.Test.YtnegondlkfeleaaDoorGet
import Derived.Test.YtnegondlkfeleaaDoorOneP
import Derived.Laws.ResultCell
namespace Go.Proofs.YtnegondlkfeleaaDoor
open Go.RowKit

/-- What a function hands back whose first result is a struct's cell. -/
theorem res_cell2 {fn : Func} {p u : Tmp} {ty : TypeId} (h : fn.results = #[.cell p ty, .tmp u]) {tmps : Array Value} {P : Program} {w : World} {g : Nat} {t : TypeId} {cs : Array Value} {fs : Array Field} (hk : Blk w g t cs)
    (hp : tmps.getD p undef = .pointer (some ⟨g, 0, none⟩)) (hu : P.underlying ty = some (.struct fs)) (hi : (P.info? ty).map (·.size) = some cs.size) :
    (results fn tmps).run P w = .ok (.tuple #[.agg cs, tmps.getD u undef]) w := by
  rw [results_cell_tmp h, hp]
  have hl := run_loadVar_row (P := P) w g t ty cs (0, 0) (.struct fs) hk hu rfl hi
  simp [asAddr, hl, Result.andThen]
theorem infV : (Tryd.prog.info? 110).map (·.size) = some 2 := by kernel_rfl
theorem u8_wrap_nat (n : Nat) : IntKind.u8.wrap (n : Int) = ((n % 256 : Nat) : Int) := by rw [IntKind.wrap_u8]; omega

set_option maxHeartbeats 1000000 in
set_option maxRecDepth 100000 in
theorem sread_any (v : Value) (xs : List Int) (w : World) (h : Bs w v xs) (hb : ∀ c ∈ xs, byt c) (T : Tab w) (hl : xs.length ≤ 70368744177664) :
    Calls Tryd.prog 48 #[v] w fun e w' => e = .returned (.tuple #[.agg #[.int .u64 (readV xs).1, .int .u8 (readV xs).2.1], .bool (readV xs).2.2]) ∧ Below w.heap.size w w' := by
  have b0 := below_alloc_ w (.cells #[.int .u64 0, .int .u8 0] 110)
  have k0 := Blk.new w 110 #[.int .u64 0, .int .u8 0]
  have GE := Lib.hid (fget_any v xs _ (h.below b0) hb (T.below b0) hl)
  have GB := Lib.hid (getF_byt hb)
  have GL := Lib.hid (getF_len (bs := xs))
  obtain ⟨A, c, rfl, -⟩ := id h
  obtain ⟨n, hn⟩ : ∃ n, n = xs.length := ⟨_, rfl⟩
  rw [← hn] at GE ⊢
  have NN := Lib.hid hn
  have B0 := Lib.hid b0
  have K0 := Lib.hid k0
  obtain ⟨r, hr⟩ : ∃ r, r = readV xs := ⟨_, rfl⟩
  rw [← hr]
  have ER := Lib.hid hr
  obtain ⟨g1, h1⟩ : ∃ s, s = (getF xs).1 := ⟨_, rfl⟩
  obtain ⟨g2, h2⟩ : ∃ s, s = (getF xs).2.1 := ⟨_, rfl⟩
  obtain ⟨g3, h3⟩ : ∃ s, s = (getF xs).2.2 := ⟨_, rfl⟩
  rw [← h1, ← h2, ← h3] at GE
  rw [← h1] at GB GL
  have EV := Lib.hid (show r = if g3 ≠ 0 ∨ g2 ≠ n then (0, 0, false) else ((tk g1).1, (tk (g1.drop (tk g1).2.1)).1 % 256, decide (0 < (tk g1).2.1) && decide (0 < (tk (g1.drop (tk g1).2.1)).2.1) &&
      decide ((tk g1).2.1 + (tk (g1.drop (tk g1).2.1)).2.1 = g1.length) && decide ((tk (g1.drop (tk g1).2.1)).1 ≤ 255)) from by rw [hr]; unfold readV; rw [← h1, ← h2, ← h3, ← hn])
  clear h hb T hl hn b0 k0 hr h1 h2 h3 ER
  obtain ⟨w0, hw0⟩ : ∃ w0, w0 = w.alloc (.cells #[.int .u64 0, .int .u8 0] 110) := ⟨_, rfl⟩
  rw [← hw0] at GE B0 K0
  have W0 := Lib.hid hw0
  clear hw0
  go_enter Tryd.func48, Tryd.ntmps48
  go_wp2_with fail
  rw [← W0.out]
  refine GE.out.mono ?_
  rintro e w1 ⟨P, rfl, hg, b1⟩
  have KB := K0.out.below b1 K0.out.lt
  have K1 := Lib.hid KB
  have B1 := Lib.hid (B0.out.trans (b1.mono B0.out.size))
  have c0 := KB.cell 0
  have c1 := KB.cell 1
  simp at c0 c1
  have f0 := KB.free 0
  have f1 := KB.free 1
  have HG := Lib.hid hg
  clear hg b1 KB
  by_cases hok : g3 = 0 ∧ g2 = n
  · obtain ⟨rfl, rfl⟩ := hok
    have EV2 := Lib.hid (show r = ((tk g1).1, (tk (g1.drop (tk g1).2.1)).1 % 256, decide (0 < (tk g1).2.1) && decide (0 < (tk (g1.drop (tk g1).2.1)).2.1) &&
      decide ((tk g1).2.1 + (tk (g1.drop (tk g1).2.1)).2.1 = g1.length) && decide ((tk (g1.drop (tk g1).2.1)).1 ≤ 255)) from by rw [EV.out, if_neg (by simp)])
    have TA := Lib.hid (Take_any _ g1 w1 HG.out.bs GB.out (by have := GL.out.1; omega))
    have TZ := Lib.hid (tk_size g1)
    clear EV
    rcases HG.out with ⟨hP, hL, hg⟩ | ⟨gb, cb, cur, hP, -⟩
    · injection hP with hP _ _
      subst hP
      obtain rfl : g1 = [] := by simpa [bc] using hg
      have RR := Lib.hid (show r = (0, 0, false) from by rw [EV2.out]; rfl)
      have TA0 := Lib.hid (show Calls Tryd.prog 82 #[.slice none 0 0] w1 fun e w' => e = .returned (.tuple #[.int .u64 0, .int .i64 0]) ∧ w1 = w' from TA.out)
      clear TA EV2 hL hg HG
      go_wp2_with fail
      refine TA0.out.mono ?_
      rintro e w2 ⟨rfl, rfl⟩
      go_wp2_with fail
      refine TA0.out.mono ?_
      rintro e w2 ⟨rfl, rfl⟩
      go_wp2
      refine bodyPost_ret (res_cell2 Tryd.results48 ((K1.out.set_ 0 _).set_ 1 _) rfl Tryd.underlying110 infV) rfl ?_
      rw [RR.out]
      exact ⟨by first | (simp; done) | (simp; omega), (B1.out.setCell (Nat.le_refl _) _).setCell (Nat.le_refl _) _⟩
    · injection hP with hP _ _
      subst hP
      obtain ⟨L, hL⟩ : ∃ L, L = g1.length := ⟨_, rfl⟩
      have SB := HG.out.bs
      rw [← hL] at SB
      have tz := TZ.out
      rw [← hL] at tz
      have S2 := SB.sub (tk g1).2.1 (L - (tk g1).2.1) (L - (tk g1).2.1) (by omega) (Nat.le_refl _)
      rw [List.take_of_length_le (by rw [List.length_drop, ← hL]; exact Nat.le_refl _), Nat.zero_add] at S2
      have TB := Lib.hid (Take_any _ (g1.drop (tk g1).2.1) w1 S2 (fun c hc => GB.out c (List.mem_of_mem_drop hc)) (by have := GL.out.1; rw [List.length_drop]; omega))
      have LL := Lib.hid (show L ≤ 8192 from by have := GL.out.1; omega)
      rw [← hL] at TA EV2 ⊢
      obtain ⟨t1, h1⟩ : ∃ s, s = (tk g1).1 := ⟨_, rfl⟩
      obtain ⟨t2, h2⟩ : ∃ s, s = (tk g1).2.1 := ⟨_, rfl⟩
      rw [← h2] at TB EV2 tz
      rw [← h1, ← h2] at TA
      rw [← h1] at EV2
      obtain ⟨u1, h3⟩ : ∃ s, s = (tk (g1.drop t2)).1 := ⟨_, rfl⟩
      obtain ⟨u2, h4⟩ : ∃ s, s = (tk (g1.drop t2)).2.1 := ⟨_, rfl⟩
      rw [← h3, ← h4] at TB EV2
      have uz : u2 ≤ 10 := by rw [h4]; exact (tk_size _).2
      have ul : u1 < 18446744073709551616 := by rw [h3]; exact tk_lt (fun c hc => GB.out c (List.mem_of_mem_drop hc))
      have hl := LL.out
      have i1 : (0 : Int) ≤ (t2 : Int) := by omega
      have i2 : (t2 : Int) ≤ (L : Int) := by omega
      have i3 : ((L : Int) - (t2 : Int)).toNat = L - t2 := by omega
      have wu := u8_wrap_nat u1
      by_cases hz : t2 = L
      · subst hz
        have hd0 : g1.drop t2 = [] := List.drop_of_length_le (by omega)
        have hu1 : u1 = 0 := by rw [h3, hd0]; rfl
        have hu2 : u2 = 0 := by rw [h4, hd0]; rfl
        have RR := Lib.hid (show r = (t1, 0, false) from by rw [EV2.out, hu1, hu2]; simp)
        have T0 := Lib.hid (show Calls Tryd.prog 82 #[.slice (some ⟨gb, 0, none⟩) 0 0] w1 fun e w' => e = .returned (.tuple #[.int .u64 0, .int .i64 0]) ∧ w1 = w' from Take_any _ [] w1 (Bs.nil_ _ _ _) (by simp) (by simp))
        clear SB S2 h1 h2 h3 h4 TZ hL HG GB GL TB EV2 hd0 hu1 hu2 wu uz ul
        go_wp2_with fail
        refine TA.out.mono ?_
        rintro e w2 ⟨rfl, rfl⟩
        go_wp2_with fail
        with_reducible refine T0.out.mono ?_
        rintro e w2 ⟨rfl, rfl⟩
        go_wp2
        all_goals
          refine bodyPost_ret (res_cell2 Tryd.results48 ((K1.out.set_ 0 _).set_ 1 _) rfl Tryd.underlying110 infV) rfl ?_
          rw [RR.out]
          exact ⟨by first | (simp; done) | (simp; omega), (B1.out.setCell (Nat.le_refl _) _).setCell (Nat.le_refl _) _⟩
      have j1 : ¬ L = t2 := fun e => hz e.symm
      have j2 : ¬ L - t2 = 0 := by omega
      have j3 : (t2 : Int) < (L : Int) := by omega
      have j4 : ¬ (L : Int) = (t2 : Int) := by omega
      have j5 : ¬ (t2 : Int) = (L : Int) := by omega
      clear SB S2 h1 h2 h3 h4 TZ hL HG GB GL
      go_wp2_with fail
      refine TA.out.mono ?_
      rintro e w2 ⟨rfl, rfl⟩
      go_wp2_with fail
      with_reducible refine TB.out.mono ?_
      rintro e w2 ⟨rfl, rfl⟩
      by_cases p1 : 0 < t2
      · have q1 : (0 : Int) < (t2 : Int) := by omega
        by_cases p2 : 0 < u2
        · have q2 : (0 : Int) < (u2 : Int) := by omega
          by_cases p3 : t2 + u2 = L
          · have q3 : (t2 : Int) + (u2 : Int) = (L : Int) := by omega
            by_cases p4 : u1 ≤ 255
            · have q4 : (u1 : Int) ≤ 255 := by omega
              have RR := Lib.hid (show r = (t1, u1 % 256, true) from by rw [EV2.out]; simp [p1, p2, p3, p4])
              clear EV2
              go_wp2
              refine bodyPost_ret (res_cell2 Tryd.results48 ((K1.out.set_ 0 _).set_ 1 _) rfl Tryd.underlying110 infV) rfl ?_
              rw [RR.out]
              exact ⟨by first | (simp; done) | (simp; omega), (B1.out.setCell (Nat.le_refl _) _).setCell (Nat.le_refl _) _⟩
            · have q4 : ¬ (u1 : Int) ≤ 255 := by omega
              have RR := Lib.hid (show r = (t1, u1 % 256, false) from by rw [EV2.out]; simp [p4])
              clear EV2
              go_wp2
              refine bodyPost_ret (res_cell2 Tryd.results48 ((K1.out.set_ 0 _).set_ 1 _) rfl Tryd.underlying110 infV) rfl ?_
              rw [RR.out]
              exact ⟨by first | (simp; done) | (simp; omega), (B1.out.setCell (Nat.le_refl _) _).setCell (Nat.le_refl _) _⟩
          · have q3 : ¬ (t2 : Int) + (u2 : Int) = (L : Int) := by omega
            have RR := Lib.hid (show r = (t1, u1 % 256, false) from by rw [EV2.out]; simp [p3])
            clear EV2
            go_wp2
            refine bodyPost_ret (res_cell2 Tryd.results48 ((K1.out.set_ 0 _).set_ 1 _) rfl Tryd.underlying110 infV) rfl ?_
            rw [RR.out]
            exact ⟨by first | (simp; done) | (simp; omega), (B1.out.setCell (Nat.le_refl _) _).setCell (Nat.le_refl _) _⟩
        · have q2 : ¬ (0 : Int) < (u2 : Int) := by omega
          have RR := Lib.hid (show r = (t1, u1 % 256, false) from by rw [EV2.out]; simp [p2])
          clear EV2
          go_wp2
          refine bodyPost_ret (res_cell2 Tryd.results48 ((K1.out.set_ 0 _).set_ 1 _) rfl Tryd.underlying110 infV) rfl ?_
          rw [RR.out]
          exact ⟨by first | (simp; done) | (simp; omega), (B1.out.setCell (Nat.le_refl _) _).setCell (Nat.le_refl _) _⟩
      · have q1 : ¬ (0 : Int) < (t2 : Int) := by omega
        have RR := Lib.hid (show r = (t1, u1 % 256, false) from by rw [EV2.out]; simp [p1])
        clear EV2
        go_wp2
        refine bodyPost_ret (res_cell2 Tryd.results48 ((K1.out.set_ 0 _).set_ 1 _) rfl Tryd.underlying110 infV) rfl ?_
        rw [RR.out]
        exact ⟨by first | (simp; done) | (simp; omega), (B1.out.setCell (Nat.le_refl _) _).setCell (Nat.le_refl _) _⟩
  · have hor : ¬ g3 = 0 ∨ ¬ (g2 : Int) = (n : Int) := by
      by_cases h : g3 = 0
      · right; intro e; exact hok ⟨h, by omega⟩
      · exact .inl h
    have RR := Lib.hid (show r = (0, 0, false) from by
      rw [EV.out, if_pos]
      by_cases h : g3 = 0
      · right; intro e; exact hok ⟨h, e⟩
      · exact .inl h)
    clear hok
    rcases hor with h3 | h2
    · go_wp2
      refine bodyPost_ret (res_cell2 Tryd.results48 ((K1.out.set_ 0 _).set_ 1 _) rfl Tryd.underlying110 infV) rfl ?_
      rw [RR.out]
      exact ⟨by first | (simp; done) | (simp; omega), (B1.out.setCell (Nat.le_refl _) _).setCell (Nat.le_refl _) _⟩
    · by_cases h3 : g3 = 0
      · go_wp2
        refine bodyPost_ret (res_cell2 Tryd.results48 ((K1.out.set_ 0 _).set_ 1 _) rfl Tryd.underlying110 infV) rfl ?_
        rw [RR.out]
        exact ⟨by first | (simp; done) | (simp; omega), (B1.out.setCell (Nat.le_refl _) _).setCell (Nat.le_refl _) _⟩
      · go_wp2
        refine bodyPost_ret (res_cell2 Tryd.results48 ((K1.out.set_ 0 _).set_ 1 _) rfl Tryd.underlying110 infV) rfl ?_
        rw [RR.out]
        exact ⟨by first | (simp; done) | (simp; omega), (B1.out.setCell (Nat.le_refl _) _).setCell (Nat.le_refl _) _⟩

end Go.Proofs.YtnegondlkfeleaaDoor
