/- PacksPut: the walk. -/
import Derived.Test.YtielnocnnffdfaaBka
import Derived.Test.YtielnocnnffdfaaTcl
import Derived.Test.YtielnocnnffdfaaRen
import Derived.Test.YtielnocnnffdfaaRrp
import Derived.Test.YtielnocnnffdfaaPlv
import Derived.Test.YtielnocnnffdfaaSmb
import Derived.Test.YtielnocnnffdfaaClp
namespace Go.Proofs.Ytielnocnnffdfaa
open Go.RowKit

/-- Bytes of one's own, as a page. -/
theorem Bo.page {B : Nat} {w : World} {v : Value} {xs : List Int} (h : Bo B w v xs) (hc : Clp v) (hx : xs.length ≤ 4611686018427387904) :
    ∃ lie, v = slOf lie ∧ (∀ m b, (⟨0, lie, m, b⟩ : Pg).In w False False) ∧ ∀ g, bkOf lie = some g → B ≤ g ∧ g < w.heap.size := by
  rcases h with ⟨rfl, _, _⟩ | ⟨g, c, cur, rfl, hB, hg, hcc, hl, hs, ht⟩
  · exact ⟨none, rfl, fun _ _ => trivial, fun _ h => by cases h⟩
  · obtain ⟨A, n, hv⟩ := hc
    injection hv with _ h2 h3
    have hcn : c = xs.length := h3.trans h2.symm
    refine ⟨some (g, xs.length, c), rfl, fun m b => ⟨cur, hg, hcc, by simpa [kK] using hs, by omega, fun h => h.elim, fun h => h.elim⟩, fun k hk => ?_⟩
    obtain rfl : g = k := by simpa [bkOf] using hk
    exact ⟨hB, hg.lt⟩
theorem Pg.In.keep {p : Pg} {w w' : World} {a b : Prop} (h : p.In w a b) (hk : ∀ g t cs, t ≠ 49 → t ≠ 124 → Blk w g t cs → Blk w' g t cs) : p.In w' a b := by
  obtain ⟨kd, lie, m, b0⟩ := p
  match lie, h with
  | none, _ => trivial
  | some (g, n, c), ⟨cur, hb, h1⟩ => exact ⟨cur, hk _ _ _ (fun e => kE_book kd e.symm) (fun e => kE_page kd e.symm) hb, h1⟩
theorem bk_own {lie : Option (Nat × Nat × Nat)} {g : Nat} (h : bkOf lie = some g) : (slOf lie).ownBlock = some g := by
  match lie, h with
  | some (g', _, _), h => simpa [bkOf, slOf, Value.ownBlock] using h
theorem Pg.In.keepA {p : Pg} {w : World} {a b : Prop} (h : p.In w a b) (o : Obj) : p.In (w.alloc o) a b := h.keep fun _ _ _ _ _ hk => hk.alloc o
theorem rd_far_ {w : World} {size n B : Nat} {v : Value} {xs : List Value} (h : Rd w size v n xs) (hl : n = 0 ∨ ∀ k, v.ownBlock = some k → k < B) {p : Addr} (hp : B ≤ p.block) {u : Value} : Rd (w.setCell p u) size v n xs := by
  obtain ⟨A, c, rfl, hc, hx, hh⟩ := h
  refine ⟨A, c, rfl, hc, hx, ?_⟩
  rcases hh with h0 | ⟨g, o, rfl, hg, hcell⟩
  · exact .inl h0
  rcases hl with h0 | hl
  · exact .inl h0
  · have hgB := hl g (by simp [Value.ownBlock])
    refine .inr ⟨g, o, rfl, by simpa using hg, fun j u' hj => ?_⟩
    exact (World.cell?_of_block (a := ⟨g, o + j, none⟩) (heap_setCell_other w p g u (by omega))).trans (hcell j u' hj)
theorem entryR_len {x0 x1 x2 x3 : Int} {r : List (List Int)} (f0 : fok1 .u64 x0) (f1 : fok1 .u64 x1) (f2 : fok1 .u8 x2) (f3 : fok1 .u64 x3) (hin : ∀ q ∈ r, fok stepK q) : (entryR ([x0, x1, x2, x3], r)).1.length ≤ 100000 := by
  unfold entryR; split
  · rename_i h; exact entryLen f0 f1 f2 f3 h hin
  · simp
theorem cmdR_len {r : List (List Int)} (hin : ∀ q ∈ r, fok stepK q) : (cmdR r).1.length ≤ 100000 := by
  unfold cmdR; split
  · rename_i h; exact cmdLen h hin
  · simp
theorem replyR_len {x0 x1 : Int} {r : List (List Int)} (f0 : fok1 .i64 x0) (f1 : fok1 .i64 x1) (hin : ∀ q ∈ r, fok gotK q) : (replyR ([x0, x1], r)).1.length ≤ 100000 := by
  unfold replyR; split
  · rename_i h; exact replyLen f0 f1 h hin
  · simp
set_option maxHeartbeats 8000000 in
set_option maxRecDepth 100000 in
theorem put_great (x0 x1 x2 x3 : Int) (r4 : List (List Int)) (A4 : Option Addr) (c4 : Nat) (E At : Int) (r2 : List (List Int)) (A2 : Option Addr) (c2 : Nat) (f0 : fok1 .u64 x0) (f1 : fok1 .u64 x1) (f2 : fok1 .u8 x2) (f3 : fok1 .u64 x3) (hin4 : ∀ q ∈ r4, fok stepK q) (hE : fok1 .i64 E) (hA : fok1 .i64 At) (hin2 : ∀ q ∈ r2, fok gotK q) (w : World)
    (hv4 : Steps w (.slice A4 r4.length c4) r4) (hv2 : Gots w (.slice A2 r2.length c2) r2) (h : 100 < r4.length ∨ 100 < r2.length) :
    Calls Try.prog 6 #[.agg #[.int .u64 x0, .int .u64 x1, .int .u8 x2, .int .u64 x3, .slice A4 r4.length c4], .agg #[.int .i64 E, .int .i64 At, .slice A2 r2.length c2]] w fun e w' => e = .returned (.bool true) ∧ Below w.heap.size w w' := by
  have B0 := Lib.hid (below_alloc2_ w (.cells #[.int .u64 x0, .int .u64 x1, .int .u8 x2, .int .u64 x3, .slice A4 r4.length c4] 71) (.cells #[.int .i64 E, .int .i64 At, .slice A2 r2.length c2] 33))
  clear hv4 hv2
  by_cases h1 : 100 < r4.length
  · have h1' : (100 : Int) < (r4.length : Int) := by omega
    go_enter Try.func6, Try.ntmps6
    go_wp2_with fail
    refine (plives _).mono ?_
    rintro e w1 ⟨rfl, hb⟩
    have B1 := Lib.hid (B0.out.trans (hb.mono B0.out.size))
    clear hb
    go_wp2
    go_ret
    exact ⟨rfl, B1.out⟩
  · have h1' : ¬ (100 : Int) < (r4.length : Int) := by omega
    have h2' : (100 : Int) < (r2.length : Int) := by omega
    go_enter Try.func6, Try.ntmps6
    go_wp2_with fail
    refine (plives _).mono ?_
    rintro e w1 ⟨rfl, hb⟩
    have B1 := Lib.hid (B0.out.trans (hb.mono B0.out.size))
    clear hb
    go_wp2
    go_ret
    exact ⟨rfl, B1.out⟩
set_option maxHeartbeats 16000000 in
set_option maxRecDepth 100000 in
theorem put_small (x0 x1 x2 x3 : Int) (r4 : List (List Int)) (A4 : Option Addr) (c4 : Nat) (E At : Int) (r2 : List (List Int)) (A2 : Option Addr) (c2 : Nat) (f0 : fok1 .u64 x0) (f1 : fok1 .u64 x1) (f2 : fok1 .u8 x2) (f3 : fok1 .u64 x3) (hin4 : ∀ q ∈ r4, fok stepK q) (hE : fok1 .i64 E) (hA : fok1 .i64 At) (hin2 : ∀ q ∈ r2, fok gotK q) (w : World)
    (hv4 : Steps w (.slice A4 r4.length c4) r4) (hv2 : Gots w (.slice A2 r2.length c2) r2) (h4 : r4.length ≤ 100) (h2 : r2.length ≤ 100) :
    Calls Try.prog 6 #[.agg #[.int .u64 x0, .int .u64 x1, .int .u8 x2, .int .u64 x3, .slice A4 r4.length c4], .agg #[.int .i64 E, .int .i64 At, .slice A2 r2.length c2]] w fun e w' => e = .returned (.bool true) ∧ Below w.heap.size w w' := by
  have b3 := below_alloc3_ w (.cells #[.int .u64 x0, .int .u64 x1, .int .u8 x2, .int .u64 x3, .slice A4 r4.length c4] 71) (.cells #[.int .i64 E, .int .i64 At, .slice A2 r2.length c2] 33) (.cells #[.int .u64 x0, .int .u64 x1, .int .u8 x2, .int .u64 x3, .slice A4 r4.length c4] 71)
  have ke := ((Blk.new w 71 #[.int .u64 x0, .int .u64 x1, .int .u8 x2, .int .u64 x3, .slice A4 r4.length c4]).alloc (.cells #[.int .i64 E, .int .i64 At, .slice A2 r2.length c2] 33)).alloc (.cells #[.int .u64 x0, .int .u64 x1, .int .u8 x2, .int .u64 x3, .slice A4 r4.length c4] 71)
  have kr := (Blk.new (w.alloc (.cells #[.int .u64 x0, .int .u64 x1, .int .u8 x2, .int .u64 x3, .slice A4 r4.length c4] 71)) 33 #[.int .i64 E, .int .i64 At, .slice A2 r2.length c2]).alloc (.cells #[.int .u64 x0, .int .u64 x1, .int .u8 x2, .int .u64 x3, .slice A4 r4.length c4] 71)
  have kt := Blk.new ((w.alloc (.cells #[.int .u64 x0, .int .u64 x1, .int .u8 x2, .int .u64 x3, .slice A4 r4.length c4] 71)).alloc (.cells #[.int .i64 E, .int .i64 At, .slice A2 r2.length c2] 33)) 71 #[.int .u64 x0, .int .u64 x1, .int .u8 x2, .int .u64 x3, .slice A4 r4.length c4]
  simp only [World.size_alloc] at kr kt
  have KE := Lib.hid ke
  have KR := Lib.hid kr
  have KT := Lib.hid kt
  have B3 := Lib.hid b3
  have L4 := Lib.hid (rd_block_ hv4)
  have L2 := Lib.hid (rd_block_ hv2)
  have V4 := Lib.hid (show Steps _ _ r4 from Rd.below hv4 b3)
  have V2 := Lib.hid (show Gots _ _ r2 from Rd.below hv2 b3)
  have HI4 := Lib.hid hin4
  have HI2 := Lib.hid hin2
  have F0 := Lib.hid f0
  have F1 := Lib.hid f1
  have F2 := Lib.hid f2
  have F3 := Lib.hid f3
  have FE := Lib.hid hE
  have FA := Lib.hid hA
  have h4' : ¬ (100 : Int) < (r4.length : Int) := by omega
  have h2' : ¬ (100 : Int) < (r2.length : Int) := by omega
  have e2 := ke.cell 2
  have e3 := ke.cell 3
  have e4 := ke.cell 4
  simp only [List.getElem?_toArray, List.getElem?_cons_zero, List.getElem?_cons_succ] at e2 e3 e4
  clear b3 ke kr kt hv4 hv2 hin4 hin2 f0 f1 f2 f3 hE hA
  go_enter Try.func6, Try.ntmps6
  go_wp2_with fail
  refine (Twin_call x2 x3 _ r4 _ V4.out (by omega)).mono ?_
  rintro e w4 ⟨T, cT, rfl, hT, hb4⟩
  have B4 := Lib.hid (B3.out.trans (hb4.mono B3.out.size))
  have T4 := Lib.hid (hT.le_ (B' := w.heap.size) B3.out.size)
  have KE4 := Lib.hid (KE.out.below hb4 KE.out.lt)
  have KR4 := Lib.hid (KR.out.below hb4 KR.out.lt)
  have KT4 := Lib.hid (KT.out.below hb4 KT.out.lt)
  have V44 := Lib.hid (show Steps _ _ r4 from Rd.below V4.out hb4)
  have V24 := Lib.hid (show Gots _ _ r2 from Rd.below V2.out hb4)
  have ft := KT4.out.free
  have t2 := KT4.out.cell 2
  have t3 := KT4.out.cell 3
  have t4 := KT4.out.cell 4
  simp only [List.getElem?_toArray, List.getElem?_cons_zero, List.getElem?_cons_succ] at t2 t3 t4
  clear hT hb4 e2 e3 e4 B3 KE KR KT V4 V2
  go_upto_region 5 with fail
  obtain ⟨W, hW⟩ : ∃ W, W = ((w4.setCell ⟨w.heap.size + 1 + 1, 2, none⟩ (.int .u8 x2)).setCell ⟨w.heap.size + 1 + 1, 3, none⟩ (.int .u64 x3)).setCell ⟨w.heap.size + 1 + 1, 4, none⟩ (.slice T r4.length cT) := ⟨_, rfl⟩
  have BW : Below w.heap.size w W := by rw [hW]; exact ((B4.out.setCell (by simp; omega) _).setCell (by simp; omega) _).setCell (by simp; omega) _
  have KEW : Blk W w.heap.size 71 #[.int .u64 x0, .int .u64 x1, .int .u8 x2, .int .u64 x3, .slice A4 r4.length c4] := by rw [hW]; exact ((KE4.out.far (by simp; omega) _).far (by simp; omega) _).far (by simp; omega) _
  have KRW : Blk W (w.heap.size + 1) 33 #[.int .i64 E, .int .i64 At, .slice A2 r2.length c2] := by rw [hW]; exact ((KR4.out.far (by simp) _).far (by simp) _).far (by simp) _
  have KTW : Blk W (w.heap.size + 1 + 1) 71 #[.int .u64 x0, .int .u64 x1, .int .u8 x2, .int .u64 x3, .slice T r4.length cT] := by
    rw [hW]
    have := ((KT4.out.set_ 2 (.int .u8 x2)).set_ 3 (.int .u64 x3)).set_ 4 (.slice T r4.length cT)
    simpa using this
  have TW : Tw w.heap.size W 178 10 (.slice T r4.length cT) r4.length (r4.flatMap (fc stepK)) stepMk := by
    rw [hW]
    exact ((T4.out.aside KT4.out (by decide) 2 _).aside (KT4.out.set_ 2 _) (by decide) 3 _).aside ((KT4.out.set_ 2 _).set_ 3 _) (by decide) 4 _
  have VW4 : Steps W (.slice A4 r4.length c4) r4 := by
    rw [hW]
    exact rd_far_ (rd_far_ (rd_far_ V44.out L4.out (by simp; omega)) L4.out (by simp; omega)) L4.out (by simp; omega)
  have VW2 : Gots W (.slice A2 r2.length c2) r2 := by
    rw [hW]
    exact rd_far_ (rd_far_ (rd_far_ V24.out L2.out (by simp; omega)) L2.out (by simp; omega)) L2.out (by simp; omega)
  rw [← hW]
  have HBW := Lib.hid BW
  have HT := Lib.hid TW
  have HV4 := Lib.hid VW4
  have HV2 := Lib.hid VW2
  have KS : ∀ X, Below W.heap.size W X → (X.cell? ⟨w.heap.size, 0, none⟩ = some (.int .u64 x0) ∧ X.cell? ⟨w.heap.size, 1, none⟩ = some (.int .u64 x1) ∧ X.cell? ⟨w.heap.size, 2, none⟩ = some (.int .u8 x2) ∧ X.cell? ⟨w.heap.size, 3, none⟩ = some (.int .u64 x3) ∧ X.cell? ⟨w.heap.size, 4, none⟩ = some (.slice A4 r4.length c4)) ∧
      (X.cell? ⟨w.heap.size + 1, 0, none⟩ = some (.int .i64 E) ∧ X.cell? ⟨w.heap.size + 1, 1, none⟩ = some (.int .i64 At) ∧ X.cell? ⟨w.heap.size + 1, 2, none⟩ = some (.slice A2 r2.length c2)) ∧
      (X.cell? ⟨w.heap.size + 1 + 1, 0, none⟩ = some (.int .u64 x0) ∧ X.cell? ⟨w.heap.size + 1 + 1, 1, none⟩ = some (.int .u64 x1) ∧ X.cell? ⟨w.heap.size + 1 + 1, 2, none⟩ = some (.int .u8 x2) ∧ X.cell? ⟨w.heap.size + 1 + 1, 3, none⟩ = some (.int .u64 x3) ∧ X.cell? ⟨w.heap.size + 1 + 1, 4, none⟩ = some (.slice T r4.length cT)) := by
    intro X hb
    have k1 := KEW.below hb KEW.lt
    have k2 := KRW.below hb KRW.lt
    have k3 := KTW.below hb KTW.lt
    exact ⟨⟨(k1.cell 0).trans rfl, (k1.cell 1).trans rfl, (k1.cell 2).trans rfl, (k1.cell 3).trans rfl, (k1.cell 4).trans rfl⟩, ⟨(k2.cell 0).trans rfl, (k2.cell 1).trans rfl, (k2.cell 2).trans rfl⟩, ⟨(k3.cell 0).trans rfl, (k3.cell 1).trans rfl, (k3.cell 2).trans rfl, (k3.cell 3).trans rfl, (k3.cell 4).trans rfl⟩⟩
  have HKS := Lib.hid KS
  clear hW BW KEW KRW KTW TW VW4 VW2 KS B4 T4 KE4 KR4 KT4 V44 V24 ft t2 t3 t4
  have lE := entryR_len F0.out F1.out F2.out F3.out HI4.out
  have lC := cmdR_len HI4.out
  have lR := replyR_len FE.out FA.out HI2.out
  obtain ⟨eb, ek, hER⟩ : ∃ a b, entryR ([x0, x1, x2, x3], r4) = (a, b) := ⟨_, _, rfl⟩
  obtain ⟨cb, ck, hCR⟩ : ∃ a b, cmdR r4 = (a, b) := ⟨_, _, rfl⟩
  obtain ⟨rb, rk, hRR⟩ : ∃ a b, replyR ([E, At], r2) = (a, b) := ⟨_, _, rfl⟩
  rw [hER] at lE
  rw [hCR] at lC
  rw [hRR] at lR
  simp only at lE lC lR
  have ER := Lib.hid hER
  have CR := Lib.hid hCR
  have RR := Lib.hid hRR
  clear hER hCR hRR
  have X0 := Lib.hid (Below.refl W.heap.size W)
  obtain ⟨⟨a0, a1, a2, a3, a4⟩, ⟨b0, b1, b2⟩, ⟨d0, d1, d2, d3, d4⟩⟩ := HKS.out _ X0.out
  go_wp2_with fail
  refine (Put_entry_anyC x0 x1 x2 x3 _ r4 F0.out F1.out F2.out F3.out HI4.out _ (show Steps _ _ r4 from (HT.out.below X0.out).rd) (by omega)).mono ?_
  rintro e w5 ⟨va, rfl, ho, hb, hcl⟩
  rw [ER.out] at ho ⊢
  simp only at ho ⊢
  have La1 := Lib.hid (Ow.blk_lt ho)
  have La2 := Lib.hid (Bo.lt ho)
  have Ca := Lib.hid hcl
  clear hcl
  obtain ⟨A_a, c_a, rfl, hc_a, -⟩ := ho.clip
  have X5 := Lib.hid (X0.out.trans (hb.mono X0.out.size))
  have Oa5 := Lib.hid ho
  have S5 := Lib.hid hb.size
  clear ho hb a0 a1 a2 a3 a4 b0 b1 b2 d0 d1 d2 d3 d4 
  obtain ⟨⟨a0, a1, a2, a3, a4⟩, ⟨b0, b1, b2⟩, ⟨d0, d1, d2, d3, d4⟩⟩ := HKS.out _ X5.out
  go_wp2_with fail
  refine (rputentry_any x0 x1 x2 x3 _ r4 F0.out F1.out F2.out F3.out HI4.out _ (show Steps _ _ r4 from Rd.below HV4.out X5.out) (by omega)).mono ?_
  rintro e w6 ⟨vb, rfl, ho, hb⟩
  rw [ER.out] at ho ⊢
  simp only at ho ⊢
  obtain ⟨A_b, c_b, rfl, hc_b, -⟩ := ho.clip
  have X6 := Lib.hid (X5.out.trans (hb.mono X5.out.size))
  have Oa6 := Lib.hid (Oa5.out.below hb)
  have Ob6 := Lib.hid ho
  have S6 := Lib.hid hb.size
  clear ho hb a0 a1 a2 a3 a4 b0 b1 b2 d0 d1 d2 d3 d4 Oa5
  obtain ⟨⟨a0, a1, a2, a3, a4⟩, ⟨b0, b1, b2⟩, ⟨d0, d1, d2, d3, d4⟩⟩ := HKS.out _ X6.out
  go_wp2_with fail
  refine (Put_cmd_anyC _ r4 HI4.out _ (show Steps _ _ r4 from (HT.out.below X6.out).rd) (by omega)).mono ?_
  rintro e w7 ⟨vc, rfl, ho, hb, hcl⟩
  rw [CR.out] at ho ⊢
  simp only at ho ⊢
  have Lc1 := Lib.hid (Ow.blk_lt ho)
  have Lc2 := Lib.hid (Bo.lt ho)
  have Cc := Lib.hid hcl
  clear hcl
  obtain ⟨A_c, c_c, rfl, hc_c, -⟩ := ho.clip
  have X7 := Lib.hid (X6.out.trans (hb.mono X6.out.size))
  have Oa7 := Lib.hid (Oa6.out.below hb)
  have Ob7 := Lib.hid (Ob6.out.below hb)
  have Oc7 := Lib.hid ho
  have S7 := Lib.hid hb.size
  clear ho hb a0 a1 a2 a3 a4 b0 b1 b2 d0 d1 d2 d3 d4 Oa6 Ob6
  obtain ⟨⟨a0, a1, a2, a3, a4⟩, ⟨b0, b1, b2⟩, ⟨d0, d1, d2, d3, d4⟩⟩ := HKS.out _ X7.out
  go_wp2_with fail
  refine (rputcmd_any _ r4 HI4.out _ (show Steps _ _ r4 from Rd.below HV4.out X7.out) (by omega)).mono ?_
  rintro e w8 ⟨vd, rfl, ho, hb⟩
  rw [CR.out] at ho ⊢
  simp only at ho ⊢
  obtain ⟨A_d, c_d, rfl, hc_d, -⟩ := ho.clip
  have X8 := Lib.hid (X7.out.trans (hb.mono X7.out.size))
  have Oa8 := Lib.hid (Oa7.out.below hb)
  have Ob8 := Lib.hid (Ob7.out.below hb)
  have Oc8 := Lib.hid (Oc7.out.below hb)
  have Od8 := Lib.hid ho
  have S8 := Lib.hid hb.size
  clear ho hb a0 a1 a2 a3 a4 b0 b1 b2 d0 d1 d2 d3 d4 Oa7 Ob7 Oc7
  obtain ⟨⟨a0, a1, a2, a3, a4⟩, ⟨b0, b1, b2⟩, ⟨d0, d1, d2, d3, d4⟩⟩ := HKS.out _ X8.out
  go_wp2_with fail
  refine (Put_reply_anyC E At _ r2 FE.out FA.out HI2.out _ (show Gots _ _ r2 from Rd.below HV2.out X8.out) (by omega)).mono ?_
  rintro e w9 ⟨vi, rfl, ho, hb, hcl⟩
  rw [RR.out] at ho ⊢
  simp only at ho ⊢
  have Li1 := Lib.hid (Ow.blk_lt ho)
  have Li2 := Lib.hid (Bo.lt ho)
  have Ci := Lib.hid hcl
  clear hcl
  obtain ⟨A_i, c_i, rfl, hc_i, -⟩ := ho.clip
  have X9 := Lib.hid (X8.out.trans (hb.mono X8.out.size))
  have Oa9 := Lib.hid (Oa8.out.below hb)
  have Ob9 := Lib.hid (Ob8.out.below hb)
  have Oc9 := Lib.hid (Oc8.out.below hb)
  have Od9 := Lib.hid (Od8.out.below hb)
  have Oi9 := Lib.hid ho
  have S9 := Lib.hid hb.size
  clear ho hb a0 a1 a2 a3 a4 b0 b1 b2 d0 d1 d2 d3 d4 Oa8 Ob8 Oc8 Od8
  obtain ⟨⟨a0, a1, a2, a3, a4⟩, ⟨b0, b1, b2⟩, ⟨d0, d1, d2, d3, d4⟩⟩ := HKS.out _ X9.out
  go_wp2_with fail
  refine (rputreply_any E At _ r2 FE.out FA.out HI2.out _ (show Gots _ _ r2 from Rd.below HV2.out X9.out) (by omega)).mono ?_
  rintro e w10 ⟨vk, rfl, ho, hb⟩
  rw [RR.out] at ho ⊢
  simp only at ho ⊢
  obtain ⟨A_k, c_k, rfl, hc_k, -⟩ := ho.clip
  have X10 := Lib.hid (X9.out.trans (hb.mono X9.out.size))
  have Oa10 := Lib.hid (Oa9.out.below hb)
  have Ob10 := Lib.hid (Ob9.out.below hb)
  have Oc10 := Lib.hid (Oc9.out.below hb)
  have Od10 := Lib.hid (Od9.out.below hb)
  have Oi10 := Lib.hid (Oi9.out.below hb)
  have Ok10 := Lib.hid ho
  have S10 := Lib.hid hb.size
  clear ho hb a0 a1 a2 a3 a4 b0 b1 b2 d0 d1 d2 d3 d4 Oa9 Ob9 Oc9 Od9 Oi9
  have hk1 : (ek != ek) = false := by simp
  have hk2 : (ck != ck) = false := by simp
  have hk3 : (rk != rk) = false := by simp
  go_wp2_with fail
  refine (sameb_any eb eb _ _ _ Oa10.out.bs Ob10.out.bs (by omega)).mono ?_
  rintro e w11 ⟨rfl, m11, hw11⟩
  rw [show decide (eb = eb) = true from decide_eq_true rfl]
  have hb : Below w10.heap.size w10 w11 := by rw [hw11]; exact below_drewN_ _ _ _
  have X11 := Lib.hid (X10.out.trans (hb.mono X10.out.size))
  have Oa11 := Lib.hid (Oa10.out.below hb)
  have Oc11 := Lib.hid (Oc10.out.below hb)
  have Od11 := Lib.hid (Od10.out.below hb)
  have Oi11 := Lib.hid (Oi10.out.below hb)
  have Ok11 := Lib.hid (Ok10.out.below hb)
  clear hb hw11 Oa10 Ob10 Oc10 Od10 Oi10 Ok10
  go_wp2_with fail
  refine (sameb_any cb cb _ _ _ Oc11.out.bs Od11.out.bs (by omega)).mono ?_
  rintro e w12 ⟨rfl, m12, hw12⟩
  rw [show decide (cb = cb) = true from decide_eq_true rfl]
  have hb : Below w11.heap.size w11 w12 := by rw [hw12]; exact below_drewN_ _ _ _
  have X12 := Lib.hid (X11.out.trans (hb.mono X11.out.size))
  have Oa12 := Lib.hid (Oa11.out.below hb)
  have Oc12 := Lib.hid (Oc11.out.below hb)
  have Oi12 := Lib.hid (Oi11.out.below hb)
  have Ok12 := Lib.hid (Ok11.out.below hb)
  clear hb hw12 Oa11 Oc11 Od11 Oi11 Ok11
  go_wp2_with fail
  refine (sameb_any rb rb _ _ _ Oi12.out.bs Ok12.out.bs (by omega)).mono ?_
  rintro e w13 ⟨rfl, m13, hw13⟩
  rw [show decide (rb = rb) = true from decide_eq_true rfl]
  have hb : Below w12.heap.size w12 w13 := by rw [hw13]; exact below_drewN_ _ _ _
  have X13 := Lib.hid (X12.out.trans (hb.mono X12.out.size))
  have Oa13 := Lib.hid (Oa12.out.below hb)
  have Oc13 := Lib.hid (Oc12.out.below hb)
  have Oi13 := Lib.hid (Oi12.out.below hb)
  clear hb hw13 Oa12 Oc12 Oi12 Ok12
  obtain ⟨⟨a0, a1, a2, a3, a4⟩, ⟨b0, b1, b2⟩, ⟨d0, d1, d2, d3, d4⟩⟩ := HKS.out _ X13.out
  have HX4 := Lib.hid (fun q (hq : q ∈ r4) => (fok_len _ _ (HI4.out q hq) : q.length = 10))
  go_wp2_with fail
  refine (Left_call w.heap.size x2 x3 _ _ r4 HX4.out _ (HT.out.below X13.out) (show Steps _ _ r4 from Rd.below HV4.out X13.out) (by omega)).mono ?_
  rintro e w14 ⟨rfl, hb⟩
  have X14 := Lib.hid (X13.out.trans (hb.mono X13.out.size))
  have Oa14 := Lib.hid (Oa13.out.below hb)
  have Oc14 := Lib.hid (Oc13.out.below hb)
  have Oi14 := Lib.hid (Oi13.out.below hb)
  clear hb a0 a1 a2 a3 a4 b0 b1 b2 d0 d1 d2 d3 d4 Oa13 Oc13 Oi13
  have BW14 := HBW.out.trans (X14.out.mono HBW.out.size)
  have M0 := Lib.hid (Bks.new_ BW14 BW14.size)
  obtain ⟨la, hla, pa, ga⟩ := Oa14.out.page Ca.out (by omega)
  obtain ⟨lc, hlc, pc, gc⟩ := Oc14.out.page Cc.out (by omega)
  obtain ⟨li, hli, pi, gi⟩ := Oi14.out.page Ci.out (by omega)
  have HLA := Lib.hid hla
  have HLC := Lib.hid hlc
  have HLI := Lib.hid hli
  have oa : ∀ g, bkOf la = some g → 0 ≤ g ∧ g < w5.heap.size := fun g hg => ⟨Nat.zero_le _, La2.out g (by rw [hla]; exact bk_own hg)⟩
  have oc : ∀ g, bkOf lc = some g → w6.heap.size ≤ g ∧ g < w7.heap.size := fun g hg => ⟨Lc1.out g (by rw [hlc]; exact bk_own hg), Lc2.out g (by rw [hlc]; exact bk_own hg)⟩
  have oi : ∀ g, bkOf li = some g → w8.heap.size ≤ g ∧ g < w9.heap.size := fun g hg => ⟨Li1.out g (by rw [hli]; exact bk_own hg), Li2.out g (by rw [hli]; exact bk_own hg)⟩
  have OA := Lib.hid oa
  have OC := Lib.hid oc
  have OI := Lib.hid oi
  have GE := Lib.hid (show ∀ g, (bkOf la = some g ∨ bkOf lc = some g ∨ bkOf li = some g) → w.heap.size ≤ g from by
    have h1 := HBW.out.size
    have h2 := X6.out.size
    have h3 := X8.out.size
    rintro g (hg | hg | hg)
    · have := La1.out g (by rw [hla]; exact bk_own hg); omega
    · have := (oc g hg).1; omega
    · have := (oi g hg).1; omega)
  have PA := Lib.hid (fun m b => (pa m b).keepA (.cells #[.slice none 0 0] 49))
  have PC := Lib.hid (fun m b => (pc m b).keepA (.cells #[.slice none 0 0] 49))
  have PI := Lib.hid (fun m b => (pi m b).keepA (.cells #[.slice none 0 0] 49))
  clear hla hlc hli pa pc pi ga gc gi oa oc oi BW14 Oa14 Oc14 Oi14 hk1 hk2 hk3
  go_wp2_with fail
  rw [HLA.out]
  refine (add_byte [] _ _ _ _ _ M0.out (by simp) la).mono ?_
  rintro e w15 ⟨rfl, pv1, m1, b1, em1, eb1, hM1, hk1⟩
  have M1 := Lib.hid hM1
  have PA1 := Lib.hid ((PA.out m1 b1).keep hk1)
  have PC1 := Lib.hid (fun m b => (PC.out m b).keep hk1)
  have PI1 := Lib.hid (fun m b => (PI.out m b).keep hk1)
  clear hM1 hk1 PA PC PI M0
  go_wp2_with fail
  rw [HLC.out]
  refine (add_byte _ _ _ _ _ _ M1.out (by simp) lc).mono ?_
  rintro e w16 ⟨rfl, pv2, m2, b2, em2, eb2, hM2, hk2⟩
  have M2 := Lib.hid hM2
  have PA2 := Lib.hid (PA1.out.keep hk2)
  have PC2 := Lib.hid ((PC1.out m2 b2).keep hk2)
  have PI2 := Lib.hid (fun m b => (PI1.out m b).keep hk2)
  clear hM2 hk2 PA1 PC1 PI1 M1
  go_wp2_with fail
  rw [HLI.out]
  refine (add_byte _ _ _ _ _ _ M2.out (by simp) li).mono ?_
  rintro e w17 ⟨rfl, pv3, m3, b3, em3, eb3, hM3, hk3⟩
  have M3 := Lib.hid (show Bks [⟨0, la, m1, b1⟩, ⟨0, lc, m2, b2⟩, ⟨0, li, m3, b3⟩] _ _ _ _ _ from hM3)
  have PA3 := Lib.hid (PA2.out.keep hk3)
  have PC3 := Lib.hid (PC2.out.keep hk3)
  have PI3 := Lib.hid ((PI2.out m3 b3).keep hk3)
  clear hM3 hk3 PA2 PC2 PI2 M2
  have s5 := S6.out
  have s6 := S7.out
  have s7 := S8.out
  have s8 := S9.out
  go_wp2_with fail
  refine (apart_any [⟨0, la, m1, b1⟩, ⟨0, lc, m2, b2⟩, ⟨0, li, m3, b3⟩] (by
      intro p hp
      simp only [List.mem_cons, List.not_mem_nil, or_false] at hp
      rcases hp with rfl | rfl | rfl
      · exact ⟨(show (0 : Nat) < 2 by decide), em1, eb1⟩
      · exact ⟨(show (0 : Nat) < 2 by decide), em2, eb2⟩
      · exact ⟨(show (0 : Nat) < 2 by decide), em3, eb3⟩) (by
      intro i j hi hj hij g hg
      have hi' : i = 0 ∨ i = 1 ∨ i = 2 := by simp at hi; omega
      have hj' : j = 0 ∨ j = 1 ∨ j = 2 := by simp at hj; omega
      rcases hi' with rfl | rfl | rfl <;> rcases hj' with rfl | rfl | rfl <;>
        first
          | exact absurd rfl hij
          | (intro hg2; have q1 := OA.out g hg; have q2 := OC.out g hg2; omega)
          | (intro hg2; have q1 := OA.out g hg; have q2 := OI.out g hg2; omega)
          | (intro hg2; have q1 := OC.out g hg; have q2 := OA.out g hg2; omega)
          | (intro hg2; have q1 := OC.out g hg; have q2 := OI.out g hg2; omega)
          | (intro hg2; have q1 := OI.out g hg; have q2 := OA.out g hg2; omega)
          | (intro hg2; have q1 := OI.out g hg; have q2 := OC.out g hg2; omega)) (by simp) _ _ w.heap.size _ (by
      intro p hp g hg
      simp only [List.mem_cons, List.not_mem_nil, or_false] at hp
      rcases hp with rfl | rfl | rfl
      · exact GE.out g (.inl hg)
      · exact GE.out g (.inr (.inl hg))
      · exact GE.out g (.inr (.inr hg))) M3.out.bk (M3.out.ow.le (Nat.zero_le _)) (by
      intro p hp
      simp only [List.mem_cons, List.not_mem_nil, or_false] at hp
      rcases hp with rfl | rfl | rfl
      · exact PA3.out
      · exact PC3.out
      · exact PI3.out) M3.out.le).mono ?_
  rintro e w18 ⟨rfl, hb⟩
  have B18 := Lib.hid (M3.out.bel.trans hb)
  clear hb M3 PA3 PC3 PI3
  go_wp2_with fail
  refine (plives _).mono ?_
  rintro e w19 ⟨rfl, hb⟩
  have B19 := Lib.hid (B18.out.trans (hb.mono B18.out.size))
  clear hb
  go_wp2
  go_ret
  exact ⟨rfl, B19.out⟩
theorem put_walk (x0 x1 x2 x3 : Int) (r4 : List (List Int)) (A4 : Option Addr) (c4 : Nat) (E At : Int) (r2 : List (List Int)) (A2 : Option Addr) (c2 : Nat) (f0 : fok1 .u64 x0) (f1 : fok1 .u64 x1) (f2 : fok1 .u8 x2) (f3 : fok1 .u64 x3) (hin4 : ∀ q ∈ r4, fok stepK q) (hE : fok1 .i64 E) (hA : fok1 .i64 At) (hin2 : ∀ q ∈ r2, fok gotK q) (w : World)
    (hv4 : Steps w (.slice A4 r4.length c4) r4) (hv2 : Gots w (.slice A2 r2.length c2) r2) :
    Calls Try.prog 6 #[.agg #[.int .u64 x0, .int .u64 x1, .int .u8 x2, .int .u64 x3, .slice A4 r4.length c4], .agg #[.int .i64 E, .int .i64 At, .slice A2 r2.length c2]] w fun e w' => e = .returned (.bool true) ∧ Below w.heap.size w w' := by
  by_cases h : 100 < r4.length ∨ 100 < r2.length
  · exact put_great x0 x1 x2 x3 r4 A4 c4 E At r2 A2 c2 f0 f1 f2 f3 hin4 hE hA hin2 w hv4 hv2 h
  · exact put_small x0 x1 x2 x3 r4 A4 c4 E At r2 A2 c2 f0 f1 f2 f3 hin4 hE hA hin2 w hv4 hv2 (by omega) (by omega)
end Go.Proofs.Ytielnocnnffdfaa
