/- PacksBack: the walk. -/
import Derived.Test.YtielnocnnffdfaaAll
import Derived.Test.YtielnocnnffdfaaPlv
import Derived.Test.YtielnocnnffdfaaPwe
import Derived.Test.YtielnocnnffdfaaPqe
import Derived.Test.YtielnocnnffdfaaPqr
import Derived.Test.YtielnocnnffdfaaEnt
import Derived.Test.YtielnocnnffdfaaSmr
namespace Go.Proofs.Ytielnocnnffdfaa
open Go.RowKit

set_option maxHeartbeats 8000000 in
set_option maxRecDepth 100000 in
theorem back_11 (x0 x1 x2 x3 : Int) (r4 : List (List Int)) (A4 : Option Addr) (c4 : Nat) (E At : Int) (r2 : List (List Int)) (A2 : Option Addr) (c2 : Nat) (Z0 Z1 : Nat) (f0 : fok1 .u64 x0) (f1 : fok1 .u64 x1) (f2 : fok1 .u8 x2) (f3 : fok1 .u64 x3) (hin4 : ∀ q ∈ r4, fok stepK q)
    (hE : fok1 .i64 E) (hA : fok1 .i64 At) (hin2 : ∀ q ∈ r2, fok gotK q) (hz0 : Z0 ≤ 65535) (hz1 : Z1 ≤ 65535) (w : World) (hv4 : Steps w (.slice A4 r4.length c4) r4) (hv2 : Gots w (.slice A2 r2.length c2) r2) (h4 : r4.length ≤ 100) (h2 : r2.length ≤ 100)
    (t4 : r4.length ≤ 8) (t2 : r2.length ≤ 8) :
    Calls Try.prog 7 #[.agg #[.int .u64 x0, .int .u64 x1, .int .u8 x2, .int .u64 x3, .slice A4 r4.length c4], .agg #[.int .i64 E, .int .i64 At, .slice A2 r2.length c2], .agg #[.int .u16 Z0, .int .u16 Z1]] w fun e w' => e = .returned (.bool true) ∧ Below w.heap.size w w' := by
  have b3 := below_alloc3_ w (.cells #[.int .u64 x0, .int .u64 x1, .int .u8 x2, .int .u64 x3, .slice A4 r4.length c4] 71) (.cells #[.int .i64 E, .int .i64 At, .slice A2 r2.length c2] 33) (.cells #[.int .u16 Z0, .int .u16 Z1] 81)
  have ke := ((Blk.new w 71 #[.int .u64 x0, .int .u64 x1, .int .u8 x2, .int .u64 x3, .slice A4 r4.length c4]).alloc (.cells #[.int .i64 E, .int .i64 At, .slice A2 r2.length c2] 33)).alloc (.cells #[.int .u16 Z0, .int .u16 Z1] 81)
  have kr := (Blk.new (w.alloc (.cells #[.int .u64 x0, .int .u64 x1, .int .u8 x2, .int .u64 x3, .slice A4 r4.length c4] 71)) 33 #[.int .i64 E, .int .i64 At, .slice A2 r2.length c2]).alloc (.cells #[.int .u16 Z0, .int .u16 Z1] 81)
  have kz := Blk.new ((w.alloc (.cells #[.int .u64 x0, .int .u64 x1, .int .u8 x2, .int .u64 x3, .slice A4 r4.length c4] 71)).alloc (.cells #[.int .i64 E, .int .i64 At, .slice A2 r2.length c2] 33)) 81 #[.int .u16 Z0, .int .u16 Z1]
  simp only [World.size_alloc] at kr kz
  have KE := Lib.hid ke
  have KR := Lib.hid kr
  have KZ := Lib.hid kz
  have B0 := Lib.hid b3
  have SB2 := Lib.hid (rd_block_ hv2)
  have S4 := Lib.hid (show Steps _ _ r4 from Rd.below hv4 b3)
  have S2 := Lib.hid (show Gots _ _ r2 from Rd.below hv2 b3)
  have HI4 := Lib.hid hin4
  have HI2 := Lib.hid hin2
  have F0 := Lib.hid f0
  have F1 := Lib.hid f1
  have F2 := Lib.hid f2
  have F3 := Lib.hid f3
  have FE := Lib.hid hE
  have FA := Lib.hid hA
  have h100a : ¬ 100 < (r4.length : Int) := by omega
  have h100b : ¬ 100 < (r2.length : Int) := by omega
  have t4' : (r4.length : Int) ≤ 8 := by omega
  have t2' : (r2.length : Int) ≤ 8 := by omega
  have R4 := Lib.hid (show entryR ([x0, x1, x2, x3], r4) = (entryB ([x0, x1, x2, x3], r4), 0) from if_pos t4)
  have R2 := Lib.hid (show replyR ([E, At], r2) = (replyB ([E, At], r2), 0) from if_pos t2)
  have OK4 := Lib.hid (show entryOk ([x0, x1, x2, x3], r4) from ⟨⟨f0, f1, f2, f3, rfl⟩, t4, hin4⟩)
  have LE4 := Lib.hid (entryLen f0 f1 f2 f3 t4 hin4)
  have OK2 := Lib.hid (show replyOk ([E, At], r2) from ⟨⟨hE, hA, rfl⟩, t2, hin2⟩)
  have LE2 := Lib.hid (replyLen hE hA t2 hin2)
  clear b3 ke kr kz hv4 hv2 hin4 hin2 f0 f1 f2 f3 hE hA
  go_enter Try.func7, Try.ntmps7
  go_wp2_with fail
  refine (Put_entry_any x0 x1 x2 x3 _ r4 F0.out F1.out F2.out F3.out HI4.out _ S4.out (by omega)).mono ?_
  rintro e w1 ⟨v1, rfl, ho1, hb1⟩
  rw [R4.out] at ho1 ⊢
  obtain ⟨g1, k1, rfl, hc1, -⟩ := ho1.clip
  obtain ⟨L1, hL1⟩ : ∃ L, L = (entryB ([x0, x1, x2, x3], r4)).length := ⟨_, rfl⟩
  rw [← hL1] at ho1 hc1 ⊢
  have HL1 := Lib.hid hL1
  clear hL1
  have O1 := Lib.hid ho1
  have B1 := Lib.hid (B0.out.trans (hb1.mono B0.out.size))
  have KE1 := Lib.hid (KE.out.below hb1 KE.out.lt)
  have KR1 := Lib.hid (KR.out.below hb1 KR.out.lt)
  have KZ1 := Lib.hid (KZ.out.below hb1 KZ.out.lt)
  have S41 := Lib.hid (show Steps _ _ r4 from Rd.below S4.out hb1)
  have S21 := Lib.hid (show Gots _ _ r2 from Rd.below S2.out hb1)
  have y0 := KR1.out.cell 0
  have y1 := KR1.out.cell 1
  have y2 := KR1.out.cell 2
  simp only [List.getElem?_toArray, List.getElem?_cons_zero, List.getElem?_cons_succ] at y0 y1 y2
  clear ho1 hb1
  go_wp2_with fail
  refine (Put_reply_any E At _ r2 FE.out FA.out HI2.out _ S21.out (by omega)).mono ?_
  rintro e w2 ⟨v2, rfl, ho2, hb2⟩
  rw [R2.out] at ho2 ⊢
  obtain ⟨g2, k2, rfl, hc2, -⟩ := ho2.clip
  obtain ⟨L2, hL2⟩ : ∃ L, L = (replyB ([E, At], r2)).length := ⟨_, rfl⟩
  rw [← hL2] at ho2 hc2 ⊢
  have HL2 := Lib.hid hL2
  clear hL2
  have O2 := Lib.hid ho2
  have O12 := Lib.hid (O1.out.below hb2)
  have B2 := Lib.hid (B1.out.trans (hb2.mono B1.out.size))
  have KE2 := Lib.hid (KE1.out.below hb2 KE1.out.lt)
  have KR2 := Lib.hid (KR1.out.below hb2 KR1.out.lt)
  have KZ2 := Lib.hid (KZ1.out.below hb2 KZ1.out.lt)
  have S42 := Lib.hid (show Steps _ _ r4 from Rd.below S41.out hb2)
  have S22 := Lib.hid (show Gots _ _ r2 from Rd.below S21.out hb2)
  clear ho2 hb2 y0 y1 y2
  have e4 := KE2.out.cell 4
  have y2 := KR2.out.cell 2
  simp only [List.getElem?_toArray, List.getElem?_cons_zero, List.getElem?_cons_succ] at e4 y2
  have hL0 : 0 < L1 := by
    rw [HL1.out]
    have := nb_len_pos x0.toNat
    simp only [entryB, entryK, fB, fb1, List.headD_cons, List.length_append]
    omega
  have hL0' : ¬ (L1 : Int) = 0 := by omega
  have hL1' : 0 < (L1 : Int) := by omega
  have hLb : ((L1 : Int) == 0) = false := beq_eq_false_iff_ne.2 hL0'
  have AG := Lib.hid (all_get cod_entry OK4.out)
  have BY := Lib.hid (cod_entry.byt ([x0, x1, x2, x3], r4) OK4.out)
  go_wp2_with fail
  refine (Get_entry_any _ (entryB ([x0, x1, x2, x3], r4)) _ O12.out.bs BY.out (Nat.le_trans LE4.out (by decide))).mono ?_
  intro e w3 hp
  unfold GPost at hp
  rw [AG.out] at hp
  obtain ⟨v3, rfl, ⟨A5, rfl, ho5⟩, hb3⟩ := hp
  have B3 := Lib.hid (B2.out.trans (hb3.mono B2.out.size))
  have ke3 := KE2.out.below hb3 KE2.out.lt
  have KE3 := Lib.hid ke3
  have KR3 := Lib.hid (KR2.out.below hb3 KR2.out.lt)
  have KZ3 := Lib.hid (KZ2.out.below hb3 KZ2.out.lt)
  have S43 := Lib.hid (show Steps _ _ r4 from Rd.below S42.out hb3)
  have S53 := Lib.hid (show Steps _ _ r4 from ho5.rd)
  have S23 := Lib.hid (show Gots _ _ r2 from Rd.below S22.out hb3)
  have O13 := Lib.hid (O12.out.below hb3)
  have O23 := Lib.hid (O2.out.below hb3)
  have k4 := ke3.alloc (.cells #[.int .u64 x0, .int .u64 x1, .int .u8 x2, .int .u64 x3, .slice A5 r4.length r4.length] 71)
  have p0 := k4.cell 0
  simp only [List.getElem?_toArray, List.getElem?_cons_zero, List.getElem?_cons_succ] at p0
  have p1 := k4.cell 1
  simp only [List.getElem?_toArray, List.getElem?_cons_zero, List.getElem?_cons_succ] at p1
  have p2 := k4.cell 2
  simp only [List.getElem?_toArray, List.getElem?_cons_zero, List.getElem?_cons_succ] at p2
  have p3 := k4.cell 3
  simp only [List.getElem?_toArray, List.getElem?_cons_zero, List.getElem?_cons_succ] at p3
  have p4 := k4.cell 4
  simp only [List.getElem?_toArray, List.getElem?_cons_zero, List.getElem?_cons_succ] at p4
  have pf := k4.free
  have k5 := (Blk.new w3 71 #[.int .u64 x0, .int .u64 x1, .int .u8 x2, .int .u64 x3, .slice A5 r4.length r4.length]).alloc (.cells #[.int .u64 x0, .int .u64 x1, .int .u8 x2, .int .u64 x3, .slice A4 r4.length c4] 71)
  have q0 := k5.cell 0
  simp only [List.getElem?_toArray, List.getElem?_cons_zero, List.getElem?_cons_succ] at q0
  have q1 := k5.cell 1
  simp only [List.getElem?_toArray, List.getElem?_cons_zero, List.getElem?_cons_succ] at q1
  have q2 := k5.cell 2
  simp only [List.getElem?_toArray, List.getElem?_cons_zero, List.getElem?_cons_succ] at q2
  have q3 := k5.cell 3
  simp only [List.getElem?_toArray, List.getElem?_cons_zero, List.getElem?_cons_succ] at q3
  have q4 := k5.cell 4
  simp only [List.getElem?_toArray, List.getElem?_cons_zero, List.getElem?_cons_succ] at q4
  clear hb3 ho5 ke3 k4 k5 e4 y2
  go_wp2_with fail
  have h1 : Ents (((w3.alloc (.cells #[.int .u64 x0, .int .u64 x1, .int .u8 x2, .int .u64 x3, .slice A5 r4.length r4.length] 71)).alloc (.cells #[.int .u64 x0, .int .u64 x1, .int .u8 x2, .int .u64 x3, .slice A4 r4.length c4] 71)).alloc (.cells #[.int .u64 x0, .int .u64 x1, .int .u8 x2, .int .u64 x3, .slice A5 r4.length r4.length] 71)) (.slice (some ⟨(w3.alloc (.cells #[.int .u64 x0, .int .u64 x1, .int .u8 x2, .int .u64 x3, .slice A5 r4.length r4.length] 71)).heap.size, 0, none⟩) 1 1) [([x0, x1, x2, x3], r4)] := Ents.alloc (Ents.one (e := ([x0, x1, x2, x3], r4)) (s := .slice A4 r4.length c4) (Rd.alloc S43.out _)) _
  rw [World.size_alloc] at h1
  have h2 : Ents (((w3.alloc (.cells #[.int .u64 x0, .int .u64 x1, .int .u8 x2, .int .u64 x3, .slice A5 r4.length r4.length] 71)).alloc (.cells #[.int .u64 x0, .int .u64 x1, .int .u8 x2, .int .u64 x3, .slice A4 r4.length c4] 71)).alloc (.cells #[.int .u64 x0, .int .u64 x1, .int .u8 x2, .int .u64 x3, .slice A5 r4.length r4.length] 71)) (.slice (some ⟨((w3.alloc (.cells #[.int .u64 x0, .int .u64 x1, .int .u8 x2, .int .u64 x3, .slice A5 r4.length r4.length] 71)).alloc (.cells #[.int .u64 x0, .int .u64 x1, .int .u8 x2, .int .u64 x3, .slice A4 r4.length c4] 71)).heap.size, 0, none⟩) 1 1) [([x0, x1, x2, x3], r4)] := Ents.one (e := ([x0, x1, x2, x3], r4)) (s := .slice A5 r4.length r4.length) (Rd.alloc (Rd.alloc S53.out _) _)
  rw [World.size_alloc, World.size_alloc] at h2
  refine (samees_any [([x0, x1, x2, x3], r4)] (by
    intro e he
    obtain rfl : e = ([x0, x1, x2, x3], r4) := by simpa using he
    exact ⟨rfl, by simp only; omega, fun q hq => fok_len _ _ (HI4.out q hq)⟩) _ _ _ h1 h2 (by simp)).mono ?_
  rintro e w8 ⟨rfl, b8⟩
  have b38 := (below_alloc3_ w3 (.cells #[.int .u64 x0, .int .u64 x1, .int .u8 x2, .int .u64 x3, .slice A5 r4.length r4.length] 71) (.cells #[.int .u64 x0, .int .u64 x1, .int .u8 x2, .int .u64 x3, .slice A4 r4.length c4] 71) (.cells #[.int .u64 x0, .int .u64 x1, .int .u8 x2, .int .u64 x3, .slice A5 r4.length r4.length] 71)).trans (b8.mono (below_alloc3_ w3 (.cells #[.int .u64 x0, .int .u64 x1, .int .u8 x2, .int .u64 x3, .slice A5 r4.length r4.length] 71) (.cells #[.int .u64 x0, .int .u64 x1, .int .u8 x2, .int .u64 x3, .slice A4 r4.length c4] 71) (.cells #[.int .u64 x0, .int .u64 x1, .int .u8 x2, .int .u64 x3, .slice A5 r4.length r4.length] 71)).size)
  have B8 := Lib.hid (B3.out.trans (b38.mono B3.out.size))
  have KR8 := Lib.hid (KR3.out.below b38 KR3.out.lt)
  have KZ8 := Lib.hid (KZ3.out.below b38 KZ3.out.lt)
  have S28 := Lib.hid (show Gots _ _ r2 from Rd.below S23.out b38)
  have O18 := Lib.hid (O13.out.below b38)
  have O28 := Lib.hid (O23.out.below b38)
  obtain ⟨q, hqd⟩ : ∃ q, q = Z0 % L1 := ⟨_, rfl⟩
  have hqm : (Z0 : Int) % (L1 : Int) = (q : Int) := by rw [hqd]; rfl
  have hqt : (Z0 : Int).tmod (L1 : Int) = (q : Int) := by rw [Int.tmod_eq_emod_of_nonneg (by omega)]; exact hqm
  have hql : q < L1 := by rw [hqd]; exact Nat.mod_lt _ hL0
  have hqi : (q : Int) ≤ (L1 : Int) := by omega
  have hqc : (q : Int) ≤ (k1 : Int) := by omega
  have hq0 : (0 : Int) ≤ (q : Int) := by omega
  have g0 := KZ8.out.cell 0
  have g1' := KZ8.out.cell 1
  simp only [List.getElem?_toArray, List.getElem?_cons_zero, List.getElem?_cons_succ] at g0 g1'
  have hz0i : (Z0 : Int) ≤ 65535 := by omega
  have hz1i : (Z1 : Int) ≤ 65535 := by omega
  have AC := Lib.hid (all_cut cod_entry OK4.out (k := q) (by rw [← HL1.out]; exact hql))
  clear h1 h2 b8 b38 hqd p0 p1 p2 p3 p4 q0 q1 q2 q3 q4 pf
  go_wp2_with fail
  refine (Get_entry_any _ ((entryB ([x0, x1, x2, x3], r4)).take q) _ (O18.out.bs.takes q k1 (by omega) (by omega)) (fun c hc => BY.out c (List.mem_of_mem_take hc)) (by have := LE4.out; rw [List.length_take]; omega)).mono ?_
  intro e w9 hp
  unfold GPost at hp
  rw [AC.out] at hp
  obtain ⟨rfl, hb9⟩ := hp
  have b89 := hb9.trans ((below_alloc_ w9 (.cells #[.int .u64 0, .int .u64 0, .int .u8 0, .int .u64 0, .slice none 0 0] 71)).mono hb9.size)
  have B9 := Lib.hid (B8.out.trans (b89.mono B8.out.size))
  have KR9 := Lib.hid (KR8.out.below b89 KR8.out.lt)
  have kz9 := KZ8.out.below b89 KZ8.out.lt
  have KZ9 := Lib.hid kz9
  have S29 := Lib.hid (show Gots _ _ r2 from Rd.below S28.out b89)
  have O29 := Lib.hid (O28.out.below b89)
  have HBF := Lib.hid (show Bf 0 (w9.alloc (.cells #[.int .u64 0, .int .u64 0, .int .u8 0, .int .u64 0, .slice none 0 0] 71)) (w9.alloc (.cells #[.int .u64 0, .int .u64 0, .int .u8 0, .int .u64 0, .slice none 0 0] 71)) _ (entryB ([x0, x1, x2, x3], r4)) from ⟨(O18.out.below b89).le (Nat.zero_le _), Below.refl _ _, Nat.zero_le _⟩)
  have m1 := kz9.cell 1
  simp only [List.getElem?_toArray, List.getElem?_cons_zero, List.getElem?_cons_succ] at m1
  clear hb9 b89 kz9 g0 g1'
  go_wp2_with (at_builtin; refine wpList_bf_byteK rfl _ _ 52 rfl Try.underlying52 rfl HBF.out (by rw [World.size_alloc]; rfl) (by have := LE4.out; omega) ?_; intro v10 w10 hB10 hG10)
  have AM := Lib.hid (all_more cod_entry OK4.out ((Z1 : Int) % 256) [])
  have hgr : (w9.alloc (.cells #[.int .u64 0, .int .u64 0, .int .u8 0, .int .u64 0, .slice none 0 0] 71)).grownBy w10 (Value.slice g1 L1 k1).ownBlock := hG10.1
  have VB := fun k hk => (show w.heap.size + 3 ≤ k ∧ k < w1.heap.size from ⟨by have := Ow.blk_lt O1.out k hk; simp at this; omega, Bo.lt O1.out k hk⟩)
  have B10 := Lib.hid (B9.out.grown hgr B9.out.size (fun k hk => by have := (VB k hk).1; omega))
  have KR10 := Lib.hid (KR9.out.grown hgr (fun e => by have := (VB _ e.symm).1; omega))
  have KZ10 := Lib.hid (KZ9.out.grown hgr (fun e => by have := (VB _ e.symm).1; omega))
  have S210 := Lib.hid (show Gots _ _ r2 from rd_grown2_ S29.out hgr SB2.out (fun k hk => by have := (VB k hk).1; omega))
  have O210 := Lib.hid (show Bo w1.heap.size w10 _ _ from ow_grown_ O29.out hgr (fun k hk => (VB k hk).2))
  have X10 := Lib.hid hB10.own.bs
  clear hB10 hG10 hgr VB m1
  refine (Get_entry_any _ (entryB ([x0, x1, x2, x3], r4) ++ [(Z1 : Int) % 256]) _ X10.out (by
    intro c hc
    rcases List.mem_append.1 hc with h | h
    · exact BY.out c h
    · rw [List.mem_singleton] at h; subst h; exact ⟨by omega, by omega⟩) (by have := LE4.out; simp only [List.length_append, List.length_cons, List.length_nil]; omega)).mono ?_
  intro e w11 hp
  unfold GPost at hp
  rw [AM.out] at hp
  obtain ⟨rfl, hb11⟩ := hp
  have b1011 := hb11.trans ((below_alloc_ w11 (.cells #[.int .u64 0, .int .u64 0, .int .u8 0, .int .u64 0, .slice none 0 0] 71)).mono hb11.size)
  have B11 := Lib.hid (B10.out.trans (b1011.mono B10.out.size))
  have KR11 := Lib.hid (KR10.out.below b1011 KR10.out.lt)
  have KZ11 := Lib.hid (KZ10.out.below b1011 KZ10.out.lt)
  have S211 := Lib.hid (show Gots _ _ r2 from Rd.below S210.out b1011)
  have O211 := Lib.hid (O210.out.below b1011)
  clear hb11 b1011
  have hM0 : 0 < L2 := by
    rw [HL2.out]
    have := nb_len_pos (zz E)
    simp only [replyB, replyK, fB, fb1, List.headD_cons, List.length_append, sb]
    omega
  have hM0' : ¬ (L2 : Int) = 0 := by omega
  have hM1' : 0 < (L2 : Int) := by omega
  have hMb : ((L2 : Int) == 0) = false := beq_eq_false_iff_ne.2 hM0'
  have AG2 := Lib.hid (all_get cod_reply OK2.out)
  have BY2 := Lib.hid (cod_reply.byt ([E, At], r2) OK2.out)
  go_wp2_with fail
  refine (Get_reply_any _ (replyB ([E, At], r2)) _ O211.out.bs BY2.out (Nat.le_trans LE2.out (by decide))).mono ?_
  intro e w12 hp
  unfold GPost at hp
  rw [AG2.out] at hp
  obtain ⟨v12, rfl, ⟨A6, rfl, ho6⟩, hb12⟩ := hp
  have B12 := Lib.hid (B11.out.trans (hb12.mono B11.out.size))
  have kr12 := KR11.out.below hb12 KR11.out.lt
  have KZ12 := Lib.hid (KZ11.out.below hb12 KZ11.out.lt)
  have S212 := Lib.hid (show Gots _ _ r2 from Rd.below S211.out hb12)
  have S612 := Lib.hid (show Gots _ _ r2 from ho6.rd)
  have O212 := Lib.hid (O211.out.below hb12)
  have k7 := kr12.alloc (.cells #[.int .i64 E, .int .i64 At, .slice A6 r2.length r2.length] 33)
  have y0 := k7.cell 0
  have y1 := k7.cell 1
  have y2 := k7.cell 2
  simp only [List.getElem?_toArray, List.getElem?_cons_zero, List.getElem?_cons_succ] at y0 y1 y2
  have HX2 := Lib.hid (fun q (hq : q ∈ r2) => (fok_len _ _ (HI2.out q hq) : q.length = 2))
  clear hb12 ho6 kr12 k7
  go_wp2_with fail
  refine (samer_any E At E At _ _ r2 r2 HX2.out HX2.out _ (Rd.alloc S212.out _) (Rd.alloc S612.out _) (by omega)).mono ?_
  rintro e w13 ⟨rfl, b13⟩
  rw [show decide (E = E ∧ At = At ∧ r2 = r2) = true from by simp]
  have b1213 := (below_alloc_ w12 (.cells #[.int .i64 E, .int .i64 At, .slice A6 r2.length r2.length] 33)).trans (b13.mono (below_alloc_ w12 (.cells #[.int .i64 E, .int .i64 At, .slice A6 r2.length r2.length] 33)).size)
  have B13 := Lib.hid (B12.out.trans (b1213.mono B12.out.size))
  have kz13 := KZ12.out.below b1213 KZ12.out.lt
  have O213 := Lib.hid (O212.out.below b1213)
  have j0 := kz13.cell 0
  simp only [List.getElem?_toArray, List.getElem?_cons_zero, List.getElem?_cons_succ] at j0
  obtain ⟨q2, hqd2⟩ : ∃ q, q = Z0 % L2 := ⟨_, rfl⟩
  have hqm2 : (Z0 : Int) % (L2 : Int) = (q2 : Int) := by rw [hqd2]; rfl
  have hqt2 : (Z0 : Int).tmod (L2 : Int) = (q2 : Int) := by rw [Int.tmod_eq_emod_of_nonneg (by omega)]; exact hqm2
  have hql2 : q2 < L2 := by rw [hqd2]; exact Nat.mod_lt _ hM0
  have hqi2 : (q2 : Int) ≤ (L2 : Int) := by omega
  have hqc2 : (q2 : Int) ≤ (k2 : Int) := by omega
  have hq02 : (0 : Int) ≤ (q2 : Int) := by omega
  have hz0j : (Z0 : Int) ≤ 65535 := by omega
  have AC2 := Lib.hid (all_cut cod_reply OK2.out (k := q2) (by rw [← HL2.out]; exact hql2))
  clear b13 b1213 kz13 y0 y1 y2 hqd2
  go_wp2_with fail
  refine (Get_reply_any _ ((replyB ([E, At], r2)).take q2) _ (O213.out.bs.takes q2 k2 (by omega) (by omega)) (fun c hc => BY2.out c (List.mem_of_mem_take hc)) (by have := LE2.out; rw [List.length_take]; omega)).mono ?_
  intro e w14 hp
  unfold GPost at hp
  rw [AC2.out] at hp
  obtain ⟨rfl, hb14⟩ := hp
  have b1314 := hb14.trans ((below_alloc_ w14 (.cells #[.int .i64 0, .int .i64 0, .slice none 0 0] 33)).mono hb14.size)
  have BL := Lib.hid (B13.out.trans (b1314.mono B13.out.size))
  clear hb14 b1314 j0
  go_wp2_with fail
  refine (plives _).mono ?_
  rintro e w15 ⟨rfl, b15⟩
  have B15 := Lib.hid (BL.out.trans (b15.mono BL.out.size))
  clear b15
  go_wp2
  go_ret
  exact ⟨rfl, B15.out⟩
set_option maxHeartbeats 8000000 in
set_option maxRecDepth 100000 in
theorem back_10 (x0 x1 x2 x3 : Int) (r4 : List (List Int)) (A4 : Option Addr) (c4 : Nat) (E At : Int) (r2 : List (List Int)) (A2 : Option Addr) (c2 : Nat) (Z0 Z1 : Nat) (f0 : fok1 .u64 x0) (f1 : fok1 .u64 x1) (f2 : fok1 .u8 x2) (f3 : fok1 .u64 x3) (hin4 : ∀ q ∈ r4, fok stepK q)
    (hE : fok1 .i64 E) (hA : fok1 .i64 At) (hin2 : ∀ q ∈ r2, fok gotK q) (hz0 : Z0 ≤ 65535) (hz1 : Z1 ≤ 65535) (w : World) (hv4 : Steps w (.slice A4 r4.length c4) r4) (hv2 : Gots w (.slice A2 r2.length c2) r2) (h4 : r4.length ≤ 100) (h2 : r2.length ≤ 100)
    (t4 : r4.length ≤ 8) (t2 : ¬ r2.length ≤ 8) :
    Calls Try.prog 7 #[.agg #[.int .u64 x0, .int .u64 x1, .int .u8 x2, .int .u64 x3, .slice A4 r4.length c4], .agg #[.int .i64 E, .int .i64 At, .slice A2 r2.length c2], .agg #[.int .u16 Z0, .int .u16 Z1]] w fun e w' => e = .returned (.bool true) ∧ Below w.heap.size w w' := by
  have b3 := below_alloc3_ w (.cells #[.int .u64 x0, .int .u64 x1, .int .u8 x2, .int .u64 x3, .slice A4 r4.length c4] 71) (.cells #[.int .i64 E, .int .i64 At, .slice A2 r2.length c2] 33) (.cells #[.int .u16 Z0, .int .u16 Z1] 81)
  have ke := ((Blk.new w 71 #[.int .u64 x0, .int .u64 x1, .int .u8 x2, .int .u64 x3, .slice A4 r4.length c4]).alloc (.cells #[.int .i64 E, .int .i64 At, .slice A2 r2.length c2] 33)).alloc (.cells #[.int .u16 Z0, .int .u16 Z1] 81)
  have kr := (Blk.new (w.alloc (.cells #[.int .u64 x0, .int .u64 x1, .int .u8 x2, .int .u64 x3, .slice A4 r4.length c4] 71)) 33 #[.int .i64 E, .int .i64 At, .slice A2 r2.length c2]).alloc (.cells #[.int .u16 Z0, .int .u16 Z1] 81)
  have kz := Blk.new ((w.alloc (.cells #[.int .u64 x0, .int .u64 x1, .int .u8 x2, .int .u64 x3, .slice A4 r4.length c4] 71)).alloc (.cells #[.int .i64 E, .int .i64 At, .slice A2 r2.length c2] 33)) 81 #[.int .u16 Z0, .int .u16 Z1]
  simp only [World.size_alloc] at kr kz
  have KE := Lib.hid ke
  have KR := Lib.hid kr
  have KZ := Lib.hid kz
  have B0 := Lib.hid b3
  have SB2 := Lib.hid (rd_block_ hv2)
  have S4 := Lib.hid (show Steps _ _ r4 from Rd.below hv4 b3)
  have S2 := Lib.hid (show Gots _ _ r2 from Rd.below hv2 b3)
  have HI4 := Lib.hid hin4
  have HI2 := Lib.hid hin2
  have F0 := Lib.hid f0
  have F1 := Lib.hid f1
  have F2 := Lib.hid f2
  have F3 := Lib.hid f3
  have FE := Lib.hid hE
  have FA := Lib.hid hA
  have h100a : ¬ 100 < (r4.length : Int) := by omega
  have h100b : ¬ 100 < (r2.length : Int) := by omega
  have t4' : (r4.length : Int) ≤ 8 := by omega
  have t2' : ¬ (r2.length : Int) ≤ 8 := by omega
  have R4 := Lib.hid (show entryR ([x0, x1, x2, x3], r4) = (entryB ([x0, x1, x2, x3], r4), 0) from if_pos t4)
  have R2 := Lib.hid (show replyR ([E, At], r2) = ([], 3) from if_neg t2)
  have OK4 := Lib.hid (show entryOk ([x0, x1, x2, x3], r4) from ⟨⟨f0, f1, f2, f3, rfl⟩, t4, hin4⟩)
  have LE4 := Lib.hid (entryLen f0 f1 f2 f3 t4 hin4)
  clear b3 ke kr kz hv4 hv2 hin4 hin2 f0 f1 f2 f3 hE hA
  go_enter Try.func7, Try.ntmps7
  go_wp2_with fail
  refine (Put_entry_any x0 x1 x2 x3 _ r4 F0.out F1.out F2.out F3.out HI4.out _ S4.out (by omega)).mono ?_
  rintro e w1 ⟨v1, rfl, ho1, hb1⟩
  rw [R4.out] at ho1 ⊢
  obtain ⟨g1, k1, rfl, hc1, -⟩ := ho1.clip
  obtain ⟨L1, hL1⟩ : ∃ L, L = (entryB ([x0, x1, x2, x3], r4)).length := ⟨_, rfl⟩
  rw [← hL1] at ho1 hc1 ⊢
  have HL1 := Lib.hid hL1
  clear hL1
  have O1 := Lib.hid ho1
  have B1 := Lib.hid (B0.out.trans (hb1.mono B0.out.size))
  have KE1 := Lib.hid (KE.out.below hb1 KE.out.lt)
  have KR1 := Lib.hid (KR.out.below hb1 KR.out.lt)
  have KZ1 := Lib.hid (KZ.out.below hb1 KZ.out.lt)
  have S41 := Lib.hid (show Steps _ _ r4 from Rd.below S4.out hb1)
  have S21 := Lib.hid (show Gots _ _ r2 from Rd.below S2.out hb1)
  have y0 := KR1.out.cell 0
  have y1 := KR1.out.cell 1
  have y2 := KR1.out.cell 2
  simp only [List.getElem?_toArray, List.getElem?_cons_zero, List.getElem?_cons_succ] at y0 y1 y2
  clear ho1 hb1
  go_wp2_with fail
  refine (Put_reply_any E At _ r2 FE.out FA.out HI2.out _ S21.out (by omega)).mono ?_
  rintro e w2 ⟨v2, rfl, ho2, hb2⟩
  rw [R2.out] at ho2 ⊢
  have O2 := Lib.hid ho2
  have O12 := Lib.hid (O1.out.below hb2)
  have B2 := Lib.hid (B1.out.trans (hb2.mono B1.out.size))
  have KE2 := Lib.hid (KE1.out.below hb2 KE1.out.lt)
  have KR2 := Lib.hid (KR1.out.below hb2 KR1.out.lt)
  have KZ2 := Lib.hid (KZ1.out.below hb2 KZ1.out.lt)
  have S42 := Lib.hid (show Steps _ _ r4 from Rd.below S41.out hb2)
  have S22 := Lib.hid (show Gots _ _ r2 from Rd.below S21.out hb2)
  clear ho2 hb2 y0 y1 y2
  have e4 := KE2.out.cell 4
  have y2 := KR2.out.cell 2
  simp only [List.getElem?_toArray, List.getElem?_cons_zero, List.getElem?_cons_succ] at e4 y2
  have hL0 : 0 < L1 := by
    rw [HL1.out]
    have := nb_len_pos x0.toNat
    simp only [entryB, entryK, fB, fb1, List.headD_cons, List.length_append]
    omega
  have hL0' : ¬ (L1 : Int) = 0 := by omega
  have hL1' : 0 < (L1 : Int) := by omega
  have hLb : ((L1 : Int) == 0) = false := beq_eq_false_iff_ne.2 hL0'
  have AG := Lib.hid (all_get cod_entry OK4.out)
  have BY := Lib.hid (cod_entry.byt ([x0, x1, x2, x3], r4) OK4.out)
  go_wp2_with fail
  refine (Get_entry_any _ (entryB ([x0, x1, x2, x3], r4)) _ O12.out.bs BY.out (Nat.le_trans LE4.out (by decide))).mono ?_
  intro e w3 hp
  unfold GPost at hp
  rw [AG.out] at hp
  obtain ⟨v3, rfl, ⟨A5, rfl, ho5⟩, hb3⟩ := hp
  have B3 := Lib.hid (B2.out.trans (hb3.mono B2.out.size))
  have ke3 := KE2.out.below hb3 KE2.out.lt
  have KE3 := Lib.hid ke3
  have KR3 := Lib.hid (KR2.out.below hb3 KR2.out.lt)
  have KZ3 := Lib.hid (KZ2.out.below hb3 KZ2.out.lt)
  have S43 := Lib.hid (show Steps _ _ r4 from Rd.below S42.out hb3)
  have S53 := Lib.hid (show Steps _ _ r4 from ho5.rd)
  have S23 := Lib.hid (show Gots _ _ r2 from Rd.below S22.out hb3)
  have O13 := Lib.hid (O12.out.below hb3)
  have O23 := Lib.hid (O2.out.below hb3)
  have k4 := ke3.alloc (.cells #[.int .u64 x0, .int .u64 x1, .int .u8 x2, .int .u64 x3, .slice A5 r4.length r4.length] 71)
  have p0 := k4.cell 0
  simp only [List.getElem?_toArray, List.getElem?_cons_zero, List.getElem?_cons_succ] at p0
  have p1 := k4.cell 1
  simp only [List.getElem?_toArray, List.getElem?_cons_zero, List.getElem?_cons_succ] at p1
  have p2 := k4.cell 2
  simp only [List.getElem?_toArray, List.getElem?_cons_zero, List.getElem?_cons_succ] at p2
  have p3 := k4.cell 3
  simp only [List.getElem?_toArray, List.getElem?_cons_zero, List.getElem?_cons_succ] at p3
  have p4 := k4.cell 4
  simp only [List.getElem?_toArray, List.getElem?_cons_zero, List.getElem?_cons_succ] at p4
  have pf := k4.free
  have k5 := (Blk.new w3 71 #[.int .u64 x0, .int .u64 x1, .int .u8 x2, .int .u64 x3, .slice A5 r4.length r4.length]).alloc (.cells #[.int .u64 x0, .int .u64 x1, .int .u8 x2, .int .u64 x3, .slice A4 r4.length c4] 71)
  have q0 := k5.cell 0
  simp only [List.getElem?_toArray, List.getElem?_cons_zero, List.getElem?_cons_succ] at q0
  have q1 := k5.cell 1
  simp only [List.getElem?_toArray, List.getElem?_cons_zero, List.getElem?_cons_succ] at q1
  have q2 := k5.cell 2
  simp only [List.getElem?_toArray, List.getElem?_cons_zero, List.getElem?_cons_succ] at q2
  have q3 := k5.cell 3
  simp only [List.getElem?_toArray, List.getElem?_cons_zero, List.getElem?_cons_succ] at q3
  have q4 := k5.cell 4
  simp only [List.getElem?_toArray, List.getElem?_cons_zero, List.getElem?_cons_succ] at q4
  clear hb3 ho5 ke3 k4 k5 e4 y2
  go_wp2_with fail
  have h1 : Ents (((w3.alloc (.cells #[.int .u64 x0, .int .u64 x1, .int .u8 x2, .int .u64 x3, .slice A5 r4.length r4.length] 71)).alloc (.cells #[.int .u64 x0, .int .u64 x1, .int .u8 x2, .int .u64 x3, .slice A4 r4.length c4] 71)).alloc (.cells #[.int .u64 x0, .int .u64 x1, .int .u8 x2, .int .u64 x3, .slice A5 r4.length r4.length] 71)) (.slice (some ⟨(w3.alloc (.cells #[.int .u64 x0, .int .u64 x1, .int .u8 x2, .int .u64 x3, .slice A5 r4.length r4.length] 71)).heap.size, 0, none⟩) 1 1) [([x0, x1, x2, x3], r4)] := Ents.alloc (Ents.one (e := ([x0, x1, x2, x3], r4)) (s := .slice A4 r4.length c4) (Rd.alloc S43.out _)) _
  rw [World.size_alloc] at h1
  have h2 : Ents (((w3.alloc (.cells #[.int .u64 x0, .int .u64 x1, .int .u8 x2, .int .u64 x3, .slice A5 r4.length r4.length] 71)).alloc (.cells #[.int .u64 x0, .int .u64 x1, .int .u8 x2, .int .u64 x3, .slice A4 r4.length c4] 71)).alloc (.cells #[.int .u64 x0, .int .u64 x1, .int .u8 x2, .int .u64 x3, .slice A5 r4.length r4.length] 71)) (.slice (some ⟨((w3.alloc (.cells #[.int .u64 x0, .int .u64 x1, .int .u8 x2, .int .u64 x3, .slice A5 r4.length r4.length] 71)).alloc (.cells #[.int .u64 x0, .int .u64 x1, .int .u8 x2, .int .u64 x3, .slice A4 r4.length c4] 71)).heap.size, 0, none⟩) 1 1) [([x0, x1, x2, x3], r4)] := Ents.one (e := ([x0, x1, x2, x3], r4)) (s := .slice A5 r4.length r4.length) (Rd.alloc (Rd.alloc S53.out _) _)
  rw [World.size_alloc, World.size_alloc] at h2
  refine (samees_any [([x0, x1, x2, x3], r4)] (by
    intro e he
    obtain rfl : e = ([x0, x1, x2, x3], r4) := by simpa using he
    exact ⟨rfl, by simp only; omega, fun q hq => fok_len _ _ (HI4.out q hq)⟩) _ _ _ h1 h2 (by simp)).mono ?_
  rintro e w8 ⟨rfl, b8⟩
  have b38 := (below_alloc3_ w3 (.cells #[.int .u64 x0, .int .u64 x1, .int .u8 x2, .int .u64 x3, .slice A5 r4.length r4.length] 71) (.cells #[.int .u64 x0, .int .u64 x1, .int .u8 x2, .int .u64 x3, .slice A4 r4.length c4] 71) (.cells #[.int .u64 x0, .int .u64 x1, .int .u8 x2, .int .u64 x3, .slice A5 r4.length r4.length] 71)).trans (b8.mono (below_alloc3_ w3 (.cells #[.int .u64 x0, .int .u64 x1, .int .u8 x2, .int .u64 x3, .slice A5 r4.length r4.length] 71) (.cells #[.int .u64 x0, .int .u64 x1, .int .u8 x2, .int .u64 x3, .slice A4 r4.length c4] 71) (.cells #[.int .u64 x0, .int .u64 x1, .int .u8 x2, .int .u64 x3, .slice A5 r4.length r4.length] 71)).size)
  have B8 := Lib.hid (B3.out.trans (b38.mono B3.out.size))
  have KR8 := Lib.hid (KR3.out.below b38 KR3.out.lt)
  have KZ8 := Lib.hid (KZ3.out.below b38 KZ3.out.lt)
  have S28 := Lib.hid (show Gots _ _ r2 from Rd.below S23.out b38)
  have O18 := Lib.hid (O13.out.below b38)
  have O28 := Lib.hid (O23.out.below b38)
  obtain ⟨q, hqd⟩ : ∃ q, q = Z0 % L1 := ⟨_, rfl⟩
  have hqm : (Z0 : Int) % (L1 : Int) = (q : Int) := by rw [hqd]; rfl
  have hqt : (Z0 : Int).tmod (L1 : Int) = (q : Int) := by rw [Int.tmod_eq_emod_of_nonneg (by omega)]; exact hqm
  have hql : q < L1 := by rw [hqd]; exact Nat.mod_lt _ hL0
  have hqi : (q : Int) ≤ (L1 : Int) := by omega
  have hqc : (q : Int) ≤ (k1 : Int) := by omega
  have hq0 : (0 : Int) ≤ (q : Int) := by omega
  have g0 := KZ8.out.cell 0
  have g1' := KZ8.out.cell 1
  simp only [List.getElem?_toArray, List.getElem?_cons_zero, List.getElem?_cons_succ] at g0 g1'
  have hz0i : (Z0 : Int) ≤ 65535 := by omega
  have hz1i : (Z1 : Int) ≤ 65535 := by omega
  have AC := Lib.hid (all_cut cod_entry OK4.out (k := q) (by rw [← HL1.out]; exact hql))
  clear h1 h2 b8 b38 hqd p0 p1 p2 p3 p4 q0 q1 q2 q3 q4 pf
  go_wp2_with fail
  refine (Get_entry_any _ ((entryB ([x0, x1, x2, x3], r4)).take q) _ (O18.out.bs.takes q k1 (by omega) (by omega)) (fun c hc => BY.out c (List.mem_of_mem_take hc)) (by have := LE4.out; rw [List.length_take]; omega)).mono ?_
  intro e w9 hp
  unfold GPost at hp
  rw [AC.out] at hp
  obtain ⟨rfl, hb9⟩ := hp
  have b89 := hb9.trans ((below_alloc_ w9 (.cells #[.int .u64 0, .int .u64 0, .int .u8 0, .int .u64 0, .slice none 0 0] 71)).mono hb9.size)
  have B9 := Lib.hid (B8.out.trans (b89.mono B8.out.size))
  have KR9 := Lib.hid (KR8.out.below b89 KR8.out.lt)
  have kz9 := KZ8.out.below b89 KZ8.out.lt
  have KZ9 := Lib.hid kz9
  have S29 := Lib.hid (show Gots _ _ r2 from Rd.below S28.out b89)
  have O29 := Lib.hid (O28.out.below b89)
  have HBF := Lib.hid (show Bf 0 (w9.alloc (.cells #[.int .u64 0, .int .u64 0, .int .u8 0, .int .u64 0, .slice none 0 0] 71)) (w9.alloc (.cells #[.int .u64 0, .int .u64 0, .int .u8 0, .int .u64 0, .slice none 0 0] 71)) _ (entryB ([x0, x1, x2, x3], r4)) from ⟨(O18.out.below b89).le (Nat.zero_le _), Below.refl _ _, Nat.zero_le _⟩)
  have m1 := kz9.cell 1
  simp only [List.getElem?_toArray, List.getElem?_cons_zero, List.getElem?_cons_succ] at m1
  clear hb9 b89 kz9 g0 g1'
  go_wp2_with (at_builtin; refine wpList_bf_byteK rfl _ _ 52 rfl Try.underlying52 rfl HBF.out (by rw [World.size_alloc]; rfl) (by have := LE4.out; omega) ?_; intro v10 w10 hB10 hG10)
  have AM := Lib.hid (all_more cod_entry OK4.out ((Z1 : Int) % 256) [])
  have hgr : (w9.alloc (.cells #[.int .u64 0, .int .u64 0, .int .u8 0, .int .u64 0, .slice none 0 0] 71)).grownBy w10 (Value.slice g1 L1 k1).ownBlock := hG10.1
  have VB := fun k hk => (show w.heap.size + 3 ≤ k ∧ k < w1.heap.size from ⟨by have := Ow.blk_lt O1.out k hk; simp at this; omega, Bo.lt O1.out k hk⟩)
  have B10 := Lib.hid (B9.out.grown hgr B9.out.size (fun k hk => by have := (VB k hk).1; omega))
  have KR10 := Lib.hid (KR9.out.grown hgr (fun e => by have := (VB _ e.symm).1; omega))
  have KZ10 := Lib.hid (KZ9.out.grown hgr (fun e => by have := (VB _ e.symm).1; omega))
  have S210 := Lib.hid (show Gots _ _ r2 from rd_grown2_ S29.out hgr SB2.out (fun k hk => by have := (VB k hk).1; omega))
  have O210 := Lib.hid (show Bo w1.heap.size w10 _ _ from ow_grown_ O29.out hgr (fun k hk => (VB k hk).2))
  have X10 := Lib.hid hB10.own.bs
  clear hB10 hG10 hgr VB m1
  refine (Get_entry_any _ (entryB ([x0, x1, x2, x3], r4) ++ [(Z1 : Int) % 256]) _ X10.out (by
    intro c hc
    rcases List.mem_append.1 hc with h | h
    · exact BY.out c h
    · rw [List.mem_singleton] at h; subst h; exact ⟨by omega, by omega⟩) (by have := LE4.out; simp only [List.length_append, List.length_cons, List.length_nil]; omega)).mono ?_
  intro e w11 hp
  unfold GPost at hp
  rw [AM.out] at hp
  obtain ⟨rfl, hb11⟩ := hp
  have b1011 := hb11.trans ((below_alloc_ w11 (.cells #[.int .u64 0, .int .u64 0, .int .u8 0, .int .u64 0, .slice none 0 0] 71)).mono hb11.size)
  have B11 := Lib.hid (B10.out.trans (b1011.mono B10.out.size))
  have KR11 := Lib.hid (KR10.out.below b1011 KR10.out.lt)
  have KZ11 := Lib.hid (KZ10.out.below b1011 KZ10.out.lt)
  have S211 := Lib.hid (show Gots _ _ r2 from Rd.below S210.out b1011)
  have O211 := Lib.hid (O210.out.below b1011)
  clear hb11 b1011
  have BL := Lib.hid (B11.out)
  go_wp2_with fail
  refine (plives _).mono ?_
  rintro e w15 ⟨rfl, b15⟩
  have B15 := Lib.hid (BL.out.trans (b15.mono BL.out.size))
  clear b15
  go_wp2
  go_ret
  exact ⟨rfl, B15.out⟩
set_option maxHeartbeats 8000000 in
set_option maxRecDepth 100000 in
theorem back_01 (x0 x1 x2 x3 : Int) (r4 : List (List Int)) (A4 : Option Addr) (c4 : Nat) (E At : Int) (r2 : List (List Int)) (A2 : Option Addr) (c2 : Nat) (Z0 Z1 : Nat) (f0 : fok1 .u64 x0) (f1 : fok1 .u64 x1) (f2 : fok1 .u8 x2) (f3 : fok1 .u64 x3) (hin4 : ∀ q ∈ r4, fok stepK q)
    (hE : fok1 .i64 E) (hA : fok1 .i64 At) (hin2 : ∀ q ∈ r2, fok gotK q) (hz0 : Z0 ≤ 65535) (hz1 : Z1 ≤ 65535) (w : World) (hv4 : Steps w (.slice A4 r4.length c4) r4) (hv2 : Gots w (.slice A2 r2.length c2) r2) (h4 : r4.length ≤ 100) (h2 : r2.length ≤ 100)
    (t4 : ¬ r4.length ≤ 8) (t2 : r2.length ≤ 8) :
    Calls Try.prog 7 #[.agg #[.int .u64 x0, .int .u64 x1, .int .u8 x2, .int .u64 x3, .slice A4 r4.length c4], .agg #[.int .i64 E, .int .i64 At, .slice A2 r2.length c2], .agg #[.int .u16 Z0, .int .u16 Z1]] w fun e w' => e = .returned (.bool true) ∧ Below w.heap.size w w' := by
  have b3 := below_alloc3_ w (.cells #[.int .u64 x0, .int .u64 x1, .int .u8 x2, .int .u64 x3, .slice A4 r4.length c4] 71) (.cells #[.int .i64 E, .int .i64 At, .slice A2 r2.length c2] 33) (.cells #[.int .u16 Z0, .int .u16 Z1] 81)
  have ke := ((Blk.new w 71 #[.int .u64 x0, .int .u64 x1, .int .u8 x2, .int .u64 x3, .slice A4 r4.length c4]).alloc (.cells #[.int .i64 E, .int .i64 At, .slice A2 r2.length c2] 33)).alloc (.cells #[.int .u16 Z0, .int .u16 Z1] 81)
  have kr := (Blk.new (w.alloc (.cells #[.int .u64 x0, .int .u64 x1, .int .u8 x2, .int .u64 x3, .slice A4 r4.length c4] 71)) 33 #[.int .i64 E, .int .i64 At, .slice A2 r2.length c2]).alloc (.cells #[.int .u16 Z0, .int .u16 Z1] 81)
  have kz := Blk.new ((w.alloc (.cells #[.int .u64 x0, .int .u64 x1, .int .u8 x2, .int .u64 x3, .slice A4 r4.length c4] 71)).alloc (.cells #[.int .i64 E, .int .i64 At, .slice A2 r2.length c2] 33)) 81 #[.int .u16 Z0, .int .u16 Z1]
  simp only [World.size_alloc] at kr kz
  have KE := Lib.hid ke
  have KR := Lib.hid kr
  have KZ := Lib.hid kz
  have B0 := Lib.hid b3
  have SB2 := Lib.hid (rd_block_ hv2)
  have S4 := Lib.hid (show Steps _ _ r4 from Rd.below hv4 b3)
  have S2 := Lib.hid (show Gots _ _ r2 from Rd.below hv2 b3)
  have HI4 := Lib.hid hin4
  have HI2 := Lib.hid hin2
  have F0 := Lib.hid f0
  have F1 := Lib.hid f1
  have F2 := Lib.hid f2
  have F3 := Lib.hid f3
  have FE := Lib.hid hE
  have FA := Lib.hid hA
  have h100a : ¬ 100 < (r4.length : Int) := by omega
  have h100b : ¬ 100 < (r2.length : Int) := by omega
  have t4' : ¬ (r4.length : Int) ≤ 8 := by omega
  have t2' : (r2.length : Int) ≤ 8 := by omega
  have R4 := Lib.hid (show entryR ([x0, x1, x2, x3], r4) = ([], 3) from if_neg t4)
  have R2 := Lib.hid (show replyR ([E, At], r2) = (replyB ([E, At], r2), 0) from if_pos t2)
  have OK2 := Lib.hid (show replyOk ([E, At], r2) from ⟨⟨hE, hA, rfl⟩, t2, hin2⟩)
  have LE2 := Lib.hid (replyLen hE hA t2 hin2)
  clear b3 ke kr kz hv4 hv2 hin4 hin2 f0 f1 f2 f3 hE hA
  go_enter Try.func7, Try.ntmps7
  go_wp2_with fail
  refine (Put_entry_any x0 x1 x2 x3 _ r4 F0.out F1.out F2.out F3.out HI4.out _ S4.out (by omega)).mono ?_
  rintro e w1 ⟨v1, rfl, ho1, hb1⟩
  rw [R4.out] at ho1 ⊢
  have O1 := Lib.hid ho1
  have B1 := Lib.hid (B0.out.trans (hb1.mono B0.out.size))
  have KE1 := Lib.hid (KE.out.below hb1 KE.out.lt)
  have KR1 := Lib.hid (KR.out.below hb1 KR.out.lt)
  have KZ1 := Lib.hid (KZ.out.below hb1 KZ.out.lt)
  have S41 := Lib.hid (show Steps _ _ r4 from Rd.below S4.out hb1)
  have S21 := Lib.hid (show Gots _ _ r2 from Rd.below S2.out hb1)
  have y0 := KR1.out.cell 0
  have y1 := KR1.out.cell 1
  have y2 := KR1.out.cell 2
  simp only [List.getElem?_toArray, List.getElem?_cons_zero, List.getElem?_cons_succ] at y0 y1 y2
  clear ho1 hb1
  go_wp2_with fail
  refine (Put_reply_any E At _ r2 FE.out FA.out HI2.out _ S21.out (by omega)).mono ?_
  rintro e w2 ⟨v2, rfl, ho2, hb2⟩
  rw [R2.out] at ho2 ⊢
  obtain ⟨g2, k2, rfl, hc2, -⟩ := ho2.clip
  obtain ⟨L2, hL2⟩ : ∃ L, L = (replyB ([E, At], r2)).length := ⟨_, rfl⟩
  rw [← hL2] at ho2 hc2 ⊢
  have HL2 := Lib.hid hL2
  clear hL2
  have O2 := Lib.hid ho2
  have O12 := Lib.hid (O1.out.below hb2)
  have B2 := Lib.hid (B1.out.trans (hb2.mono B1.out.size))
  have KE2 := Lib.hid (KE1.out.below hb2 KE1.out.lt)
  have KR2 := Lib.hid (KR1.out.below hb2 KR1.out.lt)
  have KZ2 := Lib.hid (KZ1.out.below hb2 KZ1.out.lt)
  have S42 := Lib.hid (show Steps _ _ r4 from Rd.below S41.out hb2)
  have S22 := Lib.hid (show Gots _ _ r2 from Rd.below S21.out hb2)
  clear ho2 hb2 y0 y1 y2
  have e4 := KE2.out.cell 4
  have y2 := KR2.out.cell 2
  simp only [List.getElem?_toArray, List.getElem?_cons_zero, List.getElem?_cons_succ] at e4 y2
  have hM0 : 0 < L2 := by
    rw [HL2.out]
    have := nb_len_pos (zz E)
    simp only [replyB, replyK, fB, fb1, List.headD_cons, List.length_append, sb]
    omega
  have hM0' : ¬ (L2 : Int) = 0 := by omega
  have hM1' : 0 < (L2 : Int) := by omega
  have hMb : ((L2 : Int) == 0) = false := beq_eq_false_iff_ne.2 hM0'
  have AG2 := Lib.hid (all_get cod_reply OK2.out)
  have BY2 := Lib.hid (cod_reply.byt ([E, At], r2) OK2.out)
  go_wp2_with fail
  refine (Get_reply_any _ (replyB ([E, At], r2)) _ O2.out.bs BY2.out (Nat.le_trans LE2.out (by decide))).mono ?_
  intro e w12 hp
  unfold GPost at hp
  rw [AG2.out] at hp
  obtain ⟨v12, rfl, ⟨A6, rfl, ho6⟩, hb12⟩ := hp
  have B12 := Lib.hid (B2.out.trans (hb12.mono B2.out.size))
  have kr12 := KR2.out.below hb12 KR2.out.lt
  have KZ12 := Lib.hid (KZ2.out.below hb12 KZ2.out.lt)
  have S212 := Lib.hid (show Gots _ _ r2 from Rd.below S22.out hb12)
  have S612 := Lib.hid (show Gots _ _ r2 from ho6.rd)
  have O212 := Lib.hid (O2.out.below hb12)
  have k7 := kr12.alloc (.cells #[.int .i64 E, .int .i64 At, .slice A6 r2.length r2.length] 33)
  have y0 := k7.cell 0
  have y1 := k7.cell 1
  have y2 := k7.cell 2
  simp only [List.getElem?_toArray, List.getElem?_cons_zero, List.getElem?_cons_succ] at y0 y1 y2
  have HX2 := Lib.hid (fun q (hq : q ∈ r2) => (fok_len _ _ (HI2.out q hq) : q.length = 2))
  clear hb12 ho6 kr12 k7
  go_wp2_with fail
  refine (samer_any E At E At _ _ r2 r2 HX2.out HX2.out _ (Rd.alloc S212.out _) (Rd.alloc S612.out _) (by omega)).mono ?_
  rintro e w13 ⟨rfl, b13⟩
  rw [show decide (E = E ∧ At = At ∧ r2 = r2) = true from by simp]
  have b1213 := (below_alloc_ w12 (.cells #[.int .i64 E, .int .i64 At, .slice A6 r2.length r2.length] 33)).trans (b13.mono (below_alloc_ w12 (.cells #[.int .i64 E, .int .i64 At, .slice A6 r2.length r2.length] 33)).size)
  have B13 := Lib.hid (B12.out.trans (b1213.mono B12.out.size))
  have kz13 := KZ12.out.below b1213 KZ12.out.lt
  have O213 := Lib.hid (O212.out.below b1213)
  have j0 := kz13.cell 0
  simp only [List.getElem?_toArray, List.getElem?_cons_zero, List.getElem?_cons_succ] at j0
  obtain ⟨q2, hqd2⟩ : ∃ q, q = Z0 % L2 := ⟨_, rfl⟩
  have hqm2 : (Z0 : Int) % (L2 : Int) = (q2 : Int) := by rw [hqd2]; rfl
  have hqt2 : (Z0 : Int).tmod (L2 : Int) = (q2 : Int) := by rw [Int.tmod_eq_emod_of_nonneg (by omega)]; exact hqm2
  have hql2 : q2 < L2 := by rw [hqd2]; exact Nat.mod_lt _ hM0
  have hqi2 : (q2 : Int) ≤ (L2 : Int) := by omega
  have hqc2 : (q2 : Int) ≤ (k2 : Int) := by omega
  have hq02 : (0 : Int) ≤ (q2 : Int) := by omega
  have hz0j : (Z0 : Int) ≤ 65535 := by omega
  have AC2 := Lib.hid (all_cut cod_reply OK2.out (k := q2) (by rw [← HL2.out]; exact hql2))
  clear b13 b1213 kz13 y0 y1 y2 hqd2
  go_wp2_with fail
  refine (Get_reply_any _ ((replyB ([E, At], r2)).take q2) _ (O213.out.bs.takes q2 k2 (by omega) (by omega)) (fun c hc => BY2.out c (List.mem_of_mem_take hc)) (by have := LE2.out; rw [List.length_take]; omega)).mono ?_
  intro e w14 hp
  unfold GPost at hp
  rw [AC2.out] at hp
  obtain ⟨rfl, hb14⟩ := hp
  have b1314 := hb14.trans ((below_alloc_ w14 (.cells #[.int .i64 0, .int .i64 0, .slice none 0 0] 33)).mono hb14.size)
  have BL := Lib.hid (B13.out.trans (b1314.mono B13.out.size))
  clear hb14 b1314 j0
  go_wp2_with fail
  refine (plives _).mono ?_
  rintro e w15 ⟨rfl, b15⟩
  have B15 := Lib.hid (BL.out.trans (b15.mono BL.out.size))
  clear b15
  go_wp2
  go_ret
  exact ⟨rfl, B15.out⟩
set_option maxHeartbeats 8000000 in
set_option maxRecDepth 100000 in
theorem back_00 (x0 x1 x2 x3 : Int) (r4 : List (List Int)) (A4 : Option Addr) (c4 : Nat) (E At : Int) (r2 : List (List Int)) (A2 : Option Addr) (c2 : Nat) (Z0 Z1 : Nat) (f0 : fok1 .u64 x0) (f1 : fok1 .u64 x1) (f2 : fok1 .u8 x2) (f3 : fok1 .u64 x3) (hin4 : ∀ q ∈ r4, fok stepK q)
    (hE : fok1 .i64 E) (hA : fok1 .i64 At) (hin2 : ∀ q ∈ r2, fok gotK q) (hz0 : Z0 ≤ 65535) (hz1 : Z1 ≤ 65535) (w : World) (hv4 : Steps w (.slice A4 r4.length c4) r4) (hv2 : Gots w (.slice A2 r2.length c2) r2) (h4 : r4.length ≤ 100) (h2 : r2.length ≤ 100)
    (t4 : ¬ r4.length ≤ 8) (t2 : ¬ r2.length ≤ 8) :
    Calls Try.prog 7 #[.agg #[.int .u64 x0, .int .u64 x1, .int .u8 x2, .int .u64 x3, .slice A4 r4.length c4], .agg #[.int .i64 E, .int .i64 At, .slice A2 r2.length c2], .agg #[.int .u16 Z0, .int .u16 Z1]] w fun e w' => e = .returned (.bool true) ∧ Below w.heap.size w w' := by
  have b3 := below_alloc3_ w (.cells #[.int .u64 x0, .int .u64 x1, .int .u8 x2, .int .u64 x3, .slice A4 r4.length c4] 71) (.cells #[.int .i64 E, .int .i64 At, .slice A2 r2.length c2] 33) (.cells #[.int .u16 Z0, .int .u16 Z1] 81)
  have ke := ((Blk.new w 71 #[.int .u64 x0, .int .u64 x1, .int .u8 x2, .int .u64 x3, .slice A4 r4.length c4]).alloc (.cells #[.int .i64 E, .int .i64 At, .slice A2 r2.length c2] 33)).alloc (.cells #[.int .u16 Z0, .int .u16 Z1] 81)
  have kr := (Blk.new (w.alloc (.cells #[.int .u64 x0, .int .u64 x1, .int .u8 x2, .int .u64 x3, .slice A4 r4.length c4] 71)) 33 #[.int .i64 E, .int .i64 At, .slice A2 r2.length c2]).alloc (.cells #[.int .u16 Z0, .int .u16 Z1] 81)
  have kz := Blk.new ((w.alloc (.cells #[.int .u64 x0, .int .u64 x1, .int .u8 x2, .int .u64 x3, .slice A4 r4.length c4] 71)).alloc (.cells #[.int .i64 E, .int .i64 At, .slice A2 r2.length c2] 33)) 81 #[.int .u16 Z0, .int .u16 Z1]
  simp only [World.size_alloc] at kr kz
  have KE := Lib.hid ke
  have KR := Lib.hid kr
  have KZ := Lib.hid kz
  have B0 := Lib.hid b3
  have SB2 := Lib.hid (rd_block_ hv2)
  have S4 := Lib.hid (show Steps _ _ r4 from Rd.below hv4 b3)
  have S2 := Lib.hid (show Gots _ _ r2 from Rd.below hv2 b3)
  have HI4 := Lib.hid hin4
  have HI2 := Lib.hid hin2
  have F0 := Lib.hid f0
  have F1 := Lib.hid f1
  have F2 := Lib.hid f2
  have F3 := Lib.hid f3
  have FE := Lib.hid hE
  have FA := Lib.hid hA
  have h100a : ¬ 100 < (r4.length : Int) := by omega
  have h100b : ¬ 100 < (r2.length : Int) := by omega
  have t4' : ¬ (r4.length : Int) ≤ 8 := by omega
  have t2' : ¬ (r2.length : Int) ≤ 8 := by omega
  have R4 := Lib.hid (show entryR ([x0, x1, x2, x3], r4) = ([], 3) from if_neg t4)
  have R2 := Lib.hid (show replyR ([E, At], r2) = ([], 3) from if_neg t2)
  clear b3 ke kr kz hv4 hv2 hin4 hin2 f0 f1 f2 f3 hE hA
  go_enter Try.func7, Try.ntmps7
  go_wp2_with fail
  refine (Put_entry_any x0 x1 x2 x3 _ r4 F0.out F1.out F2.out F3.out HI4.out _ S4.out (by omega)).mono ?_
  rintro e w1 ⟨v1, rfl, ho1, hb1⟩
  rw [R4.out] at ho1 ⊢
  have O1 := Lib.hid ho1
  have B1 := Lib.hid (B0.out.trans (hb1.mono B0.out.size))
  have KE1 := Lib.hid (KE.out.below hb1 KE.out.lt)
  have KR1 := Lib.hid (KR.out.below hb1 KR.out.lt)
  have KZ1 := Lib.hid (KZ.out.below hb1 KZ.out.lt)
  have S41 := Lib.hid (show Steps _ _ r4 from Rd.below S4.out hb1)
  have S21 := Lib.hid (show Gots _ _ r2 from Rd.below S2.out hb1)
  have y0 := KR1.out.cell 0
  have y1 := KR1.out.cell 1
  have y2 := KR1.out.cell 2
  simp only [List.getElem?_toArray, List.getElem?_cons_zero, List.getElem?_cons_succ] at y0 y1 y2
  clear ho1 hb1
  go_wp2_with fail
  refine (Put_reply_any E At _ r2 FE.out FA.out HI2.out _ S21.out (by omega)).mono ?_
  rintro e w2 ⟨v2, rfl, ho2, hb2⟩
  rw [R2.out] at ho2 ⊢
  have O2 := Lib.hid ho2
  have O12 := Lib.hid (O1.out.below hb2)
  have B2 := Lib.hid (B1.out.trans (hb2.mono B1.out.size))
  have KE2 := Lib.hid (KE1.out.below hb2 KE1.out.lt)
  have KR2 := Lib.hid (KR1.out.below hb2 KR1.out.lt)
  have KZ2 := Lib.hid (KZ1.out.below hb2 KZ1.out.lt)
  have S42 := Lib.hid (show Steps _ _ r4 from Rd.below S41.out hb2)
  have S22 := Lib.hid (show Gots _ _ r2 from Rd.below S21.out hb2)
  clear ho2 hb2 y0 y1 y2
  have e4 := KE2.out.cell 4
  have y2 := KR2.out.cell 2
  simp only [List.getElem?_toArray, List.getElem?_cons_zero, List.getElem?_cons_succ] at e4 y2
  have BL := Lib.hid (B2.out)
  go_wp2_with fail
  refine (plives _).mono ?_
  rintro e w15 ⟨rfl, b15⟩
  have B15 := Lib.hid (BL.out.trans (b15.mono BL.out.size))
  clear b15
  go_wp2
  go_ret
  exact ⟨rfl, B15.out⟩
set_option maxHeartbeats 2000000 in
set_option maxRecDepth 100000 in
theorem back_great (x0 x1 x2 x3 : Int) (n4 : Nat) (A4 : Option Addr) (c4 : Nat) (E At : Int) (n2 : Nat) (A2 : Option Addr) (c2 : Nat) (Z0 Z1 : Nat) (w : World) (h : 100 < n4 ∨ 100 < n2) :
    Calls Try.prog 7 #[.agg #[.int .u64 x0, .int .u64 x1, .int .u8 x2, .int .u64 x3, .slice A4 n4 c4], .agg #[.int .i64 E, .int .i64 At, .slice A2 n2 c2], .agg #[.int .u16 Z0, .int .u16 Z1]] w fun e w' => e = .returned (.bool true) ∧ Below w.heap.size w w' := by
  have B := Lib.hid (below_alloc3_ w (.cells #[.int .u64 x0, .int .u64 x1, .int .u8 x2, .int .u64 x3, .slice A4 n4 c4] 71) (.cells #[.int .i64 E, .int .i64 At, .slice A2 n2 c2] 33) (.cells #[.int .u16 Z0, .int .u16 Z1] 81))
  by_cases h4 : 100 < n4
  · have h4' : 100 < (n4 : Int) := by omega
    clear h
    go_enter Try.func7, Try.ntmps7
    go_wp2_with fail
    refine (plives _).mono ?_
    rintro e w1 ⟨rfl, hb⟩
    have HB := Lib.hid (B.out.trans (hb.mono B.out.size))
    clear hb
    go_wp2
    go_ret
    exact ⟨rfl, HB.out⟩
  · have h4' : ¬ 100 < (n4 : Int) := by omega
    have h2' : 100 < (n2 : Int) := by omega
    clear h
    go_enter Try.func7, Try.ntmps7
    go_wp2_with fail
    refine (plives _).mono ?_
    rintro e w1 ⟨rfl, hb⟩
    have HB := Lib.hid (B.out.trans (hb.mono B.out.size))
    clear hb
    go_wp2
    go_ret
    exact ⟨rfl, HB.out⟩
theorem back_walk (x0 x1 x2 x3 : Int) (r4 : List (List Int)) (A4 : Option Addr) (c4 : Nat) (E At : Int) (r2 : List (List Int)) (A2 : Option Addr) (c2 : Nat) (Z0 Z1 : Nat) (f0 : fok1 .u64 x0) (f1 : fok1 .u64 x1) (f2 : fok1 .u8 x2) (f3 : fok1 .u64 x3) (hin4 : ∀ q ∈ r4, fok stepK q)
    (hE : fok1 .i64 E) (hA : fok1 .i64 At) (hin2 : ∀ q ∈ r2, fok gotK q) (hz0 : Z0 ≤ 65535) (hz1 : Z1 ≤ 65535) (w : World) (hv4 : Steps w (.slice A4 r4.length c4) r4) (hv2 : Gots w (.slice A2 r2.length c2) r2) :
    Calls Try.prog 7 #[.agg #[.int .u64 x0, .int .u64 x1, .int .u8 x2, .int .u64 x3, .slice A4 r4.length c4], .agg #[.int .i64 E, .int .i64 At, .slice A2 r2.length c2], .agg #[.int .u16 Z0, .int .u16 Z1]] w fun e w' => e = .returned (.bool true) ∧ Below w.heap.size w w' := by
  by_cases h : 100 < r4.length ∨ 100 < r2.length
  · exact back_great x0 x1 x2 x3 r4.length A4 c4 E At r2.length A2 c2 Z0 Z1 w h
  · by_cases t4 : r4.length ≤ 8
    · by_cases t2 : r2.length ≤ 8
      · exact back_11 x0 x1 x2 x3 r4 A4 c4 E At r2 A2 c2 Z0 Z1 f0 f1 f2 f3 hin4 hE hA hin2 hz0 hz1 w hv4 hv2 (by omega) (by omega) t4 t2
      · exact back_10 x0 x1 x2 x3 r4 A4 c4 E At r2 A2 c2 Z0 Z1 f0 f1 f2 f3 hin4 hE hA hin2 hz0 hz1 w hv4 hv2 (by omega) (by omega) t4 t2
    · by_cases t2 : r2.length ≤ 8
      · exact back_01 x0 x1 x2 x3 r4 A4 c4 E At r2 A2 c2 Z0 Z1 f0 f1 f2 f3 hin4 hE hA hin2 hz0 hz1 w hv4 hv2 (by omega) (by omega) t4 t2
      · exact back_00 x0 x1 x2 x3 r4 A4 c4 E At r2 A2 c2 Z0 Z1 f0 f1 f2 f3 hin4 hE hA hin2 hz0 hz1 w hv4 hv2 (by omega) (by omega) t4 t2
end Go.Proofs.Ytielnocnnffdfaa
