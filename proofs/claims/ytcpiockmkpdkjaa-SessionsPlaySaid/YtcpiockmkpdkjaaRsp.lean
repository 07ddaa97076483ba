/- The document's book: Put. -/
import Derived.Test.YtcpiockmkpdkjaaSrb
import Derived.Test.YtcpiockmkpdkjaaSpu
import Derived.Test.YtcpiockmkpdkjaaRrp
namespace Go.Proofs.Ytcpiockmkpdkjaa
open Go.RowKit

/-- What lies from B on stands where only a block below B has turned. -/
theorem Ow.keepO {w w' : World} {B e size n : Nat} {v : Value} {xs : List Value} {r : Option Nat} (h : Ow B w e size v n xs) (hg : w.grownBy w' r) (hr : ∀ k, r = some k → k < B) : Ow B w' e size v n xs := by
  rcases h with h | ⟨g, c, cur, hV, hB, hk', h'⟩
  · exact .inl h
  · exact .inr ⟨g, c, cur, hV, hB, hk'.grown hg (fun e => by have := hr g e.symm; omega), h'⟩
set_option maxHeartbeats 8000000 in
set_option maxRecDepth 100000 in
theorem rbput_any (b : Nat) (B : Nat → Sp) (w : World) {F : Nat → Prop} (h : IsRb F w b B) :
    Calls Try.prog 19 #[.pointer (some ⟨b, 0, none⟩)] w fun e w' => ∃ v, e = .returned v ∧ Bo w.heap.size w' v (bookB B) ∧ Below w.heap.size w w' := by
  have H := Lib.hid h
  obtain ⟨V, hb, hv⟩ := h
  have HB := Lib.hid hb
  have HV := Lib.hid hv
  clear hb hv
  go_enter Try.func19, Try.ntmps19
  go_wp2_with fail
  go_loopg [3, 4, 5] 8 (fun q x y z wr => ∃ k m : Nat, m = k + 1 ∧ k ≤ 8 ∧ q = 8 - k ∧ x = .int .u8 (manyB B k) ∧ z = .int .i64 m ∧ Bf w.heap.size w wr y (uptoB B k))
  case atStart => exact ⟨0, 1, rfl, by omega, rfl, rfl, rfl, Bf.start_ w⟩
  case round =>
    obtain ⟨k, m, hm, hk, hq, rfl, rfl, hF⟩ := hrel
    have HF := Lib.hid hF
    have Q := Lib.hid hq
    have hmk := manyB_le B k
    have hlen0 := uptoB_len (fun i hi => H.out.ok i hi) k hk
    have MK := Lib.hid hm
    clear hF hq
    by_cases hk8 : k < 8
    · have hm9 : m < 9 := by omega
      have hm9i : (m : Int) < 9 := by omega
      have hm8 : (m : Int) ≤ 8 := by omega
      have hS := uptoB_succ B k
      have hM := manyB_succ B k
      obtain ⟨ho, -, ok⟩ := HV.out m hm9
      obtain ⟨pg, hpg⟩ : ∃ p, p = B k := ⟨_, rfl⟩
      have e0 : shB B m = pg := by rw [hm, hpg]; rfl
      rw [e0] at ho ok
      have hkb := HB.out.below HF.out.bel HB.out.lt
      have c0 := hkb.cell m
      have c1 := hkb.cell (9 + m * 3 + 0)
      have c2 := hkb.cell (9 + m * 3 + 1)
      have c3 := hkb.cell (9 + m * 3 + 2)
      rw [rbCells_num _ _ m hm9, e0] at c0
      rw [rbCells_rep _ _ m _ hm9 (by omega), e0] at c1 c2 c3
      simp only [rpCells, List.getElem?_cons_zero, List.getElem?_cons_succ, Nat.add_zero] at c1 c2 c3
      obtain ⟨vk, hvk⟩ : ∃ v, v = V m := ⟨_, rfl⟩
      rw [← hvk] at c3 ho
      obtain ⟨A, c, rfl⟩ := ho.sl_
      have HOW := Lib.hid ho
      have HOK := Lib.hid ok
      have HS := Lib.hid hS
      have HM := Lib.hid hM
      have KB := Lib.hid hkb
      have PG := Lib.hid hpg
      obtain ⟨us, hus⟩ : ∃ l, l = uptoB B k := ⟨_, rfl⟩
      obtain ⟨t0, ht0⟩ : ∃ c, c = manyB B k := ⟨_, rfl⟩
      rw [← hus] at HS hlen0 HF
      rw [← ht0] at HM hmk ⊢
      have E0 := Lib.hid e0
      clear ho ok hS hM hkb hvk hm hus ht0 e0 hpg
      by_cases hz : pg.num = 0
      · have hz' : (pg.num == 0) = true := by simpa using hz
        rw [hz] at c0
        go_wp2
        go_roundg (8 - (k + 1))
        case measure => have := Q.out; omega
        case rel =>
          refine ⟨k + 1, m + 1, by have := MK.out; omega, by omega, rfl, ?_, by go_num, ?_⟩
          · rw [HM.out, ← PG.out]; simp [hz]
          · rw [HS.out]; unfold partB; rw [← PG.out]; simp only [hz, if_true, List.append_nil]; exact HF.out
      · have hlo := HOK.out.lo
        have hhi := HOK.out.hi
        have hfw := HOK.out.few
        have hrl := rB_len HOK.out
        have hpos : 0 < pg.num := by omega
        have hk8i : (k : Int) ≤ 8 := by omega
        have VG := Lib.hid (Rd.below HOW.out.rd HF.out.bel)
        go_wp2_with fail
        refine (rputreply_any pg.e pg.a _ pg.gs HOK.out.e HOK.out.a HOK.out.gs _ VG.out (by omega)).mono ?_
        rintro e w2 ⟨rv, rfl, hr, hb2⟩
        rw [rB_R HOK.out] at hr ⊢
        simp only at hr ⊢
        have G2 := Lib.hid (HF.out.below hb2)
        have K2 := Lib.hid (KB.out.below hb2 KB.out.lt)
        obtain ⟨Ar, cr, rfl, -⟩ := hr.clip
        have R2 := Lib.hid hr.bs
        obtain ⟨rl, hrle⟩ : ∃ n, n = (rB pg).length := ⟨_, rfl⟩
        rw [← hrle] at R2 hrl hr ⊢
        have HRL := Lib.hid hrle
        have hwl : IntKind.u64.wrap (rl : Int) = rl := by rw [show (rl : Int) = ((rl : Nat) : Int) from rfl]; exact IntWalk.u64_in _ (by omega)
        have hwk : IntKind.u8.wrap (m : Int) = m := by rw [IntWalk.u8_in _ (by omega)]
        have WL := Lib.hid hwl
        have WK := Lib.hid hwk
        obtain ⟨M, hm0⟩ : ∃ M : Nat, (M : Int) = pg.num := ⟨pg.num.toNat, by omega⟩
        have hm64 : M < 18446744073709551616 := by omega
        have M0 := Lib.hid hm0
        have C0 := Lib.hid (show ∀ X, Below w.heap.size w X → X.cell? ⟨b, m, none⟩ = some (.int .u64 M) from fun X hX => by
          rw [hX.cell (p := ⟨b, m, none⟩) HB.out.lt, HB.out.cell, rbCells_num _ _ m hm9, E0.out, hm0])
        have HZ := Lib.hid hz
        have RO := Lib.hid hr
        have GL := Lib.hid (HF.out.own.lt)
        have hkw : wr.heap.size ≤ w2.heap.size := hb2.size
        clear hrle hwl hwk hr hb2 c0 c1 c2 c3 VG hm0 hz hlo hhi hpos
        have hbl := HB.out.lt
        have S1 := Lib.hid (show w2.drew.cell? ⟨b, m, none⟩ = some (.int .u64 M) from C0.out _ G2.out.bel.drew)
        have S2 := Lib.hid (fun z : Int => show (w2.alloc (.cells #[.int .u8 z] 5)).drew.cell? ⟨b, m, none⟩ = some (.int .u64 M) from C0.out _ (G2.out.alloc (.cells #[.int .u8 z] 5)).bel.drew)
        have GA := Lib.hid (fun z : Int => show Bf w.heap.size w (w2.alloc (.cells #[.int .u8 z] 5)).drew _ _ from (G2.out.alloc (.cells #[.int .u8 z] 5)).drew)
        have LA := Lib.hid (fun z : Int => show Bs (w2.alloc (.cells #[.int .u8 z] 5)).drew _ [z] from Bs.lits w2 [z])
        have RA := Lib.hid (fun z : Int => show Bo wr.heap.size (w2.alloc (.cells #[.int .u8 z] 5)).drew _ _ from RO.out.below (below_alloc_ w2 (.cells #[.int .u8 z] 5)).drew)
        go_wp2_with fail
        go_region_held_law (fun w' => w'.cell? ⟨b, m, none⟩ = some (.int .u64 M)) (first
           | (with_reducible exact S3.out _ hb4)
           | (with_reducible exact S3.out _ (Below.refl _ _))
           | (with_reducible exact S2.out _)
           | (with_reducible exact S1.out)
           | fail)
          (first
           | (refine step_bf_bytes rfl _ _ 52 rfl Try.underlying52 rfl (GA.out _) (LA.out _) rfl (by simp only [List.length_cons, List.length_nil]; omega) ?_; intro v3 w3 hB3 hK3; have G3 := Lib.hid hB3; have R3 := Lib.hid (Ow.keepO (RA.out _) hK3.1 GL.out); have S3 := Lib.hid (fun Y (hb : Below w3.heap.size w3 Y) => C0.out Y (hB3.bel.trans (hb.mono hB3.le))); clear hB3 hK3)
           | (go_simp; go_at_call 34; refine (rnum_any v3 _ M _ (by exact G3.out.own.bs) hm64 (by simp only [List.length_append, List.length_cons, List.length_nil]; omega)).mono ?_; rintro e w4 ⟨v4, rfl, ho4, hb4⟩; have G4 := Lib.hid (G3.out.next ho4 hb4); have R4 := Lib.hid (R3.out.below hb4)))
        rw [WK.out] at G4
        have hnm := nb_ten hm64
        have hnl := nb_ten (n := rl) (by omega)
        clear G3 R3 S3 S1 S2 GA LA RA G2 K2 R2 ho4 hb4 RO
        go_wp2_with fail
        try rw [WL.out]
        refine (rnum_any v4 _ rl _ (by exact G4.out.own.bs) (by omega) (by simp only [List.length_append, List.length_cons, List.length_nil]; omega)).mono ?_
        rintro e w5 ⟨v5, rfl, ho5, hb5⟩
        have G5 := Lib.hid (G4.out.next ho5 hb5)
        have R5 := Lib.hid (show Bs w5 (.slice Ar rl cr) (rB pg) from (R4.out.below hb5).rd)
        clear ho5 hb5 G4 R4
        have hrl2 := HRL.out
        have HR2 := Lib.hid hrl2
        clear hrl2
        go_wp2_with (at_builtin; go_must (refine wpList_bf_bytes rfl _ _ 52 rfl Try.underlying52 rfl G5.out R5.out rfl (by have := HR2.out; simp only [List.length_append, List.length_cons, List.length_nil]; omega) ?_); intro v6 w6 hB6; have G6 := Lib.hid hB6; clear hB6)
        go_roundg (8 - (k + 1))
        case measure => have := Q.out; omega
        case rel =>
          refine ⟨k + 1, m + 1, by have := MK.out; omega, by omega, rfl, ?_, by go_num, ?_⟩
          · rw [HM.out, ← PG.out, if_neg HZ.out]; rfl
          · rw [HS.out]
            unfold partB
            rw [← PG.out, if_neg HZ.out]
            have e1 : pg.num.toNat = M := by have := M0.out; omega
            unfold pB
            rw [e1, ← HR2.out]
            have := G6.out
            rw [show ((k : Int) + 1) = m from by have := MK.out; omega]
            simpa only [List.append_assoc, List.cons_append, List.nil_append] using this
    · obtain rfl : k = 8 := by omega
      obtain rfl : m = 9 := by have := MK.out; omega
      obtain ⟨us, hus⟩ : ∃ l, l = uptoB B 8 := ⟨_, rfl⟩
      obtain ⟨t0, ht0⟩ : ∃ c, c = manyB B 8 := ⟨_, rfl⟩
      have hbk : bookB B = (t0 : Int) :: us := by unfold bookB; rw [← ht0, ← hus]
      rw [← hus] at HF hlen0
      rw [← ht0] at hmk ⊢
      have F0 := Lib.hid (show Bf w.heap.size w (wr.alloc (.cells #[.int .u8 (t0 : Int)] 5)) (.slice (some ⟨wr.heap.size, 0, none⟩) 1 1) [(t0 : Int)] from
        ⟨.inr ⟨wr.heap.size, 1, _, rfl, HF.out.le, Blk.new _ _ _, Nat.le_refl _, rfl, by simp, rfl⟩, HF.out.bel.alloc HF.out.le _, by have := HF.out.le; simp; omega⟩)
      have Y0 := Lib.hid (show Bs (wr.alloc (.cells #[.int .u8 (t0 : Int)] 5)) _ us from HF.out.own.bs.below (below_alloc_ _ _))
      have KB := Lib.hid hbk
      clear hus ht0 hbk
      go_wp2_with (at_builtin; go_must (refine wpList_bf_bytes rfl _ _ 52 rfl Try.underlying52 rfl F0.out Y0.out rfl (by simp only [List.length_cons, List.length_nil]; omega) ?_); intro v6 w6 hB6; have G6 := Lib.hid hB6; clear hB6)
      go_ret
      exact ⟨_, rfl, by rw [KB.out]; exact G6.out.own, G6.out.bel⟩
end Go.Proofs.Ytcpiockmkpdkjaa
