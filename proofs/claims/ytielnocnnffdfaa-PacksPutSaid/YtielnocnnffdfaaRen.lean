/- The document's bytes of an entry. -/
import Derived.Test.YtielnocnnffdfaaRcm
import Derived.Test.YtielnocnnffdfaaPqe
namespace Go.Proofs.Ytielnocnnffdfaa
open Go.RowKit

set_option maxHeartbeats 8000000 in
set_option maxRecDepth 100000 in
theorem rentry_any (u v : Value) (xs : List Int) (x0 x1 x3 : Nat) (x2 : Int) (r : List (List Int)) (h0 : x0 < 18446744073709551616) (h1 : x1 < 18446744073709551616) (h3 : x3 < 18446744073709551616) (hin : ∀ q ∈ r, fok stepK q) (w : World) (hu : Bs w u xs) (hv : Steps w v r) (hg : r.length ≤ 1000000) (hl : xs.length + (entryB ([(x0 : Int), x1, x2, x3], r)).length ≤ 70368744177664) :
    Calls Try.prog 70 #[u, .agg #[.int .u64 x0, .int .u64 x1, .int .u8 x2, .int .u64 x3, v]] w fun e w' => ∃ v', e = .returned v' ∧ Bo w.heap.size w' v' (xs ++ entryB ([(x0 : Int), x1, x2, x3], r)) ∧ Below w.heap.size w w' := by
  have k0 := Blk.new w 71 #[.int .u64 x0, .int .u64 x1, .int .u8 x2, .int .u64 x3, v]
  have bw := below_alloc_ w (.cells #[.int .u64 x0, .int .u64 x1, .int .u8 x2, .int .u64 x3, v] 71)
  have K := Lib.hid k0
  have HU := Lib.hid (Bs.below hu bw)
  have V := Lib.hid (show Steps _ v r from Rd.below hv bw)
  have I := Lib.hid hin
  have BW := Lib.hid bw
  have H0 := Lib.hid h0
  have H1 := Lib.hid h1
  have H3 := Lib.hid h3
  have hfl : entryB ([(x0 : Int), x1, x2, x3], r) = nb x0 ++ (nb x1 ++ ([x2] ++ (nb x3 ++ []))) ++ cmdB r := rfl
  have HFL := Lib.hid hfl
  rw [hfl] at hl ⊢
  simp only [List.length_append, List.length_cons, List.length_nil] at hl
  have HL := Lib.hid hl
  obtain ⟨A0, q0, rfl, -⟩ := id hv
  have hW1 : w.heap.size < (w.alloc (.cells #[.int .u64 x0, .int .u64 x1, .int .u8 x2, .int .u64 x3, .slice A0 r.length q0] 71)).heap.size := by simp
  have ku := HU.out
  obtain ⟨W, hW⟩ : ∃ W, W = w.alloc (.cells #[.int .u64 x0, .int .u64 x1, .int .u8 x2, .int .u64 x3, .slice A0 r.length q0] 71) := ⟨_, rfl⟩
  have KS : ∀ X, Below W.heap.size W X → (X.cell? ⟨w.heap.size, 0, none⟩ = some (.int .u64 x0) ∧ X.cell? ⟨w.heap.size, 1, none⟩ = some (.int .u64 x1)) ∧ (X.cell? ⟨w.heap.size, 3, none⟩ = some (.int .u64 x3) ∧ X.cell? ⟨w.heap.size, 4, none⟩ = some (.slice A0 r.length q0)) ∧ X.cell? ⟨w.heap.size, 2, none⟩ = some (.int .u8 x2) := by
    rw [hW]
    exact fun X hb => ⟨⟨((K.out.below hb hW1).cell 0).trans rfl, ((K.out.below hb hW1).cell 1).trans rfl⟩, ⟨((K.out.below hb hW1).cell 3).trans rfl, ((K.out.below hb hW1).cell 4).trans rfl⟩, ((K.out.below hb hW1).cell 2).trans rfl⟩
  have F0 := Lib.hid (show Below W.heap.size W W.drew from (Below.refl W.heap.size W).drew)
  have HKS := Lib.hid KS
  subst hW
  clear k0 bw hu hv hin hl h0 h1 h3 hfl KS ku
  go_enter Try.func70, Try.ntmps70
  go_wp2_with fail
  go_region_held3 (fun w' => w'.cell? ⟨w.heap.size, 0, none⟩ = some (.int .u64 x0) ∧ w'.cell? ⟨w.heap.size, 1, none⟩ = some (.int .u64 x1)) (first
     | (with_reducible exact (HKS.out _ B2.out).1)
     | (with_reducible exact (HKS.out _ B1.out).1)
     | (with_reducible exact (HKS.out _ F0.out).1)
     | fail)
    (first
     | (go_at_call 64; refine (rnum_any u1 (xs ++ nb x0) x1 _ (by exact G1.out.own.bs) H1.out (by have := HL.out; (try simp only [List.length_append, List.length_cons, List.length_nil] at this); (try simp only [List.length_append, List.length_cons, List.length_nil]); omega)).mono ?_; rintro e w2 ⟨u2, rfl, ho2, hb2⟩; have B2 := Lib.hid (B1.out.trans (hb2.mono B1.out.size)); have G2 := Lib.hid (G1.out.next ho2 hb2); clear ho2 hb2)
     | (go_at_call 64; refine (rnum_any u xs x0 _ (by exact HU.out) H0.out (by have := HL.out; (try simp only [List.length_append, List.length_cons, List.length_nil] at this); (try simp only [List.length_append, List.length_cons, List.length_nil]); omega)).mono ?_; rintro e w1 ⟨u1, rfl, ho1, hb1⟩; have B1 := Lib.hid (F0.out.trans (hb1.mono F0.out.size)); have G1 := Lib.hid (show Bf (w.alloc (.cells #[.int .u64 x0, .int .u64 x1, .int .u8 x2, .int .u64 x3, .slice A0 r.length q0] 71)).heap.size (w.alloc (.cells #[.int .u64 x0, .int .u64 x1, .int .u8 x2, .int .u64 x3, .slice A0 r.length q0] 71)) w1 u1 _ from ⟨ho1, F0.out.trans hb1, hb1.size⟩); clear ho1 hb1))
  generalize w.alloc (.cells #[.int .u64 x0, .int .u64 x1, .int .u8 x2, .int .u64 x3, .slice A0 r.length q0] 71) = W at *
  have s2 := (HKS.out _ B2.out).2.2
  go_wp2_with (at_builtin; go_must (refine wpList_bf_byte rfl _ _ 52 rfl Try.underlying52 rfl G2.out rfl (by have := HL.out; (try simp only [List.length_append, List.length_cons, List.length_nil] at this); (try simp only [List.length_append, List.length_cons, List.length_nil]); omega) ?_); intro v3 w3 hB3)
  have G3 := Lib.hid hB3
  have B3 := Lib.hid G3.out.bel.drew
  clear hB3 s2
  go_region_held3 (fun w' => w'.cell? ⟨w.heap.size, 3, none⟩ = some (.int .u64 x3) ∧ w'.cell? ⟨w.heap.size, 4, none⟩ = some (.slice A0 r.length q0)) (first
     | (with_reducible exact (HKS.out _ G5.out.bel).2.1)
     | (with_reducible exact (HKS.out _ G4.out.bel).2.1)
     | (with_reducible exact (HKS.out _ B3.out).2.1)
     | fail)
    (first
     | (go_at_call 73; refine (rcmd_any u4 _ (xs ++ nb x0 ++ nb x1 ++ [x2] ++ nb x3) r I.out _ (by exact G4.out.own.bs) (show Steps _ _ r from Rd.below V.out (G4.out.bel.mono (Nat.le_refl _))) (by omega) (by have := HL.out; (try simp only [List.length_append, List.length_cons, List.length_nil] at this); (try simp only [List.length_append, List.length_cons, List.length_nil]); omega)).mono ?_; rintro e w5 ⟨u5, rfl, ho5, hb5⟩; have G5 := Lib.hid (G4.out.next ho5 hb5); clear ho5 hb5)
     | (go_at_call 64; refine (rnum_any v3 (xs ++ nb x0 ++ nb x1 ++ [x2]) x3 _ (by exact G3.out.own.bs) H3.out (by have := HL.out; (try simp only [List.length_append, List.length_cons, List.length_nil] at this); (try simp only [List.length_append, List.length_cons, List.length_nil]); omega)).mono ?_; rintro e w4 ⟨u4, rfl, ho4, hb4⟩; have G4 := Lib.hid (G3.out.drew.next ho4 hb4); clear ho4 hb4))
  go_wp2
  go_ret
  refine ⟨u5, rfl, ?_, BW.out.trans (G5.out.bel.mono (by omega))⟩
  have := G5.out.own.le (B' := w.heap.size) (by omega)
  simpa only [List.append_assoc, List.append_nil, List.cons_append, List.nil_append] using this
set_option maxHeartbeats 4000000 in
theorem rputentry_any (x0 x1 x2 x3 : Int) (v : Value) (r : List (List Int)) (h0 : fok1 .u64 x0) (h1 : fok1 .u64 x1) (h2 : fok1 .u8 x2) (h3 : fok1 .u64 x3) (hin : ∀ q ∈ r, fok stepK q) (w : World) (hv : Steps w v r) (hg : r.length ≤ 1000000) :
    Calls Try.prog 32 #[.agg #[.int .u64 x0, .int .u64 x1, .int .u8 x2, .int .u64 x3, v]] w fun e w' => ∃ v', e = .returned (.tuple #[v', .int .i64 (entryR ([x0, x1, x2, x3], r)).2]) ∧ Bo w.heap.size w' v' (entryR ([x0, x1, x2, x3], r)).1 ∧ Below w.heap.size w w' := by
  have HE := Lib.hid (show fok entryK [x0, x1, x2, x3] from ⟨h0, h1, h2, h3, rfl⟩)
  obtain ⟨x0, rfl⟩ : ∃ m : Nat, x0 = (m : Int) := ⟨x0.toNat, by have := h0.1; omega⟩
  obtain ⟨x1, rfl⟩ : ∃ m : Nat, x1 = (m : Int) := ⟨x1.toNat, by have := h1.1; omega⟩
  obtain ⟨x3, rfl⟩ : ∃ m : Nat, x3 = (m : Int) := ⟨x3.toNat, by have := h3.1; omega⟩
  have H0 := Lib.hid (show x0 < 18446744073709551616 by have := h0.2; omega)
  have H1 := Lib.hid (show x1 < 18446744073709551616 by have := h1.2; omega)
  have H3 := Lib.hid (show x3 < 18446744073709551616 by have := h3.2; omega)
  have HI := Lib.hid hin
  have HV := Lib.hid (show Steps _ v r from Rd.alloc hv (.cells #[.int .u64 x0, .int .u64 x1, .int .u8 x2, .int .u64 x3, v] 71))
  obtain ⟨E0, q0, rfl, -⟩ := id hv
  clear hin hv h0 h1 h2 h3
  by_cases t0 : r.length ≤ 8
  rotate_left
  · have t0' : (8 : Int) < (r.length : Int) := by omega
    have HR := Lib.hid (show entryR ([x0, x1, x2, x3], r) = ([], 3) from if_neg t0)
    rw [HR.out]
    go_enter Try.func32, Try.ntmps32
    go_wp2
    refine bodyPost_ret (results_tmp2 rfl _ _ _) rfl ?_
    exact ⟨_, rfl, Bo.nil_ _ _, below_alloc_ _ _⟩
  have t0' : ¬ (8 : Int) < (r.length : Int) := by omega
  have hl : ([] : List Int).length + (entryB ([x0, x1, x2, x3], r)).length ≤ 70368744177664 := by
    have h1 := list_len stepK r 10 rfl t0 (by decide) HI.out
    have h2 := fB_len entryK _ HE.out
    simp only [entryB, entryK, List.length_nil, List.length_append, List.length_cons, stepsB] at h1 h2 ⊢
    omega
  have HL := Lib.hid hl
  have HR := Lib.hid (show entryR ([x0, x1, x2, x3], r) = (entryB ([x0, x1, x2, x3], r), 0) from if_pos t0)
  rw [HR.out]
  clear hl
  go_enter Try.func32, Try.ntmps32
  go_wp2_with fail
  refine (rentry_any _ _ [] x0 x1 x3 x2 r H0.out H1.out H3.out HI.out _ (Bs.nils _ _ _) HV.out (by omega) HL.out).mono ?_
  rintro e w1 ⟨v1, rfl, ho, hb⟩
  have HO := Lib.hid ho
  have HB := Lib.hid hb
  clear ho hb
  go_wp2
  refine bodyPost_ret (results_tmp2 rfl _ _ _) rfl ?_
  exact ⟨_, rfl, HO.out.le (by simp), (below_alloc_ _ _).trans (HB.out.mono (by simp))⟩
end Go.Proofs.Ytielnocnnffdfaa
