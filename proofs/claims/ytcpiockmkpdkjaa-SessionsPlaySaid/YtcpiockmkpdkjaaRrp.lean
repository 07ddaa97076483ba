/- The document's bytes of a reply. -/
import Derived.Test.YtcpiockmkpdkjaaPqr
import Derived.Test.YtcpiockmkpdkjaaRnm
import Derived.Test.YtcpiockmkpdkjaaBfn
import Derived.Test.YtcpiockmkpdkjaaMmc
namespace Go.Proofs.Ytcpiockmkpdkjaa
open Go.RowKit

set_option maxHeartbeats 8000000 in
set_option maxRecDepth 100000 in
theorem rreply_any (u v : Value) (xs : List Int) (E F : Int) (r : List (List Int)) (hE : in64 E) (hF : in64 F) (hin : ∀ q ∈ r, fok gotK q) (w : World) (hu : Bs w u xs) (hv : Gots w v r) (hg : r.length ≤ 1000000) (hl : xs.length + (replyB ([E, F], r)).length ≤ 70368744177664) :
    Calls Try.prog 47 #[u, .agg #[.int .i64 E, .int .i64 F, v]] w fun e w' => ∃ v', e = .returned v' ∧ Bo w.heap.size w' v' (xs ++ replyB ([E, F], r)) ∧ Below w.heap.size w w' := by
  have k0 := Blk.new w 33 #[.int .i64 E, .int .i64 F, v]
  have bw := below_alloc_ w (.cells #[.int .i64 E, .int .i64 F, v] 33)
  have K := Lib.hid k0
  have HU := Lib.hid (Bs.below hu bw)
  have V := Lib.hid (show Gots _ v r from Rd.below hv bw)
  have I := Lib.hid hin
  have BW := Lib.hid bw
  have OKE := Lib.hid hE
  have OKF := Lib.hid hF
  have hfl0 : replyB ([E, F], r) = (sb E ++ (sb F ++ [])) ++ (nb r.length ++ r.flatMap (fB gotK)) := rfl
  rw [hfl0] at hl ⊢
  simp only [List.length_append, List.length_nil] at hl
  have HL := Lib.hid hl
  obtain ⟨A0, q0, rfl, -⟩ := id hv
  have i0 : (r.length : Int) ≤ 1000000 := by omega
  have hW1 : w.heap.size < (w.alloc (.cells #[.int .i64 E, .int .i64 F, .slice A0 r.length q0] 33)).heap.size := by simp
  have HF0 := Lib.hid (show Below (w.alloc (.cells #[.int .i64 E, .int .i64 F, .slice A0 r.length q0] 33)).heap.size (w.alloc (.cells #[.int .i64 E, .int .i64 F, .slice A0 r.length q0] 33)) _ from (Below.refl _ _).drew)
  have KS : ∀ X, Below (w.alloc (.cells #[.int .i64 E, .int .i64 F, .slice A0 r.length q0] 33)).heap.size (w.alloc (.cells #[.int .i64 E, .int .i64 F, .slice A0 r.length q0] 33)) X → X.cell? ⟨w.heap.size, 0, none⟩ = some (.int .i64 E) ∧ X.cell? ⟨w.heap.size, 1, none⟩ = some (.int .i64 F) := fun X hb => ⟨((K.out.below hb hW1).cell 0).trans rfl, ((K.out.below hb hW1).cell 1).trans rfl⟩
  have HKS := Lib.hid KS
  clear k0 bw hu hv hin hl hE hF hfl0 KS
  go_enter Try.func47, Try.ntmps47
  go_wp2_with fail
  go_region_held3 (fun w' => w'.cell? ⟨w.heap.size, 0, none⟩ = some (.int .i64 E) ∧ w'.cell? ⟨w.heap.size, 1, none⟩ = some (.int .i64 F)) (first
     | (with_reducible exact HKS.out _ G2.out.bel)
     | (with_reducible exact HKS.out _ G1.out.bel)
     | (with_reducible exact HKS.out _ HF0.out)
     | fail)
    (first
     | (go_at_call 54; refine (rsign_any u1 (xs ++ sb E) F _ (by exact G1.out.own.bs) OKF.out.1 OKF.out.2 (by have := HL.out; (try simp only [List.length_append, List.length_cons, List.length_nil] at this); (try simp only [List.length_append]); omega)).mono ?_; rintro e w2 ⟨u2, rfl, ho2, hb2⟩; have G2 := Lib.hid (G1.out.next ho2 hb2); clear ho2 hb2)
     | (go_at_call 54; refine (rsign_any u xs E _ (by exact HU.out) OKE.out.1 OKE.out.2 (by have := HL.out; (try simp only [List.length_append, List.length_cons, List.length_nil] at this); (try simp only [List.length_append, List.length_cons, List.length_nil]); omega)).mono ?_; rintro e w1 ⟨u1, rfl, ho1, hb1⟩; have G1 := Lib.hid (show Bf (w.alloc (.cells #[.int .i64 E, .int .i64 F, .slice A0 r.length q0] 33)).heap.size (w.alloc (.cells #[.int .i64 E, .int .i64 F, .slice A0 r.length q0] 33)) w1 u1 _ from ⟨ho1, HF0.out.trans hb1, hb1.size⟩); clear ho1 hb1))
  generalize w.alloc (.cells #[.int .i64 E, .int .i64 F, .slice A0 r.length q0] 33) = W at *
  have k2 := K.out.below G2.out.bel K.out.lt
  have d2 := k2.cell 2
  simp only [List.getElem?_toArray, List.getElem?_cons_zero, List.getElem?_cons_succ] at d2
  clear k2
  go_wp2_with fail
  refine (rnum_any u2 (xs ++ sb E ++ sb F) r.length _ (by exact G2.out.own.bs) (by omega) (by have := HL.out; (try simp only [List.length_append, List.length_cons, List.length_nil] at this); (try simp only [List.length_append]); omega)).mono ?_
  rintro e w3 ⟨u3, rfl, ho, hb⟩
  have F1 := Lib.hid (G2.out.next ho hb)
  clear ho hb d2
  go_wp2_with fail
  go_loopg [0, 5] r.length (fun g c0 c5 wr => ∃ k : Nat, k ≤ r.length ∧ g = r.length - k ∧ c5 = .int .i64 k ∧ Bf W.heap.size W wr c0 (xs ++ sb E ++ sb F ++ nb r.length ++ (r.take k).flatMap (fB gotK)))
  case atStart => exact ⟨0, Nat.zero_le _, by omega, rfl, by simpa using F1.out⟩
  case round =>
    obtain ⟨k, hk, hgk, rfl, hF⟩ := hrel
    have GK := Lib.hid hgk
    have HF := Lib.hid hF
    have k1 := K.out.below hF.bel K.out.lt
    have d2 := k1.cell 2
    simp at d2
    clear hgk hF k1
    by_cases hkn : k < r.length
    · skip
      obtain ⟨g, o, c', hA, hc', hgl, hcell⟩ := Rd.at_ fcgot_len (Rd.below V.out (HF.out.bel.mono (Nat.le_refl _))) (by omega)
      obtain ⟨y0, y1, hq, o0, o1⟩ := got_fok (I.out _ (List.getElem_mem hkn))
      have x0' : wr.cell? ⟨g, o + k * 2, none⟩ = some (.int .i64 y0) := by have := hcell k hkn 0 (.int .i64 y0) (by omega) (by rw [hq]; rfl); simpa using this
      have x1' : wr.cell? ⟨g, o + k * 2 + 1, none⟩ = some (.int .i64 y1) := by have := hcell k hkn 1 (.int .i64 y1) (by omega) (by rw [hq]; rfl); simpa using this
      injection hA with e1 e2 e3
      subst e1; subst e3
      have Q := Lib.hid hq
      have OK0 := Lib.hid o0
      have OK1 := Lib.hid o1
      clear hcell e2 hq o0 o1
      have hb : (xs ++ sb E ++ sb F ++ nb r.length ++ (r.take k).flatMap (fB gotK)).length + (fB gotK [y0, y1]).length ≤ 70368744177664 := by
        have h1 := HL.out
        have h2 := flat_len_le (fB gotK) r (k + 1)
        rw [flat_snoc (fB gotK) r k hkn, Q.out] at h2
        simp only [List.length_append] at h1 h2 ⊢
        omega
      have hfl : fB gotK [y0, y1] = (sb y0 ++ (sb y1 ++ [])) := rfl
      rw [hfl] at hb
      have HFL := Lib.hid hfl
      clear hfl
      simp only [List.length_append, List.length_nil] at hb
      have HB := Lib.hid hb
      clear hb
      have hwb : w.heap.size < wr.heap.size := by have := HF.out.le; omega
      have KS : ∀ X, Below wr.heap.size wr X → X.cell? ⟨w.heap.size, 2, none⟩ = some (.slice (some ⟨g, o, none⟩) r.length q0) ∧ X.cell? ⟨g, o + k * 2, none⟩ = some (.int .i64 y0) ∧ X.cell? ⟨g, o + k * 2 + 1, none⟩ = some (.int .i64 y1) :=
        fun X hb => ⟨cell_on hb hwb d2, cell_on hb (Nat.lt_of_lt_of_le hgl (Nat.le_refl _)) x0', cell_on hb (Nat.lt_of_lt_of_le hgl (Nat.le_refl _)) x1'⟩
      have K0 := Lib.hid (KS _ (Below.refl wr.heap.size wr).drew)
      have K1 := Lib.hid (fun X (hb : Below wr.drew.heap.size wr.drew X) => KS X ((Below.refl wr.heap.size wr).drew.trans hb))
      have K2 := Lib.hid (fun X Y (hb : Below wr.drew.heap.size wr.drew X) (hb2 : Below X.heap.size X Y) => KS Y (((Below.refl wr.heap.size wr).drew.trans hb).trans (hb2.mono hb.size)))
      have h2k : k * 2 + 1 + 1 ≤ r.length * 2 := by omega
      clear KS
      go_wp2_with fail
      go_region_held3 (fun w' => w'.cell? ⟨w.heap.size, 2, none⟩ = some (.slice (some ⟨g, o, none⟩) r.length q0) ∧ w'.cell? ⟨g, o + k * 2, none⟩ = some (.int .i64 y0) ∧ w'.cell? ⟨g, o + k * 2 + 1, none⟩ = some (.int .i64 y1)) (first
         | (with_reducible exact K2.out _ _ hby hbz)
         | (with_reducible exact K1.out _ hby)
         | (with_reducible exact K0.out)
         | fail)
        (first
         | (go_at_call 54; refine (rsign_any z1 _ y1 _ (by exact hoy.bs) OK1.out.1 OK1.out.2 (by have := HB.out; (try simp only [List.length_append, List.length_cons, List.length_nil] at this); (try simp only [List.length_append]); omega)).mono ?_; rintro e wz ⟨z2, rfl, hoz, hbz⟩)
         | (go_at_call 54; refine (rsign_any _ (xs ++ sb E ++ sb F ++ nb r.length ++ (r.take k).flatMap (fB gotK)) y0 _ (by exact HF.out.own.bs) OK0.out.1 OK0.out.2 (by have := HB.out; (try simp only [List.length_append, List.length_cons, List.length_nil] at this); (try simp only [List.length_append]); omega)).mono ?_; rintro e wy ⟨z1, rfl, hoy, hby⟩))
      have FE := Lib.hid ((Bf.next HF.out.drew hoy hby).next hoz hbz)
      clear hoy hby hoz hbz K0 K1 K2
      go_wp2
      go_roundg (r.length - (k + 1))
      case measure => have := GK.out; omega
      case rel =>
        refine ⟨k + 1, by omega, rfl, by go_num, ?_⟩
        rw [flat_snoc (fB gotK) r k hkn, Q.out, HFL.out]
        have := FE.out
        simpa only [List.append_nil, List.append_assoc, List.cons_append, List.nil_append] using this
    · obtain rfl : k = r.length := by omega
      have HE := Lib.hid (show Bf W.heap.size W wr _ (xs ++ sb E ++ sb F ++ nb r.length ++ r.flatMap (fB gotK)) from by have := HF.out; rwa [List.take_length] at this)
      clear HF
      go_wp2
      go_ret
      refine ⟨_, rfl, ?_, BW.out.trans (HE.out.bel.mono (by omega))⟩
      have := HE.out.own.le (B' := w.heap.size) (by omega)
      simp only [List.append_assoc, List.append_nil] at this ⊢
      exact this
set_option maxHeartbeats 4000000 in
theorem rputreply_any (E F : Int) (v : Value) (r : List (List Int)) (hE : fok1 .i64 E) (hF : fok1 .i64 F) (hin : ∀ q ∈ r, fok gotK q) (w : World) (hv : Gots w v r) (hg : r.length ≤ 1000000) :
    Calls Try.prog 33 #[.agg #[.int .i64 E, .int .i64 F, v]] w fun e w' => ∃ v', e = .returned (.tuple #[v', .int .i64 (replyR ([E, F], r)).2]) ∧ Bo w.heap.size w' v' (replyR ([E, F], r)).1 ∧ Below w.heap.size w w' := by
  have HE := Lib.hid (show fok replyK [E, F] from ⟨hE, hF, rfl⟩)
  have H0 := Lib.hid hE
  have H1 := Lib.hid hF
  have HI := Lib.hid hin
  have HV := Lib.hid (show Gots _ v r from Rd.alloc hv (.cells #[.int .i64 E, .int .i64 F, v] 33))
  obtain ⟨E0, q0, rfl, -⟩ := id hv
  clear hin hv hE hF
  by_cases t0 : r.length ≤ 8
  rotate_left
  · have t0' : (8 : Int) < (r.length : Int) := by omega
    have HR := Lib.hid (show replyR ([E, F], r) = ([], 3) from if_neg t0)
    rw [HR.out]
    go_enter Try.func33, Try.ntmps33
    go_wp2
    refine bodyPost_ret (results_tmp2 rfl _ _ _) rfl ?_
    exact ⟨_, rfl, Bo.nil_ _ _, below_alloc_ _ _⟩
  have t0' : ¬ (8 : Int) < (r.length : Int) := by omega
  have hl : ([] : List Int).length + (replyB ([E, F], r)).length ≤ 70368744177664 := by
    have h1 := list_len gotK r 2 rfl t0 (by decide) HI.out
    have h2 := fB_len replyK _ HE.out
    simp only [replyB, replyK, List.length_nil, List.length_append, List.length_cons, gotsB] at h1 h2 ⊢
    omega
  have HL := Lib.hid hl
  have HR := Lib.hid (show replyR ([E, F], r) = (replyB ([E, F], r), 0) from if_pos t0)
  rw [HR.out]
  clear hl
  go_enter Try.func33, Try.ntmps33
  go_wp2_with fail
  refine (rreply_any _ _ [] E F r H0.out H1.out HI.out _ (Bs.nils _ _ _) HV.out (by omega) HL.out).mono ?_
  rintro e w1 ⟨v1, rfl, ho, hb⟩
  have HO := Lib.hid ho
  have HB := Lib.hid hb
  clear ho hb
  go_wp2
  refine bodyPost_ret (results_tmp2 rfl _ _ _) rfl ?_
  exact ⟨_, rfl, HO.out.le (by simp), (below_alloc_ _ _).trans (HB.out.mono (by simp))⟩
end Go.Proofs.Ytcpiockmkpdkjaa
