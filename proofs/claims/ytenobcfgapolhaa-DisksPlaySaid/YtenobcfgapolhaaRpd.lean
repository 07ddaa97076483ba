/- law17's Does over both disks of any files. -/
import Derived.Test.YtenobcfgapolhaaRpc
import Derived.Test.YtenobcfgapolhaaDsw
import Derived.Test.YtenobcfgapolhaaBab
import Derived.Test.YtenobcfgapolhaaTwb
import Derived.RegionTactic
import Derived.BigRegion
namespace Go.Proofs.Ytenobcfgapolhaa
open Go.RowKit

theorem Tw.obj {B : Nat} {w : World} {e : TypeId} {size n : Nat} {v : Value} {xs ms : List Value} (h : Tw B w e size v n xs ms) :
    ∃ g cur, B ≤ g ∧ w.heap[g]? = some (.cells cur e (0, 0)) ∧ ∀ u : World, u.heap[g]? = some (.cells cur e (0, 0)) → Tw B u e size v n xs ms := by
  obtain ⟨A, c, rfl, hc, hl, h⟩ := h
  rcases h with ⟨_, h0, _⟩ | ⟨g, c', cur, hv, hB, hg, h1⟩
  · omega
  · exact ⟨g, cur, hB, hg, fun u hu => ⟨A, c, rfl, hc, hl, .inr ⟨g, c', cur, hv, hB, hu, h1⟩⟩⟩
/-- Bytes of one's own, as a page. -/
theorem Bo.page_ {B n : Nat} {A : Option Addr} {w : World} {xs : List Int} (h : Bo B w (.slice A n n) xs) (hx : xs.length ≤ 4611686018427387904) :
    ∃ lie, Value.slice A n n = slOf lie ∧ (∀ m b, (⟨0, lie, m, b⟩ : Pg).In w False False) ∧ ∀ g, bkOf lie = some g → B ≤ g ∧ g < w.heap.size := by
  rcases h with ⟨hv, _, _⟩ | ⟨g, c, cur, hv, hB, hg, hcc, hl, hs, ht⟩
  · exact ⟨none, hv, fun _ _ => trivial, fun _ h => by cases h⟩
  · injection hv with h1 h2 h3
    subst h1
    obtain rfl : n = xs.length := h2
    obtain rfl : c = xs.length := h3.symm
    refine ⟨some (g, xs.length, xs.length), rfl, fun m b => ⟨cur, hg, hcc, by simpa [kK] using hs, by omega, fun h => h.elim, fun h => h.elim⟩, fun k hk => ?_⟩
    obtain rfl : g = k := by simpa [bkOf] using hk
    exact ⟨hB, hg.lt⟩
theorem Pg.In.lt {p : Pg} {w : World} {a b : Prop} {g : Nat} (h : p.In w a b) (hg : bkOf p.lie = some g) : g < w.heap.size := by
  obtain ⟨kd, lie, m, b0⟩ := p
  match lie, h, hg with
  | some (g', n, c), ⟨cur, hb, _⟩, hg =>
    obtain rfl : g' = g := by simpa [bkOf] using hg
    exact hb.lt
theorem Bo.keep_ {w w' : World} {B : Nat} {v : Value} {xs : List Int} (h : Bo B w v xs) (hk : ∀ g t cs, t ≠ 50 → t ≠ 72 → Blk w g t cs → Blk w' g t cs) : Bo B w' v xs := by
  rcases h with h | ⟨g, c, cur, hv, hB, hg, h1⟩
  · exact .inl h
  · exact .inr ⟨g, c, cur, hv, hB, hk _ _ _ (by decide) (by decide) hg, h1⟩
theorem Pg.In.keep {p : Pg} {w w' : World} {a b : Prop} (h : p.In w a b) (hk : ∀ g t cs, t ≠ 50 → t ≠ 72 → Blk w g t cs → Blk w' g t cs) : p.In w' a b := by
  obtain ⟨kd, lie, m, b0⟩ := p
  match lie, h with
  | none, _ => trivial
  | some (g, n, c), ⟨cur, hb, h1⟩ => exact ⟨cur, hk _ _ _ (fun e => kE_book kd e.symm) (fun e => kE_page kd e.symm) hb, h1⟩
section
variable {X : List (Nat × Obj)} {B : Nat} {W : World} {d m : Nat} {a b : Mst}
theorem al_add (ha : Al a b) (nm : ByteArray) (bs : List Int) (hby : ∀ c ∈ bs, byt c) (hl : bs.length ≤ 1000000) : ∃ rr a' b', Al a' b' ∧
    (∀ (u : World) (bv : Value), BM X B W u d m a b → Bs u bv bs → Calls Try.prog 9 #[.pointer (some ⟨d, 0, none⟩), .string nm, bv] u fun e w' => e = .returned (.int .i64 rr) ∧ BM X B W w' d m a' b) ∧
    (∀ (u : World) (bv : Value), BM X B W u d m a' b → Bs u bv bs → Calls Try.prog 17 #[.pointer (some ⟨m, 0, none⟩), .string nm, bv] u fun e w' => e = .returned (.int .i64 rr) ∧ BM X B W w' d m a' b') := by
  obtain ⟨h1, h2⟩ := ha.does nm ((sizeM b nm : Nat) + (bs.length : Nat) : Int) true (fun q => some (q.1 ++ bs, q.2))
  refine ⟨(doesL b nm ((sizeM b nm : Nat) + (bs.length : Nat) : Int) true (fun q => some (q.1 ++ bs, q.2))).2, _, _, h2, fun u bv h hb => ?_, fun u bv h hb => ?_⟩
  · refine h.conc fun F hm _ => ?_
    rw [← h1]
    rw [← ha.size nm]
    exact madd nm d a F bv bs hby (by omega) u hm hb
  · refine h.docs fun G hm _ => ?_
    exact madd_ref nm m b G bv bs u hm hb hby (by omega)
theorem al_put (ha : Al a b) (nm : ByteArray) (bs : List Int) (hby : ∀ c ∈ bs, byt c) (hl : bs.length ≤ 1000000) : ∃ rr a' b', Al a' b' ∧
    (∀ (u : World) (bv : Value), BM X B W u d m a b → Bs u bv bs → Calls Try.prog 14 #[.pointer (some ⟨d, 0, none⟩), .string nm, bv] u fun e w' => e = .returned (.int .i64 rr) ∧ BM X B W w' d m a' b) ∧
    (∀ (u : World) (bv : Value), BM X B W u d m a' b → Bs u bv bs → Calls Try.prog 19 #[.pointer (some ⟨m, 0, none⟩), .string nm, bv] u fun e w' => e = .returned (.int .i64 rr) ∧ BM X B W w' d m a' b') := by
  obtain ⟨h1, h2⟩ := ha.does nm bs.length true (fun _ => some (bs, bs.length))
  refine ⟨(doesL b nm bs.length true (fun _ => some (bs, bs.length))).2, _, _, h2, fun u bv h hb => ?_, fun u bv h hb => ?_⟩
  · refine h.conc fun F hm _ => ?_
    rw [← h1]
    exact mput nm d a F bv bs hby (by omega) u hm hb
  · refine h.docs fun G hm _ => ?_
    exact mput_ref nm m b G bv bs u hm hb hby (by omega)
theorem al_sure (ha : Al a b) (nm : ByteArray) : ∃ rr a' b', Al a' b' ∧
    (∀ (u : World), BM X B W u d m a b → Calls Try.prog 10 #[.pointer (some ⟨d, 0, none⟩), .string nm] u fun e w' => e = .returned (.int .i64 rr) ∧ BM X B W w' d m a' b) ∧
    (∀ (u : World), BM X B W u d m a' b → Calls Try.prog 18 #[.pointer (some ⟨m, 0, none⟩), .string nm] u fun e w' => e = .returned (.int .i64 rr) ∧ BM X B W w' d m a' b') := by
  obtain ⟨h1, h2⟩ := ha.does nm 0 false (fun q => some (q.1, q.1.length))
  refine ⟨(doesL b nm 0 false (fun q => some (q.1, q.1.length))).2, _, _, h2, fun u h => ?_, fun u h => ?_⟩
  · refine h.conc fun F hm _ => ?_
    rw [← h1]
    exact msure nm d a F u hm
  · refine h.docs fun G hm _ => ?_
    exact msure_ref nm m b G u hm
theorem al_drop (ha : Al a b) (nm : ByteArray) : ∃ rr a' b', Al a' b' ∧
    (∀ (u : World), BM X B W u d m a b → Calls Try.prog 20 #[.pointer (some ⟨d, 0, none⟩), .string nm] u fun e w' => e = .returned (.int .i64 rr) ∧ BM X B W w' d m a' b) ∧
    (∀ (u : World), BM X B W u d m a' b → Calls Try.prog 21 #[.pointer (some ⟨m, 0, none⟩), .string nm] u fun e w' => e = .returned (.int .i64 rr) ∧ BM X B W w' d m a' b') := by
  obtain ⟨h1, h2⟩ := ha.does nm 0 false (fun _ => none)
  refine ⟨(doesL b nm 0 false (fun _ => none)).2, _, _, h2, fun u h => ?_, fun u h => ?_⟩
  · refine h.conc fun F hm _ => ?_
    rw [← h1]
    exact mdrop nm d a F u hm
  · refine h.docs fun G hm _ => ?_
    exact mdrop_ref nm m b G u hm
end

set_option maxHeartbeats 16000000 in
set_option maxRecDepth 100000 in
theorem does_mall {B : Nat} {W w : World} {d m : Nat} {a b : Mst} (h : BM [] B W w d m a b) (ha : Al a b) (hBW : B = W.heap.size) (r : ActR) (hok : ActOk W r) (hsm : r.bs.length ≤ 1000000) :
    Calls Try.prog 7 #[.pointer (some ⟨d, 0, none⟩), .pointer (some ⟨m, 0, none⟩), .agg (actC r).toArray] w fun e w' => e = .returned (.bool true) ∧ ∃ a' b', BM [] B W w' d m a' b' ∧ Al a' b' := by
  obtain ⟨kd, nm, bv, bs, nn, lv, ls⟩ := r
  have OK := Lib.hid hok
  obtain ⟨AB, cB, hbv, -⟩ := id hok.bv
  obtain ⟨AL, cL, hlv, -⟩ := id hok.lv
  simp only at hbv hlv hsm
  subst hbv hlv
  have HA := Lib.hid ha
  have SM := Lib.hid hsm
  have OB := Lib.hid (show ∀ u, Below B W u → Bs u (.slice AB bs.length cB) bs from fun u hu => hok.bv.below (hBW ▸ hu))
  have OL := Lib.hid (show ∀ u, Below B W u → Rd u 1 (.slice AL ls.length cL) ls.length (losC ls) from fun u hu => hok.lv.below (hBW ▸ hu))
  have OX := Lib.hid (show ∀ F : List Nat, (∀ k ∈ F, B ≤ k) → ls.length = 0 ∨ ∀ k, (Value.slice AL ls.length cL).ownBlock = some k → k ∉ F from fun F hF => by
    obtain ⟨A', c', hv, -, -, h0 | ⟨g, o, rfl, hg, -⟩⟩ := hok.lv
    · exact .inl h0
    · refine .inr fun k hk hf => ?_
      have hv' : Value.slice AL ls.length cL = .slice (some ⟨g, o, none⟩) ls.length c' := hv
      rw [hv'] at hk
      simp [Value.ownBlock] at hk
      subst hk
      have := hF _ hf
      omega)
  have B0 := Lib.hid (h.put (below_alloc_ w (.cells #[.int .u8 kd, .string nm, .slice AB bs.length cB, .int .i64 nn, .slice AL ls.length cL] 35)) (Nat.le_refl _) (heap_alloc_new w _))
  have hkd := hok.kd
  simp only at hkd
  have hn9 := hok.n
  have N9 := Lib.hid (show nn ≤ 9223372036854775807 from hn9)
  obtain ⟨k8, hk8⟩ : ∃ k8, kd.tmod 8 = k8 := ⟨_, rfl⟩
  have K8 := Lib.hid (show k8 = 0 ∨ k8 = 1 ∨ k8 = 2 ∨ k8 = 3 ∨ k8 = 4 ∨ k8 = 5 ∨ k8 = 6 ∨ k8 = 7 by rw [Int.tmod_eq_emod_of_nonneg hkd.1] at hk8; omega)
  simp only [actC]
  clear h ha hok hsm hn9 hBW
  go_enter Try.func7, Try.ntmps7
  go_wp2_with fail
  refine (Twin_byte _ bs _ (OB.out _ B0.out.bel) (SM.out)).mono ?_
  rintro e w1 ⟨At, ct, rfl, hT, hb⟩
  obtain ⟨gt, cur, hgt, hgo, hTT⟩ := hT.obj
  have B1 := Lib.hid (B0.out.put hb hgt hgo)
  obtain ⟨q0, hq0⟩ : ∃ q0, q0 = w.heap.size := ⟨_, rfl⟩
  rw [← hq0] at B1 ⊢
  have TT := Lib.hid (fun (u : World) (a' b' : Mst) (hu : BM ((gt, .cells cur 5 (0, 0)) :: (q0, .cells #[.int .u8 kd, .string nm, .slice AB bs.length cB, .int .i64 nn, .slice AL ls.length cL] 35 (0, 0)) :: []) B W u d m a' b') => hTT u (hu.keep (_, _) (List.mem_cons_self ..)))
  have XB := Lib.hid (fun (u : World) (a' b' : Mst) (hu : BM ((gt, .cells cur 5 (0, 0)) :: (q0, .cells #[.int .u8 kd, .string nm, .slice AB bs.length cB, .int .i64 nn, .slice AL ls.length cL] 35 (0, 0)) :: []) B W u d m a' b') => show Blk u q0 35 #[.int .u8 kd, .string nm, .slice AB bs.length cB, .int .i64 nn, .slice AL ls.length cL] from hu.keep (_, _) (List.mem_cons_of_mem _ (List.mem_cons_self ..)))
  have SX := Lib.hid (fun (u : World) (a' b' : Mst) (hu : BM ((gt, .cells cur 5 (0, 0)) :: (q0, .cells #[.int .u8 kd, .string nm, .slice AB bs.length cB, .int .i64 nn, .slice AL ls.length cL] 35 (0, 0)) :: []) B W u d m a' b') => show u.cell? ⟨q0, 1, none⟩ = some (.string nm) ∧ u.cell? ⟨q0, 2, none⟩ = some (.slice AB bs.length cB) from ⟨((XB.out u a' b' hu).cell 1).trans rfl, ((XB.out u a' b' hu).cell 2).trans rfl⟩)
  have S1 := Lib.hid (SX.out _ _ _ B1.out)
  have x0 := (XB.out _ _ _ B1.out).cell 0
  have x1 := (XB.out _ _ _ B1.out).cell 1
  have x2 := (XB.out _ _ _ B1.out).cell 2
  have x3 := (XB.out _ _ _ B1.out).cell 3
  have x4 := (XB.out _ _ _ B1.out).cell 4
  simp only [List.getElem?_toArray, List.getElem?_cons_zero, List.getElem?_cons_succ] at x0 x1 x2 x3 x4
  clear hT hb hgt hgo hTT B0 hq0
  rcases K8.out with rfl | rfl | rfl | rfl | rfl | rfl | rfl | rfl
  · -- 0
    obtain ⟨rr, a', b', hAL, hC1, hC2⟩ := al_add (X := ((gt, .cells cur 5 (0, 0)) :: (q0, .cells #[.int .u8 kd, .string nm, .slice AB bs.length cB, .int .i64 nn, .slice AL ls.length cL] 35 (0, 0)) :: [])) (B := B) (W := W) (d := d) (m := m) HA.out nm bs OK.out.by_ SM.out
    have AL2 := Lib.hid hAL
    have C1 := Lib.hid hC1
    have C2 := Lib.hid hC2
    clear hAL hC1 hC2
    go_upto_region 13 with fail
    have S0 := Lib.hid (SX.out _ _ _ (B1.out.below (Below.refl _ w1).drew))
    go_region_held3 (fun w' => w'.cell? ⟨q0, 1, none⟩ = some (.string nm) ∧ w'.cell? ⟨q0, 2, none⟩ = some (.slice AB bs.length cB)) (first
      | (with_reducible exact S6.out)
      | (with_reducible exact S5.out)
      | (with_reducible exact S0.out)
      | fail)
      (first
      | (go_at_call 17; refine (C2.out _ _ H5.out (OB.out _ H5.out.bel)).mono ?_; rintro e w6 ⟨rfl, h6⟩; have H6 := Lib.hid h6; have S6 := Lib.hid (SX.out _ _ _ h6); clear h6)
      | (go_at_call 9; refine (C1.out _ _ (B1.out.below (Below.refl _ w1).drew) (TT.out _ _ _ (B1.out.below (Below.refl _ w1).drew)).rd).mono ?_; rintro e w5 ⟨rfl, h5⟩; have H5 := Lib.hid h5; have S5 := Lib.hid (SX.out _ _ _ h5); clear h5))
    clear x0 x1 x2 x3 x4
    have y2 := (XB.out _ _ _ H6.out).cell 2
    simp only [List.getElem?_toArray, List.getElem?_cons_zero, List.getElem?_cons_succ] at y2
    go_wp2_with fail
    refine (Left_byte _ _ _ bs _ (TT.out _ _ _ H6.out) (OB.out _ H6.out.bel) SM.out).mono ?_
    rintro e wz ⟨rfl, bz⟩
    have BZ := Lib.hid bz
    clear bz
    go_wp2
    go_ret
    exact ⟨rfl, a', b', (H6.out.below BZ.out).mono (by simp), AL2.out⟩
  · -- 1
    obtain ⟨rr, a', b', hAL, hC1, hC2⟩ := al_add (X := ((gt, .cells cur 5 (0, 0)) :: (q0, .cells #[.int .u8 kd, .string nm, .slice AB bs.length cB, .int .i64 nn, .slice AL ls.length cL] 35 (0, 0)) :: [])) (B := B) (W := W) (d := d) (m := m) HA.out nm bs OK.out.by_ SM.out
    have AL2 := Lib.hid hAL
    have C1 := Lib.hid hC1
    have C2 := Lib.hid hC2
    clear hAL hC1 hC2
    go_upto_region 13 with fail
    have S0 := Lib.hid (SX.out _ _ _ (B1.out.below (Below.refl _ w1).drew))
    go_region_held3 (fun w' => w'.cell? ⟨q0, 1, none⟩ = some (.string nm) ∧ w'.cell? ⟨q0, 2, none⟩ = some (.slice AB bs.length cB)) (first
      | (with_reducible exact S6.out)
      | (with_reducible exact S5.out)
      | (with_reducible exact S0.out)
      | fail)
      (first
      | (go_at_call 17; refine (C2.out _ _ H5.out (OB.out _ H5.out.bel)).mono ?_; rintro e w6 ⟨rfl, h6⟩; have H6 := Lib.hid h6; have S6 := Lib.hid (SX.out _ _ _ h6); clear h6)
      | (go_at_call 9; refine (C1.out _ _ (B1.out.below (Below.refl _ w1).drew) (TT.out _ _ _ (B1.out.below (Below.refl _ w1).drew)).rd).mono ?_; rintro e w5 ⟨rfl, h5⟩; have H5 := Lib.hid h5; have S5 := Lib.hid (SX.out _ _ _ h5); clear h5))
    clear x0 x1 x2 x3 x4
    have y2 := (XB.out _ _ _ H6.out).cell 2
    simp only [List.getElem?_toArray, List.getElem?_cons_zero, List.getElem?_cons_succ] at y2
    go_wp2_with fail
    refine (Left_byte _ _ _ bs _ (TT.out _ _ _ H6.out) (OB.out _ H6.out.bel) SM.out).mono ?_
    rintro e wz ⟨rfl, bz⟩
    have BZ := Lib.hid bz
    clear bz
    go_wp2
    go_ret
    exact ⟨rfl, a', b', (H6.out.below BZ.out).mono (by simp), AL2.out⟩
  · -- 2
    obtain ⟨rr, a', b', hAL, hC1, hC2⟩ := al_sure (X := ((gt, .cells cur 5 (0, 0)) :: (q0, .cells #[.int .u8 kd, .string nm, .slice AB bs.length cB, .int .i64 nn, .slice AL ls.length cL] 35 (0, 0)) :: [])) (B := B) (W := W) (d := d) (m := m) HA.out nm
    have AL2 := Lib.hid hAL
    have C1 := Lib.hid hC1
    have C2 := Lib.hid hC2
    clear hAL hC1 hC2
    go_upto_region 15 with fail
    have S0 := Lib.hid (SX.out _ _ _ (B1.out.below (Below.refl _ w1).drew))
    go_region_held3 (fun w' => w'.cell? ⟨q0, 1, none⟩ = some (.string nm) ∧ w'.cell? ⟨q0, 2, none⟩ = some (.slice AB bs.length cB)) (first
      | (with_reducible exact S6.out)
      | (with_reducible exact S5.out)
      | (with_reducible exact S0.out)
      | fail)
      (first
      | (go_at_call 18; refine (C2.out _ H5.out).mono ?_; rintro e w6 ⟨rfl, h6⟩; have H6 := Lib.hid h6; have S6 := Lib.hid (SX.out _ _ _ h6); clear h6)
      | (go_at_call 10; refine (C1.out _ (B1.out.below (Below.refl _ w1).drew)).mono ?_; rintro e w5 ⟨rfl, h5⟩; have H5 := Lib.hid h5; have S5 := Lib.hid (SX.out _ _ _ h5); clear h5))
    clear x0 x1 x2 x3 x4
    have y2 := (XB.out _ _ _ H6.out).cell 2
    simp only [List.getElem?_toArray, List.getElem?_cons_zero, List.getElem?_cons_succ] at y2
    go_wp2_with fail
    refine (Left_byte _ _ _ bs _ (TT.out _ _ _ H6.out) (OB.out _ H6.out.bel) SM.out).mono ?_
    rintro e wz ⟨rfl, bz⟩
    have BZ := Lib.hid bz
    clear bz
    go_wp2
    go_ret
    exact ⟨rfl, a', b', (H6.out.below BZ.out).mono (by simp), AL2.out⟩
  · -- 3
    obtain ⟨rr, a', b', hAL, hC1, hC2⟩ := al_put (X := ((gt, .cells cur 5 (0, 0)) :: (q0, .cells #[.int .u8 kd, .string nm, .slice AB bs.length cB, .int .i64 nn, .slice AL ls.length cL] 35 (0, 0)) :: [])) (B := B) (W := W) (d := d) (m := m) HA.out nm bs OK.out.by_ SM.out
    have AL2 := Lib.hid hAL
    have C1 := Lib.hid hC1
    have C2 := Lib.hid hC2
    clear hAL hC1 hC2
    go_upto_region 17 with fail
    have S0 := Lib.hid (SX.out _ _ _ (B1.out.below (Below.refl _ w1).drew))
    go_region_held3 (fun w' => w'.cell? ⟨q0, 1, none⟩ = some (.string nm) ∧ w'.cell? ⟨q0, 2, none⟩ = some (.slice AB bs.length cB)) (first
      | (with_reducible exact S6.out)
      | (with_reducible exact S5.out)
      | (with_reducible exact S0.out)
      | fail)
      (first
      | (go_at_call 19; refine (C2.out _ _ H5.out (OB.out _ H5.out.bel)).mono ?_; rintro e w6 ⟨rfl, h6⟩; have H6 := Lib.hid h6; have S6 := Lib.hid (SX.out _ _ _ h6); clear h6)
      | (go_at_call 14; refine (C1.out _ _ (B1.out.below (Below.refl _ w1).drew) (TT.out _ _ _ (B1.out.below (Below.refl _ w1).drew)).rd).mono ?_; rintro e w5 ⟨rfl, h5⟩; have H5 := Lib.hid h5; have S5 := Lib.hid (SX.out _ _ _ h5); clear h5))
    clear x0 x1 x2 x3 x4
    have y2 := (XB.out _ _ _ H6.out).cell 2
    simp only [List.getElem?_toArray, List.getElem?_cons_zero, List.getElem?_cons_succ] at y2
    go_wp2_with fail
    refine (Left_byte _ _ _ bs _ (TT.out _ _ _ H6.out) (OB.out _ H6.out.bel) SM.out).mono ?_
    rintro e wz ⟨rfl, bz⟩
    have BZ := Lib.hid bz
    clear bz
    go_wp2
    go_ret
    exact ⟨rfl, a', b', (H6.out.below BZ.out).mono (by simp), AL2.out⟩
  · -- 4
    obtain ⟨rr, a', b', hAL, hC1, hC2⟩ := al_drop (X := ((gt, .cells cur 5 (0, 0)) :: (q0, .cells #[.int .u8 kd, .string nm, .slice AB bs.length cB, .int .i64 nn, .slice AL ls.length cL] 35 (0, 0)) :: [])) (B := B) (W := W) (d := d) (m := m) HA.out nm
    have AL2 := Lib.hid hAL
    have C1 := Lib.hid hC1
    have C2 := Lib.hid hC2
    clear hAL hC1 hC2
    go_upto_region 19 with fail
    have S0 := Lib.hid (SX.out _ _ _ (B1.out.below (Below.refl _ w1).drew))
    go_region_held3 (fun w' => w'.cell? ⟨q0, 1, none⟩ = some (.string nm) ∧ w'.cell? ⟨q0, 2, none⟩ = some (.slice AB bs.length cB)) (first
      | (with_reducible exact S6.out)
      | (with_reducible exact S5.out)
      | (with_reducible exact S0.out)
      | fail)
      (first
      | (go_at_call 21; refine (C2.out _ H5.out).mono ?_; rintro e w6 ⟨rfl, h6⟩; have H6 := Lib.hid h6; have S6 := Lib.hid (SX.out _ _ _ h6); clear h6)
      | (go_at_call 20; refine (C1.out _ (B1.out.below (Below.refl _ w1).drew)).mono ?_; rintro e w5 ⟨rfl, h5⟩; have H5 := Lib.hid h5; have S5 := Lib.hid (SX.out _ _ _ h5); clear h5))
    clear x0 x1 x2 x3 x4
    have y2 := (XB.out _ _ _ H6.out).cell 2
    simp only [List.getElem?_toArray, List.getElem?_cons_zero, List.getElem?_cons_succ] at y2
    go_wp2_with fail
    refine (Left_byte _ _ _ bs _ (TT.out _ _ _ H6.out) (OB.out _ H6.out.bel) SM.out).mono ?_
    rintro e wz ⟨rfl, bz⟩
    have BZ := Lib.hid bz
    clear bz
    go_wp2
    go_ret
    exact ⟨rfl, a', b', (H6.out.below BZ.out).mono (by simp), AL2.out⟩
  · -- 5
    by_cases h4 : nn.tmod 4 = 0
    · have h4' : (nn.tmod 4 == 0) = true := by simpa using h4
      have NQ := Lib.hid (show wrap64 (nn.tdiv 4) ≤ 9223372036854775807 from by unfold wrap64; omega)
      go_wp2_with fail
      refine (B1.out.conc fun F hm _ => mfuse d a F _ NQ.out _ hm).mono ?_
      rintro e w2 ⟨rfl, h2⟩
      have H2 := Lib.hid h2
      clear h2 x0 x1 x2 x3 x4
      have x3 := (XB.out _ _ _ H2.out).cell 3
      simp only [List.getElem?_toArray, List.getElem?_cons_zero, List.getElem?_cons_succ] at x3
      go_wp2_with fail
      refine (H2.out.docs fun G hm _ => mfuse_ref m b G _ _ hm NQ.out).mono ?_
      rintro e w3 ⟨rfl, h3⟩
      have H3 := Lib.hid h3
      clear h3 x3
      have y2 := (XB.out _ _ _ H3.out).cell 2
      simp only [List.getElem?_toArray, List.getElem?_cons_zero, List.getElem?_cons_succ] at y2
      go_wp2_with fail
      refine (Left_byte _ _ _ bs _ (TT.out _ _ _ H3.out) (OB.out _ H3.out.bel) SM.out).mono ?_
      rintro e wz ⟨rfl, bz⟩
      have BZ := Lib.hid bz
      clear bz
      go_wp2
      go_ret
      exact ⟨rfl, _, _, (H3.out.below BZ.out).mono (by simp), HA.out.setFuse _⟩
    · have h4' : (nn.tmod 4 == 0) = false := by simpa using h4
      go_wp2_with fail
      refine (Left_byte _ _ _ bs _ (TT.out _ _ _ B1.out) (OB.out _ B1.out.bel) SM.out).mono ?_
      rintro e wz ⟨rfl, bz⟩
      have BZ := Lib.hid bz
      clear bz
      go_wp2
      go_ret
      exact ⟨rfl, a, b, (B1.out.below BZ.out).mono (by simp), HA.out⟩
  · -- 6
    go_wp2_with fail
    refine (B1.out.conc fun F hm hF => mlift d a F _ (.slice AL ls.length cL) ls _ hm HA.out.names HA.out.so (OL.out _ B1.out.bel) OK.out.lby (OX.out F hF)).mono ?_
    rintro e w2 ⟨rfl, h2⟩
    have H2 := Lib.hid h2
    clear h2 x0 x1 x2 x3 x4
    have x4 := (XB.out _ _ _ H2.out).cell 4
    simp only [List.getElem?_toArray, List.getElem?_cons_zero, List.getElem?_cons_succ] at x4
    go_wp2_with fail
    refine (H2.out.docs fun G hm hG => mlift_ref m b G (.slice AL ls.length cL) ls _ hm (OL.out _ H2.out.bel) OK.out.lby (OX.out G hG)).mono ?_
    rintro e w3 ⟨rfl, h3⟩
    have H3 := Lib.hid h3
    clear h3 x4
    have y2 := (XB.out _ _ _ H3.out).cell 2
    simp only [List.getElem?_toArray, List.getElem?_cons_zero, List.getElem?_cons_succ] at y2
    go_wp2_with fail
    refine (Left_byte _ _ _ bs _ (TT.out _ _ _ H3.out) (OB.out _ H3.out.bel) SM.out).mono ?_
    rintro e wz ⟨rfl, bz⟩
    have BZ := Lib.hid bz
    clear bz
    go_wp2
    go_ret
    exact ⟨rfl, _, _, (H3.out.below BZ.out).mono (by simp), HA.out.lift ls⟩
  · -- 7
    obtain ⟨rx, re, hrs⟩ : ∃ rx re, readM b nm = (rx, re) := ⟨_, _, rfl⟩
    have RA := Lib.hid ((HA.out.read nm).trans hrs)
    have RB := Lib.hid hrs
    have RL := Lib.hid (show rx.length ≤ 1048576 from by
      obtain ⟨F, hm⟩ := B1.out.md
      have := readM_len hm nm
      rw [RA.out] at this
      exact this)
    have RDa := Lib.hid (show ∀ u, Below w1.heap.size w1 u → Calls Try.prog 12 #[.pointer (some ⟨d, 0, none⟩), .string nm] u fun e w' => ∃ P, e = .returned (.tuple #[.slice P rx.length rx.length, .int .i64 re]) ∧ Bo u.heap.size w' (.slice P rx.length rx.length) rx ∧ Below u.heap.size u w' from fun u hu => by
      obtain ⟨F, hm⟩ := (B1.out.below hu).md
      have := mread nm d a F u hm
      rw [RA.out] at this
      exact this)
    have RDb := Lib.hid (show ∀ u, Below w1.heap.size w1 u → Calls Try.prog 24 #[.pointer (some ⟨m, 0, none⟩), .string nm] u fun e w' => ∃ A c, e = .returned (.tuple #[.slice A rx.length c, .int .i64 re]) ∧ Bo u.heap.size w' (.slice A rx.length c) rx ∧ Below u.heap.size u w' from fun u hu => by
      obtain ⟨G, hm⟩ := (B1.out.below hu).rmd
      have := mread_ref nm m b G u hm
      rw [RB.out] at this
      refine this.mono ?_
      rintro e w' ⟨v, rfl, ho, hb⟩
      obtain ⟨A, c, rfl, -⟩ := id ho.clip
      exact ⟨A, c, rfl, ho, hb⟩)
    have SC := Lib.hid (show ∀ u, Below w1.heap.size w1 u → u.cell? ⟨q0, 1, none⟩ = some (.string nm) ∧ u.cell? ⟨q0, 2, none⟩ = some (.slice AB bs.length cB) from fun u hu => SX.out _ _ _ (B1.out.below hu))
    clear hrs
    go_wp2_with fail
    refine (RDa.out _ (Below.refl _ _)).mono ?_
    rintro e w2 ⟨P2, rfl, o2, b2⟩
    have O2 := Lib.hid o2
    have Z2 := Lib.hid b2
    clear o2 b2 x0 x1 x2 x3 x4
    have x1 := (SC.out _ Z2.out).1
    go_wp2_with fail
    refine (RDb.out _ Z2.out).mono ?_
    rintro e w3 ⟨A3, c3, rfl, o3, b3⟩
    have O3 := Lib.hid o3
    have Y3 := Lib.hid b3
    have Z3 := Lib.hid (Z2.out.trans (b3.mono Z2.out.size))
    clear o3 b3 x1
    have M0 := Lib.hid (Bks.new_ Z3.out Z3.out.size)
    have bk := below_alloc_ w3 (.cells #[.slice none 0 0] 50)
    have Z4 := Lib.hid (Z3.out.trans (bk.mono Z3.out.size))
    have x1 := (SC.out _ Z4.out).1
    obtain ⟨lie1, hl1, pi1, ge1⟩ := O2.out.page_ (by have := RL.out; omega)
    have HL1 := Lib.hid hl1
    have GE1 := Lib.hid ge1
    have PA := Lib.hid (fun m b => ((pi1 m b).keep fun _ _ _ _ _ hk => hk.below Y3.out hk.lt).keep (w' := w3.alloc (.cells #[.slice none 0 0] 50)) fun _ _ _ _ _ hk => hk.alloc _)
    have O2' := Lib.hid (show Bo _ _ _ _ from Ow.below (Ow.below O2.out Y3.out) bk)
    have O3' := Lib.hid (show Bo _ _ _ _ from Ow.below O3.out bk)
    clear hl1 pi1 ge1 bk
    go_wp2_with fail
    rw [HL1.out]
    refine (add_byte [] _ _ _ _ _ M0.out (by simp) lie1).mono ?_
    rintro e w5 ⟨rfl, pv1, m1, b1, em1, eb1, hM1, hk1⟩
    have M1 := Lib.hid hM1
    have PA1 := Lib.hid ((PA.out m1 b1).keep hk1)
    have Z5 := Lib.hid hM1.bel
    have P2a := Lib.hid (O2'.out.keep_ hk1)
    have P3a := Lib.hid (O3'.out.keep_ hk1)
    have LT1 := Lib.hid (show ∀ g, bkOf lie1 = some g → g < w5.heap.size from fun g hg => Pg.In.lt PA1.out hg)
    clear hM1 hk1 PA M0 x1 O2' O3'
    have x1 := (SC.out _ Z5.out).1
    go_wp2_with fail
    refine (RDa.out _ Z5.out).mono ?_
    rintro e w6 ⟨P6, rfl, o6, b6⟩
    have O6 := Lib.hid o6
    have Y6 := Lib.hid b6
    have Z6 := Lib.hid (Z5.out.trans (b6.mono Z5.out.size))
    clear o6 b6 x1
    obtain ⟨lie2, hl2, pi2, ge2⟩ := O6.out.page_ (by have := RL.out; omega)
    have HL2 := Lib.hid hl2
    have GE2 := Lib.hid ge2
    have M1' := Lib.hid (show Bks ([] ++ [⟨0, lie1, m1, b1⟩]) w1.heap.size w1 w6 _ pv1 from ⟨M1.out.bk.below Y6.out M1.out.bk.lt, M1.out.ow.below Y6.out, M1.out.kbB, Z6.out, Z6.out.size⟩)
    have PA2 := Lib.hid (PA1.out.keep (w' := w6) fun _ _ _ _ _ hk => hk.below Y6.out hk.lt)
    have PB2 := Lib.hid pi2
    clear hl2 pi2 ge2 PA1
    go_wp2_with fail
    rw [HL2.out]
    refine (add_byte _ _ _ _ _ _ M1'.out (by simp) lie2).mono ?_
    rintro e w7 ⟨rfl, pv2, m2, b2, em2, eb2, hM2, hk2⟩
    have M2 := Lib.hid (show Bks [⟨0, lie1, m1, b1⟩, ⟨0, lie2, m2, b2⟩] _ _ _ _ _ from hM2)
    have PA3 := Lib.hid (PA2.out.keep hk2)
    have PB3 := Lib.hid ((PB2.out m2 b2).keep hk2)
    have Z7 := Lib.hid hM2.bel
    have P2b := Lib.hid (Bo.keep_ (show Bo _ w6 _ _ from Ow.below P2a.out Y6.out) hk2)
    have P3b := Lib.hid (Bo.keep_ (show Bo _ w6 _ _ from Ow.below P3a.out Y6.out) hk2)
    clear hM2 hk2 PA2 PB2 M1 M1' P2a P3a
    go_wp2_with fail
    have PS := Lib.hid (show Bs w7 (slOf lie1) rx from by have h := P2b.out.bs; rw [HL1.out] at h; exact h)
    refine (sameb_any rx rx _ _ _ PS.out P3b.out.bs (by have := RL.out; omega)).mono ?_
    rintro e w8 ⟨rfl, nq, rfl⟩
    rw [show decide (rx = rx) = true from decide_eq_true rfl]
    have bq := Lib.hid (below_drewN_ w7.heap.size w7 nq)
    have Z8 := Lib.hid (Z7.out.trans (bq.out.mono Z7.out.size))
    go_wp2_with fail
    refine (apart_any [⟨0, lie1, m1, b1⟩, ⟨0, lie2, m2, b2⟩] (by
      intro p hp
      simp only [List.mem_cons, List.not_mem_nil, or_false] at hp
      rcases hp with rfl | rfl
      · exact ⟨(show (0 : Nat) < 1 by decide), em1, eb1⟩
      · exact ⟨(show (0 : Nat) < 1 by decide), em2, eb2⟩) (by
      intro i j hi hj hij g hg
      have hi' : i = 0 ∨ i = 1 := by simp at hi; omega
      have hj' : j = 0 ∨ j = 1 := by simp at hj; omega
      rcases hi' with rfl | rfl <;> rcases hj' with rfl | rfl <;>
        first
          | exact absurd rfl hij
          | (intro hg2; have q1 := LT1.out g hg; have q2 := GE2.out g hg2; omega)
          | (intro hg2; have q1 := GE2.out g hg; have q2 := LT1.out g hg2; omega)) (by simp) _ _ w1.heap.size _ (by
      intro p hp g hg
      simp only [List.mem_cons, List.not_mem_nil, or_false] at hp
      rcases hp with rfl | rfl
      · exact (GE1.out g hg).1
      · have := (GE2.out g hg).1; have := Z5.out.size; omega) (M2.out.bk.below bq.out M2.out.bk.lt) ((M2.out.ow.below bq.out).le (Nat.zero_le _)) (by
      intro p hp
      simp only [List.mem_cons, List.not_mem_nil, or_false] at hp
      rcases hp with rfl | rfl
      · exact PA3.out.keep fun _ _ _ _ _ hk => hk.below bq.out hk.lt
      · exact PB3.out.keep fun _ _ _ _ _ hk => hk.below bq.out hk.lt) Z8.out.size).mono ?_
    rintro e w9 ⟨rfl, hb9⟩
    have H9 := Lib.hid (B1.out.below (Z8.out.trans hb9))
    clear hb9
    have y2 := (XB.out _ _ _ H9.out).cell 2
    simp only [List.getElem?_toArray, List.getElem?_cons_zero, List.getElem?_cons_succ] at y2
    go_wp2_with fail
    refine (Left_byte _ _ _ bs _ (TT.out _ _ _ H9.out) (OB.out _ H9.out.bel) SM.out).mono ?_
    rintro e wz ⟨rfl, bz⟩
    have BZ := Lib.hid bz
    clear bz
    go_wp2
    go_ret
    exact ⟨rfl, a, b, (H9.out.below BZ.out).mono (by simp), HA.out⟩
end Go.Proofs.Ytenobcfgapolhaa
