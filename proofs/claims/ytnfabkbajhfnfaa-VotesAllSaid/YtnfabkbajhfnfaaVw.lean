/- The laws VotesReached and VotesAll, walked. -/
import Derived.Test.YtnfabkbajhfnfaaVf
import Derived.Test.YtnfabkbajhfnfaaVl
import Derived.Laws.AppendOwnNone
namespace Go.Proofs.Ytnfabkbajhfnfaa
open Go.RowKit

theorem rl_long (A : Option Addr) (n c : Nat) (w : World) (h : 300 < n) : Calls Try.prog 3 #[.slice A n c] w fun e w' => e = .returned (.bool true) ∧ Below w.heap.size w w' := by
  have h' : (300 : Int) < n := by omega
  go_enter Try.func3, Try.ntmps3
  go_wp2_with fail
  refine (lives_any _).mono ?_
  rintro e w' ⟨rfl, hb⟩
  go_wp2
  go_ret
  exact ⟨rfl, hb⟩
theorem al_long (A : Option Addr) (n c : Nat) (w : World) (h : 300 < n) : Calls Try.prog 4 #[.slice A n c] w fun e w' => e = .returned (.bool true) ∧ Below w.heap.size w w' := by
  have h' : (300 : Int) < n := by omega
  go_enter Try.func4, Try.ntmps4
  go_wp2_with fail
  refine (lives_any _).mono ?_
  rintro e w' ⟨rfl, hb⟩
  go_wp2
  go_ret
  exact ⟨rfl, hb⟩
set_option maxHeartbeats 1000000 in
set_option maxRecDepth 100000 in
theorem al_none (A : Option Addr) (c : Nat) (w : World) : Calls Try.prog 4 #[.slice A 0 c] w fun e w' => e = .returned (.bool true) ∧ Below w.heap.size w w' := by
  go_enter Try.func4, Try.ntmps4
  go_wp2_with fail
  refine (reached_none A c _).mono ?_
  rintro e w' ⟨rfl, rfl⟩
  go_wp2_with fail
  refine wp_loop_rounds 1 ?_
  rw [rounds_succ]
  go_wp2_with fail
  refine (most_none 0 _ (by decide)).mono ?_
  rintro e w' ⟨rfl, rfl⟩
  go_wp2_with fail
  refine (lives_any _).mono ?_
  rintro e w' ⟨rfl, hb⟩
  go_wp2
  go_ret
  exact ⟨rfl, hb⟩
def AllX (zs : List Int) (v : Int) (i : Nat) (c4 c5 c6 : Value) : Prop :=
  ∃ t : Bool, c4 = .int .i64 ((zs.take i).countP (fun y => decide (v ≤ y)) : Nat) ∧ c5 = .int .i64 ((zs.take i).countP (fun y => decide (v < y)) : Nat) ∧ c6 = .bool t ∧ (t = true ↔ v ∈ zs.take i)
theorem mem_take_snoc (zs : List Int) (v : Int) {k : Nat} (hk : k < zs.length) : v ∈ zs.take (k + 1) ↔ (v ∈ zs.take k ∨ zs[k]?.getD 0 = v) := by
  rw [List.take_succ_eq_append_getElem hk, List.mem_append, List.getElem?_eq_getElem hk]
  simp [eq_comm]
theorem AllX.next {zs : List Int} {v x : Int} {i C4 C5 : Nat} {t : Bool} (hk : i < zs.length) (hx : x = zs[i]?.getD 0) (h4 : C4 = (zs.take i).countP (fun y => decide (v ≤ y))) (h5 : C5 = (zs.take i).countP (fun y => decide (v < y))) (ht : t = true ↔ v ∈ zs.take i)
    {D4 D5 : Nat} {s : Bool} (d4 : D4 = C4 + if v ≤ x then 1 else 0) (d5 : D5 = C5 + if v < x then 1 else 0) (ds : s = true ↔ (t = true ∨ x = v)) :
    AllX zs v (i + 1) (.int .i64 D4) (.int .i64 D5) (.bool s) := by
  refine ⟨s, ?_, ?_, rfl, ?_⟩
  · rw [cnt_take_snoc _ _ hk, ← h4, ← hx, d4]; simp
  · rw [cnt_take_snoc _ _ hk, ← h5, ← hx, d5]; simp
  · rw [mem_take_snoc zs v hk, ← ht, ← hx, ds]
set_option maxHeartbeats 4000000 in
set_option maxRecDepth 100000 in
theorem al_walk (b off c : Nat) (zs : List Int) (w : World) (h0 : 0 < zs.length) (hlen : zs.length ≤ 300) (hU : Us w b off zs) :
    Calls Try.prog 4 #[.slice (some ⟨b, off, none⟩) zs.length c] w fun e w' => e = .returned (.bool true) ∧ Below w.heap.size w w' := by
  have U := Lib.hid hU
  have RC := Lib.hid (reached_any b off c zs h0 (by omega) w hU.1 hU.2)
  obtain ⟨n, hn⟩ : ∃ n, n = zs.length := ⟨_, rfl⟩
  have N := Lib.hid hn
  have H0 := Lib.hid h0
  rw [← hn] at hlen RC ⊢
  have hne : ((n : Int) == 0) = false := beq_eq_false_iff_ne.2 (by omega)
  have hn1 : 1 ≤ (n : Int) := by omega
  clear hU hn h0
  go_enter Try.func4, Try.ntmps4
  go_wp2_with fail
  refine RC.out.mono ?_
  rintro e w1 ⟨ds, hs, rfl, hb⟩
  have R := Lib.hid (rch_of hs H0.out)
  obtain ⟨v, hv⟩ : ∃ v, v = ds[zs.length - (zs.length / 2 + 1)]! := ⟨_, rfl⟩
  rw [← hv] at R ⊢
  have BB := Lib.hid hb
  have U1 := Lib.hid (U.out.below hb)
  clear hs hb hv RC U
  go_wp2_with fail
  go_loopg [4, 5, 6, 7] n (fun q c4 c5 c6 c7 wr => ∃ i : Nat, q = n - i ∧ i ≤ n ∧ c7 = .int .i64 i ∧ AllX zs v i c4 c5 c6 ∧ wr = w1)
  case atStart => exact ⟨0, by omega, Nat.zero_le _, rfl, ⟨false, rfl, rfl, rfl, by simp⟩, rfl⟩
  case round =>
    obtain ⟨i, hq, hi, rfl, ⟨t, rfl, rfl, rfl, ht⟩, rfl⟩ := hrel
    have Q := Lib.hid hq
    have T := Lib.hid ht
    obtain ⟨C4, h4⟩ : ∃ C, C = (zs.take i).countP (fun y => decide (v ≤ y)) := ⟨_, rfl⟩
    obtain ⟨C5, h5⟩ : ∃ C, C = (zs.take i).countP (fun y => decide (v < y)) := ⟨_, rfl⟩
    have b4 : C4 ≤ i := by rw [h4]; exact cnt_take_le _ _ _
    have b5 : C5 ≤ i := by rw [h5]; exact cnt_take_le _ _ _
    rw [← h4, ← h5]
    have H4 := Lib.hid h4
    have H5 := Lib.hid h5
    clear hq ht h4 h5
    by_cases hin : i < n
    · have hin' : (i : Int) < n := by omega
      obtain ⟨x, hx⟩ : ∃ x, x = zs[i]?.getD 0 := ⟨_, rfl⟩
      have cx : wr.cell? ⟨b, off + i, none⟩ = some (.int .u64 x) := by rw [hx]; exact U1.out.2 i (by have := N.out; omega)
      have HX := Lib.hid hx
      have NX := Lib.hid (show i < zs.length by have := N.out; omega)
      clear hx
      rcases Int.lt_trichotomy v x with hvx | hvx | hvx
      · have n1 : v ≤ x := by omega
        have n2 : (x == v) = false := beq_eq_false_iff_ne.2 (by omega)
        rcases Bool.eq_false_or_eq_true t with h | h <;> subst h
        · have T1 := Lib.hid (show v ∈ zs.take i from T.out.1 rfl)
          clear T
          go_wp2
          go_roundg (n - (i + 1))
          case measure => have := Q.out; omega
          case rel => exact ⟨i + 1, rfl, by omega, by go_num, AllX.next (D4 := C4 + 1) (D5 := C5 + 1) (t := true) (s := true) NX.out HX.out H4.out H5.out ⟨fun _ => T1.out, fun _ => rfl⟩ (by rw [if_pos (by omega)]) (by rw [if_pos (by omega)]) (by simp), rfl⟩
        · have T1 := Lib.hid (show ¬ v ∈ zs.take i from fun h => Bool.false_ne_true (T.out.2 h))
          clear T
          go_wp2
          go_roundg (n - (i + 1))
          case measure => have := Q.out; omega
          case rel => exact ⟨i + 1, rfl, by omega, by go_num, AllX.next (t := false) (D4 := C4 + 1) (D5 := C5 + 1) (s := false) NX.out HX.out H4.out H5.out ⟨fun h => (Bool.false_ne_true h).elim, fun h => (T1.out h).elim⟩ (by rw [if_pos (by omega)]) (by rw [if_pos (by omega)]) (by simp; omega), rfl⟩
      · subst hvx
        rcases Bool.eq_false_or_eq_true t with h | h <;> subst h
        · have T1 := Lib.hid (show v ∈ zs.take i from T.out.1 rfl)
          clear T
          go_wp2
          go_roundg (n - (i + 1))
          case measure => have := Q.out; omega
          case rel => exact ⟨i + 1, rfl, by omega, by go_num, AllX.next (D4 := C4 + 1) (D5 := C5) (t := true) (s := true) NX.out HX.out H4.out H5.out ⟨fun _ => T1.out, fun _ => rfl⟩ (by rw [if_pos (by omega)]) (by rw [if_neg (by omega)]; rfl) (by simp), rfl⟩
        · have T1 := Lib.hid (show ¬ v ∈ zs.take i from fun h => Bool.false_ne_true (T.out.2 h))
          clear T
          go_wp2
          go_roundg (n - (i + 1))
          case measure => have := Q.out; omega
          case rel => exact ⟨i + 1, rfl, by omega, by go_num, AllX.next (t := false) (D4 := C4 + 1) (D5 := C5) (s := true) NX.out HX.out H4.out H5.out ⟨fun h => (Bool.false_ne_true h).elim, fun h => (T1.out h).elim⟩ (by rw [if_pos (by omega)]) (by rw [if_neg (by omega)]; rfl) (by simp), rfl⟩
      · have n1 : ¬ v ≤ x := by omega
        have n2 : (x == v) = false := beq_eq_false_iff_ne.2 (by omega)
        have n3 : ¬ v < x := by omega
        rcases Bool.eq_false_or_eq_true t with h | h <;> subst h
        · have T1 := Lib.hid (show v ∈ zs.take i from T.out.1 rfl)
          clear T
          go_wp2
          go_roundg (n - (i + 1))
          case measure => have := Q.out; omega
          case rel => exact ⟨i + 1, rfl, by omega, by go_num, AllX.next (D4 := C4) (D5 := C5) (t := true) (s := true) NX.out HX.out H4.out H5.out ⟨fun _ => T1.out, fun _ => rfl⟩ (by rw [if_neg (by omega)]; rfl) (by rw [if_neg (by omega)]; rfl) (by simp), rfl⟩
        · have T1 := Lib.hid (show ¬ v ∈ zs.take i from fun h => Bool.false_ne_true (T.out.2 h))
          clear T
          go_wp2
          go_roundg (n - (i + 1))
          case measure => have := Q.out; omega
          case rel => exact ⟨i + 1, rfl, by omega, by go_num, AllX.next (t := false) (D4 := C4) (D5 := C5) (s := false) NX.out HX.out H4.out H5.out ⟨fun h => (Bool.false_ne_true h).elim, fun h => (T1.out h).elim⟩ (by rw [if_neg (by omega)]; rfl) (by rw [if_neg (by omega)]; rfl) (by simp; omega), rfl⟩
    · have hin' : ¬ (i : Int) < n := by omega
      have tk : zs.take i = zs := List.take_of_length_le (by have := N.out; omega)
      have F4 := Lib.hid (show n / 2 + 1 ≤ C4 from by rw [H4.out, tk, N.out]; exact R.out.ge)
      have F5 := Lib.hid (show C5 < n / 2 + 1 from by have := R.out.gt; rw [H5.out, tk, N.out]; omega)
      obtain rfl : t = true := by rw [T.out, tk]; exact R.out.mem
      have f4 : (n : Int) / 2 + 1 ≤ C4 := by have := F4.out; omega
      have f5 : (C5 : Int) < (n : Int) / 2 + 1 := by have := F5.out; omega
      have L1 := Lib.hid (most_any (n : Int) wr hn1 (by omega))
      obtain ⟨m, hm⟩ : ∃ m : Int, m = (n : Int) / 2 + 1 := ⟨_, rfl⟩
      rw [← hm] at f4 f5 L1
      clear hm tk
      go_wp2_with fail
      refine L1.out.mono ?_
      rintro e w' ⟨rfl, rfl⟩
      go_wp2_with fail
      refine L1.out.mono ?_
      rintro e w' ⟨rfl, rfl⟩
      go_wp2_with fail
      refine (lives_any _).mono ?_
      rintro e w' ⟨rfl, hb⟩
      go_wp2
      go_ret
      exact ⟨rfl, BB.out.trans (hb.mono BB.out.size)⟩
theorem rl_nil (w : World) : Calls Try.prog 3 #[.slice none 0 0] w fun e w' => e = .returned (.bool true) ∧ Below w.heap.size w w' := by
  obtain ⟨i0, hi, hz0, hz1, hz2⟩ := info_parts Try.info24
  have hr : (Builtin.append_ #[22, 22] 22 #[.slice none 0 0, .slice none 0 0]).run Try.prog w = .ok (.slice none 0 0) w := by
    simp [Builtin.append_, run_underlying Try.underlying22, sizeOf, typeInfo, hi, Builtin.lenOf, Builtin.firstCells]
  go_enter Try.func3, Try.ntmps3
  go_wp2_with (at_builtin; refine Lib.wpList_append_run _ rfl _ _ _ _ rfl _ _ rfl rfl _ _ hr ?_)
  refine (reached_none none 0 _).mono ?_
  rintro e w' ⟨rfl, rfl⟩
  go_wp2_with fail
  refine wp_loop_rounds 1 ?_
  rw [rounds_succ]
  go_wp2_with fail
  refine (ref_none _ _ _).mono ?_
  rintro e w' ⟨rfl, rfl⟩
  go_wp2_with fail
  refine (lives_any _).mono ?_
  rintro e w' ⟨rfl, hb⟩
  have HB := Lib.hid hb
  clear hb
  go_wp2
  go_ret
  exact ⟨rfl, HB.out⟩
theorem rl_none (ad : Addr) (c : Nat) (w : World) : Calls Try.prog 3 #[.slice (some ad) 0 c] w fun e w' => e = .returned (.bool true) ∧ Below w.heap.size w w' := by
  obtain ⟨i0, hi, hz0, hz1, hz2⟩ := info_parts Try.info24
  have hnews := Lib.hid (show ∀ j u, ([] : List Value)[j]? = some u → w.cell? (ad.add j) = some u from fun j u hj => by cases hj)
  go_enter Try.func3, Try.ntmps3
  go_wp2_with (at_builtin; go_must (refine wpList_append_own _ rfl _ _ 22 rfl w.heap.size 24 i0 (.int .u64 0) 1 8 Try.underlying22 hi hz0 hz1 hz2 rfl (by decide) _ _ _ rfl (World.ownsRow_nil w w.heap.size 24 1) ad 0 c [] rfl rfl hnews.out (by intro u hu; cases hu) (by unfold maxLen; omega) (by omega) (Nat.le_refl _) ?_); intro v2 w2 ho hg hiff; obtain rfl : v2 = .slice none 0 0 := hiff.2 ⟨rfl, rfl⟩; have B2 := Lib.hid (show Below w.heap.size w w2 from (Below.refl _ w).grown hg (Nat.le_refl _) (fun k e => by cases e)); clear ho hg hiff)
  refine (reached_none none 0 _).mono ?_
  rintro e w' ⟨rfl, rfl⟩
  go_wp2_with fail
  refine wp_loop_rounds 1 ?_
  rw [rounds_succ]
  go_wp2_with fail
  refine (ref_none _ _ _).mono ?_
  rintro e w' ⟨rfl, rfl⟩
  go_wp2_with fail
  refine (lives_any _).mono ?_
  rintro e w' ⟨rfl, hb⟩
  have HB := Lib.hid hb
  clear hb
  go_wp2
  go_ret
  exact ⟨rfl, B2.out.trans (HB.out.mono B2.out.size)⟩
set_option maxHeartbeats 4000000 in
set_option maxRecDepth 100000 in
theorem rl_walk (b off c : Nat) (zs : List Int) (w : World) (h0 : 0 < zs.length) (hlen : zs.length ≤ 300) (hU : Us w b off zs) (hz : ∀ x ∈ zs, 0 ≤ x) :
    Calls Try.prog 3 #[.slice (some ⟨b, off, none⟩) zs.length c] w fun e w' => e = .returned (.bool true) ∧ Below w.heap.size w w' := by
  obtain ⟨i0, hi, hz0, hz1, hz2⟩ := info_parts Try.info24
  have U := Lib.hid hU
  have Z := Lib.hid hz
  have H0 := Lib.hid h0
  have hnews := Lib.hid (show ∀ j u, (zs.map (Value.int .u64))[j]? = some u → w.cell? ((⟨b, off, none⟩ : Addr).add j) = some u from fun j u hj => by
    have hjl : j < zs.length := by
      rcases Nat.lt_or_ge j zs.length with h | h
      · exact h
      · rw [List.getElem?_eq_none (by simpa using h)] at hj; cases hj
    rw [Addr.add_lit, hU.2 j hjl]
    rw [List.getElem?_map, List.getElem?_eq_getElem hjl] at hj
    rw [List.getElem?_eq_getElem hjl]
    exact hj)
  obtain ⟨n, hn⟩ : ∃ n, n = zs.length := ⟨_, rfl⟩
  have N := Lib.hid hn
  have HM := Lib.hid (show (zs.map (Value.int .u64)).length = n * 1 by simp [hn])
  rw [← hn] at hlen ⊢
  have hn1 : 1 ≤ n := by omega
  clear hU hn h0 hz
  go_enter Try.func3, Try.ntmps3
  go_wp2_with (at_builtin; go_must (refine wpList_append_own _ rfl _ _ 22 rfl w.heap.size 24 i0 (.int .u64 0) 1 8 Try.underlying22 hi hz0 hz1 hz2 rfl (by decide) _ _ _ rfl (World.ownsRow_nil w w.heap.size 24 1) ⟨b, off, none⟩ n c (zs.map (Value.int .u64)) rfl HM.out hnews.out (by intro u hu; obtain ⟨x, -, rfl⟩ := List.mem_map.1 hu; rfl) (by unfold maxLen; omega) (by omega) (Nat.le_refl _) ?_); intro v2 w2 ho hg _; rw [Nat.zero_add, List.nil_append] at ho; rw [N.out] at ho)
  obtain ⟨g, cap, rfl, hgB, hgl⟩ := ho.form H0.out
  have B2 := Lib.hid (show Below w.heap.size w w2 from (Below.refl _ w).grown hg (Nat.le_refl _) (fun k e => by cases e))
  have UT := Lib.hid (show Us w2 g 0 zs from ⟨hgl, fun j hj => by rw [ho.cellAt (0 + j) (by omega)]; simp [hj]⟩)
  have UL := Lib.hid (U.out.below B2.out)
  have RC := Lib.hid (reached_any g 0 cap zs H0.out (by have := N.out; omega) w2 hgl UT.out.2)
  rw [← N.out] at RC ⊢
  clear ho hg
  go_wp2_with fail
  refine RC.out.mono ?_
  rintro e w3 ⟨ds, hs, rfl, hb⟩
  have R := Lib.hid (refS_rch (rch_of hs H0.out) Z.out)
  obtain ⟨v, hv⟩ : ∃ v, v = ds[zs.length - (zs.length / 2 + 1)]! := ⟨_, rfl⟩
  rw [← hv] at R ⊢
  have B3 := Lib.hid (B2.out.trans (hb.mono B2.out.size))
  have UT3 := Lib.hid (UT.out.below hb)
  have UL3 := Lib.hid (UL.out.below hb)
  clear hs hb hv RC UT UL U hnews B2
  go_wp2_with fail
  go_loopg [5] n (fun q c5 wr => ∃ i qn : Nat, q = n - i ∧ i ≤ n ∧ c5 = .int .i64 i ∧ wr = w3.drewN qn)
  case atStart => exact ⟨0, 0, by omega, Nat.zero_le _, rfl, rfl⟩
  case round =>
    obtain ⟨i, qn, hq, hi, rfl, hw⟩ := hrel
    have Q := Lib.hid hq
    have W3 := Lib.hid hw
    have UT4 := Lib.hid (show Us wr g 0 zs from by rw [hw]; exact UT3.out.drewN qn)
    have UL4 := Lib.hid (show Us wr b off zs from by rw [hw]; exact UL3.out.drewN qn)
    clear hq hw
    by_cases hin : i < n
    · have hin' : (i : Int) < n := by omega
      obtain ⟨x, hx⟩ : ∃ x, x = zs[i]?.getD 0 := ⟨_, rfl⟩
      have cx : wr.cell? ⟨b, off + i, none⟩ = some (.int .u64 x) := by rw [hx]; exact UL4.out.2 i (by have := N.out; omega)
      have cy : wr.cell? ⟨g, i, none⟩ = some (.int .u64 x) := by rw [hx]; have := UT4.out.2 i (by have := N.out; omega); rwa [Nat.zero_add] at this
      clear hx
      go_wp2_with fail
      go_quiet (fail)
      go_wp2
      go_roundg (n - (i + 1))
      case measure => have := Q.out; omega
      case rel => exact ⟨i + 1, qn + nq, rfl, by omega, by go_num, by rw [W3.out, World.drewN_drewN]⟩
    · have hin' : ¬ (i : Int) < n := by omega
      have FC := Lib.hid (show ∀ u, Us u b off zs → Calls Try.prog _ #[.slice (some ⟨b, off, none⟩) n c] u fun e w' => e = .returned (.int .u64 v) ∧ ∃ q, w' = u.drewN q from fun u hu => by
        have := ref_any b off c zs (by have := N.out; omega) u hu
        rw [R.out, ← N.out] at this
        exact this)
      go_wp2_with fail
      refine (FC.out _ UL4.out).mono ?_
      rintro e w5 ⟨rfl, q5, rfl⟩
      go_wp2_with fail
      refine (lives_any _).mono ?_
      rintro e w' ⟨rfl, hb⟩
      have HB := Lib.hid hb
      clear hb
      go_wp2
      go_ret
      have b4 : Below w.heap.size w (wr.drewN q5) := B3.out.trans ((by rw [W3.out, World.drewN_drewN]; exact below_drewN_ _ _ _ : Below w.heap.size w3 (wr.drewN q5)))
      exact ⟨rfl, b4.trans (HB.out.mono b4.size)⟩
end Go.Proofs.Ytnfabkbajhfnfaa
