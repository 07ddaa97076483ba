/- PacksOne: the walk. -/
import Derived.Test.YtielnocnnffdfaaPlv
import Derived.Test.YtielnocnnffdfaaPwe
import Derived.Test.YtielnocnnffdfaaPws
import Derived.Test.YtielnocnnffdfaaPqe
import Derived.Test.YtielnocnnffdfaaPqs
import Derived.Test.YtielnocnnffdfaaSmb
namespace Go.Proofs.Ytielnocnnffdfaa
open Go.RowKit

theorem allP_ok {α : Type} {x : Res α} {a : α} (h : allP x = .ok a) : x = .ok (a, []) := by
  match x, h with
  | .ok (b, []), h => injection h with h; rw [h]
  | .ok (_, _ :: _), h => cases h
  | .error _, h => cases h
theorem allP_bad {α : Type} {put : α → List Int} {P : List Int → Res α} {ok : α → Prop} (c : Cod put P ok) {xs : List Int} {k : Int} (h : allP (P xs) = .error k) : k = 3 ∨ k = 4 ∨ k = 5 := by
  rcases hx : P xs with j | ⟨a, r⟩
  · rw [hx] at h; injection h with h; subst h; exact c.bad _ _ hx
  · rw [hx] at h
    cases r with
    | nil => cases h
    | cons y ys =>
      have h' : (.error 4 : Except Int α) = .error k := h
      injection h' with h'
      exact .inr (.inl h'.symm)
theorem cod_all {α : Type} {put : α → List Int} {P : List Int → Res α} {ok : α → Prop} (c : Cod put P ok) {xs : List Int} {a : α} (hb : ∀ c ∈ xs, byt c) (h : allP (P xs) = .ok a) : xs = put a ∧ ok a := by
  obtain ⟨h1, h2⟩ := c.back xs a [] hb (allP_ok h)
  exact ⟨by rw [h1, List.append_nil], h2⟩

theorem uni_entry {xs : List Int} {w w' : World} {e : Ending} (hby : ∀ c ∈ xs, byt c) (hp : GPost (entryP xs) entryQ (.agg #[.int .u64 0, .int .u64 0, .int .u8 0, .int .u64 0, .slice none 0 0]) w e w') :
    ∃ (x0 x1 x2 x3 : Int) (A4 : Option Addr) (l4 : Nat) (k : Int), e = .returned (.tuple #[.agg #[.int .u64 x0, .int .u64 x1, .int .u8 x2, .int .u64 x3, .slice A4 l4 l4], .int .i64 k]) ∧ Below w.heap.size w w' ∧
      (k = 0 → ∃ r4 : List (List Int), l4 = r4.length ∧ xs = entryB ([x0, x1, x2, x3], r4) ∧ entryOk ([x0, x1, x2, x3], r4) ∧ Steps w' (.slice A4 l4 l4) r4) := by
  unfold GPost at hp
  rcases hr : allP (entryP xs) with k | a
  · rw [hr] at hp
    obtain ⟨rfl, hb⟩ := hp
    exact ⟨0, 0, 0, 0, none, 0, k, rfl, hb, fun hk => by rcases allP_bad cod_entry hr with h | h | h <;> omega⟩
  · rw [hr] at hp
    obtain ⟨v1, rfl, hq, hb⟩ := hp
    obtain ⟨hxs, hok⟩ := cod_all cod_entry hby hr
    obtain ⟨x0, x1, x2, x3, r4, A4, rfl, rfl, ho4⟩ := entryQ_ex hq
    exact ⟨x0, x1, x2, x3, A4, r4.length, 0, rfl, hb, fun _ => ⟨r4, rfl, hxs, hok, ho4.rd⟩⟩
theorem uni_state {xs : List Int} {w w' : World} {e : Ending} (hby : ∀ c ∈ xs, byt c) (hp : GPost (stateP xs) stateQ (.agg #[.slice none 0 0, .slice none 0 0, .slice none 0 0, .int .u64 0]) w e w') :
    ∃ (A0 A1 A2 : Option Addr) (l0 l1 l2 : Nat) (x3 k : Int), e = .returned (.tuple #[.agg #[.slice A0 l0 l0, .slice A1 l1 l1, .slice A2 l2 l2, .int .u64 x3], .int .i64 k]) ∧ Below w.heap.size w w' ∧
      (k = 0 → ∃ r0 r1 r2 : List (List Int), l0 = r0.length ∧ l1 = r1.length ∧ l2 = r2.length ∧ xs = stateB (r0, r1, r2, [x3]) ∧ stateOk (r0, r1, r2, [x3]) ∧ Partys w' (.slice A0 l0 l0) r0 ∧ Lines w' (.slice A1 l1 l1) r1 ∧ Offers w' (.slice A2 l2 l2) r2) := by
  unfold GPost at hp
  rcases hr : allP (stateP xs) with k | a
  · rw [hr] at hp
    obtain ⟨rfl, hb⟩ := hp
    exact ⟨none, none, none, 0, 0, 0, 0, k, rfl, hb, fun hk => by rcases allP_bad cod_state hr with h | h | h <;> omega⟩
  · rw [hr] at hp
    obtain ⟨v1, rfl, hq, hb⟩ := hp
    obtain ⟨hxs, hok⟩ := cod_all cod_state hby hr
    obtain ⟨x3, r0, r1, r2, A0, A1, A2, rfl, rfl, ho0, ho1, ho2⟩ := stateQ_ex hq
    exact ⟨A0, A1, A2, r0.length, r1.length, r2.length, x3, 0, rfl, hb, fun _ => ⟨r0, r1, r2, rfl, rfl, rfl, hxs, hok, ho0.rd, ho1.rd, ho2.rd⟩⟩

set_option maxHeartbeats 8000000 in
set_option maxRecDepth 100000 in
theorem one_walk (v : Value) (xs : List Int) (w : World) (h : Bs w v xs) (hby : ∀ c ∈ xs, byt c) (hl : xs.length ≤ 9223372036854775807) :
    Calls Try.prog 9 #[v] w fun e w' => e = .returned (.bool true) ∧ Below w.heap.size w w' := by
  obtain ⟨A, c, rfl, hc, -⟩ := id h
  have H := Lib.hid h
  have HY := Lib.hid hby
  obtain ⟨m, hm⟩ : ∃ m, m = xs.length := ⟨_, rfl⟩
  rw [← hm] at H hc ⊢ hl
  have M := Lib.hid hm
  clear h hby hm
  by_cases h1000 : 3000 < m
  · have h1000' : 3000 < (m : Int) := by omega
    go_enter Try.func9, Try.ntmps9
    go_wp2_with fail
    refine (plives _).mono ?_
    rintro e w1 ⟨rfl, hb⟩
    go_wp2
    go_ret
    exact ⟨rfl, hb⟩
  have h1000' : ¬ 3000 < (m : Int) := by omega
  go_enter Try.func9, Try.ntmps9
  go_wp2_with fail
  refine (Get_entry_any _ xs _ H.out HY.out (by rw [← M.out]; omega)).mono ?_
  intro e w1 hp
  obtain ⟨x0, x1, x2, x3, A4, l4, k, rfl, hb, hk⟩ := uni_entry HY.out hp
  have hb2 := below_alloc_ w1 (.cells #[.int .u64 x0, .int .u64 x1, .int .u8 x2, .int .u64 x3, .slice A4 l4 l4] 71)
  have B1 := Lib.hid (hb.trans (hb2.mono hb.size))
  have K1 := Lib.hid (Blk.new w1 71 #[.int .u64 x0, .int .u64 x1, .int .u8 x2, .int .u64 x3, .slice A4 l4 l4])
  have HK := Lib.hid hk
  clear hp hb hk hb2
  go_upto_if 22 with fail
  go_cut [2] (fun s2 wx => s2 = .bool false ∧ Below w.heap.size w wx)
  case first =>
    by_cases hk0 : k = 0
    · subst hk0
      obtain ⟨r4, rfl, hxs, ⟨hf, hr8, hin⟩, hst⟩ := HK.out rfl
      simp only [entryK, fok] at hf
      obtain ⟨f0, f1, f2, f3, -⟩ := hf
      have S4 := Lib.hid (show Steps _ _ r4 from Rd.below hst (below_alloc_ w1 (.cells #[.int .u64 x0, .int .u64 x1, .int .u8 x2, .int .u64 x3, .slice A4 r4.length r4.length] 71)))
      have RR := Lib.hid (show entryR ([x0, x1, x2, x3], r4) = (entryB ([x0, x1, x2, x3], r4), 0) from if_pos hr8)
      have DD := Lib.hid (show decide (entryB ([x0, x1, x2, x3], r4) = xs) = true from decide_eq_true hxs.symm)
      have XS := Lib.hid hxs
      have HI := Lib.hid hin
      have F0 := Lib.hid f0
      have F1 := Lib.hid f1
      have F2 := Lib.hid f2
      have F3 := Lib.hid f3
      have h8 : r4.length ≤ 1000000 := Nat.le_trans hr8 (by decide)
      have kk := K1.out
      have z0 := kk.cell 0
      have z1 := kk.cell 1
      have z2 := kk.cell 2
      have z3 := kk.cell 3
      have z4 := kk.cell 4
      simp only [List.getElem?_toArray, List.getElem?_cons_zero, List.getElem?_cons_succ] at z0 z1 z2 z3 z4
      clear hxs hin hst f0 f1 f2 f3 hr8 kk
      go_wp2_with fail
      refine (Put_entry_any x0 x1 x2 x3 _ r4 F0.out F1.out F2.out F3.out HI.out _ S4.out h8).mono ?_
      rintro e wp ⟨vp, rfl, hop, hbp⟩
      rw [RR.out] at hop ⊢
      have OP := Lib.hid hop
      have BP := Lib.hid (B1.out.trans (hbp.mono B1.out.size))
      clear hop hbp z0 z1 z2 z3 z4
      go_wp2_with fail
      refine (sameb_any (entryB ([x0, x1, x2, x3], r4)) xs _ _ _ OP.out.bs (H.out.below BP.out) (by rw [← XS.out, ← M.out]; omega)).mono ?_
      rintro e wq ⟨rfl, mq, rfl⟩
      rw [DD.out]
      have BQ := Lib.hid (BP.out.trans (below_drewN_ _ wp mq))
      go_wp2
      go_meet
      exact ⟨rfl, BQ.out⟩
    · have hkb : (k == 0) = false := beq_eq_false_iff_ne.2 hk0
      go_wp2
      go_meet
      exact ⟨rfl, B1.out⟩
  case rest =>
  obtain ⟨rfl, hbc⟩ := hcut
  have B2 := Lib.hid hbc
  clear hbc HK K1 B1
  go_wp2_with fail
  refine (Get_state_any _ xs _ (H.out.below B2.out) HY.out (by rw [← M.out]; omega)).mono ?_
  intro e w10 hp
  obtain ⟨A0, A1, A2, l0, l1, l2, y3, k2, rfl, hb, hk⟩ := uni_state HY.out hp
  have hb2 := below_alloc_ w10 (.cells #[.slice A0 l0 l0, .slice A1 l1 l1, .slice A2 l2 l2, .int .u64 y3] 93)
  have B10 := Lib.hid (B2.out.trans ((hb.trans (hb2.mono hb.size)).mono B2.out.size))
  have K10 := Lib.hid (Blk.new w10 93 #[.slice A0 l0 l0, .slice A1 l1 l1, .slice A2 l2 l2, .int .u64 y3])
  have HK := Lib.hid hk
  clear hp hb hk hb2
  go_upto_if 42 with fail
  go_cut [2] (fun s2 wx => s2 = .bool false ∧ Below w.heap.size w wx)
  case first =>
    by_cases hk0 : k2 = 0
    · subst hk0
      obtain ⟨r0, r1, r2, rfl, rfl, rfl, hxs, ⟨⟨g0, i0⟩, ⟨g1, i1⟩, ⟨g2, i2⟩, hf⟩, hs0, hs1, hs2⟩ := HK.out rfl
      have f3 := hf.1
      have S0 := Lib.hid (show Partys _ _ r0 from Rd.below hs0 (below_alloc_ w10 (.cells #[.slice A0 r0.length r0.length, .slice A1 r1.length r1.length, .slice A2 r2.length r2.length, .int .u64 y3] 93)))
      have S1 := Lib.hid (show Lines _ _ r1 from Rd.below hs1 (below_alloc_ w10 (.cells #[.slice A0 r0.length r0.length, .slice A1 r1.length r1.length, .slice A2 r2.length r2.length, .int .u64 y3] 93)))
      have S2 := Lib.hid (show Offers _ _ r2 from Rd.below hs2 (below_alloc_ w10 (.cells #[.slice A0 r0.length r0.length, .slice A1 r1.length r1.length, .slice A2 r2.length r2.length, .int .u64 y3] 93)))
      have RR := Lib.hid (show stateR (r0, r1, r2, [y3]) = (stateB (r0, r1, r2, [y3]), 0) from if_pos ⟨g0, g1, g2⟩)
      have DD := Lib.hid (show decide (stateB (r0, r1, r2, [y3]) = xs) = true from decide_eq_true hxs.symm)
      have XS := Lib.hid hxs
      have I0 := Lib.hid i0
      have I1 := Lib.hid i1
      have I2 := Lib.hid i2
      have F3 := Lib.hid f3
      have h80 : r0.length ≤ 1000000 := Nat.le_trans g0 (by decide)
      have h81 : r1.length ≤ 1000000 := Nat.le_trans g1 (by decide)
      have h82 : r2.length ≤ 1000000 := Nat.le_trans g2 (by decide)
      have kk := K10.out
      have z0 := kk.cell 0
      have z1 := kk.cell 1
      have z2 := kk.cell 2
      have z3 := kk.cell 3
      simp only [List.getElem?_toArray, List.getElem?_cons_zero, List.getElem?_cons_succ] at z0 z1 z2 z3
      clear hxs hs0 hs1 hs2 i0 i1 i2 g0 g1 g2 f3 hf kk
      go_wp2_with fail
      refine (Put_state_any _ r0 _ r1 _ r2 y3 I0.out I1.out I2.out F3.out _ S0.out h80 S1.out h81 S2.out h82).mono ?_
      rintro e wp ⟨vp, rfl, hop, hbp⟩
      rw [RR.out] at hop ⊢
      have OP := Lib.hid hop
      have BP := Lib.hid (B10.out.trans (hbp.mono B10.out.size))
      clear hop hbp z0 z1 z2 z3
      go_wp2_with fail
      refine (sameb_any (stateB (r0, r1, r2, [y3])) xs _ _ _ OP.out.bs (H.out.below BP.out) (by rw [← XS.out, ← M.out]; omega)).mono ?_
      rintro e wq ⟨rfl, mq, rfl⟩
      rw [DD.out]
      have BQ := Lib.hid (BP.out.trans (below_drewN_ _ wp mq))
      go_wp2
      go_meet
      exact ⟨rfl, BQ.out⟩
    · have hkb : (k2 == 0) = false := beq_eq_false_iff_ne.2 hk0
      go_wp2
      go_meet
      exact ⟨rfl, B10.out⟩
  case rest =>
  obtain ⟨rfl, hbc⟩ := hcut
  have B := Lib.hid hbc
  clear hbc HK K10 B10 B2
  go_wp2_with fail
  refine (Take_any _ xs _ (H.out.below B.out) HY.out (by rw [← M.out]; omega)).mono ?_
  rintro e w20 ⟨rfl, rfl⟩
  rcases hz : tk xs with ⟨n, s, E⟩
  have hte := tk_err xs
  have hts := (tk_size xs).1
  have htl := tk_lt HY.out
  rw [hz] at hte hts htl
  simp only at hte hts htl ⊢
  rcases hte with ⟨hE, hs⟩ | ⟨hE, hs, hn⟩
  · subst hE
    obtain ⟨hnb, -, -, -⟩ := tk_back HY.out hz
    have NB := Lib.hid hnb
    have hsm : (s : Int) ≤ (m : Int) := by rw [M.out]; omega
    have hsc : (s : Int) ≤ (c : Int) := by omega
    have hs0 : 0 ≤ (s : Int) := by omega
    have hsz : ¬ (s : Int) = 0 := by omega
    have hsz' : decide ((s : Int) = 0) = false := decide_eq_false hsz
    have hsb : ((s : Int) == 0) = false := beq_eq_false_iff_ne.2 hsz
    have TS := Lib.hid ((H.out.below B.out).takes s c (by rw [M.out]; omega) (by omega))
    have HN := Lib.hid htl
    have D := decide_eq_true hnb
    clear hnb hz hts htl hs
    go_wp2_with fail
    go_region_held3 (fun _ => True) (trivial) (first
      | (go_at_call 27; refine (plives _).mono ?_; rintro e w23 ⟨rfl, b23⟩; have Z23 := Lib.hid b23; clear b23)
      | (go_at_call 23; refine (sameb_any (nb n) (xs.take s) _ _ _ Z21.out T21.out (by have := nb_ten HN.out; omega)).mono ?_; rintro e w22 ⟨rfl, m22, rfl⟩)
      | (go_at_call 28; refine (num_any (.slice none 0 0) [] n _ (Bs.nils _ _ _) HN.out (by decide)).mono ?_; rintro e w21 ⟨v21, rfl, h21, b21⟩; have Z21 := Lib.hid (show Bs w21 v21 (nb n) from h21.bs); have T21 := Lib.hid (show Bs w21 _ (xs.take s) from by first | exact Bs.below TS.out b21 | exact Bs.below (Rd.drew TS.out) b21); have Y21 := Lib.hid b21; clear h21 b21))
    have e1 : Below w.heap.size w w21 := by first | exact B.out.trans (Y21.out.mono B.out.size) | exact (B.out.drew).trans (Y21.out.mono B.out.size)
    have e2 : Below w.heap.size w w23 := (e1.trans (below_drewN_ _ _ m22)).trans (Z23.out.mono e1.size)
    have E2 := Lib.hid e2
    clear e1 e2 D
    go_wp2
    go_ret
    exact ⟨rfl, E2.out⟩
  · have hsI : (s : Int) = 0 := by omega
    clear hz hE hts htl hs hn
    go_wp2_with fail
    first
      | go_region_with ((go_at_call 27; refine (plives _).mono ?_; rintro e w23 ⟨rfl, b23⟩; have Z23 := Lib.hid b23; clear b23))
      | fail
    all_goals
      have e2 : Below w.heap.size w w23 := by first | exact B.out.trans (Z23.out.mono B.out.size) | exact (B.out.drew).trans (Z23.out.mono B.out.size)
      have E2 := Lib.hid e2
      clear e2
      go_wp2
      go_ret
      exact ⟨rfl, E2.out⟩
end Go.Proofs.Ytielnocnnffdfaa
