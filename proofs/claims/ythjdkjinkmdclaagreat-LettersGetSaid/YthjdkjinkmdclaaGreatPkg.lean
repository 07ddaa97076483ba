/- got: put and got, one and a list. -/
import Derived.Test.YthjdkjinkmdclaaGreatPkr
namespace Go.Proofs.YthjdkjinkmdclaaGreat
open Go.RowKit

/-- got: the fields' kinds. -/
def gotK : List IntKind := [.i64, .i64]
theorem got_of {l : List Int} (h : l.length = 2) : ∃ x0 x1, l = [x0, x1] := by
  match l, h with
  | [x0, x1], _ => exact ⟨x0, x1, rfl⟩
theorem got_fok {l : List Int} (h : fok gotK l) : ∃ x0 x1, l = [x0, x1] ∧ fok1 .i64 x0 ∧ fok1 .i64 x1 := by
  obtain ⟨x0, x1, rfl⟩ := got_of (fok_len _ _ h)
  simp only [gotK, fok] at h
  exact ⟨x0, x1, rfl, h.1, h.2.1⟩
abbrev gotV (l : List Int) : Value := .agg (fc gotK l).toArray
set_option maxHeartbeats 4000000 in
set_option maxRecDepth 100000 in
theorem pgot_any (p : Nat) (x0 x1 : Int) (h0 : fok1 .i64 x0) (h1 : fok1 .i64 x1) (b : Option Nat) (w : World) (xs : List Int) (h : Pu w p b xs) (hl : xs.length + (fB gotK [x0, x1]).length ≤ 70368744177664) :
    Calls Tryz.prog 111 #[.pointer (some ⟨p, 0, none⟩), .agg #[.int .i64 x0, .int .i64 x1]] w fun e w' => e = .returned (.tuple #[]) ∧ Pv w p b w' (xs ++ fB gotK [x0, x1]) := by
  have Q0 := Lib.hid h0
  have Q1 := Lib.hid h1
  obtain ⟨hp, k0, n1, n2⟩ := h.box 108 #[.int .i64 x0, .int .i64 x1]
  have K := Lib.hid k0
  have P0 := Lib.hid hp
  simp only [gotK, fB, fb1, List.headD_cons, List.tail_cons, List.length_append, List.append_nil] at hl
  have HL := Lib.hid hl
  clear h hp k0 hl h0 h1
  go_enter Tryz.func111, Tryz.ntmps111
  go_wp2_with fail
  refine (psign_v p x0 b _ _ (xs) P0.out Q0.out (by have := HL.out; (try simp only [rateK, List.take, fB, fb1, List.headD_cons, List.tail_cons, List.length_append, List.length_nil, List.length_cons, List.append_nil] at this); (try simp only [rateK, List.take, fB, fb1, List.headD_cons, List.tail_cons, List.length_append, List.length_nil, List.length_cons, List.append_nil]); omega)).mono ?_
  rintro e w10 ⟨rfl, hP⟩
  have P10 := Lib.hid hP
  have k1 := hP.blk K.out n1 n2
  have c1_0 := k1.cell 0
  have c1_1 := k1.cell 1
  simp at c1_0 c1_1
  clear k1
  clear hP
  go_wp2_with fail
  refine (psign_v p x1 b _ _ (xs ++ (sb x0)) P10.out Q1.out (by have := HL.out; (try simp only [rateK, List.take, fB, fb1, List.headD_cons, List.tail_cons, List.length_append, List.length_nil, List.length_cons, List.append_nil] at this); (try simp only [List.length_append]); omega)).mono ?_
  rintro e w11 ⟨rfl, hP⟩
  have P11 := Lib.hid hP
  clear c1_0 c1_1
  clear hP
  go_wp2
  refine bodyPost_end (results_none rfl _ _ _) rfl ⟨rfl, ?_⟩
  have := Pv.base (below_alloc_ _ _) P11.out
  simpa only [gotK, rateK, fB, fb1, List.take, List.headD_cons, List.tail_cons, List.append_nil, List.append_assoc, List.cons_append, List.nil_append] using this
theorem pgot_v (p : Nat) (x0 x1 : Int) (h0 : fok1 .i64 x0) (h1 : fok1 .i64 x1) (b : Option Nat) (W0 w : World) (xs : List Int) (h : Pv W0 p b w xs) (hl : xs.length + (fB gotK [x0, x1]).length ≤ 70368744177664) :
    Calls Tryz.prog 111 #[.pointer (some ⟨p, 0, none⟩), .agg #[.int .i64 x0, .int .i64 x1]] w fun e w' => e = .returned (.tuple #[]) ∧ Pv W0 p b w' (xs ++ fB gotK [x0, x1]) :=
  h.chain fun b' hu => pgot_any p x0 x1 h0 h1 b' w xs hu hl
set_option maxHeartbeats 4000000 in
set_option maxRecDepth 100000 in
theorem ggot_any (g : Nat) (xs : List Int) (w : World) (h : Gt w g xs) :
    Calls Tryz.prog 145 #[.pointer (some ⟨g, 0, none⟩)] w (Gpost (fP gotK xs) gotV g w) := by
  have hG0 := h.alloc (.cells #[.int .i64 0, .int .i64 0] 108)
  have hlt := h.lt
  have hne : w.heap.size ≠ g := by omega
  have hne' : some w.heap.size ≠ some g := fun e => hne (Option.some.inj e)
  have K0 := Lib.hid (Blk.new w 108 #[.int .i64 0, .int .i64 0])
  have H0 := Lib.hid hG0
  have B0 := Lib.hid (grown_below_ (below_alloc_ w (.cells #[.int .i64 0, .int .i64 0] 108)) (some g))
  clear h hG0
  go_enter Tryz.func145, Tryz.ntmps145
  go_wp2_with fail
  refine (gsign_any g _ _ H0.out).mono ?_
  intro e w1 hp
  rcases hr : signP xs with k | ⟨x0, r1⟩
  · rw [hr] at hp
    obtain ⟨rfl, hg⟩ := hp
    have B1 := Lib.hid (grown_trans_ B0.out hg)
    have R1 := Lib.hid hr
    clear hg hr
    go_wp2
    refine ⟨rfl, ?_⟩
    have hP : fP gotK xs = .error k := by simp only [gotK, fP, fp1, bindP, R1.out]
    unfold Gpost; rw [hP]
    exact ⟨rfl, B1.out⟩
  rw [hr] at hp
  obtain ⟨rfl, hG, hg⟩ := hp
  have H1 := Lib.hid hG
  have K1 := Lib.hid (K0.out.grown hg hne')
  have B1 := Lib.hid (grown_trans_ B0.out hg)
  have R1 := Lib.hid hr
  clear hG hg hr
  go_wp2_with fail
  refine (gsign_any g _ _ H1.out).mono ?_
  intro e w2 hp
  rcases hr : signP r1 with k | ⟨x1, r2⟩
  · rw [hr] at hp
    obtain ⟨rfl, hg⟩ := hp
    have B2 := Lib.hid (grown_trans_ B1.out hg)
    have R2 := Lib.hid hr
    clear hg hr
    go_wp2
    refine ⟨rfl, ?_⟩
    have hP : fP gotK xs = .error k := by simp only [gotK, fP, fp1, bindP, R1.out, R2.out]
    unfold Gpost; rw [hP]
    exact ⟨rfl, B2.out⟩
  rw [hr] at hp
  obtain ⟨rfl, hG, hg⟩ := hp
  have H2 := Lib.hid hG
  have K2 := Lib.hid (K1.out.grown hg hne')
  have B2 := Lib.hid (grown_trans_ B1.out hg)
  have R2 := Lib.hid hr
  clear hG hg hr
  have bf := K2.out
  have fz := bf.free
  have z0 := bf.cell 0
  have z1 := bf.cell 1
  simp at z0 z1
  clear bf
  go_wp2
  have bf := ((K2.out.set_ 0 (.int .i64 x0)).set_ 1 (.int .i64 x1))
  have y0 := bf.cell 0
  have y1 := bf.cell 1
  simp at y0 y1
  refine bodyPost_ret (v := .agg #[.int .i64 x0, .int .i64 x1]) (by simp [results, Tryz.results145, go_sem, y0, y1]) rfl ?_
  have hP : fP gotK xs = .ok ([(x0 : Int), x1], r2) := by simp only [gotK, fP, fp1, bindP, R1.out, R2.out]
  unfold Gpost; rw [hP]
  exact ⟨rfl, ((H2.out.out_ hlt 0 (.int .i64 x0)).out_ hlt 1 (.int .i64 x1)), (grown_far_ (grown_far_ B2.out (p := ⟨w.heap.size, 0, none⟩) (Nat.le_refl _) (.int .i64 x0)) (p := ⟨w.heap.size, 1, none⟩) (Nat.le_refl _) (.int .i64 x1))⟩
theorem got_info : (Tryz.prog.info? 108).map (fun i => (i.zero, i.size, i.bytes)) = some (some (.agg #[.int .i64 0, .int .i64 0]), 2, 16) := by kernel_rfl
theorem got_clip (A : Option Addr) (n c : Nat) (w : World) (hc : n ≤ c) (hn : n ≤ 4611686018427387904) :
    Calls Tryz.prog 148 #[.slice A n c] w fun e w' => e = .returned (.slice A n n) ∧ w = w' := by
  have h1 : (n : Int) ≤ (c : Int) := by omega
  have h2 : (n : Int) ≤ 4611686018427387904 := by omega
  have h3 : ¬ (c : Int) < (n : Int) := by omega
  go_enter Tryz.func148, Tryz.ntmps148
  go_wp2
  go_ret
  exact ⟨by cases A <;> simp, rfl⟩
/-- The slice v holds these. -/
def Gots (w : World) (v : Value) (rows : List (List Int)) : Prop := Rd w 2 v rows.length (rows.flatMap (fc gotK))
theorem fcgot_len (x : List Int) : (fc gotK x).length = 2 := fc_len _ _
def gotsB (rows : List (List Int)) : List Int := listB (fB gotK) rows
set_option maxHeartbeats 4000000 in
set_option maxRecDepth 100000 in
theorem pgots_any (p : Nat) (v : Value) (rows : List (List Int)) (hin : ∀ q ∈ rows, fok gotK q) (b : Option Nat) (w : World) (xs : List Int) (h : Pu w p b xs) (hv : Gots w v rows) (hne : rows.length = 0 ∨ ∀ k, v.ownBlock = some k → k ≠ p ∧ some k ≠ b)
    (hl : xs.length + (gotsB rows).length ≤ 70368744177664) (hg : rows.length ≤ 4611686018427387904) :
    Calls Tryz.prog 110 #[.pointer (some ⟨p, 0, none⟩), v, .func (.func 111) #[] #[]] w fun e w' => e = .returned (.tuple #[]) ∧ Pv w p b w' (xs ++ gotsB rows) := by
  have P0 := Lib.hid h.pv
  have HL := Lib.hid hl
  have HV := Lib.hid hv
  have HI := Lib.hid hin
  have HN := Lib.hid hne
  obtain ⟨A, c, rfl, hc, _⟩ := id hv
  obtain ⟨n, hn⟩ : ∃ n, n = rows.length := ⟨_, rfl⟩
  have N := Lib.hid hn
  rw [← hn] at hg ⊢
  have hg' : (n : Int) ≤ 4611686018427387904 := by omega
  clear h hl hv hne hn hc hg hin
  go_enter Tryz.func110, Tryz.ntmps110
  go_wp2_with fail
  refine (pnum_v p n b w w xs P0.out (by omega) (by have := HL.out; rw [N.out]; simp only [gotsB, listB, List.length_append] at this; omega)).mono ?_
  rintro e w1 ⟨rfl, hP⟩
  have P1 := Lib.hid hP
  clear hP
  go_wp2
  go_loopg [15] n (fun g c15 wr => ∃ k : Nat, k ≤ n ∧ g = n - k ∧ c15 = .int .i64 k ∧ Pv w p b wr (xs ++ nb n ++ (rows.take k).flatMap (fB gotK)))
  case atStart => exact ⟨0, Nat.zero_le _, by omega, rfl, by simpa using P1.out⟩
  case round =>
    obtain ⟨k, hk, hgk, rfl, hP⟩ := hrel
    have P2 := Lib.hid hP
    have GK := Lib.hid hgk
    clear hgk
    by_cases hkn : k < n
    · have hkl : k < rows.length := by have := N.out; omega
      have hrd := P2.out.tn.rd HV.out HN.out
      obtain ⟨g, o, c', hA, hc', hgl, hcell⟩ := Rd.at_ fcgot_len hrd (by omega)
      injection hA with hA1 hA4 hA3
      subst hA3
      clear hA4
      subst hA1
      obtain ⟨x0, x1, LX, hq0, hq1⟩ := got_fok (HI.out _ (List.getElem_mem hkl))
      have cl0 : wr.cell? ⟨g, o + k * 2, none⟩ = some (.int .i64 x0) := by have := hcell k hkl 0 (.int .i64 x0) (by omega) (by rw [LX]; rfl); simpa using this
      have cl1 : wr.cell? ⟨g, o + k * 2 + 1, none⟩ = some (.int .i64 x1) := by have := hcell k hkl 1 (.int .i64 x1) (by omega) (by rw [LX]; rfl); simpa using this
      have LXH := Lib.hid LX
      clear hcell hrd LX
      have HQ0 := Lib.hid hq0
      clear hq0
      have HQ1 := Lib.hid hq1
      clear hq1
      go_wp2_with fail
      have hb : (xs ++ nb n ++ (rows.take k).flatMap (fB gotK)).length + (fB gotK [x0, x1]).length ≤ 70368744177664 := by
        have h1 := HL.out
        have h2 := flat_len_le (fB gotK) rows (k + 1)
        rw [flat_snoc (fB gotK) rows k hkl, LXH.out] at h2
        rw [gotsB, listB, ← N.out] at h1
        simp only [List.length_append] at h1 h2 ⊢
        omega
      refine ((P2.out.alloc (.cells #[.int .i64 x0, .int .i64 x1] 108)).chain fun b' hu => pgot_any p x0 x1 HQ0.out HQ1.out b' _ _ hu hb).mono ?_
      rintro e w2 ⟨rfl, hP3⟩
      have P3 := Lib.hid hP3
      clear hP3 cl0 cl1
      go_wp2
      go_roundg (n - (k + 1))
      case measure => have := GK.out; omega
      case rel =>
        refine ⟨k + 1, by omega, rfl, by go_num, ?_⟩
        rw [flat_snoc (fB gotK) rows k hkl, LXH.out, ← List.append_assoc]
        exact P3.out
    · obtain rfl : k = n := by omega
      go_wp2
      refine bodyPost_end (results_none rfl _ _ _) rfl ⟨rfl, ?_⟩
      have := P2.out
      rw [List.take_of_length_le (by have := N.out; omega)] at this
      simpa only [gotsB, listB, List.append_assoc, ← N.out] using this
theorem pgots_v (p : Nat) (v : Value) (rows : List (List Int)) (hin : ∀ q ∈ rows, fok gotK q) (b : Option Nat) (W0 w : World) (xs : List Int) (h : Pv W0 p b w xs) (hv : Gots W0 v rows) (hne : rows.length = 0 ∨ ∀ k, v.ownBlock = some k → k ≠ p ∧ some k ≠ b)
    (hg : rows.length ≤ 4611686018427387904) (hl : xs.length + (gotsB rows).length ≤ 70368744177664) :
    Calls Tryz.prog 110 #[.pointer (some ⟨p, 0, none⟩), v, .func (.func 111) #[] #[]] w fun e w' => e = .returned (.tuple #[]) ∧ Pv W0 p b w' (xs ++ gotsB rows) := by
  have hv' := h.tn.rd hv hne
  obtain ⟨⟨b1, hu, hb⟩, ht⟩ := h
  exact (pgots_any p v rows hin b1 w xs hu hv' (off_step (_w := w) hv hne hb) hl hg).mono fun _ _ hh => ⟨hh.1, Pv.trans ht hb hh.2⟩
set_option maxHeartbeats 4000000 in
set_option maxRecDepth 100000 in
theorem ggots_any (g : Nat) (xs : List Int) (w : World) (h : Gt w g xs) :
    Calls Tryz.prog 144 #[.pointer (some ⟨g, 0, none⟩), .int .i64 8, .func (.func 145) #[] #[]] w (Lpost (listP (fP gotK) 8 xs) 108 2 (fc gotK) g w) := by
  have H := Lib.hid h
  have hlt := h.lt
  clear h
  go_enter Tryz.func144, Tryz.ntmps144
  go_wp2_with fail
  refine (gnum_any g _ _ H.out).mono ?_
  intro e w1 hp
  rcases hr : numP xs with k | ⟨n, r1⟩
  · rw [hr] at hp
    obtain ⟨rfl, hg⟩ := hp
    have B1 := Lib.hid hg
    have R1 := Lib.hid hr
    clear hg hr
    go_wp2
    refine ⟨rfl, ?_⟩
    have hP : listP (fP gotK) 8 xs = .error k := by simp only [listP, bindP, R1.out]
    unfold Lpost; rw [hP]
    exact ⟨rfl, B1.out⟩
  rw [hr] at hp
  obtain ⟨rfl, hG, hg⟩ := hp
  have H1 := Lib.hid hG
  have B1 := Lib.hid hg
  have R1 := Lib.hid hr
  have hn := H.out.lt_num hr
  clear hG hg hr
  by_cases h8 : 8 < n
  · have h8' : 8 < (n : Int) := by omega
    go_wp2
    refine ⟨rfl, ?_⟩
    have hP : listP (fP gotK) 8 xs = .error 3 := by simp only [listP, bindP, R1.out, if_pos h8]
    unfold Lpost; rw [hP]
    exact ⟨rfl, B1.out⟩
  have h8' : ¬ 8 < (n : Int) := by omega
  have LP := Lib.hid (show listP (fP gotK) 8 xs = repP (fP gotK) n r1 by simp only [listP, bindP, R1.out, if_neg h8])
  go_wp2
  go_loopg [6, 17] n (fun q c6 c17 wx => ∃ (j : Nat) (done : List (List Int)) (rj : List Int), j ≤ n ∧ q = n - j ∧ c17 = .int .u64 j ∧ done.length = j ∧ Ow w.heap.size wx 108 2 c6 j (done.flatMap (fc gotK)) ∧ Gt wx g rj ∧ w.grownBy wx (some g) ∧
    repP (fP gotK) n r1 = bindP (repP (fP gotK) (n - j) rj) fun bs r => .ok (done ++ bs, r))
  case atStart =>
    refine ⟨0, [], r1, Nat.zero_le _, by omega, rfl, rfl, .inl ⟨rfl, rfl, rfl⟩, H1.out, B1.out, ?_⟩
    rw [Nat.sub_zero]
    cases repP (fP gotK) n r1 <;> rfl
  case round =>
    obtain ⟨j, done, rj, hj, hq, rfl, hdl, hO, hG, hB, hrep⟩ := hrel
    have GQ := Lib.hid hq
    have O := Lib.hid hO
    have HG := Lib.hid hG
    have HB := Lib.hid hB
    have RP := Lib.hid hrep
    have DL := Lib.hid hdl
    clear hq hO hG hB hrep hdl
    by_cases hjn : j < n
    · have hjn' : (j : Int) < n := by omega
      have SP := Lib.hid (show repP (fP gotK) (n - j) rj = bindP (fP gotK rj) fun a r => bindP (repP (fP gotK) (n - j - 1) r) fun bs r' => .ok (a :: bs, r') by rw [show n - j = n - j - 1 + 1 from by omega]; rfl)
      have hgw : w.heap.size ≤ wr.heap.size := HB.out.size
      go_wp2_with fail
      refine (ggot_any g _ _ HG.out).mono ?_
      intro e w2 hp
      rcases hr : fP gotK rj with k | ⟨lx, r2⟩
      · rw [hr] at hp
        obtain ⟨rfl, hg⟩ := hp
        have B2 := Lib.hid (grown_trans_ HB.out hg)
        have R2 := Lib.hid hr
        clear hg hr
        go_wp2
        refine ⟨rfl, ?_⟩
        have hP : listP (fP gotK) 8 xs = .error k := by rw [LP.out, RP.out, SP.out]; simp only [bindP, R2.out]
        unfold Lpost; rw [hP]
        exact ⟨rfl, B2.out⟩
      obtain ⟨x0, x1, hlx⟩ := got_of (fP_len _ _ _ _ hr)
      rw [hr] at hp
      obtain ⟨rfl, hG2, hg2⟩ := hp
      have H2 := Lib.hid hG2
      have B2 := Lib.hid (grown_trans_ HB.out hg2)
      have O2 := Lib.hid (O.out.keep hg2 hlt)
      have R2 := Lib.hid hr
      have hs2 := hg2.size
      have LX := Lib.hid hlx
      clear hG2 hg2 hr O
      rw [hlx]
      clear hlx
      simp only [gotK, gotV, fc, List.headD_cons, List.tail_cons]
      go_wp2_with (at_builtin; refine wpList_ow rfl _ _ 32 108 (.agg #[.int .i64 0, .int .i64 0]) 2 16 rfl Tryz.underlying32 got_info rfl (by decide) rfl #[.int .i64 x0, .int .i64 x1] O2.out (by omega) rfl (by simp [Value.oneCell']) rfl (by omega) (by unfold maxLen; omega) ?_; intro v3 w3 hO3 hg3; have O3 := Lib.hid hO3; have G3 := Lib.hid hg3; clear hO3 hg3)
      go_roundg (n - (j + 1))
      case measure => have := GQ.out; omega
      case rel =>
        refine ⟨j + 1, done ++ [lx], r2, by omega, rfl, by go_num, by simp [DL.out], ?_, H2.out.grew O2.out G3.out hlt, grown_grew B2.out O2.out G3.out (Nat.le_refl _), ?_⟩
        · have := O3.out
          rw [LX.out]
          simpa [gotK, fc] using this
        · rw [RP.out, SP.out]
          simp only [bindP, R2.out, show n - j - 1 = n - (j + 1) from by omega]
          cases repP (fP gotK) (n - (j + 1)) r2 with
          | error k => rfl
          | ok q => simp
    · obtain rfl : j = n := by omega
      have hO := O.out
      rw [← DL.out] at hO
      obtain ⟨A6, c6, rfl, hc6, hcl⟩ := hO.clip
      have CL := Lib.hid hcl
      clear hcl hO O
      have hd8 : done.length ≤ 8 := by have := DL.out; omega
      go_wp2_with fail
      refine (got_clip _ _ _ _ hc6 (by omega)).mono ?_
      rintro e w2 ⟨rfl, rfl⟩
      go_wp2
      refine bodyPost_ret (results_tmp rfl _ _ _) rfl ?_
      have hP : listP (fP gotK) 8 xs = .ok (done, rj) := by rw [LP.out, RP.out, Nat.sub_self]; simp [repP, bindP]
      unfold Lpost; rw [hP]
      exact ⟨A6, rfl, CL.out, HG.out, HB.out⟩
end Go.Proofs.YthjdkjinkmdclaaGreat
