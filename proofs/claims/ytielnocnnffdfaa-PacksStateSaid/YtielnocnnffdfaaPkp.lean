/- party: put and got, one and a list. -/
import Derived.Test.YtielnocnnffdfaaPkr
namespace Go.Proofs.Ytielnocnnffdfaa
open Go.RowKit

/-- party: the fields' kinds. -/
def partyK : List IntKind := [.u8]
theorem party_of {l : List Int} (h : l.length = 1) : ∃ x0, l = [x0] := by
  match l, h with
  | [x0], _ => exact ⟨x0, rfl⟩
theorem party_fok {l : List Int} (h : fok partyK l) : ∃ x0, l = [x0] ∧ fok1 .u8 x0 := by
  obtain ⟨x0, rfl⟩ := party_of (fok_len _ _ h)
  simp only [partyK, fok] at h
  exact ⟨x0, rfl, h.1⟩
abbrev partyV (l : List Int) : Value := .int .u8 (l.headD 0)
set_option maxHeartbeats 4000000 in
set_option maxRecDepth 100000 in
theorem pparty_any (p : Nat) (x0 : Int) (h0 : fok1 .u8 x0) (b : Option Nat) (w : World) (xs : List Int) (h : Pu w p b xs) (hl : xs.length + (fB partyK [x0]).length ≤ 70368744177664) :
    Calls Try.prog 126 #[.pointer (some ⟨p, 0, none⟩), .int .u8 x0] w fun e w' => e = .returned (.tuple #[]) ∧ Pv w p b w' (xs ++ fB partyK [x0]) := by
  have P0 := Lib.hid h.pv
  have hl' : xs.length + [x0].length ≤ 70368744177664 := by simp only [partyK, fB, fb1, List.headD_cons, List.append_nil] at hl; exact hl
  clear h hl
  go_enter Try.func126, Try.ntmps126
  go_wp2_with fail
  refine (pbyte_v p x0 b _ _ xs P0.out hl').mono ?_
  rintro e w1 ⟨rfl, hP⟩
  have P1 := Lib.hid hP
  clear hP
  go_wp2
  exact bodyPost_end (results_none rfl _ _ _) rfl ⟨rfl, by simpa only [partyK, fB, fb1, List.headD_cons, List.append_nil] using P1.out⟩
theorem pparty_v (p : Nat) (x0 : Int) (h0 : fok1 .u8 x0) (b : Option Nat) (W0 w : World) (xs : List Int) (h : Pv W0 p b w xs) (hl : xs.length + (fB partyK [x0]).length ≤ 70368744177664) :
    Calls Try.prog 126 #[.pointer (some ⟨p, 0, none⟩), .int .u8 x0] w fun e w' => e = .returned (.tuple #[]) ∧ Pv W0 p b w' (xs ++ fB partyK [x0]) :=
  h.chain fun b' hu => pparty_any p x0 h0 b' w xs hu hl
set_option maxHeartbeats 4000000 in
set_option maxRecDepth 100000 in
theorem gparty_any (g : Nat) (xs : List Int) (w : World) (h : Gt w g xs) :
    Calls Try.prog 136 #[.pointer (some ⟨g, 0, none⟩)] w (Gpost (fP partyK xs) partyV g w) := by
  have H0 := Lib.hid h
  clear h
  go_enter Try.func136, Try.ntmps136
  go_wp2_with fail
  refine (gbyte_any g _ _ H0.out).mono ?_
  intro e w1 hp
  rcases hr : byteP xs with k | ⟨x0, r1⟩
  · rw [hr] at hp
    obtain ⟨rfl, hg⟩ := hp
    have B1 := Lib.hid hg
    have R1 := Lib.hid hr
    clear hg hr
    go_wp2
    refine ⟨rfl, ?_⟩
    have hP : fP partyK xs = .error k := by simp only [partyK, fP, fp1, bindP, R1.out]
    unfold Gpost; rw [hP]
    exact ⟨rfl, B1.out⟩
  rw [hr] at hp
  obtain ⟨rfl, hG, hg⟩ := hp
  have H1 := Lib.hid hG
  have B1 := Lib.hid hg
  have R1 := Lib.hid hr
  clear hG hg hr
  go_wp2
  refine bodyPost_ret (results_tmp rfl _ _ _) rfl ?_
  have hP : fP partyK xs = .ok ([x0], r1) := by simp only [partyK, fP, fp1, bindP, R1.out]
  unfold Gpost; rw [hP]
  exact ⟨rfl, H1.out, B1.out⟩
theorem party_info : (Try.prog.info? 146).map (fun i => (i.zero, i.size, i.bytes)) = some (some (.int .u8 0), 1, 1) := by kernel_rfl
theorem party_clip (A : Option Addr) (n c : Nat) (w : World) (hc : n ≤ c) (hn : n ≤ 4611686018427387904) :
    Calls Try.prog 145 #[.slice A n c] w fun e w' => e = .returned (.slice A n n) ∧ w = w' := by
  have h1 : (n : Int) ≤ (c : Int) := by omega
  have h2 : (n : Int) ≤ 4611686018427387904 := by omega
  have h3 : ¬ (c : Int) < (n : Int) := by omega
  go_enter Try.func145, Try.ntmps145
  go_wp2
  go_ret
  exact ⟨by cases A <;> simp, rfl⟩
/-- The slice v holds these. -/
def Partys (w : World) (v : Value) (rows : List (List Int)) : Prop := Rd w 1 v rows.length (rows.flatMap (fc partyK))
theorem fcparty_len (x : List Int) : (fc partyK x).length = 1 := fc_len _ _
def partysB (rows : List (List Int)) : List Int := listB (fB partyK) rows
set_option maxHeartbeats 4000000 in
set_option maxRecDepth 100000 in
theorem ppartys_any (p : Nat) (v : Value) (rows : List (List Int)) (hin : ∀ q ∈ rows, fok partyK q) (b : Option Nat) (w : World) (xs : List Int) (h : Pu w p b xs) (hv : Partys w v rows) (hne : rows.length = 0 ∨ ∀ k, v.ownBlock = some k → k ≠ p ∧ some k ≠ b)
    (hl : xs.length + (partysB rows).length ≤ 70368744177664) (hg : rows.length ≤ 4611686018427387904) :
    Calls Try.prog 125 #[.pointer (some ⟨p, 0, none⟩), v, .func (.func 126) #[] #[]] w fun e w' => e = .returned (.tuple #[]) ∧ Pv w p b w' (xs ++ partysB rows) := by
  have P0 := Lib.hid h.pv
  have HL := Lib.hid hl
  have HV := Lib.hid hv
  have HI := Lib.hid hin
  have HN := Lib.hid hne
  obtain ⟨A, c, rfl, hc, _⟩ := id hv
  obtain ⟨n, hn⟩ : ∃ n, n = rows.length := ⟨_, rfl⟩
  have N := Lib.hid hn
  rw [← hn] at hg ⊢
  have hg' : (n : Int) ≤ 4611686018427387904 := by omega
  clear h hl hv hne hn hc hg hin
  go_enter Try.func125, Try.ntmps125
  go_wp2_with fail
  refine (pnum_v p n b w w xs P0.out (by omega) (by have := HL.out; rw [N.out]; simp only [partysB, listB, List.length_append] at this; omega)).mono ?_
  rintro e w1 ⟨rfl, hP⟩
  have P1 := Lib.hid hP
  clear hP
  go_wp2
  go_loopg [15] n (fun g c15 wr => ∃ k : Nat, k ≤ n ∧ g = n - k ∧ c15 = .int .i64 k ∧ Pv w p b wr (xs ++ nb n ++ (rows.take k).flatMap (fB partyK)))
  case atStart => exact ⟨0, Nat.zero_le _, by omega, rfl, by simpa using P1.out⟩
  case round =>
    obtain ⟨k, hk, hgk, rfl, hP⟩ := hrel
    have P2 := Lib.hid hP
    have GK := Lib.hid hgk
    clear hgk
    by_cases hkn : k < n
    · have hkl : k < rows.length := by have := N.out; omega
      have hrd := P2.out.tn.rd HV.out HN.out
      obtain ⟨g, o, c', hA, hc', hgl, hcell⟩ := Rd.at_ fcparty_len hrd (by omega)
      injection hA with hA1 hA4 hA3
      subst hA3
      clear hA4
      subst hA1
      obtain ⟨x0, LX, hq0⟩ := party_fok (HI.out _ (List.getElem_mem hkl))
      have cl0 : wr.cell? ⟨g, o + k, none⟩ = some (.int .u8 x0) := by have := hcell k hkl 0 (.int .u8 x0) (by omega) (by rw [LX]; rfl); simpa using this
      have LXH := Lib.hid LX
      clear hcell hrd LX
      have HQ0 := Lib.hid hq0
      clear hq0
      go_wp2_with fail
      have hb : (xs ++ nb n ++ (rows.take k).flatMap (fB partyK)).length + (fB partyK [x0]).length ≤ 70368744177664 := by
        have h1 := HL.out
        have h2 := flat_len_le (fB partyK) rows (k + 1)
        rw [flat_snoc (fB partyK) rows k hkl, LXH.out] at h2
        rw [partysB, listB, ← N.out] at h1
        simp only [List.length_append] at h1 h2 ⊢
        omega
      refine (P2.out.chain fun b' hu => pparty_any p x0 HQ0.out b' _ _ hu hb).mono ?_
      rintro e w2 ⟨rfl, hP3⟩
      have P3 := Lib.hid hP3
      clear hP3 cl0
      go_wp2
      go_roundg (n - (k + 1))
      case measure => have := GK.out; omega
      case rel =>
        refine ⟨k + 1, by omega, rfl, by go_num, ?_⟩
        rw [flat_snoc (fB partyK) rows k hkl, LXH.out, ← List.append_assoc]
        exact P3.out
    · obtain rfl : k = n := by omega
      go_wp2
      refine bodyPost_end (results_none rfl _ _ _) rfl ⟨rfl, ?_⟩
      have := P2.out
      rw [List.take_of_length_le (by have := N.out; omega)] at this
      simpa only [partysB, listB, List.append_assoc, ← N.out] using this
theorem ppartys_v (p : Nat) (v : Value) (rows : List (List Int)) (hin : ∀ q ∈ rows, fok partyK q) (b : Option Nat) (W0 w : World) (xs : List Int) (h : Pv W0 p b w xs) (hv : Partys W0 v rows) (hne : rows.length = 0 ∨ ∀ k, v.ownBlock = some k → k ≠ p ∧ some k ≠ b)
    (hg : rows.length ≤ 4611686018427387904) (hl : xs.length + (partysB rows).length ≤ 70368744177664) :
    Calls Try.prog 125 #[.pointer (some ⟨p, 0, none⟩), v, .func (.func 126) #[] #[]] w fun e w' => e = .returned (.tuple #[]) ∧ Pv W0 p b w' (xs ++ partysB rows) := by
  have hv' := h.tn.rd hv hne
  obtain ⟨⟨b1, hu, hb⟩, ht⟩ := h
  exact (ppartys_any p v rows hin b1 w xs hu hv' (off_step (w := w) hv hne hb) hl hg).mono fun _ _ hh => ⟨hh.1, Pv.trans ht hb hh.2⟩
set_option maxHeartbeats 4000000 in
set_option maxRecDepth 100000 in
theorem gpartys_any (g : Nat) (xs : List Int) (w : World) (h : Gt w g xs) :
    Calls Try.prog 135 #[.pointer (some ⟨g, 0, none⟩), .int .i64 16, .func (.func 136) #[] #[]] w (Lpost (listP (fP partyK) 16 xs) 146 1 (fc partyK) g w) := by
  have H := Lib.hid h
  have hlt := h.lt
  clear h
  go_enter Try.func135, Try.ntmps135
  go_wp2_with fail
  refine (gnum_any g _ _ H.out).mono ?_
  intro e w1 hp
  rcases hr : numP xs with k | ⟨n, r1⟩
  · rw [hr] at hp
    obtain ⟨rfl, hg⟩ := hp
    have B1 := Lib.hid hg
    have R1 := Lib.hid hr
    clear hg hr
    go_wp2
    refine ⟨rfl, ?_⟩
    have hP : listP (fP partyK) 16 xs = .error k := by simp only [listP, bindP, R1.out]
    unfold Lpost; rw [hP]
    exact ⟨rfl, B1.out⟩
  rw [hr] at hp
  obtain ⟨rfl, hG, hg⟩ := hp
  have H1 := Lib.hid hG
  have B1 := Lib.hid hg
  have R1 := Lib.hid hr
  have hn := H.out.lt_num hr
  clear hG hg hr
  by_cases h8 : 16 < n
  · have h8' : 16 < (n : Int) := by omega
    go_wp2
    refine ⟨rfl, ?_⟩
    have hP : listP (fP partyK) 16 xs = .error 3 := by simp only [listP, bindP, R1.out, if_pos h8]
    unfold Lpost; rw [hP]
    exact ⟨rfl, B1.out⟩
  have h8' : ¬ 16 < (n : Int) := by omega
  have LP := Lib.hid (show listP (fP partyK) 16 xs = repP (fP partyK) n r1 by simp only [listP, bindP, R1.out, if_neg h8])
  go_wp2
  go_loopg [6, 17] n (fun q c6 c17 wx => ∃ (j : Nat) (done : List (List Int)) (rj : List Int), j ≤ n ∧ q = n - j ∧ c17 = .int .u64 j ∧ done.length = j ∧ Ow w.heap.size wx 146 1 c6 j (done.flatMap (fc partyK)) ∧ Gt wx g rj ∧ w.grownBy wx (some g) ∧
    repP (fP partyK) n r1 = bindP (repP (fP partyK) (n - j) rj) fun bs r => .ok (done ++ bs, r))
  case atStart =>
    refine ⟨0, [], r1, Nat.zero_le _, by omega, rfl, rfl, .inl ⟨rfl, rfl, rfl⟩, H1.out, B1.out, ?_⟩
    rw [Nat.sub_zero]
    cases repP (fP partyK) n r1 <;> rfl
  case round =>
    obtain ⟨j, done, rj, hj, hq, rfl, hdl, hO, hG, hB, hrep⟩ := hrel
    have GQ := Lib.hid hq
    have O := Lib.hid hO
    have HG := Lib.hid hG
    have HB := Lib.hid hB
    have RP := Lib.hid hrep
    have DL := Lib.hid hdl
    clear hq hO hG hB hrep hdl
    by_cases hjn : j < n
    · have hjn' : (j : Int) < n := by omega
      have SP := Lib.hid (show repP (fP partyK) (n - j) rj = bindP (fP partyK rj) fun a r => bindP (repP (fP partyK) (n - j - 1) r) fun bs r' => .ok (a :: bs, r') by rw [show n - j = n - j - 1 + 1 from by omega]; rfl)
      have hgw : w.heap.size ≤ wr.heap.size := HB.out.size
      go_wp2_with fail
      refine (gparty_any g _ _ HG.out).mono ?_
      intro e w2 hp
      rcases hr : fP partyK rj with k | ⟨lx, r2⟩
      · rw [hr] at hp
        obtain ⟨rfl, hg⟩ := hp
        have B2 := Lib.hid (grown_trans_ HB.out hg)
        have R2 := Lib.hid hr
        clear hg hr
        go_wp2
        refine ⟨rfl, ?_⟩
        have hP : listP (fP partyK) 16 xs = .error k := by rw [LP.out, RP.out, SP.out]; simp only [bindP, R2.out]
        unfold Lpost; rw [hP]
        exact ⟨rfl, B2.out⟩
      obtain ⟨x0, hlx⟩ := party_of (fP_len _ _ _ _ hr)
      rw [hr] at hp
      obtain ⟨rfl, hG2, hg2⟩ := hp
      have H2 := Lib.hid hG2
      have B2 := Lib.hid (grown_trans_ HB.out hg2)
      have O2 := Lib.hid (O.out.keep hg2 hlt)
      have R2 := Lib.hid hr
      have hs2 := hg2.size
      have LX := Lib.hid hlx
      clear hG2 hg2 hr O
      rw [hlx]
      clear hlx
      simp only [partyK, partyV, fc, List.headD_cons, List.tail_cons]
      go_wp2_with (at_builtin; refine wpList_ow rfl _ _ 89 146 (.int .u8 0) 1 1 rfl Try.underlying89 party_info rfl (by decide) rfl #[.int .u8 x0] O2.out (by omega) rfl (by simp [Value.oneCell']) rfl (by omega) (by unfold maxLen; omega) ?_; intro v3 w3 hO3 hg3; have O3 := Lib.hid hO3; have G3 := Lib.hid hg3; clear hO3 hg3)
      go_roundg (n - (j + 1))
      case measure => have := GQ.out; omega
      case rel =>
        refine ⟨j + 1, done ++ [lx], r2, by omega, rfl, by go_num, by simp [DL.out], ?_, H2.out.grew O2.out G3.out hlt, grown_grew B2.out O2.out G3.out (Nat.le_refl _), ?_⟩
        · have := O3.out
          rw [LX.out]
          simpa [partyK, fc] using this
        · rw [RP.out, SP.out]
          simp only [bindP, R2.out, show n - j - 1 = n - (j + 1) from by omega]
          cases repP (fP partyK) (n - (j + 1)) r2 with
          | error k => rfl
          | ok q => simp
    · obtain rfl : j = n := by omega
      have hO := O.out
      rw [← DL.out] at hO
      obtain ⟨A6, c6, rfl, hc6, hcl⟩ := hO.clip
      have CL := Lib.hid hcl
      clear hcl hO O
      have hd8 : done.length ≤ 16 := by have := DL.out; omega
      go_wp2_with fail
      refine (party_clip _ _ _ _ hc6 (by omega)).mono ?_
      rintro e w2 ⟨rfl, rfl⟩
      go_wp2
      refine bodyPost_ret (results_tmp rfl _ _ _) rfl ?_
      have hP : listP (fP partyK) 16 xs = .ok (done, rj) := by rw [LP.out, RP.out, Nat.sub_self]; simp [repP, bindP]
      unfold Lpost; rw [hP]
      exact ⟨A6, rfl, CL.out, HG.out, HB.out⟩
end Go.Proofs.Ytielnocnnffdfaa
