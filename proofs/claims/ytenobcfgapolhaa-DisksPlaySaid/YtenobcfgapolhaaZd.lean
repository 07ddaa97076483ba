/- The library's sort at string: siftDown. -/
import Derived.Test.YtenobcfgapolhaaZx
import Derived.Sort.LotA
import Derived.OrdersHeld
namespace Go.Proofs.Ytenobcfgapolhaa
open Go.RowKit

set_option maxHeartbeats 4000000 in
set_option maxRecDepth 100000 in
theorem sift_any {W w : World} {g lo hi first c : Nat} {d : Array ByteArray} {rest : List Value} (h : Sd W w g d rest) (hf : first + hi ≤ d.size) (hlo : lo ≤ hi) (hs : d.size ≤ 1000000) (_hc : d.size ≤ c) :
    Calls Try.prog 64 #[.slice (some ⟨g, 0, none⟩) d.size c, .int .i64 lo, .int .i64 hi, .int .i64 first] w fun e w' => e = .returned (.tuple #[]) ∧ Sd W w' g (Go.Sort.siftDown ltB hi first lo d) rest := by
  have H := Lib.hid h
  obtain ⟨n, hn⟩ : ∃ n, n = d.size := ⟨_, rfl⟩
  have N := Lib.hid hn
  rw [← hn] at hf hs _hc ⊢
  clear h hn
  go_enter Try.func64, Try.ntmps64
  go_wp2_with fail
  go_loopg [8, 9] (hi - lo) (fun q c8 c9 wr => ∃ (root : Nat) (dk : Array ByteArray), q = hi - root ∧ root ≤ hi ∧ c8 = .int .i64 root ∧ dk.size = n ∧ Sd W wr g dk rest ∧ Go.Sort.siftDown ltB hi first root dk = Go.Sort.siftDown ltB hi first lo d)
  case atStart => exact ⟨lo, d, rfl, hlo, rfl, N.out.symm, H.out, rfl⟩
  case round =>
    obtain ⟨root, dk, hq, hr, rfl, hdk, hS, hE⟩ := hrel
    have Q := Lib.hid hq
    have DK := Lib.hid hdk
    have S := Lib.hid hS
    have E := Lib.hid hE
    have hw2 : IntKind.i64.wrap (2 * (root : Int)) = 2 * (root : Int) := IntWalk.i64_in _ (by omega)
    have hw3 : IntKind.i64.wrap (2 * (root : Int) + 1) = 2 * (root : Int) + 1 := IntWalk.i64_in _ (by omega)
    obtain ⟨ch, hch⟩ : ∃ ch, ch = 2 * root + 1 := ⟨_, rfl⟩
    have hch' : 2 * (root : Int) + 1 = (ch : Int) := by omega
    have CH := Lib.hid hch
    clear hq hdk hS hE
    by_cases h1 : hi ≤ ch
    · have h1' : (hi : Int) ≤ ch := by omega
      have F := Lib.hid (show dk = Go.Sort.siftDown ltB hi first lo d from by have h := E.out; rw [Go.Sort.siftDown, dif_pos (by omega)] at h; exact h)
      clear hch
      go_wp2
      refine bodyPost_end (results_none rfl _ _ _) rfl ⟨rfl, ?_⟩
      rw [← F.out]
      exact S.out
    · have h1' : ¬ (hi : Int) ≤ ch := by omega
      have CH1 := Lib.hid hch
      obtain ⟨fr, hfr0⟩ : ∃ z, z = first + root := ⟨_, rfl⟩
      obtain ⟨fc, hfc0⟩ : ∃ z, z = first + ch := ⟨_, rfl⟩
      obtain ⟨fd, hfd0⟩ : ∃ z, z = first + ch + 1 := ⟨_, rfl⟩
      obtain ⟨cd, hcd0⟩ : ∃ z, z = ch + 1 := ⟨_, rfl⟩
      have FR := Lib.hid hfr0
      have FC := Lib.hid hfc0
      have FD := Lib.hid hfd0
      have CD := Lib.hid hcd0
      have hfr : (first : Int) + (root : Int) = (fr : Int) := by omega
      have hfc : (first : Int) + (ch : Int) = (fc : Int) := by omega
      have hfc1 : (fc : Int) + 1 = (fd : Int) := by omega
      have hw4 : ∀ z : Nat, z ≤ 3000000 → IntKind.i64.wrap (z : Int) = (z : Int) := fun z _ => IntWalk.i64_in _ (by omega)
      have hwa := hw4 fr (by omega)
      have hwb := hw4 fc (by omega)
      have hwc := hw4 fd (by omega)
      have hc1 : (ch : Int) + 1 = (cd : Int) := by omega
      have hwd := hw4 cd (by omega)
      have hfe : (first : Int) + (cd : Int) = (fd : Int) := by omega
      have n0 : (0 : Int) ≤ (fr : Int) := by omega
      have n1 : (0 : Int) ≤ (fc : Int) := by omega
      have m0 : (fr : Int) < n := by omega
      have m1 : (fc : Int) < n := by omega
      have hrt : root < hi := by omega
      have hcd : ch < hi := by omega
      clear hw4 hch hfr0 hfc0 hfd0 hcd0
      by_cases h2 : cd < hi
      · have h2' : (cd : Int) < hi := by omega
        have n2 : (0 : Int) ≤ (fd : Int) := by omega
        have m2 : (fd : Int) < n := by have := FD.out; have := CD.out; omega
        obtain ⟨x, hx⟩ : ∃ x, x = dk[fc]! := ⟨_, rfl⟩
        obtain ⟨y, hy⟩ : ∃ y, y = dk[fd]! := ⟨_, rfl⟩
        have HX := Lib.hid hx
        have HY := Lib.hid hy
        have c0 : wr.drew.cell? ⟨g, fc, none⟩ = some (.string x) := by rw [hx]; exact S.out.drew.cell _ (by have := DK.out; have := FR.out; have := FC.out; have := FD.out; have := CD.out; omega)
        have c1 : wr.drew.cell? ⟨g, fd, none⟩ = some (.string y) := by rw [hy]; exact S.out.drew.cell _ (by have := DK.out; have := FR.out; have := FC.out; have := FD.out; have := CD.out; omega)
        clear hx hy
        go_upto_region 3 with fail
        have S0 := Lib.hid (And.intro c0 c1)
        clear c0 c1
        go_region_held3 (fun w' => w'.cell? ⟨g, fc, none⟩ = some (.string x) ∧ w'.cell? ⟨g, fd, none⟩ = some (.string y)) (first
          | (with_reducible exact S0.out)
          | fail)
          (first
          | (go_at_call 59; refine (less_any x y _).mono ?_; rintro e u7 ⟨rfl, rfl⟩))
        by_cases hxy : ltB x y = true
        · simp only [hxy]
          skip
          have SR := Lib.hid S.out.drew
          obtain ⟨p, hp⟩ : ∃ p, p = dk[fr]! := ⟨_, rfl⟩
          obtain ⟨v, hv⟩ : ∃ v, v = dk[fd]! := ⟨_, rfl⟩
          obtain ⟨t, ht⟩ : ∃ t : Bool, t = ltB p v := ⟨_, rfl⟩
          have T := Lib.hid ht
          have LT := Lib.hid (show ∀ u, Calls Try.prog 59 #[.string p, .string v] u fun e w' => e = .returned (.bool t) ∧ w' = u from fun u => by rw [ht]; exact less_any p v u)
          clear ht
          have HP := Lib.hid hp
          have HV := Lib.hid hv
          have r0 : wr.drew.drew.cell? ⟨g, fr, none⟩ = some (.string p) := by rw [hp]; exact S.out.drew.drew.cell _ (by have := DK.out; have := FR.out; have := FC.out; have := FD.out; have := CD.out; omega)
          have r1 : wr.drew.drew.cell? ⟨g, fd, none⟩ = some (.string v) := by rw [hv]; exact S.out.drew.drew.cell _ (by have := DK.out; have := FR.out; have := FC.out; have := FD.out; have := CD.out; omega)
          clear hp hv
          go_upto_region 5 with fail
          have S0 := Lib.hid (And.intro r0 r1)
          clear r0 r1
          go_region_held3 (fun w' => w'.cell? ⟨g, fr, none⟩ = some (.string p) ∧ w'.cell? ⟨g, fd, none⟩ = some (.string v)) (first
            | (with_reducible exact S0.out)
            | fail)
            (first
            | (go_at_call 59; refine (LT.out _).mono ?_; rintro e u7 ⟨rfl, rfl⟩))
          rcases Bool.eq_false_or_eq_true t with htt | htt <;> subst htt
          · have hpv : ltB p v = true := T.out.symm
            have c0 : wr.cell? ⟨g, fr, none⟩ = some (.string p) := S0.out.1
            have c1 : wr.cell? ⟨g, fd, none⟩ = some (.string v) := S0.out.2
            have fl := S.out.blk.free
            have SW := S.out.swp (fr) (fd) (by have := DK.out; have := FR.out; have := FC.out; have := FD.out; have := CD.out; omega) (by have := DK.out; have := FR.out; have := FC.out; have := FD.out; have := CD.out; omega)
            rw [← HP.out, ← HV.out] at SW
            have SWH := Lib.hid SW
            clear SW
            go_upto_region 6 with fail
            go_region
            go_wp2
            go_roundg (hi - cd)
            case measure => have := Q.out; omega
            case rel =>
              refine ⟨cd, Go.Sort.swp dk (fr) (fd), rfl, by omega, by go_num, by rw [Go.Sort.swp_size]; exact DK.out, SWH.out.drew.drew.drew, ?_⟩
              have h := E.out
              have hl : ltB dk[fr]! dk[fd]! = true := by rw [← HP.out, ← HV.out, hpv]
              have FD2 : fd = first + cd := by have := FD.out; have := CD.out; omega
              rw [Go.Sort.siftDown, dif_neg (by have := CH1.out; omega), if_pos (by rw [← CH1.out, ← FD.out, ← FC.out, ← HX.out, ← HY.out, hxy, decide_eq_true (by have := CD.out; omega)]; rfl), show 2 * root + 2 = cd by have := CH1.out; have := CD.out; omega, ← FD2, ← FR.out, hl] at h
              rw [Bool.not_true, if_neg Bool.false_ne_true, dif_pos h2] at h
              exact h
          · have hpv : ltB p v = false := T.out.symm
            have F := Lib.hid (show dk = Go.Sort.siftDown ltB hi first lo d from by
              have h := E.out
              have hl : ltB dk[fr]! dk[fd]! = false := by rw [← HP.out, ← HV.out, (by simpa using hpv : ltB p v = false)]
              have FD2 : fd = first + cd := by have := FD.out; have := CD.out; omega
              rw [Go.Sort.siftDown, dif_neg (by have := CH1.out; omega), if_pos (by rw [← CH1.out, ← FD.out, ← FC.out, ← HX.out, ← HY.out, hxy, decide_eq_true (by have := CD.out; omega)]; rfl), show 2 * root + 2 = cd by have := CH1.out; have := CD.out; omega, ← FD2, ← FR.out, hl] at h
              rw [Bool.not_false, if_pos rfl] at h
              exact h)
            go_wp2
            refine bodyPost_ret (results_none rfl _ _ _) rfl ⟨rfl, ?_⟩
            rw [← F.out]
            exact S.out.drew.drew
        · have hxf : ltB x y = false := by simpa using hxy
          simp only [hxf]
          skip
          have SR := Lib.hid S.out.drew
          obtain ⟨p, hp⟩ : ∃ p, p = dk[fr]! := ⟨_, rfl⟩
          obtain ⟨v, hv⟩ : ∃ v, v = dk[fc]! := ⟨_, rfl⟩
          obtain ⟨t, ht⟩ : ∃ t : Bool, t = ltB p v := ⟨_, rfl⟩
          have T := Lib.hid ht
          have LT := Lib.hid (show ∀ u, Calls Try.prog 59 #[.string p, .string v] u fun e w' => e = .returned (.bool t) ∧ w' = u from fun u => by rw [ht]; exact less_any p v u)
          clear ht
          have HP := Lib.hid hp
          have HV := Lib.hid hv
          have r0 : wr.drew.drew.cell? ⟨g, fr, none⟩ = some (.string p) := by rw [hp]; exact S.out.drew.drew.cell _ (by have := DK.out; have := FR.out; have := FC.out; have := FD.out; have := CD.out; omega)
          have r1 : wr.drew.drew.cell? ⟨g, fc, none⟩ = some (.string v) := by rw [hv]; exact S.out.drew.drew.cell _ (by have := DK.out; have := FR.out; have := FC.out; have := FD.out; have := CD.out; omega)
          clear hp hv
          go_upto_region 5 with fail
          have S0 := Lib.hid (And.intro r0 r1)
          clear r0 r1
          go_region_held3 (fun w' => w'.cell? ⟨g, fr, none⟩ = some (.string p) ∧ w'.cell? ⟨g, fc, none⟩ = some (.string v)) (first
            | (with_reducible exact S0.out)
            | fail)
            (first
            | (go_at_call 59; refine (LT.out _).mono ?_; rintro e u7 ⟨rfl, rfl⟩))
          rcases Bool.eq_false_or_eq_true t with htt | htt <;> subst htt
          · have hpv : ltB p v = true := T.out.symm
            have c0 : wr.cell? ⟨g, fr, none⟩ = some (.string p) := S0.out.1
            have c1 : wr.cell? ⟨g, fc, none⟩ = some (.string v) := S0.out.2
            have fl := S.out.blk.free
            have SW := S.out.swp (fr) (fc) (by have := DK.out; have := FR.out; have := FC.out; have := FD.out; have := CD.out; omega) (by have := DK.out; have := FR.out; have := FC.out; have := FD.out; have := CD.out; omega)
            rw [← HP.out, ← HV.out] at SW
            have SWH := Lib.hid SW
            clear SW
            go_upto_region 6 with fail
            go_region
            go_wp2
            go_roundg (hi - ch)
            case measure => have := Q.out; omega
            case rel =>
              refine ⟨ch, Go.Sort.swp dk (fr) (fc), rfl, by omega, by go_num, by rw [Go.Sort.swp_size]; exact DK.out, SWH.out.drew.drew.drew, ?_⟩
              have h := E.out
              have hl : ltB dk[fr]! dk[fc]! = true := by rw [← HP.out, ← HV.out, hpv]
              rw [Go.Sort.siftDown, dif_neg (by have := CH1.out; omega), if_neg (by rw [← CH1.out, ← FD.out, ← FC.out, ← HX.out, ← HY.out, (show ltB x y = false by simpa using hxy), Bool.and_false]; decide), ← CH1.out, ← FC.out, ← FR.out, hl] at h
              rw [Bool.not_true, if_neg Bool.false_ne_true] at h
              exact h
          · have hpv : ltB p v = false := T.out.symm
            have F := Lib.hid (show dk = Go.Sort.siftDown ltB hi first lo d from by
              have h := E.out
              have hl : ltB dk[fr]! dk[fc]! = false := by rw [← HP.out, ← HV.out, (by simpa using hpv : ltB p v = false)]
              rw [Go.Sort.siftDown, dif_neg (by have := CH1.out; omega), if_neg (by rw [← CH1.out, ← FD.out, ← FC.out, ← HX.out, ← HY.out, (show ltB x y = false by simpa using hxy), Bool.and_false]; decide), ← CH1.out, ← FC.out, ← FR.out, hl] at h
              rw [Bool.not_false, if_pos rfl] at h
              exact h)
            go_wp2
            refine bodyPost_ret (results_none rfl _ _ _) rfl ⟨rfl, ?_⟩
            rw [← F.out]
            exact S.out.drew.drew
      · have h2' : ¬ (cd : Int) < hi := by omega
        go_upto_region 3 with fail
        go_quiet (fail)
        have SR := Lib.hid S.out.drew
        obtain ⟨p, hp⟩ : ∃ p, p = dk[fr]! := ⟨_, rfl⟩
        obtain ⟨v, hv⟩ : ∃ v, v = dk[fc]! := ⟨_, rfl⟩
        obtain ⟨t, ht⟩ : ∃ t : Bool, t = ltB p v := ⟨_, rfl⟩
        have T := Lib.hid ht
        have LT := Lib.hid (show ∀ u, Calls Try.prog 59 #[.string p, .string v] u fun e w' => e = .returned (.bool t) ∧ w' = u from fun u => by rw [ht]; exact less_any p v u)
        clear ht
        have HP := Lib.hid hp
        have HV := Lib.hid hv
        have r0 : (wr.drewN nq).drew.cell? ⟨g, fr, none⟩ = some (.string p) := by rw [hp]; exact (S.out.drewN nq).drew.cell _ (by have := DK.out; have := FR.out; have := FC.out; have := FD.out; have := CD.out; omega)
        have r1 : (wr.drewN nq).drew.cell? ⟨g, fc, none⟩ = some (.string v) := by rw [hv]; exact (S.out.drewN nq).drew.cell _ (by have := DK.out; have := FR.out; have := FC.out; have := FD.out; have := CD.out; omega)
        clear hp hv
        go_upto_region 5 with fail
        have S0 := Lib.hid (And.intro r0 r1)
        clear r0 r1
        go_region_held3 (fun w' => w'.cell? ⟨g, fr, none⟩ = some (.string p) ∧ w'.cell? ⟨g, fc, none⟩ = some (.string v)) (first
          | (with_reducible exact S0.out)
            | exact S0.out
          | fail)
          (first
          | (go_at_call 59; refine (LT.out _).mono ?_; rintro e u7 ⟨rfl, rfl⟩))
        rcases Bool.eq_false_or_eq_true t with htt | htt <;> subst htt
        · have hpv : ltB p v = true := T.out.symm
          have c0 : wr.cell? ⟨g, fr, none⟩ = some (.string p) := S0.out.1
          have c1 : wr.cell? ⟨g, fc, none⟩ = some (.string v) := S0.out.2
          have fl := S.out.blk.free
          have SW := S.out.swp (fr) (fc) (by have := DK.out; have := FR.out; have := FC.out; have := FD.out; have := CD.out; omega) (by have := DK.out; have := FR.out; have := FC.out; have := FD.out; have := CD.out; omega)
          rw [← HP.out, ← HV.out] at SW
          have SWH := Lib.hid SW
          clear SW
          go_upto_region 6 with fail
          go_region
          go_wp2
          go_roundg (hi - ch)
          case measure => have := Q.out; omega
          case rel =>
            refine ⟨ch, Go.Sort.swp dk (fr) (fc), rfl, by omega, by go_num, by rw [Go.Sort.swp_size]; exact DK.out, (SWH.out.drewN nq).drew.drew, ?_⟩
            have h := E.out
            have hl : ltB dk[fr]! dk[fc]! = true := by rw [← HP.out, ← HV.out, hpv]
            rw [Go.Sort.siftDown, dif_neg (by have := CH1.out; omega), if_neg (by rw [← CH1.out, ← CD.out, decide_eq_false h2, Bool.false_and]; decide), ← CH1.out, ← FC.out, ← FR.out, hl] at h
            rw [Bool.not_true, if_neg Bool.false_ne_true] at h
            exact h
        · have hpv : ltB p v = false := T.out.symm
          have F := Lib.hid (show dk = Go.Sort.siftDown ltB hi first lo d from by
            have h := E.out
            have hl : ltB dk[fr]! dk[fc]! = false := by rw [← HP.out, ← HV.out, (by simpa using hpv : ltB p v = false)]
            rw [Go.Sort.siftDown, dif_neg (by have := CH1.out; omega), if_neg (by rw [← CH1.out, ← CD.out, decide_eq_false h2, Bool.false_and]; decide), ← CH1.out, ← FC.out, ← FR.out, hl] at h
            rw [Bool.not_false, if_pos rfl] at h
            exact h)
          go_wp2
          refine bodyPost_ret (results_none rfl _ _ _) rfl ⟨rfl, ?_⟩
          rw [← F.out]
          exact (S.out.drewN nq).drew
end Go.Proofs.Ytenobcfgapolhaa
