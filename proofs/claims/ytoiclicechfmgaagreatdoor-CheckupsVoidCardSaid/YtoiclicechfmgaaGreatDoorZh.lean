/- The library's sort at string: partitionEqual. -/
import Derived.Test.YtoiclicechfmgaaGreatDoorZg
import Derived.Sort.LotC
import Derived.Sort.LotA
import Derived.Deep.CutBlock
import Derived.RegionTactic
namespace Go.Proofs.YtoiclicechfmgaaGreatDoor
open Go.RowKit

set_option maxHeartbeats 8000000 in
set_option maxRecDepth 100000 in
theorem peq_any {W w : World} {g a b pv c : Nat} {d : Array ByteArray} {rest : List Value} {mid : Nat} {dR : Array ByteArray} (h : Sd W w g d rest) (hR : Go.Sort.partitionEqual ltB d a b pv = (mid, dR)) (hp0 : a ≤ pv) (hp1 : pv < b) (hb : b ≤ d.size) (hs : d.size ≤ 1000000) (_hc : d.size ≤ c) :
    Calls Tryz.prog 105 #[.slice (some ⟨g, 0, none⟩) d.size c, .int .i64 a, .int .i64 b, .int .i64 pv] w fun e w' => e = .returned (.int .i64 mid) ∧ Sd W w' g dR rest := by
  have H := Lib.hid h
  have RR := Lib.hid hR
  obtain ⟨n, hn⟩ : ∃ n, n = d.size := ⟨_, rfl⟩
  have DK := Lib.hid hn.symm
  rw [← hn] at hb hs _hc ⊢
  obtain ⟨i, hi⟩ : ∃ i, i = a + 1 := ⟨_, rfl⟩
  obtain ⟨j, hj⟩ : ∃ j, j = b - 1 := ⟨_, rfl⟩
  have e1 : (a : Int) + 1 = i := by omega
  have e2 : (b : Int) - 1 = j := by omega
  have hai : a < i := by omega
  have hij : i ≤ j + 1 := by omega
  have hjb : j < b := by omega
  have HI := Lib.hid hi
  have HJ := Lib.hid hj
  clear h hn hR hi hj
  go_enter Tryz.func105, Tryz.ntmps105
  obtain ⟨x, hx⟩ : ∃ x, x = d[a]! := ⟨_, rfl⟩
  obtain ⟨y, hy⟩ : ∃ y, y = d[pv]! := ⟨_, rfl⟩
  have c0 : w.cell? ⟨g, a, none⟩ = some (.string x) := by rw [hx]; exact H.out.cell a (by have := DK.out; omega)
  have c1 : w.cell? ⟨g, pv, none⟩ = some (.string y) := by rw [hy]; exact H.out.cell pv (by have := DK.out; omega)
  have b0 : (0 : Int) ≤ a := by omega
  have b1 : (a : Int) < n := by omega
  have b2 : (0 : Int) ≤ pv := by omega
  have b3 : (pv : Int) < n := by omega
  have fl := H.out.blk.free
  obtain ⟨v', cv⟩ := cell?_setCell_some (w := w) (p := ⟨g, a, none⟩) (x := .string y) (q := ⟨g, pv, none⟩) c1
  have SW := H.out.swp a pv (by have := DK.out; omega) (by have := DK.out; omega)
  rw [← hx, ← hy] at SW
  have S0 := Lib.hid SW
  clear hx hy SW
  go_wp2_with fail
  go_region
  clear c0 c1 cv fl b0 b1 b2 b3
  obtain ⟨dk, hdk⟩ : ∃ dk, dk = Go.Sort.swp d a pv := ⟨_, rfl⟩
  have S1 := Lib.hid (show Sd W _ g dk rest from by rw [hdk]; exact S0.out.drew)
  have D0 := Lib.hid hdk
  replace DK := Lib.hid (show dk.size = n from by rw [hdk, Go.Sort.swp_size]; exact DK.out)
  clear hdk S0 H
  have RE := Lib.hid (show mid = (Go.Sort.partEqLoop ltB a i j dk).1 ∧ dR = (Go.Sort.partEqLoop ltB a i j dk).2 from by
    have hh := RR.out
    unfold Go.Sort.partitionEqual at hh
    rw [← D0.out, ← HI.out, ← HJ.out] at hh
    rw [hh]
    exact ⟨rfl, rfl⟩)
  obtain ⟨iN, hiN⟩ : ∃ iN, iN = i := ⟨_, rfl⟩
  obtain ⟨jN, hjN⟩ : ∃ jN, jN = j := ⟨_, rfl⟩
  obtain ⟨dN, hdN⟩ : ∃ dN, dN = dk := ⟨_, rfl⟩
  rw [← hiN, ← hjN, ← hdN] at RE
  rw [← hiN] at e1 hai hij
  rw [← hjN] at e2 hjb hij
  have DS := Lib.hid (show dN.size = n from by rw [hdN]; exact DK.out)
  have S9 := Lib.hid (show Sd W _ g dN rest from by rw [hdN]; exact S1.out)
  clear hiN hjN hdN HI HJ D0 DK S1
  go_wp2_with fail
  go_loopg [9, 10] (jN + 1 - iN) (fun q c9 c10 wr => ∃ (i j : Nat) (dk : Array ByteArray), q = j + 1 - i ∧ c9 = .int .i64 i ∧ c10 = .int .i64 j ∧ a < i ∧ i ≤ j + 1 ∧ j < b ∧ dk.size = n ∧ Sd W wr g dk rest ∧ Go.Sort.partEqLoop ltB a i j dk = Go.Sort.partEqLoop ltB a iN jN dN)
  case atStart => exact ⟨iN, jN, dN, rfl, rfl, rfl, hai, hij, hjb, DS.out, S9.out, rfl⟩
  case round =>
    clear hai hij hjb S9 e1 e2
    obtain ⟨i, j, dk, hq, rfl, rfl, hai, hij, hjb, hdk, hS, hE⟩ := hrel
    have Q := Lib.hid hq
    have DK := Lib.hid hdk
    have S1 := Lib.hid hS
    have E := Lib.hid hE
    clear hq hdk hS hE
    go_upto_block 2 with fail
    go_cut [9] (fun cq wx => StU W g dk rest (fun x => !ltB dk[a]! x) i j cq wx)
    case first =>
      go_wp2_with fail
      go_loopg [9] (j + 1 - i) (fun q cq wr => ∃ z : Nat, q = j + 1 - z ∧ cq = .int .i64 z ∧ i ≤ z ∧ z ≤ j + 1 ∧ Sd W wr g dk rest ∧ Go.Sort.scanUp (fun x => !ltB dk[a]! x) dk j z = Go.Sort.scanUp (fun x => !ltB dk[a]! x) dk j i)
      case atStart => exact ⟨i, rfl, rfl, Nat.le_refl _, by omega, S1.out, rfl⟩
      case round =>
        obtain ⟨z, hq, rfl, hz1, hz2, hS, hE⟩ := hrel
        have Q := Lib.hid hq
        have SZ := Lib.hid hS
        have E := Lib.hid hE
        clear hq hS hE
        by_cases hle : z ≤ j
        · have hle' : (z : Int) ≤ j := by omega
          obtain ⟨x, hx⟩ : ∃ x, x = dk[z]! := ⟨_, rfl⟩
          obtain ⟨y, hy⟩ : ∃ y, y = dk[a]! := ⟨_, rfl⟩
          have c0 : wr.cell? ⟨g, z, none⟩ = some (.string x) := by rw [hx]; exact SZ.out.cell z (by have := DK.out; omega)
          have c1 : wr.cell? ⟨g, a, none⟩ = some (.string y) := by rw [hy]; exact SZ.out.cell a (by have := DK.out; omega)
          have b0 : (0 : Int) ≤ z := by omega
          have b1 : (z : Int) < n := by omega
          have a0 : (0 : Int) ≤ a := by omega
          have a1 : (a : Int) < n := by omega
          have HX := Lib.hid hx
          have HY := Lib.hid hy
          clear hx hy
          by_cases hxy : ltB y x = true
          · go_wp2_with fail
            go_quiet ((go_at_call 104; exact Calls.quiet_of_same (less_yes _ hxy)))
            go_wp2
            go_meet
            exact ⟨z, rfl, (scanUp_end_ (fun x => !ltB dk[a]! x) dk j z (Or.inr (by show (!ltB dk[a]! dk[z]!) = false; rw [← HX.out, ← HY.out, hxy]; rfl))).symm.trans E.out, SZ.out.drewN nq⟩
          · go_wp2_with fail
            go_quiet ((go_at_call 104; exact Calls.quiet_of_same (less_no _ (by simpa using hxy))))
            go_wp2
            go_roundg (j + 1 - (z + 1))
            case measure => have := Q.out; omega
            case rel => exact ⟨z + 1, rfl, by go_num, by omega, by omega, SZ.out.drewN nq, (scanUp_go_ (fun x => !ltB dk[a]! x) dk j z hle (by show (!ltB dk[a]! dk[z]!) = true; rw [← HX.out, ← HY.out, (show ltB y x = false by simpa using hxy)]; rfl)).symm.trans E.out⟩
        · have hle' : ¬ (z : Int) ≤ j := by omega
          go_wp2_with fail
          go_big_quiet (first | (go_at_call 104; refine Calls.quiet_of_same (less_any _ _ _)))
          go_wp2
          go_meet
          exact ⟨z, rfl, (scanUp_end_ (fun x => !ltB dk[a]! x) dk j z (Or.inl hle)).symm.trans E.out, SZ.out.drewN nq⟩
    case rest =>
      obtain ⟨i2, rfl, hi2, hSi2⟩ := hcut
      have Hi2 := Lib.hid hi2
      have Si2 := Lib.hid hSi2
      have gi21 : i ≤ i2 := by rw [hi2]; exact Go.Sort.scanUp_ge _ _ _ _
      have gi22 : i2 ≤ j + 1 := by rw [hi2]; exact (Go.Sort.scanUp_spec _ _ _ _ _ rfl).2.1 (by omega)
      clear hi2 hSi2
      go_upto_block 4 with fail
      go_cut [10] (fun cq wx => StD W g dk rest (fun x => ltB dk[a]! x) i2 j cq wx)
      case first =>
        go_wp2_with fail
        go_loopg [10] j (fun q cq wr => ∃ z : Nat, q = z ∧ cq = .int .i64 z ∧ z ≤ j ∧ i2 ≤ z + 1 ∧ Sd W wr g dk rest ∧ Go.Sort.scanDown (fun x => ltB dk[a]! x) dk i2 z = Go.Sort.scanDown (fun x => ltB dk[a]! x) dk i2 j)
        case atStart => exact ⟨j, rfl, rfl, Nat.le_refl _, by omega, Si2.out, rfl⟩
        case round =>
          obtain ⟨z, hq, rfl, hz1, hz2, hS, hE⟩ := hrel
          have Q := Lib.hid hq
          have SZ := Lib.hid hS
          have E := Lib.hid hE
          clear hq hS hE
          by_cases hle : i2 ≤ z
          · have hle' : (i2 : Int) ≤ z := by omega
            obtain ⟨x, hx⟩ : ∃ x, x = dk[z]! := ⟨_, rfl⟩
            obtain ⟨y, hy⟩ : ∃ y, y = dk[a]! := ⟨_, rfl⟩
            have c0 : wr.cell? ⟨g, z, none⟩ = some (.string x) := by rw [hx]; exact SZ.out.cell z (by have := DK.out; omega)
            have c1 : wr.cell? ⟨g, a, none⟩ = some (.string y) := by rw [hy]; exact SZ.out.cell a (by have := DK.out; omega)
            have b0 : (0 : Int) ≤ z := by omega
            have b1 : (z : Int) < n := by omega
            have a0 : (0 : Int) ≤ a := by omega
            have a1 : (a : Int) < n := by omega
            have b2 : 0 < z := by omega
            have HX := Lib.hid hx
            have HY := Lib.hid hy
            clear hx hy
            by_cases hxy : ltB y x = true
            · go_wp2_with fail
              go_quiet ((go_at_call 104; exact Calls.quiet_of_same (less_yes _ hxy)))
              go_wp2
              go_roundg (z - 1)
              case measure => have := Q.out; omega
              case rel => exact ⟨z - 1, rfl, by go_num, by omega, by omega, SZ.out.drewN nq, (scanDown_go_ (fun x => ltB dk[a]! x) dk i2 z hle b2 (by show ltB dk[a]! dk[z]! = true; rw [← HX.out, ← HY.out, hxy])).symm.trans E.out⟩
            · go_wp2_with fail
              go_quiet ((go_at_call 104; exact Calls.quiet_of_same (less_no _ (by simpa using hxy))))
              go_wp2
              go_meet
              exact ⟨z, rfl, (scanDown_end_ (fun x => ltB dk[a]! x) dk i2 z (Or.inr (by show ltB dk[a]! dk[z]! = false; rw [← HX.out, ← HY.out, (show ltB y x = false by simpa using hxy)]))).symm.trans E.out, SZ.out.drewN nq⟩
          · have hle' : ¬ (i2 : Int) ≤ z := by omega
            go_wp2_with fail
            go_big_quiet (first | (go_at_call 104; refine Calls.quiet_of_same (less_any _ _ _)))
            go_wp2
            go_meet
            exact ⟨z, rfl, (scanDown_end_ (fun x => ltB dk[a]! x) dk i2 z (Or.inl hle)).symm.trans E.out, SZ.out.drewN nq⟩
      case rest =>
        obtain ⟨j2, rfl, hj2, hSj2⟩ := hcut
        have Hj2 := Lib.hid hj2
        have Sj2 := Lib.hid hSj2
        have gj21 : j2 ≤ j := by rw [hj2]; exact Go.Sort.scanDown_le _ _ _ _
        have gj22 : i2 ≤ j2 + 1 := by rw [hj2]; exact (Go.Sort.scanDown_spec _ _ _ _).2.1 (by omega)
        clear hj2 hSj2
        by_cases hgt : j2 < i2
        · have hgt' : (j2 : Int) < i2 := by omega
          have RE2 := Lib.hid (show mid = i2 ∧ dR = dk from by
            have hh := E.out
            rw [Go.Sort.partEqLoop_eq, ← Hi2.out, ← Hj2.out, if_pos hgt] at hh
            obtain ⟨q1, q3⟩ := RE.out
            rw [← hh] at q1 q3
            exact ⟨q1, q3⟩)
          go_wp2
          go_ret
          obtain ⟨rfl, rfl⟩ := RE2.out
          exact ⟨rfl, Sj2.out⟩
        · have hgt' : ¬ (j2 : Int) < i2 := by omega
          have hlt := scans_apart _ _ (fun x => (Bool.not_not _).symm) dk (by omega) Hi2.out Hj2.out (by omega)
          obtain ⟨x, hx⟩ : ∃ x, x = dk[i2]! := ⟨_, rfl⟩
          obtain ⟨y, hy⟩ : ∃ y, y = dk[j2]! := ⟨_, rfl⟩
          have c0 : wc.cell? ⟨g, i2, none⟩ = some (.string x) := by rw [hx]; exact Sj2.out.cell i2 (by have := DK.out; omega)
          have c1 : wc.cell? ⟨g, j2, none⟩ = some (.string y) := by rw [hy]; exact Sj2.out.cell j2 (by have := DK.out; omega)
          have b0 : (0 : Int) ≤ i2 := by omega
          have b1 : (i2 : Int) < n := by omega
          have b2 : (0 : Int) ≤ j2 := by omega
          have b3 : (j2 : Int) < n := by omega
          have fl := Sj2.out.blk.free
          obtain ⟨v', cv⟩ := cell?_setCell_some (w := wc) (p := ⟨g, i2, none⟩) (x := .string y) (q := ⟨g, j2, none⟩) c1
          have SW := Sj2.out.swp i2 j2 (by have := DK.out; omega) (by have := DK.out; omega)
          rw [← hx, ← hy] at SW
          have S9 := Lib.hid SW
          clear hx hy SW
          go_wp2_with fail
          go_region
          clear c0 c1 cv fl b0 b1 b2 b3
          go_wp2
          go_roundg (j2 - 1 + 1 - (i2 + 1))
          case measure => have := Q.out; omega
          case rel =>
            refine ⟨i2 + 1, j2 - 1, Go.Sort.swp dk i2 j2, rfl, by go_num, by go_num, by omega, by omega, by omega, by rw [Go.Sort.swp_size]; exact DK.out, S9.out.drew, ?_⟩
            have hh := E.out
            rw [Go.Sort.partEqLoop_eq, ← Hi2.out, ← Hj2.out, if_neg hgt] at hh
            exact hh
end Go.Proofs.YtoiclicechfmgaaGreatDoor
