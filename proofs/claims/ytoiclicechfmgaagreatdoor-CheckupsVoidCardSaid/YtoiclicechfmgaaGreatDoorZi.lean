/- The library's sort at string: partialInsertionSort. -/
import Derived.Test.YtoiclicechfmgaaGreatDoorZh
import Derived.Sort.LotA
namespace Go.Proofs.YtoiclicechfmgaaGreatDoor
open Go.RowKit

theorem scanS_go (d : Array ByteArray) (b i : Nat) (h : i < b) (hp : ltB d[i]! d[i - 1]! = false) : Go.Sort.scanSorted ltB d b i = Go.Sort.scanSorted ltB d b (i + 1) := by
  rw [Go.Sort.scanSorted, if_pos (by simp [h, hp])]
theorem scanS_end (d : Array ByteArray) (b i : Nat) (h : ¬ i < b ∨ ltB d[i]! d[i - 1]! = true) : Go.Sort.scanSorted ltB d b i = i := by
  rw [Go.Sort.scanSorted, if_neg (by rcases h with h | h <;> simp [h])]
theorem scanS_range (d : Array ByteArray) (b : Nat) : ∀ (n i : Nat), b - i = n → i ≤ b → i ≤ Go.Sort.scanSorted ltB d b i ∧ Go.Sort.scanSorted ltB d b i ≤ b := by
  intro n
  induction n with
  | zero =>
    intro i hn hib
    rw [scanS_end d b i (Or.inl (by omega))]
    exact ⟨Nat.le_refl _, hib⟩
  | succ n ih =>
    intro i hn hib
    rw [Go.Sort.scanSorted]
    split
    · have := ih (i + 1) (by omega) (by omega)
      exact ⟨by omega, this.2⟩
    · exact ⟨Nat.le_refl _, hib⟩
theorem shiftUp_go_ (b j : Nat) (d : Array ByteArray) (h : j < b) (hp : ltB d[j]! d[j - 1]! = true) : Go.Sort.shiftUp ltB b j d = Go.Sort.shiftUp ltB b (j + 1) (Go.Sort.swp d j (j - 1)) := by
  rw [Go.Sort.shiftUp, if_pos h, if_neg (by simp [hp])]
theorem shiftUp_end_ (b j : Nat) (d : Array ByteArray) (h : ¬ j < b ∨ ltB d[j]! d[j - 1]! = false) : Go.Sort.shiftUp ltB b j d = d := by
  rw [Go.Sort.shiftUp]
  by_cases hj : j < b
  · rw [if_pos hj, if_pos (by rcases h with h | h; exact absurd hj h; simp [h])]
  · rw [if_neg hj]
theorem shiftDown_go_ (j : Nat) (d : Array ByteArray) (hp : ltB d[j + 1]! d[j]! = true) : Go.Sort.shiftDown ltB (j + 1) d = Go.Sort.shiftDown ltB j (Go.Sort.swp d (j + 1) j) := by
  rw [Go.Sort.shiftDown, if_neg (by simp [hp])]
theorem shiftDown_end_ (j : Nat) (d : Array ByteArray) (hp : ltB d[j + 1]! d[j]! = false) : Go.Sort.shiftDown ltB (j + 1) d = d := by
  rw [Go.Sort.shiftDown, if_pos (by simp [hp])]
theorem shiftDown_size_ : ∀ (j : Nat) (d : Array ByteArray), (Go.Sort.shiftDown ltB j d).size = d.size
  | 0, d => rfl
  | j + 1, d => by
    rw [Go.Sort.shiftDown]
    split
    · rfl
    · rw [shiftDown_size_, Go.Sort.swp_size]
theorem shiftUp_size_ (b : Nat) : ∀ (n j : Nat) (d : Array ByteArray), b - j = n → (Go.Sort.shiftUp ltB b j d).size = d.size := by
  intro n
  induction n with
  | zero => intro j d h; rw [shiftUp_end_ b j d (Or.inl (by omega))]
  | succ n ih =>
    intro j d h
    rw [Go.Sort.shiftUp]
    split
    · split
      · rfl
      · rw [ih _ _ (by omega), Go.Sort.swp_size]
    · rfl
theorem fixDown_size_ (a i : Nat) (d : Array ByteArray) : (Go.Sort.fixDown ltB a i d).size = d.size := by
  unfold Go.Sort.fixDown
  split
  · exact shiftDown_size_ _ _
  · rfl
theorem fixUp_size_ (b i : Nat) (d : Array ByteArray) : (Go.Sort.fixUp ltB b i d).size = d.size := by
  unfold Go.Sort.fixUp
  split
  · exact shiftUp_size_ _ _ _ _ rfl
  · rfl
def StS (W : World) (g : Nat) (d : Array ByteArray) (rest : List Value) (b i : Nat) (c : Value) (w : World) : Prop :=
  ∃ z : Nat, c = .int .i64 z ∧ z = Go.Sort.scanSorted ltB d b i ∧ Sd W w g d rest
/-- The row is some array, and it is this one. -/
def StA (W : World) (g : Nat) (d : Array ByteArray) (rest : List Value) (w : World) : Prop := Sd W w g d rest

set_option maxHeartbeats 8000000 in
set_option maxRecDepth 100000 in
theorem pis_any {W w : World} {g a b c : Nat} {d : Array ByteArray} {rest : List Value} {dR : Array ByteArray} {r : Bool} (h : Sd W w g d rest) (hR : Go.Sort.partialInsertionSort ltB d a b = (dR, r)) (hab : a < b) (hb : b ≤ d.size) (hs : d.size ≤ 1000000) (_hc : d.size ≤ c) :
    Calls Tryz.prog 103 #[.slice (some ⟨g, 0, none⟩) d.size c, .int .i64 a, .int .i64 b] w fun e w' => e = .returned (.bool r) ∧ Sd W w' g dR rest := by
  have H := Lib.hid h
  unfold Go.Sort.partialInsertionSort at hR
  have RR := Lib.hid hR
  obtain ⟨n, hn⟩ : ∃ n, n = d.size := ⟨_, rfl⟩
  have DN := Lib.hid hn.symm
  rw [← hn] at hb hs _hc ⊢
  obtain ⟨L, hL⟩ : ∃ L, L = b - a := ⟨_, rfl⟩
  have e1 : (b : Int) - a = L := by omega
  have LL := Lib.hid hL
  clear h hn hR hL
  go_enter Tryz.func103, Tryz.ntmps103
  go_wp2_with fail
  go_loopg [7, 8] 5 (fun q c7 c8 wr => ∃ (s i : Nat) (dk : Array ByteArray), q = s ∧ s ≤ 5 ∧ c7 = .int .i64 i ∧ c8 = .int .i64 (5 - (s : Int)) ∧ a < i ∧ i ≤ b ∧ dk.size = n ∧ Sd W wr g dk rest ∧ Go.Sort.partialIns ltB a b s i dk = (dR, r))
  case atStart => exact ⟨5, a + 1, d, rfl, Nat.le_refl _, by go_num, rfl, by omega, by omega, DN.out, H.out, RR.out⟩
  case round =>
    obtain ⟨s, i, dk, hq, hs5, rfl, hc8, hai, hib, hdk, hS, hE⟩ := hrel
    have Q0 := Lib.hid hq
    have DK := Lib.hid hdk
    have S := Lib.hid hS
    have E := Lib.hid hE
    clear hq hdk hS hE
    cases s with
    | zero =>
      rw [show (5 : Int) - ((0 : Nat) : Int) = 5 from rfl] at hc8
      subst hc8
      go_wp2
      go_ret
      have h := E.out
      rw [Go.Sort.partialIns, Prod.mk.injEq] at h
      obtain ⟨rfl, rfl⟩ := h
      exact ⟨rfl, S.out⟩
    | succ s =>
      obtain ⟨t, ht⟩ : ∃ t : Nat, t = 4 - s := ⟨_, rfl⟩
      rw [show (5 : Int) - ((s + 1 : Nat) : Int) = (t : Int) from by omega] at hc8
      subst hc8
      have ht5 : (t : Int) < 5 := by omega
      have TT := Lib.hid ht
      clear ht
      go_upto_block 2 with fail
      go_cut [7] (fun cq wx => StS W g dk rest b i cq wx)
      case first =>
        go_wp2_with fail
        go_loopg [7] (b - i) (fun q cq wr => ∃ z : Nat, q = b - z ∧ cq = .int .i64 z ∧ i ≤ z ∧ z ≤ b ∧ Sd W wr g dk rest ∧ Go.Sort.scanSorted ltB dk b z = Go.Sort.scanSorted ltB dk b i)
        case atStart => exact ⟨i, rfl, rfl, Nat.le_refl _, by omega, S.out, rfl⟩
        case round =>
          obtain ⟨z, hq, rfl, hz1, hz2, hS, hE⟩ := hrel
          have Q := Lib.hid hq
          have SZ := Lib.hid hS
          have E := Lib.hid hE
          clear hq hS hE
          by_cases hle : z < b
          · have hle' : (z : Int) < b := by omega
            obtain ⟨z1, hz⟩ : ∃ z1, z1 = z - 1 := ⟨_, rfl⟩
            have e2 : (z : Int) - 1 = z1 := by omega
            obtain ⟨x, hx⟩ : ∃ x, x = dk[z]! := ⟨_, rfl⟩
            obtain ⟨y, hy⟩ : ∃ y, y = dk[z1]! := ⟨_, rfl⟩
            have c0 : wr.cell? ⟨g, z, none⟩ = some (.string x) := by rw [hx]; exact SZ.out.cell z (by have := DK.out; omega)
            have c1 : wr.cell? ⟨g, z1, none⟩ = some (.string y) := by rw [hy]; exact SZ.out.cell z1 (by have := DK.out; omega)
            have b0 : (0 : Int) ≤ z := by omega
            have b1 : (z : Int) < n := by omega
            have b2 : (0 : Int) ≤ z1 := by omega
            have b3 : (z1 : Int) < n := by omega
            have wz : IntKind.i64.wrap (z1 : Int) = (z1 : Int) := IntWalk.i64_in _ (by omega)
            have HX := Lib.hid hx
            have HY := Lib.hid hy
            have HZ := Lib.hid hz
            clear hx hy hz
            by_cases hxy : ltB x y = true
            · go_wp2_with fail
              go_quiet ((go_at_call 104; exact Calls.quiet_of_same (less_yes _ hxy)))
              go_wp2
              go_meet
              exact ⟨z, rfl, (scanS_end dk b z (Or.inr (by rw [← HX.out, ← HZ.out, ← HY.out, hxy]))).symm.trans E.out, SZ.out.drewN nq⟩
            · go_wp2_with fail
              go_quiet ((go_at_call 104; exact Calls.quiet_of_same (less_no _ (by simpa using hxy))))
              go_wp2
              go_roundg (b - (z + 1))
              case measure => have := Q.out; omega
              case rel => exact ⟨z + 1, rfl, by go_num, by omega, by omega, SZ.out.drewN nq, (scanS_go dk b z hle (by rw [← HX.out, ← HZ.out, ← HY.out, (show ltB x y = false by simpa using hxy)])).symm.trans E.out⟩
          · have hle' : ¬ (z : Int) < b := by omega
            have hd1 : decide (z < b) = false := decide_eq_false hle
            have hd2 : decide ((z : Int) < b) = false := decide_eq_false hle'
            go_wp2_with fail
            go_quiet (fail)
            go_wp2
            go_meet
            exact ⟨z, rfl, (scanS_end dk b z (Or.inl hle)).symm.trans E.out, SZ.out.drewN nq⟩
      case rest =>
        obtain ⟨z, rfl, hz, hSz⟩ := hcut
        have HZ := Lib.hid hz
        have SZ := Lib.hid hSz
        have hz1 : i ≤ z := by rw [hz]; exact (scanS_range dk b _ i rfl hib).1
        have hz2 : z ≤ b := by rw [hz]; exact (scanS_range dk b _ i rfl hib).2
        have E2 := Lib.hid (show (if z = b then (dk, true) else if b - a < 50 then (dk, false) else
            Go.Sort.partialIns ltB a b s z (Go.Sort.fixUp ltB b z (Go.Sort.fixDown ltB a z (Go.Sort.swp dk z (z - 1))))) = (dR, r) from by
          have h := E.out
          rw [Go.Sort.partialIns_succ, ← HZ.out] at h
          exact h)
        clear hz hSz
        by_cases hzb : z = b
        · have E3 := Lib.hid (show dk = dR ∧ true = r from by have h := E2.out; rw [if_pos hzb, Prod.mk.injEq] at h; exact h)
          have hzb' : (z : Int) = b := by omega
          clear hzb
          go_wp2
          go_ret
          obtain ⟨rfl, rfl⟩ := E3.out
          exact ⟨rfl, SZ.out⟩
        · have hzb' : ¬ (z : Int) = b := by omega
          by_cases h50 : L < 50
          · have h50' : (L : Int) < 50 := by omega
            have E3 := Lib.hid (show dk = dR ∧ false = r from by have h := E2.out; rw [if_neg hzb, if_pos (by have := LL.out; omega), Prod.mk.injEq] at h; exact h)
            go_wp2
            go_ret
            obtain ⟨rfl, rfl⟩ := E3.out
            exact ⟨rfl, SZ.out⟩
          · have h50' : ¬ (L : Int) < 50 := by omega
            have E3 := Lib.hid (show Go.Sort.partialIns ltB a b s z (Go.Sort.fixUp ltB b z (Go.Sort.fixDown ltB a z (Go.Sort.swp dk z (z - 1)))) = (dR, r) from by have h := E2.out; rw [if_neg hzb, if_neg (by have := LL.out; omega)] at h; exact h)
            obtain ⟨z1, hz1'⟩ : ∃ z1, z1 = z - 1 := ⟨_, rfl⟩
            obtain ⟨za, hza⟩ : ∃ za, za = z - a := ⟨_, rfl⟩
            obtain ⟨bz, hbz⟩ : ∃ bz, bz = b - z := ⟨_, rfl⟩
            have e2 : (z : Int) - 1 = z1 := by omega
            have e3 : (z : Int) - a = za := by omega
            have e4 : (b : Int) - z = bz := by omega
            have hzl : z < b := by omega
            obtain ⟨x, hx⟩ : ∃ x, x = dk[z]! := ⟨_, rfl⟩
            obtain ⟨y, hy⟩ : ∃ y, y = dk[z1]! := ⟨_, rfl⟩
            have c0 : wc.cell? ⟨g, z, none⟩ = some (.string x) := by rw [hx]; exact SZ.out.cell z (by have := DK.out; omega)
            have c1 : wc.cell? ⟨g, z1, none⟩ = some (.string y) := by rw [hy]; exact SZ.out.cell z1 (by have := DK.out; omega)
            have b0 : (0 : Int) ≤ z := by omega
            have b1 : (z : Int) < n := by omega
            have b2 : (0 : Int) ≤ z1 := by omega
            have b3 : (z1 : Int) < n := by omega
            have wz : IntKind.i64.wrap (z1 : Int) = (z1 : Int) := IntWalk.i64_in _ (by omega)
            have fl := SZ.out.blk.free
            obtain ⟨v', cv⟩ := cell?_setCell_some (w := wc) (p := ⟨g, z, none⟩) (x := .string y) (q := ⟨g, z1, none⟩) c1
            have SW := SZ.out.swp z z1 (by have := DK.out; omega) (by have := DK.out; omega)
            rw [← hx, ← hy] at SW
            have S9 := Lib.hid SW
            have Z1 := Lib.hid hz1'
            have ZA := Lib.hid hza
            have BZ := Lib.hid hbz
            clear hx hy SW hz1' hza hbz
            go_wp2_with fail
            go_region
            clear c0 c1 cv fl b2 b3 wz
            obtain ⟨d1, hd1⟩ : ∃ d1, d1 = Go.Sort.swp dk z z1 := ⟨_, rfl⟩
            have S1 := Lib.hid (show Sd W _ g d1 rest from by rw [hd1]; exact S9.out.drew)
            have D1 := Lib.hid (show d1.size = n from by rw [hd1, Go.Sort.swp_size]; exact DK.out)
            have E4 := Lib.hid (show Go.Sort.partialIns ltB a b s z (Go.Sort.fixUp ltB b z (Go.Sort.fixDown ltB a z d1)) = (dR, r) from by rw [hd1, Z1.out]; exact E3.out)
            clear hd1 S9
            go_upto_if 61 with fail
            go_cut [9] (fun c9 wx => Sd W wx g (Go.Sort.fixDown ltB a z d1) rest)
            case first =>
              by_cases h2 : 2 ≤ za
              · have h2' : (2 : Int) ≤ za := by omega
                go_wp2_with fail
                go_loopg [9] z1 (fun q cq wr => ∃ (j : Nat) (dj : Array ByteArray), q = j ∧ cq = .int .i64 j ∧ j ≤ z1 ∧ dj.size = n ∧ Sd W wr g dj rest ∧ Go.Sort.shiftDown ltB j dj = Go.Sort.shiftDown ltB z1 d1)
                case atStart => exact ⟨z1, d1, rfl, rfl, Nat.le_refl _, D1.out, S1.out, rfl⟩
                case round =>
                  obtain ⟨j, dj, hq, hcq, hj, hdj, hS, hE⟩ := hrel
                  have Q := Lib.hid hq
                  have DJ := Lib.hid hdj
                  have SJ := Lib.hid hS
                  have EJ := Lib.hid hE
                  clear hq hdj hS hE
                  have FX := Lib.hid (show Go.Sort.fixDown ltB a z d1 = Go.Sort.shiftDown ltB z1 d1 from by unfold Go.Sort.fixDown; rw [if_pos (by have := ZA.out; omega), ← Z1.out])
                  cases j with
                  | zero =>
                    subst hcq
                    go_wp2
                    go_meet
                    rw [FX.out, ← EJ.out]
                    exact SJ.out
                  | succ k =>
                    obtain ⟨j, hjk⟩ : ∃ j, j = k + 1 := ⟨_, rfl⟩
                    rw [← hjk] at hcq hj EJ Q
                    subst hcq
                    have e5 : (j : Int) - 1 = k := by omega
                    have j1 : (1 : Int) ≤ j := by omega
                    obtain ⟨x, hx⟩ : ∃ x, x = dj[j]! := ⟨_, rfl⟩
                    obtain ⟨y, hy⟩ : ∃ y, y = dj[k]! := ⟨_, rfl⟩
                    have hjn : j < n := by have := Z1.out; omega
                    have hkn : k < n := by omega
                    have c0 : wr.cell? ⟨g, j, none⟩ = some (.string x) := by rw [hx]; exact SJ.out.cell j (by have := DJ.out; omega)
                    have c1 : wr.cell? ⟨g, k, none⟩ = some (.string y) := by rw [hy]; exact SJ.out.cell k (by have := DJ.out; omega)
                    have b0 : (0 : Int) ≤ j := by omega
                    have b1 : (j : Int) < n := by omega
                    have b2 : (0 : Int) ≤ k := by omega
                    have b3 : (k : Int) < n := by omega
                    have wz : IntKind.i64.wrap (k : Int) = (k : Int) := IntWalk.i64_in _ (by omega)
                    have fl := SJ.out.blk.free
                    have SW := SJ.out.swp j k (by have := DJ.out; omega) (by have := DJ.out; omega)
                    rw [← hx, ← hy] at SW
                    have S9 := Lib.hid SW
                    have HX := Lib.hid hx
                    have HY := Lib.hid hy
                    have JK := Lib.hid hjk
                    clear hx hy SW hjk
                    by_cases hxy : ltB x y = true
                    · go_wp2_with fail
                      go_quiet ((go_at_call 104; exact Calls.quiet_of_same (less_yes _ hxy)))
                      have S9 := Lib.hid (show Sd W (((wr.drewN nq).setCell ⟨g, j, none⟩ (.string y)).setCell ⟨g, k, none⟩ (.string x)) g (Go.Sort.swp dj j k) rest from by
                        have := (SJ.out.drewN nq).swp j k (by have := DJ.out; omega) (by have := DJ.out; omega)
                        rw [← HX.out, ← HY.out] at this
                        exact this)
                      go_wp2_with fail
                      go_region
                      go_wp2
                      go_roundg k
                      case measure => have := Q.out; omega
                      case rel =>
                        refine ⟨k, Go.Sort.swp dj j k, rfl, rfl, by omega, by rw [Go.Sort.swp_size]; exact DJ.out, S9.out.drew, ?_⟩
                        have h := EJ.out
                        rw [JK.out, shiftDown_go_ k dj (by rw [← JK.out, ← HX.out, ← HY.out, hxy]), ← JK.out] at h
                        exact h
                    · go_wp2_with fail
                      go_quiet ((go_at_call 104; exact Calls.quiet_of_same (less_no _ (by simpa using hxy))))
                      go_wp2
                      go_meet
                      have h := EJ.out
                      rw [JK.out, shiftDown_end_ k dj (by rw [← JK.out, ← HX.out, ← HY.out, (show ltB x y = false by simpa using hxy)])] at h
                      rw [FX.out, ← h]
                      exact SJ.out.drewN nq
              · have h2' : ¬ (2 : Int) ≤ za := by omega
                go_wp2
                go_meet
                unfold Go.Sort.fixDown
                rw [if_neg (by have := ZA.out; omega)]
                exact S1.out
            case rest =>
              obtain ⟨d2, hd2⟩ : ∃ d2, d2 = Go.Sort.fixDown ltB a z d1 := ⟨_, rfl⟩
              have S2 := Lib.hid (show Sd W wc g d2 rest from by rw [hd2]; exact hcut)
              have E5 := Lib.hid (show Go.Sort.partialIns ltB a b s z (Go.Sort.fixUp ltB b z d2) = (dR, r) from by rw [hd2]; exact E4.out)
              have D2 := Lib.hid (show d2.size = n from by rw [hd2, fixDown_size_]; exact D1.out)
              clear hcut hd2
              have t4 : (t : Int) + 1 = 5 - (s : Int) := by have := TT.out; omega
              have T4 := Lib.hid t4
              clear t4
              by_cases h2 : 2 ≤ bz
              · have h2' : (2 : Int) ≤ bz := by omega
                obtain ⟨zz, hzz⟩ : ∃ zz, zz = z + 1 := ⟨_, rfl⟩
                have e6 : (z : Int) + 1 = zz := by omega
                have ZZ := Lib.hid hzz
                have hzzb : zz ≤ b := by omega
                have hzz1 : 1 ≤ zz := by omega
                clear hzz
                go_wp2_with fail
                go_loopg [10] (b - zz) (fun q cq wr => ∃ (j : Nat) (dj : Array ByteArray), q = b - j ∧ cq = .int .i64 j ∧ 1 ≤ j ∧ j ≤ b ∧ dj.size = n ∧ Sd W wr g dj rest ∧ Go.Sort.shiftUp ltB b j dj = Go.Sort.shiftUp ltB b zz d2)
                case atStart => exact ⟨zz, d2, rfl, rfl, hzz1, hzzb, D2.out, S2.out, rfl⟩
                case round =>
                  obtain ⟨j, dj, hq, rfl, hj, hjb, hdj, hS, hE⟩ := hrel
                  have Q := Lib.hid hq
                  have DJ := Lib.hid hdj
                  have SJ := Lib.hid hS
                  have EJ := Lib.hid hE
                  clear hq hdj hS hE
                  have FX := Lib.hid (show Go.Sort.fixUp ltB b z d2 = Go.Sort.shiftUp ltB b zz d2 from by unfold Go.Sort.fixUp; rw [if_pos (by have := BZ.out; omega), ← ZZ.out])
                  by_cases hlt : j < b
                  · have hlt' : (j : Int) < b := by omega
                    obtain ⟨k, hk⟩ : ∃ k, k = j - 1 := ⟨_, rfl⟩
                    have e5 : (j : Int) - 1 = k := by omega
                    obtain ⟨x, hx⟩ : ∃ x, x = dj[j]! := ⟨_, rfl⟩
                    obtain ⟨y, hy⟩ : ∃ y, y = dj[k]! := ⟨_, rfl⟩
                    have hjn : j < n := by omega
                    have hkn : k < n := by omega
                    have c0 : wr.cell? ⟨g, j, none⟩ = some (.string x) := by rw [hx]; exact SJ.out.cell j (by have := DJ.out; omega)
                    have c1 : wr.cell? ⟨g, k, none⟩ = some (.string y) := by rw [hy]; exact SJ.out.cell k (by have := DJ.out; omega)
                    have b0 : (0 : Int) ≤ j := by omega
                    have b1 : (j : Int) < n := by omega
                    have b2 : (0 : Int) ≤ k := by omega
                    have b3 : (k : Int) < n := by omega
                    have wz : IntKind.i64.wrap (k : Int) = (k : Int) := IntWalk.i64_in _ (by omega)
                    have fl := SJ.out.blk.free
                    have HX := Lib.hid hx
                    have HY := Lib.hid hy
                    have JK := Lib.hid hk
                    clear hx hy hk
                    by_cases hxy : ltB x y = true
                    · go_wp2_with fail
                      go_quiet ((go_at_call 104; exact Calls.quiet_of_same (less_yes _ hxy)))
                      have S9 := Lib.hid (show Sd W (((wr.drewN nq).setCell ⟨g, j, none⟩ (.string y)).setCell ⟨g, k, none⟩ (.string x)) g (Go.Sort.swp dj j k) rest from by
                        have := (SJ.out.drewN nq).swp j k (by have := DJ.out; omega) (by have := DJ.out; omega)
                        rw [← HX.out, ← HY.out] at this
                        exact this)
                      go_wp2_with fail
                      go_region
                      go_wp2
                      go_roundg (b - (j + 1))
                      case measure => have := Q.out; omega
                      case rel =>
                        refine ⟨j + 1, Go.Sort.swp dj j k, rfl, by go_num, by omega, by omega, by rw [Go.Sort.swp_size]; exact DJ.out, S9.out.drew, ?_⟩
                        have h := EJ.out
                        rw [shiftUp_go_ b j dj hlt (by rw [← JK.out, ← HX.out, ← HY.out, hxy]), ← JK.out] at h
                        exact h
                    · go_wp2_with fail
                      go_quiet ((go_at_call 104; exact Calls.quiet_of_same (less_no _ (by simpa using hxy))))
                      go_wp2
                      go_roundg s
                      case measure => have := Q0.out; omega
                      case rel =>
                        refine ⟨s, z, Go.Sort.fixUp ltB b z d2, rfl, by omega, rfl, congrArg _ T4.out, by omega, by omega, by rw [fixUp_size_]; exact D2.out, ?_, E5.out⟩
                        have h := EJ.out
                        rw [shiftUp_end_ b j dj (Or.inr (by rw [← JK.out, ← HX.out, ← HY.out, (show ltB x y = false by simpa using hxy)]))] at h
                        rw [FX.out, ← h]
                        exact SJ.out.drewN nq
                  · have hlt' : ¬ (j : Int) < b := by omega
                    go_wp2
                    go_roundg s
                    case measure => have := Q0.out; omega
                    case rel =>
                      refine ⟨s, z, Go.Sort.fixUp ltB b z d2, rfl, by omega, rfl, congrArg _ T4.out, by omega, by omega, by rw [fixUp_size_]; exact D2.out, ?_, E5.out⟩
                      have h := EJ.out
                      rw [shiftUp_end_ b j dj (Or.inl hlt)] at h
                      rw [FX.out, ← h]
                      exact SJ.out
              · have h2' : ¬ (2 : Int) ≤ bz := by omega
                go_wp2
                go_roundg s
                case measure => have := Q0.out; omega
                case rel =>
                  refine ⟨s, z, Go.Sort.fixUp ltB b z d2, rfl, by omega, rfl, congrArg _ T4.out, by omega, by omega, by rw [fixUp_size_]; exact D2.out, ?_, E5.out⟩
                  unfold Go.Sort.fixUp
                  rw [if_neg (by have := BZ.out; omega)]
                  exact S2.out
end Go.Proofs.YtoiclicechfmgaaGreatDoor
