/- The library's sort at string: heapSort. -/
import Derived.Test.YtenobcfgapolhaaZd
namespace Go.Proofs.Ytenobcfgapolhaa
open Go.RowKit

theorem sift_size_ (hi F : Nat) : ∀ (n root : Nat) (d : Array ByteArray), hi - root ≤ n → (Go.Sort.siftDown ltB hi F root d).size = d.size := by
  intro n
  induction n with
  | zero => intro root d h; rw [Go.Sort.siftDown, dif_pos (by omega)]
  | succ n ih =>
    intro root d h
    rw [Go.Sort.siftDown]
    split
    · rfl
    · split
      · split
        · rfl
        · split
          · rw [ih _ _ (by omega), Go.Sort.swp_size]
          · rfl
      · split
        · rfl
        · rw [ih _ _ (by omega), Go.Sort.swp_size]
set_option maxHeartbeats 4000000 in
set_option maxRecDepth 100000 in
theorem heap_any {W w : World} {g a b c : Nat} {d : Array ByteArray} {rest : List Value} (h : Sd W w g d rest) (hab : a < b) (hb : b ≤ d.size) (hs : d.size ≤ 1000000) (hc : d.size ≤ c) :
    Calls Try.prog 54 #[.slice (some ⟨g, 0, none⟩) d.size c, .int .i64 a, .int .i64 b] w fun e w' => e = .returned (.tuple #[]) ∧ Sd W w' g (Go.Sort.heapSort ltB d a b) rest := by
  have H := Lib.hid h
  obtain ⟨n, hn⟩ : ∃ n, n = d.size := ⟨_, rfl⟩
  have N := Lib.hid hn
  rw [← hn] at hb hs hc ⊢
  obtain ⟨L, hL⟩ : ∃ L, L = b - a := ⟨_, rfl⟩
  obtain ⟨m, hm⟩ : ∃ m, m = L - 1 := ⟨_, rfl⟩
  obtain ⟨k0, hk0⟩ : ∃ k0, k0 = m / 2 := ⟨_, rfl⟩
  have hL1 : (b : Int) - a = L := by omega
  have hm1 : (L : Int) - 1 = m := by omega
  have hk1 : (m : Int) / 2 = k0 := by omega
  have hLn : a + L ≤ n := by omega
  have hm2 : m + 1 = L := by omega
  have hk2 : k0 + 1 ≤ L := by omega
  have HL := Lib.hid hL
  have HM := Lib.hid hm
  have HK := Lib.hid hk0
  have HM2 := Lib.hid hm2
  clear h hn hL hm hk0 hm2
  go_enter Try.func54, Try.ntmps54
  go_wp2_with fail
  go_loopg [9] (k0 + 1) (fun q c9 wr => ∃ (k : Nat) (dk : Array ByteArray), q = k ∧ k ≤ k0 + 1 ∧ c9 = .int .i64 ((k : Int) - 1) ∧ dk.size = n ∧ Sd W wr g dk rest ∧ Go.Sort.heapBuild ltB L a k dk = Go.Sort.heapBuild ltB L a (k0 + 1) d)
  case atStart => exact ⟨k0 + 1, d, rfl, Nat.le_refl _, by go_num, N.out.symm, H.out, rfl⟩
  case round =>
    obtain ⟨k, dk, hq, hk, hc9, hdk, hS, hE⟩ := hrel
    have Q := Lib.hid hq
    have DK := Lib.hid hdk
    have S := Lib.hid hS
    have E := Lib.hid hE
    clear hq hdk hS hE
    cases k with
    | zero =>
      rw [show ((0 : Nat) : Int) - 1 = -1 from rfl] at hc9
      subst hc9
      clear hk
      go_wp2_with fail
      go_loopg [10] L (fun q c10 wr => ∃ (k : Nat) (dj : Array ByteArray), q = k ∧ k ≤ L ∧ c10 = .int .i64 ((k : Int) - 1) ∧ dj.size = n ∧ Sd W wr g dj rest ∧ Go.Sort.heapPop ltB a k dj = Go.Sort.heapPop ltB a L dk)
      case atStart => exact ⟨L, dk, rfl, Nat.le_refl _, congrArg _ (by have := HM2.out; omega), DK.out, S.out, rfl⟩
      case round =>
        obtain ⟨k, dj, hq, hk, hc10, hdj, hS, hE⟩ := hrel
        have Q2 := Lib.hid hq
        have DJ := Lib.hid hdj
        have S2 := Lib.hid hS
        have E2 := Lib.hid hE
        clear hq hdj hS hE
        cases k with
        | zero =>
          rw [show ((0 : Nat) : Int) - 1 = -1 from rfl] at hc10
          subst hc10
          have F := Lib.hid (show dj = Go.Sort.heapSort ltB d a b from by
            have h1 := E.out
            have h2 := E2.out
            rw [Go.Sort.heapBuild] at h1
            rw [Go.Sort.heapPop] at h2
            rw [Go.Sort.heapSort, ← HL.out, ← HM.out, ← HK.out, ← h1, ← h2])
          go_wp2
          refine bodyPost_end (results_none rfl _ _ _) rfl ⟨rfl, ?_⟩
          rw [← F.out]
          exact S2.out
        | succ k =>
          rw [show ((k + 1 : Nat) : Int) - 1 = (k : Int) from by omega] at hc10
          subst hc10
          obtain ⟨ak, hak⟩ : ∃ ak, ak = a + k := ⟨_, rfl⟩
          have hak1 : (a : Int) + (k : Int) = (ak : Int) := by omega
          have hwk : IntKind.i64.wrap (ak : Int) = (ak : Int) := IntWalk.i64_in _ (by omega)
          have ha0 : (0 : Int) ≤ a := by omega
          have hk00 : (0 : Int) ≤ k := by omega
          have hk01 : ¬ ((k : Int) < 0) := by omega
          have hak0 : (0 : Int) ≤ ak := by omega
          have han : (a : Int) < n := by omega
          have hakn : (ak : Int) < n := by omega
          have AK := Lib.hid hak
          obtain ⟨x, hx⟩ : ∃ x, x = dj[a]! := ⟨_, rfl⟩
          obtain ⟨y, hy⟩ : ∃ y, y = dj[ak]! := ⟨_, rfl⟩
          have c0 : wr.cell? ⟨g, a, none⟩ = some (.string x) := by rw [hx]; exact S2.out.cell a (by have := DJ.out; omega)
          have c1 : wr.cell? ⟨g, ak, none⟩ = some (.string y) := by rw [hy]; exact S2.out.cell ak (by have := DJ.out; omega)
          have fl := S2.out.blk.free
          obtain ⟨v', cv⟩ := cell?_setCell_some (w := wr) (p := ⟨g, a, none⟩) (x := .string y) (q := ⟨g, ak, none⟩) c1
          have SW := S2.out.swp a ak (by have := DJ.out; omega) (by have := DJ.out; omega)
          rw [← hx, ← hy] at SW
          have SWH := Lib.hid SW
          have hsz : (Go.Sort.swp dj a ak).size = n := by rw [Go.Sort.swp_size]; exact DJ.out
          have SZ := Lib.hid hsz
          have HS := Lib.hid (show ∀ u, Sd W u g (Go.Sort.swp dj a ak) rest → Calls Try.prog 64 #[.slice (some ⟨g, 0, none⟩) n c, .int .i64 0, .int .i64 k, .int .i64 a] u fun e w' => e = .returned (.tuple #[]) ∧ Sd W w' g (Go.Sort.siftDown ltB k a 0 (Go.Sort.swp dj a ak)) rest from fun u hu => by
            have := sift_any (lo := 0) (hi := k) (first := a) (c := c) hu (by omega) (Nat.zero_le _) (by omega) (by omega)
            rw [hsz] at this
            exact this)
          clear hx hy SW hsz hak
          go_upto_region 6 with fail
          go_region
          go_wp2_with fail
          refine (HS.out _ SWH.out.drew).mono ?_
          rintro e w1 ⟨rfl, h1⟩
          have S3 := Lib.hid h1
          clear h1
          go_wp2
          go_roundg k
          case measure => have := Q2.out; omega
          case rel =>
            refine ⟨k, Go.Sort.siftDown ltB k a 0 (Go.Sort.swp dj a ak), rfl, by omega, rfl, by rw [sift_size_ _ _ _ _ _ (Nat.le_refl _)]; exact SZ.out, S3.out, ?_⟩
            have h := E2.out
            rw [Go.Sort.heapPop, ← AK.out] at h
            exact h
    | succ k =>
      rw [show ((k + 1 : Nat) : Int) - 1 = (k : Int) from by omega] at hc9
      subst hc9
      have hk00 : (0 : Int) ≤ k := by omega
      have hk01 : ¬ ((k : Int) < 0) := by omega
      have HS := Lib.hid (show ∀ u, Sd W u g dk rest → Calls Try.prog 64 #[.slice (some ⟨g, 0, none⟩) n c, .int .i64 k, .int .i64 L, .int .i64 a] u fun e w' => e = .returned (.tuple #[]) ∧ Sd W w' g (Go.Sort.siftDown ltB L a k dk) rest from fun u hu => by
        have := sift_any (lo := k) (hi := L) (first := a) (c := c) hu (by have := DK.out; omega) (by omega) (by have := DK.out; omega) (by have := DK.out; omega)
        rw [DK.out] at this
        exact this)
      go_wp2_with fail
      refine (HS.out _ S.out).mono ?_
      rintro e w1 ⟨rfl, h1⟩
      have S3 := Lib.hid h1
      clear h1
      go_wp2
      go_roundg k
      case measure => have := Q.out; omega
      case rel =>
        refine ⟨k, Go.Sort.siftDown ltB L a k dk, rfl, by omega, rfl, by rw [sift_size_ _ _ _ _ _ (Nat.le_refl _)]; exact DK.out, S3.out, ?_⟩
        have h := E.out
        rw [Go.Sort.heapBuild] at h
        exact h
end Go.Proofs.Ytenobcfgapolhaa
