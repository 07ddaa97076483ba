import Derived.Test.YtoiclicechfmgaaGreatDoorZaz
/- The library's sort at string: heapSort. -/
namespace Go.Proofs.YtoiclicechfmgaaGreatDoor
open Go.RowKit

theorem sift_size_ (hi F : Nat) : ∀ (n root : Nat) (d : Array ByteArray), hi - root ≤ n → (Go.Sort.siftDown ltB hi F root d).size = d.size := by
  intro n
  induction n with
  | zero => intro root d h; rw [Go.Sort.siftDown, dif_pos (by omega)]
  | succ n ih =>
    intro root d h
    rw [Go.Sort.siftDown]
    split
    · rfl
    · split
      · split
        · rfl
        · split
          · rw [ih _ _ (by omega), Go.Sort.swp_size]
          · rfl
      · split
        · rfl
        · rw [ih _ _ (by omega), Go.Sort.swp_size]
set_option maxHeartbeats 4000000 in
set_option maxRecDepth 100000 in
theorem heap_any {W w : World} {g a b c : Nat} {d : Array ByteArray} {rest : List Value} (h : Sd W w g d rest) (hab : a < b) (hb : b ≤ d.size) (hs : d.size ≤ 1000000) (hc : d.size ≤ c) :
    Calls Tryz.prog 99 #[.slice (some ⟨g, 0, none⟩) d.size c, .int .i64 a, .int .i64 b] w fun e w' => e = .returned (.tuple #[]) ∧ Sd W w' g (Go.Sort.heapSort ltB d a b) rest := by
  have H := Lib.hid h
  obtain ⟨n, hn⟩ : ∃ n, n = d.size := ⟨_, rfl⟩
  have N := Lib.hid hn
  rw [← hn] at hb hs hc ⊢
  obtain ⟨L, hL⟩ : ∃ L, L = b - a := ⟨_, rfl⟩
  obtain ⟨m, hm⟩ : ∃ m, m = L - 1 := ⟨_, rfl⟩
  obtain ⟨k0, hk0⟩ : ∃ k0, k0 = m / 2 := ⟨_, rfl⟩
  have hL1 : (b : Int) - a = L := by omega
  have hm1 : (L : Int) - 1 = m := by omega
  have hk1 : (m : Int) / 2 = k0 := by omega
  have hLn : a + L ≤ n := by omega
  have hm2 : m + 1 = L := by omega
  have hk2 : k0 + 1 ≤ L := by omega
  have HL := Lib.hid hL
  have HM := Lib.hid hm
  have HK := Lib.hid hk0
  have HM2 := Lib.hid hm2
  clear h hn hL hm hk0 hm2
  go_enter Tryz.func99, Tryz.ntmps99
  go_wp2_with fail
  go_loopg [9] (k0 + 1) (fun q c9 wr => ∃ (k : Nat) (dk : Array ByteArray), q = k ∧ k ≤ k0 + 1 ∧ c9 = .int .i64 ((k : Int) - 1) ∧ dk.size = n ∧ Sd W wr g dk rest ∧ Go.Sort.heapBuild ltB L a k dk = Go.Sort.heapBuild ltB L a (k0 + 1) d)
  case atStart => exact ⟨k0 + 1, d, rfl, Nat.le_refl _, by go_num, N.out.symm, H.out, rfl⟩
  case round =>
    obtain ⟨k, dk, hq, hk, hc9, hdk, hS, hE⟩ := hrel
    have Q := Lib.hid hq
    have DK := Lib.hid hdk
    have S := Lib.hid hS
    have E := Lib.hid hE
    clear hq hdk hS hE
    cases k with
    | zero =>
      rw [show ((0 : Nat) : Int) - 1 = -1 from rfl] at hc9
      subst hc9
      clear hk
      go_wp2_with fail
      go_loopg [10] L (fun q c10 wr => ∃ (k : Nat) (dj : Array ByteArray), q = k ∧ k ≤ L ∧ c10 = .int .i64 ((k : Int) - 1) ∧ dj.size = n ∧ Sd W wr g dj rest ∧ Go.Sort.heapPop ltB a k dj = Go.Sort.heapPop ltB a L dk)
      case atStart => exact ⟨L, dk, rfl, Nat.le_refl _, congrArg _ (by have := HM2.out; omega), DK.out, S.out, rfl⟩
      case round =>
        obtain ⟨k, dj, hq, hk, hc10, hdj, hS, hE⟩ := hrel
        have Q2 := Lib.hid hq
        have DJ := Lib.hid hdj
        have S2 := Lib.hid hS
        have E2 := Lib.hid hE
        clear hq hdj hS hE
        cases k with
        | zero =>
          rw [show ((0 : Nat) : Int) - 1 = -1 from rfl] at hc10
          subst hc10
          have F := Lib.hid (show dj = Go.Sort.heapSort ltB d a b from by
            have h1 := E.out
            have h2 := E2.out
            rw [Go.Sort.heapBuild] at h1
            rw [Go.Sort.heapPop] at h2
            rw [Go.Sort.heapSort, ← HL.out, ← HM.out, ← HK.out, ← h1, ← h2])
          go_wp2
          refine bodyPost_end (results_none rfl _ _ _) rfl ⟨rfl, ?_⟩
          rw [← F.out]
          exact S2.out
        | succ k =>
          rw [show ((k + 1 : Nat) : Int) - 1 = (k : Int) from by omega] at hc10
          subst hc10
          obtain ⟨ak, hak⟩ : ∃ ak, ak = a + k := ⟨_, rfl⟩
          have hak1 : (a : Int) + (k : Int) = (ak : Int) := by omega
          have hwk : IntKind.i64.wrap (ak : Int) = (ak : Int) := IntWalk.i64_in _ (by omega)
          have ha0 : (0 : Int) ≤ a := by omega
          have hk00 : (0 : Int) ≤ k := by omega
          have hk01 : ¬ ((k : Int) < 0) := by omega
          have hak0 : (0 : Int) ≤ ak := by omega
          have han : (a : Int) < n := by omega
          have hakn : (ak : Int) < n := by omega
          have AK := Lib.hid hak
          obtain ⟨x, hx⟩ : ∃ x, x = dj[a]! := ⟨_, rfl⟩
          obtain ⟨y, hy⟩ : ∃ y, y = dj[ak]! := ⟨_, rfl⟩
          have c0 : wr.cell? ⟨g, a, none⟩ = some (.string x) := by rw [hx]; exact S2.out.cell a (by have := DJ.out; omega)
          have c1 : wr.cell? ⟨g, ak, none⟩ = some (.string y) := by rw [hy]; exact S2.out.cell ak (by have := DJ.out; omega)
          have fl := S2.out.blk.free
          obtain ⟨v', cv⟩ := cell?_setCell_some (w := wr) (p := ⟨g, a, none⟩) (x := .string y) (q := ⟨g, ak, none⟩) c1
          have SW := S2.out.swp a ak (by have := DJ.out; omega) (by have := DJ.out; omega)
          rw [← hx, ← hy] at SW
          have SWH := Lib.hid SW
          have hsz : (Go.Sort.swp dj a ak).size = n := by rw [Go.Sort.swp_size]; exact DJ.out
          have SZ := Lib.hid hsz
          have HS := Lib.hid (show ∀ u, Sd W u g (Go.Sort.swp dj a ak) rest → Calls Tryz.prog 126 #[.slice (some ⟨g, 0, none⟩) n c, .int .i64 0, .int .i64 k, .int .i64 a] u fun e w' => e = .returned (.tuple #[]) ∧ Sd W w' g (Go.Sort.siftDown ltB k a 0 (Go.Sort.swp dj a ak)) rest from fun u hu => by
            have := sift_any (lo := 0) (hi := k) (first := a) (c := c) hu (by omega) (Nat.zero_le _) (by omega) (by omega)
            rw [hsz] at this
            exact this)
          clear hx hy SW hsz hak
          go_upto_region 6 with fail
          go_region
          go_wp2_with fail
          refine (HS.out _ SWH.out.drew).mono ?_
          rintro e w1 ⟨rfl, h1⟩
          have S3 := Lib.hid h1
          clear h1
          go_wp2
          go_roundg k
          case measure => have := Q2.out; omega
          case rel =>
            refine ⟨k, Go.Sort.siftDown ltB k a 0 (Go.Sort.swp dj a ak), rfl, by omega, rfl, by rw [sift_size_ _ _ _ _ _ (Nat.le_refl _)]; exact SZ.out, S3.out, ?_⟩
            have h := E2.out
            rw [Go.Sort.heapPop, ← AK.out] at h
            exact h
    | succ k =>
      rw [show ((k + 1 : Nat) : Int) - 1 = (k : Int) from by omega] at hc9
      subst hc9
      have hk00 : (0 : Int) ≤ k := by omega
      have hk01 : ¬ ((k : Int) < 0) := by omega
      have HS := Lib.hid (show ∀ u, Sd W u g dk rest → Calls Tryz.prog 126 #[.slice (some ⟨g, 0, none⟩) n c, .int .i64 k, .int .i64 L, .int .i64 a] u fun e w' => e = .returned (.tuple #[]) ∧ Sd W w' g (Go.Sort.siftDown ltB L a k dk) rest from fun u hu => by
        have := sift_any (lo := k) (hi := L) (first := a) (c := c) hu (by have := DK.out; omega) (by omega) (by have := DK.out; omega) (by have := DK.out; omega)
        rw [DK.out] at this
        exact this)
      go_wp2_with fail
      refine (HS.out _ S.out).mono ?_
      rintro e w1 ⟨rfl, h1⟩
      have S3 := Lib.hid h1
      clear h1
      go_wp2
      go_roundg k
      case measure => have := Q.out; omega
      case rel =>
        refine ⟨k, Go.Sort.siftDown ltB L a k dk, rfl, by omega, rfl, by rw [sift_size_ _ _ _ _ _ (Nat.le_refl _)]; exact DK.out, S3.out, ?_⟩
        have h := E.out
        rw [Go.Sort.heapBuild] at h
        exact h
end Go.Proofs.YtoiclicechfmgaaGreatDoor

/- The library's sort at string: the pivot: it lies in range, and the row stays. -/
namespace Go.Proofs.YtoiclicechfmgaaGreatDoor
open Go.RowKit

theorem less_yes {x y : ByteArray} (w : World) (h : ltB x y = true) : Calls Tryz.prog 104 #[.string x, .string y] w fun e w' => e = .returned (.bool true) ∧ w' = w :=
  (less_any x y w).mono fun _ _ he => ⟨by rw [he.1, h], he.2⟩
theorem less_no {x y : ByteArray} (w : World) (h : ltB x y = false) : Calls Tryz.prog 104 #[.string x, .string y] w fun e w' => e = .returned (.bool false) ∧ w' = w :=
  (less_any x y w).mono fun _ _ he => ⟨by rw [he.1, h], he.2⟩
theorem Sd.grown {W w w' : World} {g sb : Nat} {d : Array ByteArray} {rest : List Value} (h : Sd W w g d rest) (hg : w.grownBy w' (some sb)) (hW : W.heap.size ≤ sb) (hne : g ≠ sb) : Sd W w' g d rest :=
  ⟨h.blk.grown hg (by simpa using hne), ⟨hg.os.trans h.kp.os, hg.tape.trans h.kp.tape, hg.output.trans h.kp.output, Nat.le_trans h.kp.size hg.size, fun i hi hn => (hg.block i (Nat.lt_of_lt_of_le hi h.kp.size) (by simp; omega)).trans (h.kp.block i hi hn)⟩⟩
theorem Sd.below {W w w' : World} {g : Nat} {d : Array ByteArray} {rest : List Value} (h : Sd W w g d rest) (hb : Below w.heap.size w w') : Sd W w' g d rest :=
  ⟨h.blk.below hb h.blk.lt, h.kp.trans (grown_below_ hb _)⟩

/-- Two places of the range, the row as it was; the count of exchanges is some number. -/
def Ord2 (W : World) (g sb : Nat) (d : Array ByteArray) (rest : List Value) (lo hi : Nat) (e : Ending) (w' : World) : Prop :=
  ∃ i j : Nat, ∃ s : Int, e = .returned (.tuple #[.int .i64 i, .int .i64 j]) ∧ lo ≤ i ∧ i < hi ∧ lo ≤ j ∧ j < hi ∧ Sd W w' g d rest ∧ Blk w' sb 3 #[.int .i64 s]
def Ord1 (W : World) (g sb : Nat) (d : Array ByteArray) (rest : List Value) (lo hi : Nat) (e : Ending) (w' : World) : Prop :=
  ∃ i : Nat, ∃ s : Int, e = .returned (.int .i64 i) ∧ lo ≤ i ∧ i < hi ∧ Sd W w' g d rest ∧ Blk w' sb 3 #[.int .i64 s]

set_option maxHeartbeats 1000000 in
set_option maxRecDepth 100000 in
theorem ord_any {W w : World} {g sb lo hi i j c : Nat} {s : Int} {d : Array ByteArray} {rest : List Value} (h : Sd W w g d rest) (hB : Blk w sb 3 #[.int .i64 s]) (hW : W.heap.size ≤ sb) (hi0 : lo ≤ i) (hi1 : i < hi) (hj0 : lo ≤ j) (hj1 : j < hi) (hh : hi ≤ d.size) (_hs : d.size ≤ 1000000) :
    Calls Tryz.prog 150 #[.slice (some ⟨g, 0, none⟩) d.size c, .int .i64 i, .int .i64 j, .pointer (some ⟨sb, 0, none⟩)] w (Ord2 W g sb d rest lo hi) := by
  have hne : g ≠ sb := h.blk.ne_ hB (by decide)
  have H := Lib.hid h
  have B := Lib.hid hB
  obtain ⟨n, hn⟩ : ∃ n, n = d.size := ⟨_, rfl⟩
  obtain ⟨x, hx⟩ : ∃ x, x = d[i]! := ⟨_, rfl⟩
  obtain ⟨y, hy⟩ : ∃ y, y = d[j]! := ⟨_, rfl⟩
  have c0 : w.cell? ⟨g, i, none⟩ = some (.string x) := by rw [hx]; exact h.cell i (by omega)
  have c1 : w.cell? ⟨g, j, none⟩ = some (.string y) := by rw [hy]; exact h.cell j (by omega)
  have cs : w.cell? ⟨sb, 0, none⟩ = some (.int .i64 s) := by rw [hB.cell]; rfl
  have fs : w.frozen? ⟨sb, 0, none⟩ = false := hB.free 0
  rw [← hn] at hh _hs ⊢
  have k0 : (0 : Int) ≤ i := by omega
  have k1 : (i : Int) < n := by omega
  have k2 : (0 : Int) ≤ j := by omega
  have k3 : (j : Int) < n := by omega
  clear h hn hx hy hB
  go_enter Tryz.func150, Tryz.ntmps150
  go_wp2_with fail
  by_cases hxy : ltB y x = true
  · go_quiet ((go_at_call 104; exact Calls.quiet_of_same (less_yes _ hxy)))
    go_wp2
    go_ret2
    exact ⟨j, i, _, rfl, hj0, hj1, hi0, hi1, (H.out.drewN nq).grown (grown_set_ _ _ _ _) hW hne, (B.out.drewN nq).set_ 0 _⟩
  · go_quiet ((go_at_call 104; exact Calls.quiet_of_same (less_no _ (by simpa using hxy))))
    go_wp2
    go_ret2
    exact ⟨i, j, _, rfl, hi0, hi1, hj0, hj1, H.out.drewN nq, B.out.drewN nq⟩
set_option maxHeartbeats 1000000 in
set_option maxRecDepth 100000 in
theorem med_any {W w : World} {g sb lo hi i j k c : Nat} {s : Int} {d : Array ByteArray} {rest : List Value} (h : Sd W w g d rest) (hB : Blk w sb 3 #[.int .i64 s]) (hW : W.heap.size ≤ sb) (hi0 : lo ≤ i) (hi1 : i < hi) (hj0 : lo ≤ j) (hj1 : j < hi) (hk0 : lo ≤ k) (hk1 : k < hi) (hh : hi ≤ d.size) (hs : d.size ≤ 1000000) :
    Calls Tryz.prog 130 #[.slice (some ⟨g, 0, none⟩) d.size c, .int .i64 i, .int .i64 j, .int .i64 k, .pointer (some ⟨sb, 0, none⟩)] w (Ord1 W g sb d rest lo hi) := by
  have H := Lib.hid h
  have B := Lib.hid hB
  clear h hB
  go_enter Tryz.func130, Tryz.ntmps130
  go_wp2_with fail
  refine (ord_any H.out B.out hW hi0 hi1 hj0 hj1 hh hs).mono ?_
  rintro e w1 ⟨i1, j1, s1, rfl, a1, a2, a3, a4, h1, b1⟩
  have H1 := Lib.hid h1
  have B1 := Lib.hid b1
  clear h1 b1
  go_wp2_with fail
  refine (ord_any H1.out B1.out hW a3 a4 hk0 hk1 hh hs).mono ?_
  rintro e w2 ⟨i2, j2, s2, rfl, a5, a6, a7, a8, h2, b2⟩
  have H2 := Lib.hid h2
  have B2 := Lib.hid b2
  clear h2 b2
  go_wp2_with fail
  refine (ord_any H2.out B2.out hW a1 a2 a5 a6 hh hs).mono ?_
  rintro e w3 ⟨i3, j3, s3, rfl, a9, a10, a11, a12, h3, b3⟩
  have H3 := Lib.hid h3
  have B3 := Lib.hid b3
  clear h3 b3
  go_wp2
  go_ret
  exact ⟨j3, s3, rfl, a11, a12, H3.out, B3.out⟩
set_option maxHeartbeats 1000000 in
set_option maxRecDepth 100000 in
theorem adj_any {W w : World} {g sb lo hi i c : Nat} {s : Int} {d : Array ByteArray} {rest : List Value} (h : Sd W w g d rest) (hB : Blk w sb 3 #[.int .i64 s]) (hW : W.heap.size ≤ sb) (hi0 : lo + 1 ≤ i) (hi1 : i + 1 < hi) (hh : hi ≤ d.size) (hs : d.size ≤ 1000000) :
    Calls Tryz.prog 129 #[.slice (some ⟨g, 0, none⟩) d.size c, .int .i64 i, .pointer (some ⟨sb, 0, none⟩)] w (Ord1 W g sb d rest lo hi) := by
  have H := Lib.hid h
  have B := Lib.hid hB
  obtain ⟨p, hp⟩ : ∃ p, p = i - 1 := ⟨_, rfl⟩
  obtain ⟨q, hq⟩ : ∃ q, q = i + 1 := ⟨_, rfl⟩
  have e1 : (i : Int) - 1 = (p : Int) := by omega
  have e2 : (i : Int) + 1 = (q : Int) := by omega
  have MC := Lib.hid (fun u (h1 : Sd W u g d rest) (h2 : Blk u sb 3 #[.int .i64 s]) => med_any (c := c) h1 h2 hW (i := p) (j := i) (k := q) (lo := lo) (hi := hi) (by omega) (by omega) (by omega) (by omega) (by omega) (by omega) hh hs)
  clear h hB hp hq
  go_enter Tryz.func129, Tryz.ntmps129
  go_wp2_with fail
  refine (MC.out _ H.out B.out).mono ?_
  rintro e w3 ⟨j3, s3, rfl, a11, a12, h3, b3⟩
  have H3 := Lib.hid h3
  have B3 := Lib.hid b3
  clear h3 b3
  go_wp2
  go_ret
  exact ⟨j3, s3, rfl, a11, a12, H3.out, B3.out⟩

/-- A place of the range, and a hint. -/
def Piv (W : World) (g : Nat) (d : Array ByteArray) (rest : List Value) (a b : Nat) (e : Ending) (w' : World) : Prop :=
  ∃ p : Nat, ∃ t : Int, e = .returned (.tuple #[.int .i64 p, .int .i64 t]) ∧ a ≤ p ∧ p < b ∧ Sd W w' g d rest
set_option maxHeartbeats 4000000 in
set_option maxRecDepth 100000 in
theorem piv_any {W w : World} {g a b c : Nat} {d : Array ByteArray} {rest : List Value} (h : Sd W w g d rest) (hab : a < b) (hb : b ≤ d.size) (hs : d.size ≤ 1000000) :
    Calls Tryz.prog 101 #[.slice (some ⟨g, 0, none⟩) d.size c, .int .i64 a, .int .i64 b] w (Piv W g d rest a b) := by
  have H := Lib.hid (h.below (below_alloc_ w (.cells #[.int .i64 0] 3)))
  have B := Lib.hid (Blk.new w 3 #[.int .i64 0])
  have hW : W.heap.size ≤ w.heap.size := h.kp.size
  obtain ⟨L, hL⟩ : ∃ L, L = b - a := ⟨_, rfl⟩
  obtain ⟨q, hq⟩ : ∃ q, q = L / 4 := ⟨_, rfl⟩
  obtain ⟨q2, hq2⟩ : ∃ q2, q2 = q * 2 := ⟨_, rfl⟩
  obtain ⟨q3, hq3⟩ : ∃ q3, q3 = q * 3 := ⟨_, rfl⟩
  obtain ⟨i, hi⟩ : ∃ i, i = a + q := ⟨_, rfl⟩
  obtain ⟨j, hj⟩ : ∃ j, j = a + q2 := ⟨_, rfl⟩
  obtain ⟨k, hk⟩ : ∃ k, k = a + q3 := ⟨_, rfl⟩
  have e1 : (b : Int) - a = L := by omega
  have e2 : (L : Int) / 4 = q := by omega
  have e3 : (q : Int) * 2 = q2 := by omega
  have e4 : (q : Int) * 3 = q3 := by omega
  have e5 : (a : Int) + q = i := by omega
  have e6 : (a : Int) + q2 = j := by omega
  have e7 : (a : Int) + q3 = k := by omega
  have m0 : q ≤ 1000000 := by omega
  have m1 : q2 ≤ 1000000 := by omega
  have m2 : q3 ≤ 1000000 := by omega
  have m3 : a ≤ 1000000 := by omega
  have m4 : L ≤ 1000000 := by omega
  have hj1 : a ≤ j := by omega
  have hj2 : j < b := by omega
  by_cases h8 : 8 ≤ L
  · by_cases h50 : 50 ≤ L
    · have i1 : a + 1 ≤ i := by omega
      have i2 : i + 1 < b := by omega
      have j1 : a + 1 ≤ j := by omega
      have j2 : j + 1 < b := by omega
      have k1 : a + 1 ≤ k := by omega
      have k2 : k + 1 < b := by omega
      clear h hL hq hq2 hq3 hi hj hk hj1 hj2
      go_enter Tryz.func101, Tryz.ntmps101
      go_wp2_with fail
      refine (adj_any H.out B.out hW i1 i2 hb hs).mono ?_
      rintro e w1 ⟨x1, s1, rfl, a1, a2, h1, b1⟩
      have H1 := Lib.hid h1
      have B1 := Lib.hid b1
      clear h1 b1
      go_wp2_with fail
      refine (adj_any H1.out B1.out hW j1 j2 hb hs).mono ?_
      rintro e w2 ⟨x2, s2, rfl, a3, a4, h2, b2⟩
      have H2 := Lib.hid h2
      have B2 := Lib.hid b2
      clear h2 b2
      go_wp2_with fail
      refine (adj_any H2.out B2.out hW k1 k2 hb hs).mono ?_
      rintro e w3 ⟨x3, s3, rfl, a5, a6, h3, b3⟩
      have H3 := Lib.hid h3
      have B3 := Lib.hid b3
      clear h3 b3
      go_wp2_with fail
      refine (med_any H3.out B3.out hW a1 a2 a3 a4 a5 a6 hb hs).mono ?_
      rintro e w4 ⟨x4, s4, rfl, a7, a8, h4, b4⟩
      have cs : w4.cell? ⟨w.heap.size, 0, none⟩ = some (.int .i64 s4) := by rw [b4.cell]; rfl
      have H4 := Lib.hid h4
      clear h4 b4
      go_wp2
      all_goals go_ret2
      all_goals exact ⟨x4, _, rfl, a7, a8, H4.out⟩
    · have i1 : a ≤ i := by omega
      have i2 : i < b := by omega
      have k1 : a ≤ k := by omega
      have k2 : k < b := by omega
      clear h hL hq hq2 hq3 hi hj hk
      go_enter Tryz.func101, Tryz.ntmps101
      go_wp2_with fail
      refine (med_any H.out B.out hW i1 i2 hj1 hj2 k1 k2 hb hs).mono ?_
      rintro e w4 ⟨x4, s4, rfl, a7, a8, h4, b4⟩
      have cs : w4.cell? ⟨w.heap.size, 0, none⟩ = some (.int .i64 s4) := by rw [b4.cell]; rfl
      have H4 := Lib.hid h4
      clear h4 b4
      go_wp2
      all_goals go_ret2
      all_goals exact ⟨x4, _, rfl, a7, a8, H4.out⟩
  · clear h hL hq hq2 hq3 hi hj hk
    go_enter Tryz.func101, Tryz.ntmps101
    go_wp2
    all_goals go_ret2
    all_goals exact ⟨j, _, rfl, hj1, hj2, H.out⟩
end Go.Proofs.YtoiclicechfmgaaGreatDoor
