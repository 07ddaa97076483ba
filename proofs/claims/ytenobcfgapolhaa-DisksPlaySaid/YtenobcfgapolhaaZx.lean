import Derived.Test.YtenobcfgapolhaaMem
import Derived.Sort.Defs
import Derived.Sort.Statements
import Derived.Sort.LotA
import Derived.Lib.Strings
import Derived.OrdersHeld
/- The library's sort at string: the row that is sorted; Less; reverseRange. -/
namespace Go.Proofs.Ytenobcfgapolhaa
open Go.RowKit

/-- The order of strings: by their bytes. -/
def ltB (x y : ByteArray) : Bool := Go.Sort.ltStr x.data.toList y.data.toList
theorem swo_ltB : Go.Sort.SWO ltB := ⟨fun _x => Go.Sort.swo_ltStr.irrefl _, fun _x _y _z => Go.Sort.swo_ltStr.trans _ _ _, fun _x _y _z => Go.Sort.swo_ltStr.ntrans _ _ _⟩
theorem bytesLess_ltB : ∀ (x y : List UInt8), Op.bytesLess x y = decide (x < y)
  | [], [] => by simp [Op.bytesLess]
  | _ :: _, [] => by simp [Op.bytesLess]
  | [], _ :: _ => by simp [Op.bytesLess]
  | a :: x, b :: y => by
    rw [Op.bytesLess, bytesLess_ltB x y]
    simp only [List.cons_lt_cons_iff]
    by_cases h1 : a < b <;> by_cases h2 : a = b <;> by_cases h3 : x < y <;> simp [h1, h2, h3]
/-- Block g holds the strings d, then rest; but for it and what is new nothing has turned since W. -/
structure Sd (W w : World) (g : Nat) (d : Array ByteArray) (rest : List Value) : Prop where
  blk : Blk w g 9 ((d.toList.map fun x => Value.string x) ++ rest).toArray
  kp : W.grownBy w (some g)
theorem Sd.cell {W w : World} {g : Nat} {d : Array ByteArray} {rest : List Value} (h : Sd W w g d rest) (i : Nat) (hi : i < d.size) : w.cell? ⟨g, i, none⟩ = some (.string d[i]!) := by
  rw [h.blk.cell]
  have : d[i]! = d[i] := getElem!_pos d i hi
  rw [this, List.getElem?_toArray, List.getElem?_append_left (by simpa using hi)]
  simp [hi]
theorem Sd.drew {W w : World} {g : Nat} {d : Array ByteArray} {rest : List Value} (h : Sd W w g d rest) : Sd W w.drew g d rest :=
  ⟨h.blk.drew, ⟨h.kp.os, h.kp.tape, h.kp.output, h.kp.size, h.kp.block⟩⟩
theorem Sd.drewN {W w : World} {g : Nat} {d : Array ByteArray} {rest : List Value} (h : Sd W w g d rest) : ∀ k, Sd W (w.drewN k) g d rest := fun k =>
  ⟨by have := (below_drewN_ w.heap.size w k); exact h.blk.below this h.blk.lt, h.kp.trans (grown_below_ (below_drewN_ w.heap.size w k) _)⟩
theorem Sd.set {W w : World} {g : Nat} {d : Array ByteArray} {rest : List Value} (h : Sd W w g d rest) (i : Nat) (x : ByteArray) (hi : i < d.size) : Sd W (w.setCell ⟨g, i, none⟩ (.string x)) g (d.setIfInBounds i x) rest := by
  refine ⟨?_, h.kp.trans (grown_set_ w g i _)⟩
  have := h.blk.set_ i (.string x)
  have e : ((d.toList.map fun x => Value.string x) ++ rest).toArray.setIfInBounds i (.string x) = (((d.setIfInBounds i x).toList.map fun x => Value.string x) ++ rest).toArray := by
    simp [List.setIfInBounds_toArray, hi, List.map_set]
  rw [e] at this
  exact this
theorem Sd.swp {W w : World} {g : Nat} {d : Array ByteArray} {rest : List Value} (h : Sd W w g d rest) (i j : Nat) (hi : i < d.size) (hj : j < d.size) : Sd W ((w.setCell ⟨g, i, none⟩ (.string d[j]!)).setCell ⟨g, j, none⟩ (.string d[i]!)) g (Go.Sort.swp d i j) rest := by
  unfold Go.Sort.swp
  exact (h.set i _ hi).set j _ (by simpa using hj)
theorem nan_any (x : ByteArray) (w : World) : Calls Try.prog 69 #[.string x] w fun e w' => e = .returned (.bool false) ∧ w' = w := by
  go_enter Try.func69, Try.ntmps69
  go_wp2
  go_ret
  exact ⟨by simp, rfl⟩
theorem less_any (x y : ByteArray) (w : World) : Calls Try.prog 59 #[.string x, .string y] w fun e w' => e = .returned (.bool (ltB x y)) ∧ w' = w := by
  go_enter Try.func59, Try.ntmps59
  go_wp2_with fail
  refine (nan_any x w).mono ?_
  rintro e w1 ⟨rfl, rfl⟩
  go_wp2
  go_ret
  refine ⟨?_, rfl⟩
  rw [bytesLess_ltB, Lib.toList_data, Lib.toList_data]
  rfl
end Go.Proofs.Ytenobcfgapolhaa

/- The library's sort at string: insertionSort. -/
namespace Go.Proofs.Ytenobcfgapolhaa
open Go.RowKit

theorem insOuter_eq (a b i : Nat) (d : Array ByteArray) : Go.Sort.insOuter ltB a b i d = if i < b then Go.Sort.insOuter ltB a b (i + 1) (Go.Sort.insInner ltB a i d) else d := by rw [Go.Sort.insOuter]
set_option maxHeartbeats 4000000 in
set_option maxRecDepth 100000 in
theorem ins_any {W w : World} {g a b c : Nat} {d : Array ByteArray} {rest : List Value} (h : Sd W w g d rest) (hab : a ≤ b) (hb : b ≤ d.size) (hs : d.size ≤ 1000000) (_hc : d.size ≤ c) :
    Calls Try.prog 53 #[.slice (some ⟨g, 0, none⟩) d.size c, .int .i64 a, .int .i64 b] w fun e w' => e = .returned (.tuple #[]) ∧ Sd W w' g (Go.Sort.insertionSort ltB d a b) rest := by
  have H := Lib.hid h
  obtain ⟨n, hn⟩ : ∃ n, n = d.size := ⟨_, rfl⟩
  have N := Lib.hid hn
  rw [← hn] at hb hs _hc ⊢
  clear h hn
  go_enter Try.func53, Try.ntmps53
  go_wp2_with fail
  go_loopg [6, 7] (b - a) (fun q c6 c7 wr => ∃ (i : Nat) (dk : Array ByteArray), a + 1 ≤ i ∧ q = b - (i - 1) ∧ i ≤ b + 1 ∧ c6 = .int .i64 i ∧ dk.size = n ∧ Sd W wr g dk rest ∧ Go.Sort.insOuter ltB a b i dk = Go.Sort.insertionSort ltB d a b)
  case atStart => exact ⟨a + 1, d, Nat.le_refl _, by omega, by omega, by go_num, N.out.symm, H.out, rfl⟩
  case round =>
    obtain ⟨i, dk, hi1, hq, hi2, rfl, hdk, hS, hE⟩ := hrel
    have Q := Lib.hid hq
    have DK := Lib.hid hdk
    have S := Lib.hid hS
    have E := Lib.hid hE
    clear hq hdk hS hE
    by_cases hib : i < b
    · have hib' : (i : Int) < b := by omega
      have hwi : IntKind.i64.wrap ((i : Int) + 1) = (i : Int) + 1 := IntWalk.i64_in _ (by omega)
      go_wp2_with fail
      go_loopg [7] i (fun q c7 wr => ∃ (j : Nat) (dj : Array ByteArray), j ≤ i ∧ a ≤ j ∧ q = j ∧ c7 = .int .i64 j ∧ dj.size = n ∧ Sd W wr g dj rest ∧ Go.Sort.insInner ltB a j dj = Go.Sort.insInner ltB a i dk)
      case atStart => exact ⟨i, dk, Nat.le_refl _, by omega, rfl, rfl, DK.out, S.out, rfl⟩
      case round =>
        obtain ⟨j, dj, hj1, hj2, hq, rfl, hdj, hS, hE2⟩ := hrel
        have Q2 := Lib.hid hq
        have DJ := Lib.hid hdj
        have S2 := Lib.hid hS
        have E2 := Lib.hid hE2
        have hj0 : (0 : Int) ≤ j := by omega
        have hjn : (j : Int) < n := by omega
        clear hq hdj hS hE2
        by_cases haj : a < j
        · have haj' : (a : Int) < j := by omega
          obtain ⟨k, hk⟩ : ∃ k, j = k + 1 := ⟨j - 1, by omega⟩
          have hkj : (j : Int) - 1 = (k : Int) := by omega
          have hw1 : IntKind.i64.wrap (k : Int) = (k : Int) := IntWalk.i64_in _ (by omega)
          have hk0 : (0 : Int) ≤ k := by omega
          have hkn : (k : Int) < n := by omega
          have K := Lib.hid hk
          obtain ⟨x, hx⟩ : ∃ x, x = dj[j]! := ⟨_, rfl⟩
          obtain ⟨y, hy⟩ : ∃ y, y = dj[k]! := ⟨_, rfl⟩
          have HX := Lib.hid hx
          have HY := Lib.hid hy
          have c1 : wr.drew.cell? ⟨g, j, none⟩ = some (.string x) := by rw [hx]; exact S2.out.drew.cell j (by have := DJ.out; omega)
          have c0 : wr.drew.cell? ⟨g, k, none⟩ = some (.string y) := by rw [hy]; exact S2.out.drew.cell k (by have := DJ.out; omega)
          clear hk hx hy
          go_upto_region 4 with fail
          have S0 := Lib.hid (And.intro c1 c0)
          clear c1 c0
          go_region_held3 (fun w' => w'.cell? ⟨g, j, none⟩ = some (.string x) ∧ w'.cell? ⟨g, k, none⟩ = some (.string y)) (first
            | (with_reducible exact S0.out)
            | fail)
            (first
            | (go_at_call 59; refine (less_any x y _).mono ?_; rintro e u7 ⟨rfl, rfl⟩))
          by_cases hxy : ltB x y = true
          · simp only [hxy]
            have SD := Lib.hid S2.out.drew.drew
            have c1 : wr.cell? ⟨g, j, none⟩ = some (.string x) := S0.out.1
            have c0 : wr.cell? ⟨g, k, none⟩ = some (.string y) := S0.out.2
            have fl := S2.out.blk.free
            go_upto_region 6 with fail
            have SW := S2.out.swp j k (by have := DJ.out; omega) (by have := DJ.out; omega)
            rw [← HX.out, ← HY.out] at SW
            have SWH := Lib.hid SW
            have F := Lib.hid (show Go.Sort.insInner ltB a k (Go.Sort.swp dj j k) = Go.Sort.insInner ltB a i dk from by
              have h := E2.out
              have hc : (decide (k + 1 > a) && ltB dj[k + 1]! dj[k]!) = true := by
                rw [← K.out, ← HX.out, ← HY.out, hxy, decide_eq_true (by omega)]; rfl
              rw [K.out, Go.Sort.insInner, if_pos hc, ← K.out] at h
              exact h)
            clear SW
            go_region
            go_wp2
            go_roundg k
            case measure => have := Q2.out; omega
            case rel =>
              refine ⟨k, Go.Sort.swp dj j k, by omega, by omega, rfl, by go_num, by rw [Go.Sort.swp_size]; exact DJ.out, ?_, F.out⟩
              exact SWH.out.drew.drew
          · have hxf : ltB x y = false := by simpa using hxy
            simp only [hxf]
            have F := Lib.hid (show dj = Go.Sort.insInner ltB a i dk from by
              have := E2.out
              rw [K.out, Go.Sort.insInner, ← K.out, ← HX.out, ← HY.out, (by simpa using hxy : ltB x y = false), Bool.and_false] at this
              exact this)
            go_wp2
            go_roundg (b - i)
            case measure => have := Q.out; omega
            case rel =>
              refine ⟨i + 1, dj, by omega, by omega, by omega, by go_num, DJ.out, S2.out.drew, ?_⟩
              have h := E.out
              rw [insOuter_eq, if_pos hib, ← F.out] at h
              exact h
        · have haj' : ¬ (a : Int) < j := by omega
          have F := Lib.hid (show dj = Go.Sort.insInner ltB a i dk from by
            have := E2.out
            cases j with
            | zero => exact this
            | succ k =>
              rw [Go.Sort.insInner, decide_eq_false (by omega), Bool.false_and] at this
              exact this)
          go_upto_region 4 with fail
          go_quiet (fail)
          go_wp2
          go_roundg (b - i)
          case measure => have := Q.out; omega
          case rel =>
            refine ⟨i + 1, dj, by omega, by omega, by omega, by go_num, DJ.out, S2.out.drewN _, ?_⟩
            have h := E.out
            rw [insOuter_eq, if_pos hib, ← F.out] at h
            exact h
    · obtain hib' : ¬ (i : Int) < b := by omega
      have F := Lib.hid (show dk = Go.Sort.insertionSort ltB d a b from by have := E.out; rw [insOuter_eq, if_neg hib] at this; exact this)
      go_wp2
      refine bodyPost_end (results_none rfl _ _ _) rfl ⟨rfl, ?_⟩
      rw [← F.out]
      exact S.out
end Go.Proofs.Ytenobcfgapolhaa

/- The library's sort at string: reverseRange. -/
namespace Go.Proofs.Ytenobcfgapolhaa
open Go.RowKit

set_option maxHeartbeats 4000000 in
set_option maxRecDepth 100000 in
theorem rev_any {W w : World} {g a b c : Nat} {d : Array ByteArray} {rest : List Value} (h : Sd W w g d rest) (hab : a < b) (hb : b ≤ d.size) (hs : d.size ≤ 1000000) (_hc : d.size ≤ c) :
    Calls Try.prog 57 #[.slice (some ⟨g, 0, none⟩) d.size c, .int .i64 a, .int .i64 b] w fun e w' => e = .returned (.tuple #[]) ∧ Sd W w' g (Go.Sort.reverseRange d a b) rest := by
  have H := Lib.hid h
  obtain ⟨n, hn⟩ : ∃ n, n = d.size := ⟨_, rfl⟩
  have N := Lib.hid hn
  rw [← hn] at hb hs _hc ⊢
  have hb1 : (b : Int) - 1 = ((b - 1 : Nat) : Int) := by omega
  clear h hn
  go_enter Try.func57, Try.ntmps57
  go_wp2_with fail
  go_loopg [6, 7] (b - a) (fun q c6 c7 wr => ∃ (i j : Nat) (dk : Array ByteArray), q = j + 1 - i ∧ j < b ∧ i ≤ j + 2 ∧ c6 = .int .i64 i ∧ c7 = .int .i64 j ∧ dk.size = n ∧ Sd W wr g dk rest ∧ Go.Sort.reverseLoop i j dk = Go.Sort.reverseRange d a b)
  case atStart => exact ⟨a, b - 1, d, by omega, by omega, by omega, rfl, by go_num, N.out.symm, H.out, rfl⟩
  case round =>
    obtain ⟨i, j, dk, hq, hj, hi, rfl, rfl, hdk, hS, hE⟩ := hrel
    have Q := Lib.hid hq
    have DK := Lib.hid hdk
    have S := Lib.hid hS
    have E := Lib.hid hE
    clear hq hdk hS hE
    by_cases hij : i < j
    · have hij' : (i : Int) < j := by omega
      have hi0 : (0 : Int) ≤ i := by omega
      have hj0 : (0 : Int) ≤ j := by omega
      have hin : (i : Int) < n := by omega
      have hjn : (j : Int) < n := by omega
      obtain ⟨x, hx⟩ : ∃ x, x = dk[i]! := ⟨_, rfl⟩
      obtain ⟨y, hy⟩ : ∃ y, y = dk[j]! := ⟨_, rfl⟩
      have c0 : wr.cell? ⟨g, i, none⟩ = some (.string x) := by rw [hx]; exact S.out.cell i (by have := DK.out; omega)
      have c1 : wr.cell? ⟨g, j, none⟩ = some (.string y) := by rw [hy]; exact S.out.cell j (by have := DK.out; omega)
      have fl := S.out.blk.free
      have SW := S.out.swp i j (by have := DK.out; omega) (by have := DK.out; omega)
      rw [← hx, ← hy] at SW
      have SWH := Lib.hid SW
      have hwi : IntKind.i64.wrap ((i : Int) + 1) = (i : Int) + 1 := IntWalk.i64_in _ (by omega)
      have hwj : IntKind.i64.wrap ((j : Int) - 1) = (j : Int) - 1 := IntWalk.i64_in _ (by omega)
      clear hx hy SW
      go_upto_region 3 with fail
      go_region
      go_wp2
      go_roundg (j - 1 + 1 - (i + 1))
      case measure => have := Q.out; omega
      case rel =>
        refine ⟨i + 1, j - 1, Go.Sort.swp dk i j, rfl, by omega, by omega, by go_num, by go_num, by rw [Go.Sort.swp_size]; exact DK.out, SWH.out.drew, ?_⟩
        have h := E.out
        rw [Go.Sort.reverseLoop, if_pos hij] at h
        exact h
    · have hij' : ¬ (i : Int) < j := by omega
      have F := Lib.hid (show dk = Go.Sort.reverseRange d a b from by have h := E.out; rw [Go.Sort.reverseLoop, if_neg hij] at h; exact h)
      go_wp2
      refine bodyPost_end (results_none rfl _ _ _) rfl ⟨rfl, ?_⟩
      rw [← F.out]
      exact S.out
end Go.Proofs.Ytenobcfgapolhaa
