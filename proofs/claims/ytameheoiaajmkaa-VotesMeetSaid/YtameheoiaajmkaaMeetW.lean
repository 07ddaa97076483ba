/- VotesMeet: walk. -/
import Derived.Test.YtameheoiaajmkaaPollC
namespace Go.Proofs.Ytameheoiaajmkaa
open Go.RowKit

def bitI (a : Int) (i : Nat) : Bool := bits BinOp.and IntKind.u8 (a / 2 ^ i) 1 == 1
def cntI (a : Int) : Nat → Int | 0 => 0 | k + 1 => cntI a k + if bitI a k then 1 else 0
def bothI (a b : Int) : Nat → Int | 0 => 0 | k + 1 => bothI a b k + if bitI a k && bitI b k then 1 else 0
def saidI (a : Int) (k : Nat) : List Int := (List.range 7).map fun i => if i < k then (if bitI a i then 1 else 2) else 0

theorem cntI_bd (a : Int) : ∀ k : Nat, 0 ≤ cntI a k ∧ cntI a k ≤ k
  | 0 => by simp [cntI]
  | k + 1 => by have := cntI_bd a k; simp only [cntI]; split <;> omega
theorem bothI_bd (a b : Int) : ∀ k : Nat, 0 ≤ bothI a b k ∧ bothI a b k ≤ k ∧ cntI a k + cntI b k ≤ k + bothI a b k
  | 0 => by simp [cntI, bothI]
  | k + 1 => by
    have := bothI_bd a b k
    simp only [cntI, bothI]
    cases bitI a k <;> cases bitI b k <;> simp <;> omega
theorem saidI_get (a : Int) (k i : Nat) (hi : i < 7) : (saidI a k)[i]? = some (if i < k then (if bitI a i then 1 else 2) else 0) := by
  unfold saidI
  rw [List.getElem?_map, List.getElem?_range hi]; rfl
theorem saidI_at (a : Int) (k i : Nat) (hi : i < 7) : (saidI a k)[i]?.getD 0 = if i < k then (if bitI a i then 1 else 2) else 0 := by
  rw [saidI_get a k i hi]; rfl
theorem saidI_length (a : Int) (k : Nat) : (saidI a k).length = 7 := by simp [saidI]
theorem saidI_set (a : Int) (k : Nat) : (saidI a k).set k (if bitI a k then 1 else 2) = saidI a (k + 1) := by
  apply List.ext_getElem?
  intro i
  by_cases hi : i < 7
  · rw [List.getElem?_set, saidI_get a (k + 1) i hi, saidI_length]
    by_cases e : k = i
    · subst e; simp [hi]
    · rw [if_neg e, saidI_get a k i hi]
      have : (i < k + 1) = (i < k) := by apply propext; omega
      simp only [this]
  · rw [List.getElem?_eq_none (by simp [saidI_length]; omega), List.getElem?_eq_none (by simp [saidI_length]; omega)]
theorem cnt1_saidI (a : Int) (N : Nat) (hN : N ≤ 7) : ∀ k : Nat, k ≤ N → cnt 1 ((saidI a N).take k) = cntI a k
  | 0, _ => by simp [cnt, cntI]
  | k + 1, h => by
    rw [cnt_snoc 1 _ k (by rw [saidI_length]; omega), cnt1_saidI a N hN k (by omega), saidI_at a N k (by omega), if_pos (show k < N by omega)]
    simp only [cntI]
    by_cases hb : bitI a k = true <;> simp [hb]
theorem cnt2_saidI (a : Int) (N : Nat) (hN : N ≤ 7) : ∀ k : Nat, k ≤ N → cnt 2 ((saidI a N).take k) = k - cntI a k
  | 0, _ => by simp [cnt, cntI]
  | k + 1, h => by
    rw [cnt_snoc 2 _ k (by rw [saidI_length]; omega), cnt2_saidI a N hN k (by omega), saidI_at a N k (by omega), if_pos (show k < N by omega)]
    simp only [cntI]
    by_cases hb : bitI a k = true <;> simp [hb] <;> omega
theorem won_saidI (a : Int) (N : Nat) (hN : N ≤ 7) : wonB N (saidI a N) = decide ((N : Int) / 2 + 1 ≤ cntI a N) := by
  unfold wonB; rw [cnt1_saidI a N hN N (Nat.le_refl _)]
theorem lost_saidI (a : Int) (N : Nat) (hN : N ≤ 7) : lostB N (saidI a N) = decide (cntI a N < (N : Int) / 2 + 1) := by
  unfold lostB; rw [cnt2_saidI a N hN N (Nat.le_refl _)]; rw [decide_eq_decide]; omega
theorem below_drewN_ (B : Nat) (w : World) (n : Nat) : Below B w (w.drewN n) := ⟨rfl, rfl, rfl, Nat.le_refl _, fun _ _ => rfl⟩

set_option maxHeartbeats 1000000 in
theorem meet_walk (hlives : ∀ w, Calls Try.prog 8 #[] w fun e w' => e = .returned (.bool true) ∧ Below w.heap.size w w') (a b n : Int) (w : World)
    (_ha : 0 ≤ a ∧ a ≤ 255) (_hb : 0 ≤ b ∧ b ≤ 255) (hn : 0 ≤ n ∧ n ≤ 255) :
    Calls Try.prog 6 #[.int .u8 a, .int .u8 b, .int .u8 n] w fun e w' => e = .returned (.bool true) ∧ Below w.heap.size w w' := by
  have HL := Lib.hid hlives
  clear hlives
  obtain ⟨N, hN⟩ : ∃ N : Nat, (N : Int) = 1 + n % 7 := ⟨(1 + n % 7).toNat, by omega⟩
  have hN1 : 1 ≤ N := by omega
  have hN7 : N ≤ 7 := by omega
  have e1 : 1 + n % 7 = (N : Int) := hN.symm
  have HN := Lib.hid hN
  clear hN
  go_enter Try.func6, Try.ntmps6
  go_wp2_with (fail)
  try simp only [e1]
  have E1 := Lib.hid e1
  clear e1
  refine (new_any N _ hN1 hN7).mono ?_; rintro e w' ⟨rfl, rfl⟩
  go_wp2_with (fail)
  refine (new_any N _ hN1 hN7).mono ?_; rintro e w' ⟨rfl, rfl⟩
  go_wp2_with (fail)
  go_loopw [10, 11, 12] (fun c10 c11 c12 wr => ∃ k : Nat, k ≤ N ∧ c12 = .int .i64 k ∧ c11 = .int .i64 (cntI a k) ∧ c10 = .int .i64 (bothI a b k) ∧ IsPoll wr w.heap.size N (saidI a k) ∧ IsPoll wr (w.heap.size + 1) N (saidI b k) ∧ Below w.heap.size w wr)
    (fun _ _ c12 _ => N - (intOf c12).toNat)
  case atStart =>
    refine ⟨0, Nat.zero_le _, rfl, rfl, rfl, ?_, ?_, ((Below.refl _ _).alloc (Nat.le_refl _) _).alloc (by simp) _⟩
    · exact (IsPoll.born N w hN1 hN7).below ((Below.refl (w.heap.size + 1) _).alloc (by simp) _) (by omega)
    · have := IsPoll.born N (w.alloc (.cells #[.int .i64 N, .int .u8 0, .int .u8 0, .int .u8 0, .int .u8 0, .int .u8 0, .int .u8 0, .int .u8 0] 41)) hN1 hN7
      rw [World.size_alloc] at this
      exact this
  case round =>
    obtain ⟨k, hk, rfl, rfl, rfl, hp, hq, hbl⟩ := hrel
    have HP := Lib.hid hp
    have HQ := Lib.hid hq
    clear hp hq
    have bA := cntI_bd a k
    have bB := bothI_bd a b k
    by_cases hkN : k < N
    · have sA := Lib.hid (saidI_set a k)
      have sB := Lib.hid (saidI_set b k)
      have zA := Lib.hid ((saidI_at a k k (by omega)).trans (if_neg (by omega)))
      have zB := Lib.hid ((saidI_at b k k (by omega)).trans (if_neg (by omega)))
      have cA := Lib.hid (show cntI a (k + 1) = cntI a k + (if bitI a k then 1 else 0) from rfl)
      have cB := Lib.hid (show bothI a b (k + 1) = bothI a b k + (if bitI a k && bitI b k then 1 else 0) from rfl)
      have rA : (bits BinOp.and IntKind.u8 (a / 2 ^ k) 1 == 1) = bitI a k := rfl
      have rB : (bits BinOp.and IntKind.u8 (b / 2 ^ k) 1 == 1) = bitI b k := rfl
      generalize bitI a k = x at rA sA cA cB
      generalize bitI b k = y at rB sB cB
      cases x
      all_goals cases y
      all_goals
        go_wp2_with (fail)
        refine (say_on' _ N _ k _ _ HP.out hkN zA.out).mono ?_; rintro e w1 ⟨rfl, hp1, hz1, hg1⟩
        have HP1 := Lib.hid hp1
        have HQ1 := Lib.hid (show IsPoll w1 (w.heap.size + 1) N (saidI b k) from ⟨HQ.out.1, HQ.out.2.1, HQ.out.2.2.1, (hg1.block _ HQ.out.lt (by simp)).trans HQ.out.2.2.2⟩)
        have HB1 := Lib.hid (hbl.grown hg1 hbl.size (fun k e => by cases e; exact Nat.le_refl _))
        clear hp1 hz1 hg1
        go_wp2_with (fail)
        refine (say_on' _ N _ k _ _ HQ1.out hkN zB.out).mono ?_; rintro e w2 ⟨rfl, hq2, hz2, hg2⟩
        have HQ2 := Lib.hid hq2
        have HP2 := Lib.hid (show IsPoll w2 w.heap.size N _ from ⟨HP1.out.1, HP1.out.2.1, HP1.out.2.2.1, (hg2.block _ HP1.out.lt (by simp)).trans HP1.out.2.2.2⟩)
        have HB2 := Lib.hid (HB1.out.grown hg2 HB1.out.size (fun k e => by cases e; exact Nat.le_succ _))
        clear hq2 hz2 hg2
        go_wp2_with (fail)
        go_roundw
        case rel => exact ⟨k + 1, by omega, by go_num, by rw [cA.out]; simp, by rw [cB.out]; simp, by rw [← sA.out]; exact HP2.out, by rw [← sB.out]; exact HQ2.out, HB2.out⟩
        case measure => simp [intOf]; omega
    · obtain rfl : k = N := by omega
      have hwA := won_saidI a k hN7
      have hlA := lost_saidI a k hN7
      have hwB := won_saidI b k hN7
      by_cases hA : (k : Int) / 2 + 1 ≤ cntI a k
      · have wA : wonB k (saidI a k) = true := by rw [hwA]; exact decide_eq_true hA
        have lA : lostB k (saidI a k) = false := by rw [hlA]; exact decide_eq_false (by omega)
        clear hwA hlA
        by_cases hB : (k : Int) / 2 + 1 ≤ cntI b k
        · have wB : wonB k (saidI b k) = true := by rw [hwB]; exact decide_eq_true hB
          have hz : (bothI a b k == 0) = false := by simp; omega
          clear hwB
          go_wp2_with (first | (go_at_call 15; refine (won_any _ k _ _ (by first | exact HP.out | exact HQ.out)).mono ?_; rintro e w' ⟨rfl, m, rfl⟩) | (go_at_call 16; refine (lost_any _ k _ _ (by exact HP.out)).mono ?_; rintro e w' ⟨rfl, m, rfl⟩) | (go_at_call 19; refine (most_any _ _ (by omega) (by omega)).mono ?_; rintro e w' ⟨rfl, rfl⟩) | (go_at_call 8; refine (HL.out _).mono ?_; rintro e w' ⟨rfl, hbb⟩))
          go_ret
          exact ⟨rfl, hbl.trans ((below_drewN_ _ _ _).trans (hbb.mono (by simpa using hbl.size)))⟩
        · have wB : wonB k (saidI b k) = false := by rw [hwB]; exact decide_eq_false hB
          clear hwB
          go_wp2_with (first | (go_at_call 15; refine (won_any _ k _ _ (by first | exact HP.out | exact HQ.out)).mono ?_; rintro e w' ⟨rfl, m, rfl⟩) | (go_at_call 16; refine (lost_any _ k _ _ (by exact HP.out)).mono ?_; rintro e w' ⟨rfl, m, rfl⟩) | (go_at_call 19; refine (most_any _ _ (by omega) (by omega)).mono ?_; rintro e w' ⟨rfl, rfl⟩) | (go_at_call 8; refine (HL.out _).mono ?_; rintro e w' ⟨rfl, hbb⟩))
          go_ret
          exact ⟨rfl, hbl.trans ((below_drewN_ _ _ _).trans (hbb.mono (by simpa using hbl.size)))⟩
      · have wA : wonB k (saidI a k) = false := by rw [hwA]; exact decide_eq_false hA
        have lA : lostB k (saidI a k) = true := by rw [hlA]; exact decide_eq_true (by omega)
        clear hwA hlA hwB
        go_wp2_with (first | (go_at_call 15; refine (won_any _ k _ _ (by first | exact HP.out | exact HQ.out)).mono ?_; rintro e w' ⟨rfl, m, rfl⟩) | (go_at_call 16; refine (lost_any _ k _ _ (by exact HP.out)).mono ?_; rintro e w' ⟨rfl, m, rfl⟩) | (go_at_call 19; refine (most_any _ _ (by omega) (by omega)).mono ?_; rintro e w' ⟨rfl, rfl⟩) | (go_at_call 8; refine (HL.out _).mono ?_; rintro e w' ⟨rfl, hbb⟩))
        go_ret
        exact ⟨rfl, hbl.trans ((below_drewN_ _ _ _).trans (hbb.mono (by simpa using hbl.size)))⟩
end Go.Proofs.Ytameheoiaajmkaa
