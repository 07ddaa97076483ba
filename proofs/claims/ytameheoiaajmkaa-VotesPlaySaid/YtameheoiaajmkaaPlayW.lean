/- VotesPlay: walk. -/
import Derived.Test.YtameheoiaajmkaaRefA
import Derived.Deep.RegionHeld3
import Derived.Deep.DrawnRows
namespace Go.Proofs.Ytameheoiaajmkaa
open Go.RowKit
attribute [local go_sem ↓] Go.wp_at_zero Go.wp_at_succ

theorem below_drewN_ (B : Nat) (w : World) (n : Nat) : Below B w (w.drewN n) := ⟨rfl, rfl, rfl, Nat.le_refl _, fun _ _ => rfl⟩

theorem won_as (n : Nat) (S : List Int) : wonB n S = decide ((n : Int) < 2 * cnt 1 (S.take n)) := by
  unfold wonB; rw [decide_eq_decide]; omega
theorem lost_as (n : Nat) (S : List Int) : lostB n S = decide (2 * ((n : Int) - cnt 2 (S.take n)) ≤ n) := by
  unfold lostB; rw [decide_eq_decide]; omega

theorem won_two (b n : Nat) (S : List Int) (W : Bool) (hW : decide ((n : Int) < 2 * cnt 1 (S.take n)) = W) (w : World) (h : IsPoll w b n S) :
    Calls Try.prog 15 #[.pointer (some ⟨b, 0, none⟩)] w fun e w' => e = .returned (.bool W) ∧ ∃ m, w' = w.drewN m := by
  rw [← hW, ← won_as]; exact won_any b n S w h
theorem lost_two (b n : Nat) (S : List Int) (W : Bool) (hW : decide (2 * ((n : Int) - cnt 2 (S.take n)) ≤ n) = W) (w : World) (h : IsPoll w b n S) :
    Calls Try.prog 16 #[.pointer (some ⟨b, 0, none⟩)] w fun e w' => e = .returned (.bool W) ∧ ∃ m, w' = w.drewN m := by
  rw [← hW, ← lost_as]; exact lost_any b n S w h
theorem say_to (b n : Nat) (S S' : List Int) (x : Int) (y : Bool) (w : World) (h : IsPoll w b n S) (hx0 : 0 ≤ x) (hx255 : x ≤ 255) (hS : sayS n S x y = S') :
    Calls Try.prog 11 #[.pointer (some ⟨b, 0, none⟩), .int .u8 x, .bool y] w fun e w' =>
      e = .returned (.bool (sayB n S x)) ∧ IsPoll w' b n S' ∧ w.grownBy w' (some b) := by
  subst hS; exact (say_any b n S x y w h hx0 hx255).mono fun _ _ hh => ⟨hh.1, hh.2.1, hh.2.2.2⟩
theorem refsay_to (pb sb n : Nat) (S S' : List Int) (x : Int) (y : Bool) (w : World) (h : IsRef w pb sb (S.take n)) (hl : n ≤ S.length) (hx0 : 0 ≤ x) (hx255 : x ≤ 255) (hS : sayS n S x y = S') :
    Calls Try.prog 12 #[.pointer (some ⟨pb, 0, none⟩), .int .u8 x, .bool y] w fun e w' =>
      e = .returned (.bool (sayB n S x)) ∧ IsRef w' pb sb (S'.take n) ∧ w.grownBy w' (some sb) := by
  subst hS; exact (refsay_any pb sb n S x y w h hl hx0 hx255).mono fun _ _ hh => ⟨hh.1, hh.2.1, hh.2.2.2⟩

set_option maxHeartbeats 4000000 in
set_option maxRecDepth 100000 in
theorem play_walk (hlives : ∀ w, Calls Try.prog 8 #[] w fun e w' => e = .returned (.bool true) ∧ Below w.heap.size w w') (n : Nat) (lb off len cap : Nat) (X : Nat → Int) (Y : Nat → Bool) (w : World)
    (hn : 1 ≤ n ∧ n ≤ 7) (hlen : len ≤ 200) (hlb : lb < w.heap.size)
    (hc : ∀ k, k < len → w.cell? ⟨lb, off + k * 2, none⟩ = some (.int .u8 (X k)) ∧ w.cell? ⟨lb, off + k * 2 + 1, none⟩ = some (.bool (Y k)) ∧ 0 ≤ X k ∧ X k ≤ 255) :
    Calls Try.prog 3 #[.int .i64 n, .slice (some ⟨lb, off, none⟩) len cap] w fun e w' => e = .returned (.bool true) ∧ Below w.heap.size w w' := by
  have HL := Lib.hid hlives
  have HC := Lib.hid hc
  clear hlives hc
  have hn1 : 1 ≤ n := hn.1
  have hn7 : n ≤ 7 := hn.2
  have e1 : decide ((n : Int) < 1) = false := decide_eq_false (by omega)
  have e2 : decide ((7 : Int) < (n : Int)) = false := decide_eq_false (by omega)
  go_enter Try.func3, Try.ntmps3
  go_wp2_with (fail)
  refine (new_any n _ hn1 hn7).mono ?_; rintro e w' ⟨rfl, rfl⟩
  have p0 := Lib.hid (IsPoll.born n w hn1 hn7)
  have b0 := Lib.hid ((Below.refl w.heap.size w).alloc (Nat.le_refl _) (.cells #[.int .i64 n, .int .u8 0, .int .u8 0, .int .u8 0, .int .u8 0, .int .u8 0, .int .u8 0, .int .u8 0] 41))
  go_wp2_with (fail)
  refine (refnew_any n _ hn7).mono ?_; rintro e w1 ⟨rfl, hr, hb, hz⟩
  rw [World.size_alloc] at hr hb
  have p1 := Lib.hid (p0.out.below hb (Nat.lt_succ_self _))
  have b1 := Lib.hid (b0.out.trans (hb.mono (Nat.le_succ _)))
  have r1 := Lib.hid hr
  clear hr hb hz p0 b0
  go_wp2_with (fail)
  go_loopw [7] (fun c7 wr => ∃ k : Nat, k ≤ len ∧ c7 = .int .i64 k ∧ ∃ S : List Int, IsPoll wr w.heap.size n S ∧ IsRef wr (w.heap.size + 1 + 1) (w.heap.size + 1) (S.take n) ∧ Below w.heap.size w wr)
    (fun c7 _ => len - (intOf c7).toNat)
  case atStart =>
    refine ⟨0, Nat.zero_le _, rfl, zeros7, p1.out, ?_, b1.out⟩
    have : zeros7.take n = List.replicate n 0 := by
      match n, hn1, hn7 with
      | 1, _, _ => rfl
      | 2, _, _ => rfl
      | 3, _, _ => rfl
      | 4, _, _ => rfl
      | 5, _, _ => rfl
      | 6, _, _ => rfl
      | 7, _, _ => rfl
    rw [this]; exact r1.out
  case round =>
    obtain ⟨k, hk, rfl, S, hp, hr, hbl⟩ := hrel
    have HP := Lib.hid hp
    have HR := Lib.hid hr
    clear hp hr
    by_cases hkl : k < len
    · obtain ⟨hcx, hcy, hx0, hx255⟩ := HC.out k hkl
      have hcx' := (hbl.cell (p := ⟨lb, off + k * 2, none⟩) hlb).trans hcx
      have hcy' := (hbl.cell (p := ⟨lb, off + k * 2 + 1, none⟩) hlb).trans hcy
      obtain ⟨x, hxk⟩ : ∃ x, x = X k := ⟨_, rfl⟩
      obtain ⟨y, hyk⟩ : ∃ y, y = Y k := ⟨_, rfl⟩
      rw [← hxk] at hcx' hx0 hx255
      rw [← hyk] at hcy'
      have HBL := Lib.hid hbl
      clear hcx hcy hxk hyk hbl
      obtain ⟨S', hS'⟩ : ∃ S', sayS n S x y = S' := ⟨_, rfl⟩
      have HS' := Lib.hid hS'
      clear hS'
      have hlS := Lib.hid (show n ≤ S.length from by have := HP.out.1; omega)
      have c1 := cnt_take_le 1 S' n
      have c2 := cnt_take_le 2 S' n
      obtain ⟨W, hW⟩ : ∃ W, decide ((n : Int) < 2 * cnt 1 (S'.take n)) = W := ⟨_, rfl⟩
      obtain ⟨L, hL⟩ : ∃ L, decide (2 * ((n : Int) - cnt 2 (S'.take n)) ≤ n) = L := ⟨_, rfl⟩
      have HW := Lib.hid hW
      have HLO := Lib.hid hL
      have hn1' : (1 : Int) ≤ (n : Int) := by omega
      have hn7' : (n : Int) ≤ 7 := by omega
      have m1 : IntKind.i64.wrap (2 * cnt 1 (S'.take n)) = 2 * cnt 1 (S'.take n) := IntWalk.i64_in _ (by omega)
      have m2 : IntKind.i64.wrap ((n : Int) - cnt 2 (S'.take n)) = (n : Int) - cnt 2 (S'.take n) := IntWalk.i64_in _ (by omega)
      have m3 : IntKind.i64.wrap (2 * ((n : Int) - cnt 2 (S'.take n))) = 2 * ((n : Int) - cnt 2 (S'.take n)) := IntWalk.i64_in _ (by omega)
      go_wp2_with (fail)
      go_region_held3 (fun w' => w'.cell? ⟨lb, off + k * 2, none⟩ = some (.int .u8 x) ∧ w'.cell? ⟨lb, off + k * 2 + 1, none⟩ = some (.bool y)) (first | go_keep)
        (first
          | (go_at_call 11; refine (say_to _ n S S' _ _ _ (by exact HP.out) hx0 hx255 HS'.out).mono ?_; rintro e w1 ⟨rfl, hp1, hg1⟩; have HP1 := Lib.hid hp1; have HR1 := Lib.hid (show IsRef w1 (w.heap.size + 1 + 1) (w.heap.size + 1) (S.take n) from (show IsRef wr.drew (w.heap.size + 1 + 1) (w.heap.size + 1) (S.take n) from HR.out).kept hg1 (by omega) (by omega)); have HB1 := Lib.hid ((show Below w.heap.size w wr.drew from HBL.out.drew).grown hg1 HBL.out.size (fun k e => by cases e; exact Nat.le_refl _)); have hx1 : w1.cell? ⟨lb, off + k * 2, none⟩ = some (.int .u8 x) := hg1.cell hcx' (by simp; omega); have hy1 : w1.cell? ⟨lb, off + k * 2 + 1, none⟩ = some (.bool y) := hg1.cell hcy' (by simp; omega); clear hp1 hg1)
          | (go_at_call 12; refine (refsay_to _ _ n S S' _ _ _ (by exact HR1.out) hlS.out hx0 hx255 HS'.out).mono ?_; rintro e w2 ⟨rfl, hr2, hg2⟩; have HR2 := Lib.hid hr2; have HP2 := Lib.hid (HP1.out.kept hg2 (by omega)); have HB2 := Lib.hid (HB1.out.grown hg2 HB1.out.size (fun k e => by cases e; omega)); have hx2 : w2.cell? ⟨lb, off + k * 2, none⟩ = some (.int .u8 x) := hg2.cell hx1 (by simp; omega); have hy2 : w2.cell? ⟨lb, off + k * 2 + 1, none⟩ = some (.bool y) := hg2.cell hy1 (by simp; omega); clear hr2 hg2)
          | (go_at_call 13; refine (yes_any _ n S' _ (by exact HP2.out)).mono ?_; rintro e w' ⟨rfl, m, rfl⟩)
          | (go_at_call 14; refine (refmany_any _ _ (S'.take n) _ _ (by exact HR2.out)).mono ?_; rintro e w' ⟨rfl, rfl⟩)
          | (go_at_call 15; refine (won_two _ n S' W HW.out _ (by exact HP2.out)).mono ?_; rintro e w' ⟨rfl, m, rfl⟩)
          | (go_at_call 16; refine (lost_two _ n S' L HLO.out _ (by exact HP2.out)).mono ?_; rintro e w' ⟨rfl, m, rfl⟩))
      clear m1 m2 m3
      go_wp2
      go_roundw
      case rel => exact ⟨k + 1, by omega, by go_num, S', HP2.out, HR2.out, HB2.out.trans (below_drewN_ _ _ _)⟩
      case measure => simp [intOf]; omega
    · obtain rfl : k = len := by omega
      go_wp2_with (fail)
      refine (HL.out _).mono ?_
      rintro e w' ⟨rfl, hb⟩
      go_wp2
      go_ret
      exact ⟨rfl, hbl.trans (hb.mono hbl.size)⟩
end Go.Proofs.Ytameheoiaajmkaa
