/- DisksFuse: walk. -/
import Derived.Test.YtojafgijhbnjoaaDlv
namespace Go.Proofs.Ytojafgijhbnjoaa
open Go.RowKit

theorem nm_f : Nm ⟨#[102]⟩ := ⟨by decide +kernel, by decide⟩
/-- The disk ahead of round i. -/
def fuF (bs : List Int) (i : Nat) : Option (List Int × Nat) := if i = 0 then none else some (bs.take i, 0)
def fuS (bs : List Int) (many i : Nat) : Dst := if i ≤ many then ⟨fuF bs i, (many : Int) - i, false⟩ else ⟨fuF bs many, 0, true⟩

theorem on_dead_at {X : List (Nat × Obj)} {B : Nat} {W w : World} {d : Nat} {nm : ByteArray} {s : Dst} (b : Bool) (hb : s.dead = b) (h : On X B W w d nm s) :
    Calls Try.prog 10 #[.pointer (some ⟨d, 0, none⟩)] w fun e w' => e = .returned (.bool b) ∧ w = w' := by
  subst hb; exact on_dead h
theorem fuF_size (bs : List Int) (i : Nat) (f : Int) (b : Bool) (hi : i ≤ bs.length) : sizeS ⟨fuF bs i, f, b⟩ = i := by
  unfold fuF sizeS
  split
  · rename_i h; simp [h]
  · simp; omega
theorem fu_ok (bs : List Int) (many i : Nat) (hl : bs.length = 100) (hi : i < 100) (hm : i < many) (hm2 : many < 90) :
    doesS (fuS bs many i) ((sizeS (fuS bs many i) : Nat) + (1 : Nat) : Int) true (fun q => some (q.1 ++ [bs[i]], q.2)) = (fuS bs many (i + 1), 0) := by
  unfold fuS
  rw [if_pos (by omega), if_pos (by omega), fuF_size bs i _ _ (by omega)]
  have h0 : ¬ ((many : Int) - i = 0) := by omega
  have h1 : 0 < (many : Int) - i := by omega
  have h2 : ¬ 1048576 < ((i : Nat) : Int) + ((1 : Nat) : Int) := by omega
  simp only [doesS, burnS, if_neg h0, if_pos h1, if_neg h2]
  simp only [Bool.false_eq_true, if_false, Bool.true_eq_false, and_false]
  congr 1
  have h3 : (many : Int) - ↑i - 1 = ↑many - ↑(i + 1) := by omega
  rw [h3]
  congr 1
  unfold fuF
  rw [if_neg (show ¬ i + 1 = 0 by omega), List.take_succ_eq_append_getElem (by omega)]
  split
  · rename_i h; subst h; simp
  · simp
theorem fu_no (bs : List Int) (many i : Nat) (c : Int) (hl : bs.length = 100) (hi : i < 100) (hm : many ≤ i) :
    doesS (fuS bs many i) ((sizeS (fuS bs many i) : Nat) + (1 : Nat) : Int) true (fun q => some (q.1 ++ [c], q.2)) = (fuS bs many (i + 1), 17) := by
  unfold fuS
  rw [if_neg (show ¬ i + 1 ≤ many by omega)]
  by_cases h : i ≤ many
  · obtain rfl : i = many := by omega
    rw [if_pos (Nat.le_refl _), fuF_size bs i _ _ (by omega)]
    have h2 : ¬ 1048576 < ((i : Nat) : Int) + ((1 : Nat) : Int) := by omega
    have h3 : (i : Int) + 1 ≤ 1048576 := by omega
    simp [doesS, h3]
  · rw [if_neg h]
    simp [doesS]
theorem fu_dead (bs : List Int) (many i : Nat) : (fuS bs many (i + 1)).dead = decide (many ≤ i) := by
  unfold fuS
  by_cases h : i + 1 ≤ many
  · rw [if_pos h, decide_eq_false (by omega)]
  · rw [if_neg h, decide_eq_true (by omega)]

theorem Bs.arr {w : World} {g t n c : Nat} {bs : List Int} (h : Blk w g t (bc bs).toArray) (hn : n ≤ bs.length) (hc : n ≤ c) : Bs w (.slice (some ⟨g, 0, none⟩) n c) (bs.take n) := by
  have hl : (bs.take n).length = n := by simp; omega
  refine ⟨_, _, by rw [hl], by omega, by simp, .inr ⟨g, 0, rfl, h.lt, fun j u hu => ?_⟩⟩
  rw [Nat.zero_add, h.cell]
  have hj : j < n := by
    rcases Nat.lt_or_ge j n with h | h
    · exact h
    · rw [List.getElem?_eq_none (by simp; omega)] at hu; cases hu
  rw [← hu]
  simp [bc, hj]
/-- The disk behind the lift. -/
def fuL (bs : List Int) (many : Nat) : Dst := ⟨if many = 0 then none else some (bs.take many, many), -1, false⟩
theorem fu_lift (bs : List Int) (many : Nat) (hl : bs.length = 100) (hm : many < 90) : liftS (fuS bs many 100) [1000] = fuL bs many := by
  unfold fuS fuL
  rw [if_neg (by omega)]
  unfold fuF
  by_cases h : many = 0
  · subst h; simp [liftS]
  · have hN : liftN [1000] (bs.take many, 0) = many := by
      simp only [liftN, lossAt, List.headD_cons, List.length_take]
      omega
    simp only [liftS, if_neg h, Option.map_some, hN]
    simp [List.take_take]
def fuR (bs : List Int) (many : Nat) : List Int × Int := if many = 0 then ([], 7) else (bs.take many, 0)
theorem fu_read (bs : List Int) (many : Nat) : readS (fuL bs many) = fuR bs many := by
  unfold fuL fuR readS
  by_cases h : many = 0 <;> simp [h]
theorem fu_last (bs : List Int) (many : Nat) (hl : bs.length = 100) (hm : many < 90) : ∃ s, doesS (fuL bs many) ((sizeS (fuL bs many) : Nat) + (bs.length : Nat) : Int) true (fun q => some (q.1 ++ bs, q.2)) = (s, 0) := by
  have hz : sizeS (fuL bs many) ≤ 90 := by
    unfold fuL sizeS
    by_cases h : many = 0 <;> simp [h]
    omega
  have h2 : ¬ 1048576 < ((sizeS (fuL bs many) : Nat) : Int) + (bs.length : Nat) := by omega
  unfold doesS
  rw [if_neg (by simp [fuL]), if_neg (by simp), if_neg h2, if_neg (by simp [fuL])]
  exact ⟨_, rfl⟩

set_option maxHeartbeats 4000000 in
set_option maxRecDepth 100000 in
theorem dfuse_walk (bs : List Int) (n : Nat) (hl : bs.length = 100) (hby : ∀ c ∈ bs, byt c) (hn : n < 256) (w : World) :
    Calls Try.prog 3 #[.agg (bc bs).toArray, .int .u8 n] w fun e w' => e = .returned (.bool true) ∧ Below w.heap.size w w' := by
  have hcells : (Value.agg (bc bs).toArray).cells = (bc bs).toArray := rfl
  have hn' : (n : Int) % 90 = ((n % 90 : Nat) : Int) := by omega
  obtain ⟨many, hmany⟩ : ∃ m, m = n % 90 := ⟨_, rfl⟩
  have hmlt : many < 90 := by omega
  have M := Lib.hid hmany
  rw [← hmany] at hn'
  have KB := Lib.hid (Blk.new w 22 (bc bs).toArray)
  have HL := Lib.hid hl
  have HBY := Lib.hid hby
  have ML := Lib.hid hmlt
  clear hmany hl hby hmlt
  go_enter Try.func3, Try.ntmps3
  go_wp2_with fail
  refine (on_new ⟨#[102]⟩ _).mono ?_
  rintro e w1 ⟨rfl, h1⟩
  simp only [World.size_alloc] at h1
  have H1 := Lib.hid h1
  clear h1
  go_wp2_with fail
  with_reducible refine (on_fuse many (by omega) H1.out).mono ?_
  rintro e w2 ⟨rfl, h2⟩
  have H2 := Lib.hid (show On [] (w.heap.size + 1) (w.alloc (.cells (bc bs).toArray 22)) w2 (w.heap.size + 1 + 1) ⟨#[102]⟩ (fuS bs many 0) from by
    have e0 : max 0 (many : Int) = many := by omega
    simpa [fuS, fuF, e0] using h2)
  clear h2 hcells
  have BW := Lib.hid (below_alloc_ w (.cells (bc bs).toArray 22))
  generalize w.alloc (.cells (bc bs).toArray 22) = W at *
  go_wp2
  go_loopg [7] 100 (fun g c7 wr => ∃ i : Nat, i ≤ 100 ∧ g = 100 - i ∧ c7 = .int .i64 i ∧ On [] (w.heap.size + 1) W wr (w.heap.size + 1 + 1) ⟨#[102]⟩ (fuS bs many i))
  case atStart => exact ⟨0, by omega, rfl, rfl, H2.out⟩
  case round =>
    obtain ⟨i, hi, hg, rfl, hO⟩ := hrel
    have G := Lib.hid hg
    have O := Lib.hid hO
    clear hg hO
    by_cases hi100 : i < 100
    · have hib : i < bs.length := by rw [HL.out]; exact hi100
      have hc : wr.cell? ⟨w.heap.size, i, none⟩ = some (.int .u8 bs[i]) := ((KB.out.below O.out.bel (by omega)).cell i).trans (by simp [bc, hib])
      obtain ⟨c, hcc⟩ : ∃ c, c = bs[i] := ⟨_, rfl⟩
      rw [← hcc] at hc
      have C := Lib.hid hcc
      have HC := Lib.hid (HBY.out _ (List.getElem_mem hib))
      have Y := Lib.hid (Bs.lit wr [c] (by simp))
      have OA := Lib.hid (O.out.alloc (.cells (bc [c]).toArray 5))
      clear hcc
      by_cases hm : i < many
      · have hd : decide (i < many) = true := decide_eq_true hm
        have hm2 : ¬ many ≤ i := by omega
        have hd2 : decide (many ≤ i) = false := decide_eq_false hm2
        go_wp2_with fail
        refine (on_add (fuS bs many (i + 1)) 0 nm_f _ [c] (by intro x hx; simp at hx; subst hx; rw [C.out]; exact HC.out) (by simp) OA.out Y.out (by rw [C.out]; exact fu_ok bs many i HL.out hi100 hm ML.out)).mono ?_
        rintro e w3 ⟨rfl, h3⟩
        have H3 := Lib.hid h3
        clear h3
        go_wp2_with fail
        refine (on_dead H3.out).mono ?_
        rw [fu_dead, hd2]
        rintro e w4 ⟨rfl, rfl⟩
        go_wp2
        go_roundg (100 - (i + 1))
        case measure => have := G.out; omega
        case rel => exact ⟨i + 1, by omega, rfl, by go_num, H3.out⟩
      · have hd : decide (i < many) = false := decide_eq_false hm
        have hm2 : many ≤ i := by omega
        have hd2 : decide (many ≤ i) = true := decide_eq_true hm2
        go_wp2_with fail
        refine (on_add (fuS bs many (i + 1)) 17 nm_f _ [c] (by intro x hx; simp at hx; subst hx; rw [C.out]; exact HC.out) (by simp) OA.out Y.out (fu_no bs many i c HL.out hi100 hm2)).mono ?_
        rintro e w3 ⟨rfl, h3⟩
        have H3 := Lib.hid h3
        clear h3
        go_wp2_with fail
        refine (on_dead H3.out).mono ?_
        rw [fu_dead, hd2]
        rintro e w4 ⟨rfl, rfl⟩
        go_wp2
        go_roundg (100 - (i + 1))
        case measure => have := G.out; omega
        case rel => exact ⟨i + 1, by omega, rfl, by go_num, H3.out⟩
    · obtain rfl : i = 100 := by omega
      go_wp2_with fail
      refine (on_read [] 17 nm_f O.out (by have := ML.out; unfold fuS; rw [if_neg (by omega)]; rfl)).mono ?_
      rintro e w3 ⟨P3, Y3, rfl, -, h3, -⟩
      have H3 := Lib.hid ((h3.mono (Y := []) (by simp)).alloc (.cells #[.int .i64 1000] 3))
      have L3 := Lib.hid (show Rd (w3.alloc (.cells #[.int .i64 1000] 3)) 1 (.slice (some ⟨w3.heap.size, 0, none⟩) 1 1) 1 (lossC [1000]) from ⟨_, _, rfl, Nat.le_refl _, rfl, .inr ⟨w3.heap.size, 0, rfl, by simp, fun j u hu => by
        rw [Nat.zero_add, (Blk.new w3 3 #[.int .i64 1000]).cell]
        simpa [lossC] using hu⟩⟩)
      clear h3
      go_wp2_with fail
      refine (on_lift (fuL bs many) _ [1000] (by simp) H3.out L3.out (fu_lift bs many HL.out ML.out)).mono ?_
      rintro e w4 ⟨rfl, h4⟩
      have H4 := Lib.hid h4
      clear h4
      go_wp2_with fail
      obtain ⟨s', hs'⟩ := fu_last bs many HL.out ML.out
      have LS := Lib.hid hs'
      clear hs'
      by_cases hz : many = 0
      · have R0 := Lib.hid (show fuR bs many = ([], 7) from if_pos hz)
        have hd0 : decide (0 < many) = false := decide_eq_false (by omega)
        have hz' : ¬ 0 < many := by omega
        have HZ := Lib.hid hz
        clear hz
        refine (on_read [] 7 nm_f H4.out ((fu_read bs many).trans R0.out)).mono ?_
        rintro e w5 ⟨P5, Y5, rfl, -, h5, -⟩
        have H5 := Lib.hid (h5.mono (Y := []) (by simp))
        clear h5
        go_wp2_with fail
        go_quiet ((go_at_call 10; exact quiet_left_ (on_dead_at false rfl (H5.out.below (below_drewN_ _ _ _)))))
        go_wp2_with fail
        refine (on_add s' 0 nm_f _ bs HBY.out (by rw [HL.out]; decide) (H5.out.below (below_drewN_ _ _ nq)) (by have := Bs.arr (n := 100) (c := 100) ((KB.out.below H5.out.bel (Nat.lt_succ_self _)).drewN nq) (by rw [HL.out]; decide) (by decide); rw [← HL.out, List.take_length] at this; rw [HL.out] at this; exact this) LS.out).mono ?_
        rintro e w6 ⟨rfl, h6⟩
        have H6 := Lib.hid h6
        clear h6
        go_wp2_with fail
        refine (dlives _).mono ?_
        rintro e w7 ⟨rfl, hb⟩
        go_wp2
        go_ret
        exact ⟨rfl, BW.out.trans ((H6.out.bel.trans (hb.mono H6.out.le)).mono (Nat.le_succ _))⟩
      · have R0 := Lib.hid (show fuR bs many = (bs.take many, 0) from if_neg hz)
        have hd0 : decide (0 < many) = true := decide_eq_true (by omega)
        have hz' : 0 < many := by omega
        have HZ := Lib.hid hz
        clear hz
        refine (on_read (bs.take many) 0 nm_f H4.out ((fu_read bs many).trans R0.out)).mono ?_
        rintro e w5 ⟨P5, Y5, rfl, y5, h5, -⟩
        have hlt : (bs.take many).length = many := by rw [List.length_take, HL.out]; have := ML.out; omega
        rw [hlt] at y5 ⊢
        have c1 := fun q => run_convert_bs (P := Try.prog) ((h5.below (below_drewN_ _ _ q)).sl y5 (by simp)) 28 5 9 Try.underlying28 Try.underlying5 Try.underlying9
        have c2 := fun q => run_convert_bs (P := Try.prog) (Bs.arr (n := many) (c := 100) ((KB.out.below h5.bel (Nat.lt_succ_self _)).drewN q) (by rw [HL.out]; have := ML.out; omega) (by have := ML.out; omega)) 28 5 9 Try.underlying28 Try.underlying5 Try.underlying9
        have H5 := Lib.hid (h5.mono (Y := []) (by simp))
        have hm100 : (many : Int) ≤ 100 := by have := ML.out; omega
        have hm0 : 0 ≤ (many : Int) := by omega
        obtain ⟨S, hS⟩ : ∃ S, S = strOfNums (bs.take many) := ⟨_, rfl⟩
        rw [← hS] at c1 c2
        have HS := Lib.hid hS
        clear h5 y5 hlt hS
        go_wp2_with fail
        go_quiet ((go_at_call 10; exact quiet_left_ (on_dead_at false rfl (H5.out.below (below_drewN_ _ _ _)))))
        go_wp2_with fail
        refine (on_add s' 0 nm_f _ bs HBY.out (by rw [HL.out]; decide) (H5.out.below (below_drewN_ _ _ nq)) (by have := Bs.arr (n := 100) (c := 100) ((KB.out.below H5.out.bel (Nat.lt_succ_self _)).drewN nq) (by rw [HL.out]; decide) (by decide); rw [← HL.out, List.take_length] at this; rw [HL.out] at this; exact this) LS.out).mono ?_
        rintro e w6 ⟨rfl, h6⟩
        have H6 := Lib.hid h6
        clear h6
        go_wp2_with fail
        refine (dlives _).mono ?_
        rintro e w7 ⟨rfl, hb⟩
        go_wp2
        go_ret
        exact ⟨rfl, BW.out.trans ((H6.out.bel.trans (hb.mono H6.out.le)).mono (Nat.le_succ _))⟩
end Go.Proofs.Ytojafgijhbnjoaa
