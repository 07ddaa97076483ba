/- Contracts on api.Reply: a copy of its own; whether two are the same. -/
import Derived.Test.YtielnocnnffdfaaGots
import Derived.Test.YtielnocnnffdfaaCloG
namespace Go.Proofs.Ytielnocnnffdfaa
open Go.RowKit

/-- A reply's value. -/
abbrev repV (E A : Int) (v : Value) : Value := .agg #[.int .i64 E, .int .i64 A, v]

set_option maxHeartbeats 1000000 in
theorem own_any (E A : Int) (v : Value) (gs : List (Int × Int)) (w : World) (h : Gs w v gs) (hn : gs.length ≤ 1000000) :
    Calls Try.prog 59 #[repV E A v] w fun e w' => ∃ P, e = .returned (repV E A (.slice P gs.length gs.length)) ∧ Ow w.heap.size w' 42 2 (.slice P gs.length gs.length) gs.length (gcells gs) ∧ Below w.heap.size w w' := by
  have b1 := (Blk.new w 33 #[.int .i64 E, .int .i64 A, v]).alloc (.cells #[.int .i64 0, .int .i64 0, .slice none 0 0] 33)
  have b2 := Blk.new (w.alloc (.cells #[.int .i64 E, .int .i64 A, v] 33)) 33 #[.int .i64 0, .int .i64 0, .slice none 0 0]
  rw [World.size_alloc] at b2
  have B1 := Lib.hid b1
  have B2 := Lib.hid b2
  have H := Lib.hid ((h.alloc (.cells #[.int .i64 E, .int .i64 A, v] 33)).alloc (.cells #[.int .i64 0, .int .i64 0, .slice none 0 0] 33))
  have hv : ∃ P c, v = .slice P gs.length c := by obtain ⟨P, c, hv, _⟩ := h; exact ⟨P, c, hv⟩
  obtain ⟨P0, c0, rfl⟩ := hv
  clear h b1 b2
  go_enter Try.func59, Try.ntmps59
  go_wp2_with fail
  refine (got_clone_any _ gs.length (gcells gs) _ H.out (gcells_one gs) (by omega) (by omega)).mono ?_
  rintro e w1 ⟨v', rfl, ho, hb⟩
  obtain ⟨P, c', rfl, hcc, ho'⟩ := ho.clip
  have O := Lib.hid (ho'.le (B' := w.heap.size + 2) (by simp))
  have b1 := B1.out.below hb (by simp; omega)
  have b2 := B2.out.below hb (by simp)
  have HB := Lib.hid ((below_alloc2_ w (.cells #[.int .i64 E, .int .i64 A, .slice P0 gs.length c0] 33) (.cells #[.int .i64 0, .int .i64 0, .slice none 0 0] 33)).trans (hb.mono (by simp; omega)))
  have hs1 : w.heap.size + 1 < w1.heap.size := b2.lt
  have c10 := b1.cell 0
  have c11 := b1.cell 1
  have c12 := b1.cell 2
  have c20 := b2.cell 0
  have c21 := b2.cell 1
  have c22 := b2.cell 2
  simp at c10 c11 c12 c20 c21 c22
  have f1 := b1.free
  have f2 := b2.free
  have B1' := Lib.hid b1
  have B2' := Lib.hid b2
  clear ho ho' hb b1 b2
  go_wp2_with fail
  refine (got_clip _ _ _ _ hcc (by omega)).mono ?_
  rintro e w' ⟨rfl, rfl⟩
  go_wp2
  have bf := (((B2'.out.far (p := ⟨w.heap.size, 2, none⟩) (by simp) (.slice P gs.length gs.length)).set_ 0 (.int .i64 E)).set_ 1 (.int .i64 A)).set_ 2 (.slice P gs.length gs.length)
  have r0 := bf.cell 0
  have r1 := bf.cell 1
  have r2 := bf.cell 2
  simp at r0 r1 r2
  refine bodyPost_ret (v := repV E A (.slice P gs.length gs.length)) (by simp [results, Try.results59, go_sem, r0, r1, r2]) rfl ⟨P, rfl, ?_, ?_⟩
  · exact ((((O.out.far (p := ⟨w.heap.size, 2, none⟩) (by simp) _).far (p := ⟨w.heap.size + 1, 0, none⟩) (by simp) _).far (p := ⟨w.heap.size + 1, 1, none⟩) (by simp) _).far (p := ⟨w.heap.size + 1, 2, none⟩) (by simp) _).le (by omega)
  · exact (((HB.out.setCell (p := ⟨w.heap.size, 2, none⟩) (Nat.le_refl _) _).setCell (p := ⟨w.heap.size + 1, 0, none⟩) (Nat.le_succ _) _).setCell (p := ⟨w.heap.size + 1, 1, none⟩) (Nat.le_succ _) _).setCell (p := ⟨w.heap.size + 1, 2, none⟩) (Nat.le_succ _) _

set_option maxHeartbeats 1000000 in
theorem samereply_any (E A F B : Int) (v u : Value) (xs ys : List (Int × Int)) (w : World) (hv : Gs w v xs) (hu : Gs w u ys) (hn : xs.length ≤ 1000000) :
    Calls Try.prog 17 #[repV E A v, repV F B u] w fun e w' => e = .returned (.bool (decide (E = F ∧ A = B ∧ xs = ys))) ∧ Below w.heap.size w w' := by
  have HV := Lib.hid ((hv.alloc (.cells #[.int .i64 E, .int .i64 A, v] 33)).alloc (.cells #[.int .i64 F, .int .i64 B, u] 33))
  have HU := Lib.hid ((hu.alloc (.cells #[.int .i64 E, .int .i64 A, v] 33)).alloc (.cells #[.int .i64 F, .int .i64 B, u] 33))
  clear hv hu
  by_cases h1 : E = F
  · by_cases h2 : A = B
    · have HD := Lib.hid (show decide (xs = ys) = decide (E = F ∧ A = B ∧ xs = ys) by rw [decide_eq_decide]; simp [h1, h2])
      have e1 : (E == F) = true := by simpa using h1
      have e2 : (A == B) = true := by simpa using h2
      clear h1 h2
      go_enter Try.func17, Try.ntmps17
      go_wp2_with fail
      refine (same_gots xs ys _ _ _ HV.out HU.out (by omega)).mono ?_
      rintro e w' ⟨rfl, m, rfl⟩
      go_wp2
      go_ret
      exact ⟨by rw [← HD.out]; rfl, (below_alloc2_ _ _ _).trans (below_drewN_ _ _ _)⟩
    · have HD := Lib.hid (show decide (E = F ∧ A = B ∧ xs = ys) = false from decide_eq_false (fun h => h2 h.2.1))
      have e1 : (E == F) = true := by simpa using h1
      have e2 : (A == B) = false := by simpa using h2
      clear h1 h2
      go_enter Try.func17, Try.ntmps17
      go_wp2
      go_ret
      exact ⟨by rw [HD.out]; rfl, below_alloc2_ _ _ _⟩
  · have HD := Lib.hid (show decide (E = F ∧ A = B ∧ xs = ys) = false from decide_eq_false (fun h => h1 h.1))
    have e1 : (E == F) = false := by simpa using h1
    clear h1
    go_enter Try.func17, Try.ntmps17
    go_wp2
    go_ret
    exact ⟨by rw [HD.out]; rfl, below_alloc2_ _ _ _⟩
end Go.Proofs.Ytielnocnnffdfaa
