/- states.Open of a disk that has a promise. -/
import Derived.Test.YtnegondlkfeleaaDoorRdV
namespace Go.Proofs.YtnegondlkfeleaaDoor
open Go.RowKit

theorem On.file {X : List (Nat × Obj)} {B : Nat} {W w : World} {d : Nat} {nm : ByteArray} {s : Dst} {xs : List Int} {su : Nat} (h : On X B W w d nm s) (hf : s.file = some (xs, su)) : (∀ c ∈ xs, byt c) ∧ xs.length ≤ 1048576 := by
  obtain ⟨F, hd, -, -⟩ := h.ex
  obtain ⟨m, G, -, hk, -⟩ := hd.ex
  rw [hf] at hk
  obtain ⟨f, born, ck, v, -, -, -, -, h1, -, h2, -⟩ := hk
  exact ⟨h1, h2⟩
theorem readS_cases (s : Dst) : (readS s).2 = 17 ∨ readS s = ([], 7) ∨ ∃ xs su, s.file = some (xs, su) ∧ readS s = (xs, 0) := by
  unfold readS
  split
  · exact .inl rfl
  · split
    · exact .inr (.inl rfl)
    · rename_i q hq
      exact .inr (.inr ⟨q.1, q.2, hq, rfl⟩)

set_option maxHeartbeats 1000000 in
set_option maxRecDepth 100000 in
theorem open_ok {X : List (Nat × Obj)} {B : Nat} {W w : World} {d : Nat} {s : Dst} {t v : Nat} (h : On X B W w d ⟨#[115, 116, 97, 116, 101]⟩ s) (he : openS s = (t, v, 0)) (TB : Tab W) (hB0 : 0 < B) :
    Calls Tryd.prog 21 #[.pointer (some ⟨d, 0, none⟩)] w fun e w' => ∃ p, e = .returned (.tuple #[.pointer (some ⟨p, 0, none⟩), .int .i64 0]) ∧ On ((p, prO t v d false) :: X) B W w' d ⟨#[115, 116, 97, 116, 101]⟩ s ∧ w.heap.size ≤ p := by
  rcases readS_cases s with h17 | h7 | ⟨xs, su, hf, hr⟩
  · unfold openS at he
    rw [h17] at he
    simp at he
  · have h0 : t = 0 ∧ v = 0 := by
      unfold openS at he
      rw [h7] at he
      simp at he
      omega
    obtain ⟨rfl, rfl⟩ := h0
    exact open_new h h7
  · have hv : readV xs = (t, v, true) := by
      unfold openS at he
      rw [hr] at he
      simp only [if_true] at he
      split at he
      · rename_i hb
        injection he with e1 e2
        injection e2 with e2 _
        exact Prod.ext e1 (Prod.ext e2 hb)
      · simp at he
    have H := Lib.hid h
    have HF := Lib.hid (h.file hf)
    have HV := Lib.hid hv
    have TT := Lib.hid TB
    clear h hv TB he hf
    go_enter Tryd.func21, Tryd.ntmps21
    go_wp2_with fail
    refine (on_read xs 0 nm_state H.out hr).mono ?_
    rintro e w1 ⟨P1, Y1, rfl, s1, h1, b1⟩
    have S1 := Lib.hid (h1.sl s1 (by intro p hp; exact List.mem_append_left _ hp))
    have O1 := Lib.hid (h1.mono (Y := X) (by intro p hp; exact List.mem_append_right _ hp))
    have B1 := Lib.hid b1.size
    clear h1 b1 s1 hr
    go_wp2_with fail
    have q := sread_any _ xs w1 S1.out HF.out.1 (TT.out.bel hB0 O1.out.bel) (by have := HF.out.2; omega)
    rw [HV.out] at q
    refine q.mono ?_
    rintro e w2 ⟨rfl, b2⟩
    have O2 := Lib.hid ((((O1.out.below b2).alloc (.cells #[.int .u64 t, .int .u8 v] 110))).allocX (prO t v d false))
    have B2 := Lib.hid (show w.heap.size ≤ (w2.alloc (.cells #[.int .u64 t, .int .u8 v] 110)).heap.size from by have := B1.out; have := b2.size; simp; omega)
    clear q b2
    go_wp2_with fail
    go_ret2
    exact ⟨_, rfl, by have := O2.out; rw [World.size_alloc] at this; exact this, by have := B2.out; simpa using this⟩
end Go.Proofs.YtnegondlkfeleaaDoor
