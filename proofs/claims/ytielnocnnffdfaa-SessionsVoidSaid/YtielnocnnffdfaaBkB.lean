/- Contracts of sessions.Book: Note and Ask. -/
import Derived.Test.YtielnocnnffdfaaBk
namespace Go.Proofs.Ytielnocnnffdfaa
open Go.RowKit

def updB (B : Nat → Pg) (i : Nat) (p : Pg) : Nat → Pg := fun k => if k = i then p else B k

theorem note_arg (b : Nat) (B : Nat → Pg) (c n E A : Int) (v : Value) (w : World) (h : IsBk w b B) (hc : c < 1 ∨ 8 < c) :
    Calls Try.prog 15 #[.pointer (some ⟨b, 0, none⟩), .int .u8 c, .int .u64 n, repV E A v] w fun e w' => e = .returned (.int .i64 1) ∧ Below w.heap.size w w' := by
  have hm := Lib.hid (show (w.alloc (.cells #[.int .i64 E, .int .i64 A, v] 33)).cell? ⟨b, 32, none⟩ = some (.bool true) from (World.cell?_alloc_lt _ _ _ h.lt).trans h.made)
  have HC := Lib.hid hc
  clear h hc
  go_enter Try.func15, Try.ntmps15
  go_wp2_with (go_at_call 58; refine (page_arg b c _ hm.out HC.out).mono ?_; rintro e w' ⟨rfl, rfl⟩)
  go_ret
  exact ⟨rfl, below_alloc_ _ _⟩

theorem note_long (b i : Nat) (B : Nat → Pg) (n E A : Int) (P : Option Addr) (k c0 : Nat) (w : World) (h : IsBk w b B) (hi : i < 8) (hk : 8 < k) :
    Calls Try.prog 15 #[.pointer (some ⟨b, 0, none⟩), .int .u8 (i + 1), .int .u64 n, repV E A (.slice P k c0)] w fun e w' => e = .returned (.int .i64 1) ∧ Below w.heap.size w w' := by
  have hm := Lib.hid (show (w.alloc (.cells #[.int .i64 E, .int .i64 A, .slice P k c0] 33)).cell? ⟨b, 32, none⟩ = some (.bool true) from (World.cell?_alloc_lt _ _ _ h.lt).trans h.made)
  have hk' : (8 : Int) < (k : Int) := by omega
  clear h
  go_enter Try.func15, Try.ntmps15
  go_wp2_with (go_at_call 58; refine (page_ok b i _ hm.out hi).mono ?_; rintro e w' ⟨rfl, rfl⟩)
  go_ret
  exact ⟨rfl, below_alloc_ _ _⟩

theorem note_old (b i : Nat) (B : Nat → Pg) (n E A : Int) (P : Option Addr) (k c0 : Nat) (w : World) (h : IsBk w b B) (hi : i < 8) (hk : k ≤ 8) (hn : n ≤ (B i).num) :
    Calls Try.prog 15 #[.pointer (some ⟨b, 0, none⟩), .int .u8 (i + 1), .int .u64 n, repV E A (.slice P k c0)] w fun e w' => e = .returned (.int .i64 18) ∧ Below w.heap.size w w' := by
  have hm := Lib.hid (show (w.alloc (.cells #[.int .i64 E, .int .i64 A, .slice P k c0] 33)).cell? ⟨b, 32, none⟩ = some (.bool true) from (World.cell?_alloc_lt _ _ _ h.lt).trans h.made)
  have hk' : ¬ (8 : Int) < (k : Int) := by omega
  have hlt := h.lt
  obtain ⟨V, hb, _⟩ := h
  have hc : w.cell? ⟨b, i * 4, none⟩ = some (.int .u64 (B i).num) := by rw [hb.cell]; exact bkCells_get B V i 0 hi (by omega)
  have hc' : (w.alloc (.cells #[.int .i64 E, .int .i64 A, .slice P k c0] 33)).cell? ⟨b, i * 4, none⟩ = some (.int .u64 (B i).num) := (World.cell?_alloc_lt _ _ _ hlt).trans hc
  clear hb hc hlt
  go_enter Try.func15, Try.ntmps15
  go_wp2_with (go_at_call 58; refine (page_ok b i _ hm.out hi).mono ?_; rintro e w' ⟨rfl, rfl⟩)
  go_ret
  exact ⟨rfl, below_alloc_ _ _⟩

set_option maxHeartbeats 1000000 in
theorem note_new (b i : Nat) (B : Nat → Pg) (n E A : Int) (v : Value) (gs : List (Int × Int)) (w : World) (h : IsBk w b B) (hi : i < 8) (hv : Gs w v gs) (hk : gs.length ≤ 8) (hn : (B i).num < n) (hn2 : n ≤ 18446744073709551615) :
    Calls Try.prog 15 #[.pointer (some ⟨b, 0, none⟩), .int .u8 (i + 1), .int .u64 n, repV E A v] w fun e w' => e = .returned (.int .i64 0) ∧ IsBk w' b (updB B i ⟨n, E, A, gs⟩) ∧ w.grownBy w' (some b) := by
  have hv' : ∃ P c, v = .slice P gs.length c := by obtain ⟨P, c, hv, _⟩ := hv; exact ⟨P, c, hv⟩
  obtain ⟨P0, c0, rfl⟩ := hv'
  have hm := Lib.hid (show (w.alloc (.cells #[.int .i64 E, .int .i64 A, .slice P0 gs.length c0] 33)).cell? ⟨b, 32, none⟩ = some (.bool true) from (World.cell?_alloc_lt _ _ _ h.lt).trans h.made)
  have hk' : ¬ (8 : Int) < (gs.length : Int) := by omega
  have hn' : ¬ n ≤ (B i).num := by omega
  have H := Lib.hid h
  have hlt := h.lt
  have HV := Lib.hid (hv.alloc (.cells #[.int .i64 E, .int .i64 A, .slice P0 gs.length c0] 33))
  obtain ⟨V, hb, _⟩ := h
  have hc : w.cell? ⟨b, i * 4, none⟩ = some (.int .u64 (B i).num) := by rw [hb.cell]; exact bkCells_get B V i 0 hi (by omega)
  have hc' : (w.alloc (.cells #[.int .i64 E, .int .i64 A, .slice P0 gs.length c0] 33)).cell? ⟨b, i * 4, none⟩ = some (.int .u64 (B i).num) := (World.cell?_alloc_lt _ _ _ hlt).trans hc
  clear hb hc hv
  go_enter Try.func15, Try.ntmps15
  go_wp2_with (go_at_call 58; refine (page_ok b i _ hm.out hi).mono ?_; rintro e w' ⟨rfl, rfl⟩)
  refine (own_any E A _ gs _ HV.out (by omega)).mono ?_
  rintro e w1 ⟨P, rfl, ho, hb1⟩
  have HBel := Lib.hid ((below_alloc_ w (.cells #[.int .i64 E, .int .i64 A, .slice P0 gs.length c0] 33)).trans (hb1.mono (by simp)))
  have HO := Lib.hid ho
  obtain ⟨V, hk1, hvs⟩ := H.out.below HBel.out
  have g0 : w1.cell? ⟨b, i * 4, none⟩ = some (.int .u64 (B i).num) := by rw [hk1.cell]; exact bkCells_get B V i 0 hi (by omega)
  have g1 : w1.cell? ⟨b, i * 4 + 1, none⟩ = some (.int .i64 (B i).e) := by rw [hk1.cell]; exact bkCells_get B V i 1 hi (by omega)
  have g2 : w1.cell? ⟨b, i * 4 + 2, none⟩ = some (.int .i64 (B i).a) := by rw [hk1.cell]; exact bkCells_get B V i 2 hi (by omega)
  have g3 : w1.cell? ⟨b, i * 4 + 3, none⟩ = some (V i) := by rw [hk1.cell]; exact bkCells_get B V i 3 hi (by omega)
  have f1 := hk1.free
  have HK := Lib.hid hk1
  have HVS := Lib.hid hvs
  clear ho hb1 hk1 hvs hc'
  go_wp2
  go_ret
  refine ⟨rfl, ⟨fun k => if k = i then .slice P gs.length gs.length else V k, ?_, ?_⟩, ?_⟩
  · have := (((HK.out.set_ (i * 4) (.int .u64 n)).set_ (i * 4 + 1) (.int .i64 E)).set_ (i * 4 + 2) (.int .i64 A)).set_ (i * 4 + 3) (.slice P gs.length gs.length)
    rw [bkCells_set B V i hi ⟨n, E, A, gs⟩] at this
    exact this
  · intro j hj
    have K1 := HK.out.set_ (i * 4) (.int .u64 n)
    have K2 := K1.set_ (i * 4 + 1) (.int .i64 E)
    have K3 := K2.set_ (i * 4 + 2) (.int .i64 A)
    have far : ∀ {v : Value} {k : Nat} {xs : List Value} {D : Nat}, Ow D w1 42 2 v k xs → Ow 0 ((((w1.setCell ⟨b, i * 4, none⟩ (.int .u64 n)).setCell ⟨b, i * 4 + 1, none⟩ (.int .i64 E)).setCell ⟨b, i * 4 + 2, none⟩ (.int .i64 A)).setCell ⟨b, i * 4 + 3, none⟩ (.slice P gs.length gs.length)) 42 2 v k xs :=
      fun h => ((((h.aside HK.out (by decide) _ _).aside K1 (by decide) _ _).aside K2 (by decide) _ _).aside K3 (by decide) _ _).le (Nat.zero_le _)
    by_cases hji : j = i
    · subst hji
      simp only [updB, if_true]
      exact ⟨far HO.out, hk, by have := (HVS.out j hj).2.2.1; omega, hn2⟩
    · simp only [updB, if_neg hji]
      exact ⟨far (HVS.out j hj).1, (HVS.out j hj).2⟩
  · exact grown_trans_ (grown_trans_ (grown_trans_ (grown_trans_ (grown_below_ HBel.out _) (grown_set_ _ b _ _)) (grown_set_ _ b _ _)) (grown_set_ _ b _ _)) (grown_set_ _ b _ _)

/-- Note's answer: whatever is noted. -/
def noteE (B : Nat → Pg) (c n : Int) (k : Nat) : Int := if c < 1 ∨ 8 < c then 1 else if 8 < k then 1 else if n ≤ (B (c - 1).toNat).num then 18 else 0
def noteB (B : Nat → Pg) (c n E A : Int) (gs : List (Int × Int)) : Nat → Pg := if noteE B c n gs.length = 0 then updB B (c - 1).toNat ⟨n, E, A, gs⟩ else B

theorem note_any (b : Nat) (B : Nat → Pg) (c n E A : Int) (v : Value) (gs : List (Int × Int)) (w : World) (h : IsBk w b B) (hv : Gs w v gs) (hn2 : n ≤ 18446744073709551615) :
    Calls Try.prog 15 #[.pointer (some ⟨b, 0, none⟩), .int .u8 c, .int .u64 n, repV E A v] w fun e w' => e = .returned (.int .i64 (noteE B c n gs.length)) ∧ IsBk w' b (noteB B c n E A gs) ∧ w.grownBy w' (some b) := by
  unfold noteB noteE
  by_cases h1 : c < 1 ∨ 8 < c
  · rw [if_pos h1, if_neg (by decide)]
    exact (note_arg b B c n E A v w h h1).mono fun _ _ ⟨he, hb⟩ => ⟨he, h.below hb, grown_below_ hb _⟩
  · rw [if_neg h1]
    obtain ⟨i, hi, rfl⟩ : ∃ i : Nat, i < 8 ∧ c = i + 1 := ⟨(c - 1).toNat, by omega, by omega⟩
    have e1 : ((i : Int) + 1 - 1).toNat = i := by omega
    rw [e1]
    have hv' : ∃ P c, v = .slice P gs.length c := by obtain ⟨P, c, hv, _⟩ := hv; exact ⟨P, c, hv⟩
    obtain ⟨P0, c0, rfl⟩ := hv'
    by_cases h2 : 8 < gs.length
    · rw [if_pos h2, if_neg (by decide)]
      exact (note_long b i B n E A P0 gs.length c0 w h hi h2).mono fun _ _ ⟨he, hb⟩ => ⟨he, h.below hb, grown_below_ hb _⟩
    · rw [if_neg h2]
      by_cases h3 : n ≤ (B i).num
      · rw [if_pos h3, if_neg (by decide)]
        exact (note_old b i B n E A P0 gs.length c0 w h hi (by omega) h3).mono fun _ _ ⟨he, hb⟩ => ⟨he, h.below hb, grown_below_ hb _⟩
      · rw [if_neg h3, if_pos rfl]
        exact note_new b i B n E A _ gs w h hi hv (by omega) (by omega) hn2
end Go.Proofs.Ytielnocnnffdfaa
