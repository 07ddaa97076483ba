/- Contracts of sessions.Book: New and Ask. -/
import Derived.Test.YtielnocnnffdfaaBkB
namespace Go.Proofs.Ytielnocnnffdfaa
open Go.RowKit

abbrev rz : Array Value := #[.int .i64 0, .int .i64 0, .slice none 0 0]

theorem new_any (w : World) : Calls Try.prog 14 #[] w fun e w' => e = .returned (.pointer (some ⟨w.heap.size, 0, none⟩)) ∧ IsBk w' w.heap.size (fun _ => Pg.zero) ∧ Below w.heap.size w w' := by
  go_enter Try.func14, Try.ntmps14
  go_wp2
  go_ret
  refine ⟨rfl, ⟨fun _ => .slice none 0 0, Blk.new _ _ _, fun i _ => ⟨.inl ⟨rfl, rfl, rfl⟩, Nat.zero_le _, by simp [Pg.zero], by simp [Pg.zero]⟩⟩, below_alloc_ _ _⟩

theorem ask_arg (b : Nat) (B : Nat → Pg) (c n : Int) (w : World) (h : IsBk w b B) (hc : c < 1 ∨ 8 < c) :
    Calls Try.prog 20 #[.pointer (some ⟨b, 0, none⟩), .int .u8 c, .int .u64 n] w fun e w' => e = .returned (.tuple #[repV 0 0 (.slice none 0 0), .bool false, .int .i64 1]) ∧ Below w.heap.size w w' := by
  have hm := Lib.hid (show (w.alloc (.cells rz 33)).cell? ⟨b, 32, none⟩ = some (.bool true) from (World.cell?_alloc_lt _ _ _ h.lt).trans h.made)
  have HC := Lib.hid hc
  clear h hc
  go_enter Try.func20, Try.ntmps20
  go_wp2_with (go_at_call 58; refine (page_arg b c _ hm.out HC.out).mono ?_; rintro e w' ⟨rfl, rfl⟩)
  refine bodyPost_ret (v := .tuple #[repV 0 0 (.slice none 0 0), .bool false, .int .i64 1]) (by simp [results, Try.results20, go_sem]) rfl ⟨rfl, below_alloc_ _ _⟩

theorem ask_new (b i : Nat) (B : Nat → Pg) (n : Int) (w : World) (h : IsBk w b B) (hi : i < 8) (hn : (B i).num < n) :
    Calls Try.prog 20 #[.pointer (some ⟨b, 0, none⟩), .int .u8 (i + 1), .int .u64 n] w fun e w' => e = .returned (.tuple #[repV 0 0 (.slice none 0 0), .bool false, .int .i64 0]) ∧ Below w.heap.size w w' := by
  have hm := Lib.hid (show (w.alloc (.cells rz 33)).cell? ⟨b, 32, none⟩ = some (.bool true) from (World.cell?_alloc_lt _ _ _ h.lt).trans h.made)
  have hlt := h.lt
  obtain ⟨V, hb, _⟩ := h
  have hc : w.cell? ⟨b, i * 4, none⟩ = some (.int .u64 (B i).num) := by rw [hb.cell]; exact bkCells_get B V i 0 hi (by omega)
  have hc' : (w.alloc (.cells rz 33)).cell? ⟨b, i * 4, none⟩ = some (.int .u64 (B i).num) := (World.cell?_alloc_lt _ _ _ hlt).trans hc
  clear hb hc hlt
  go_enter Try.func20, Try.ntmps20
  go_wp2_with (go_at_call 58; refine (page_ok b i _ hm.out hi).mono ?_; rintro e w' ⟨rfl, rfl⟩)
  refine bodyPost_ret (v := .tuple #[repV 0 0 (.slice none 0 0), .bool false, .int .i64 0]) (by simp [results, Try.results20, go_sem]) rfl ⟨rfl, below_alloc_ _ _⟩

theorem ask_old (b i : Nat) (B : Nat → Pg) (n : Int) (w : World) (h : IsBk w b B) (hi : i < 8) (hn : n < (B i).num ∨ n = 0) (hn' : ¬ (B i).num < n) :
    Calls Try.prog 20 #[.pointer (some ⟨b, 0, none⟩), .int .u8 (i + 1), .int .u64 n] w fun e w' => e = .returned (.tuple #[repV 0 0 (.slice none 0 0), .bool false, .int .i64 18]) ∧ Below w.heap.size w w' := by
  have hm := Lib.hid (show (w.alloc (.cells rz 33)).cell? ⟨b, 32, none⟩ = some (.bool true) from (World.cell?_alloc_lt _ _ _ h.lt).trans h.made)
  have hlt := h.lt
  obtain ⟨V, hb, _⟩ := h
  have hc : w.cell? ⟨b, i * 4, none⟩ = some (.int .u64 (B i).num) := by rw [hb.cell]; exact bkCells_get B V i 0 hi (by omega)
  have hc' : (w.alloc (.cells rz 33)).cell? ⟨b, i * 4, none⟩ = some (.int .u64 (B i).num) := (World.cell?_alloc_lt _ _ _ hlt).trans hc
  clear hb hc hlt
  by_cases h1 : n < (B i).num
  · clear hn
    go_enter Try.func20, Try.ntmps20
    go_wp2_with (go_at_call 58; refine (page_ok b i _ hm.out hi).mono ?_; rintro e w' ⟨rfl, rfl⟩)
    refine bodyPost_ret (v := .tuple #[repV 0 0 (.slice none 0 0), .bool false, .int .i64 18]) (by simp [results, Try.results20, go_sem]) rfl ⟨rfl, below_alloc_ _ _⟩
  · have h0 : n = 0 := by omega
    clear hn
    subst h0
    go_enter Try.func20, Try.ntmps20
    go_wp2_with (go_at_call 58; refine (page_ok b i _ hm.out hi).mono ?_; rintro e w' ⟨rfl, rfl⟩)
    refine bodyPost_ret (v := .tuple #[repV 0 0 (.slice none 0 0), .bool false, .int .i64 18]) (by simp [results, Try.results20, go_sem]) rfl ⟨rfl, below_alloc_ _ _⟩

set_option maxHeartbeats 1000000 in
theorem ask_last (b i : Nat) (B : Nat → Pg) (n : Int) (w : World) (h : IsBk w b B) (hi : i < 8) (hn : (B i).num = n) (hn0 : ¬ n = 0) :
    Calls Try.prog 20 #[.pointer (some ⟨b, 0, none⟩), .int .u8 (i + 1), .int .u64 n] w fun e w' => ∃ P, e = .returned (.tuple #[repV (B i).e (B i).a (.slice P (B i).gs.length (B i).gs.length), .bool true, .int .i64 0]) ∧
      Ow w.heap.size w' 42 2 (.slice P (B i).gs.length (B i).gs.length) (B i).gs.length (gcells (B i).gs) ∧ Below w.heap.size w w' := by
  have hm := Lib.hid (show (w.alloc (.cells rz 33)).cell? ⟨b, 32, none⟩ = some (.bool true) from (World.cell?_alloc_lt _ _ _ h.lt).trans h.made)
  have h' := h.below (below_alloc_ w (.cells rz 33))
  obtain ⟨V, hb, hv⟩ := h'
  have c0 : (w.alloc (.cells rz 33)).cell? ⟨b, i * 4, none⟩ = some (.int .u64 (B i).num) := by rw [hb.cell]; exact bkCells_get B V i 0 hi (by omega)
  have c1 : (w.alloc (.cells rz 33)).cell? ⟨b, i * 4 + 1, none⟩ = some (.int .i64 (B i).e) := by rw [hb.cell]; exact bkCells_get B V i 1 hi (by omega)
  have c2 : (w.alloc (.cells rz 33)).cell? ⟨b, i * 4 + 2, none⟩ = some (.int .i64 (B i).a) := by rw [hb.cell]; exact bkCells_get B V i 2 hi (by omega)
  have c3 : (w.alloc (.cells rz 33)).cell? ⟨b, i * 4 + 3, none⟩ = some (V i) := by rw [hb.cell]; exact bkCells_get B V i 3 hi (by omega)
  have hvi := (hv i hi).1.rd
  obtain ⟨E, hE⟩ : ∃ E, E = (B i).e := ⟨_, rfl⟩
  obtain ⟨A, hA⟩ : ∃ A, A = (B i).a := ⟨_, rfl⟩
  obtain ⟨gs, hgs⟩ : ∃ gs, gs = (B i).gs := ⟨_, rfl⟩
  have h8 : gs.length ≤ 8 := by rw [hgs]; exact (hv i hi).2.1
  rw [hn] at c0
  rw [← hE] at c1
  rw [← hA] at c2
  rw [← hgs] at hvi
  rw [← hE, ← hA, ← hgs]
  obtain ⟨P0, k0, hV, _⟩ := id hvi
  rw [hV] at c3 hvi
  have HV := Lib.hid hvi
  have HB := Lib.hid (Blk.new w 33 rz)
  have nb : ¬ n < n := by omega
  clear hb hv hvi hE hA hgs hV hn h
  go_enter Try.func20, Try.ntmps20
  go_wp2_with (go_at_call 58; refine (page_ok b i _ hm.out hi).mono ?_; rintro e w' ⟨rfl, rfl⟩)
  refine (own_any E A _ gs _ HV.out (by omega)).mono ?_
  rintro e w1 ⟨P, rfl, ho, hb1⟩
  have HBel := Lib.hid ((below_alloc_ w (.cells rz 33)).trans (hb1.mono (by simp)))
  have HO := Lib.hid ho
  have hk1 := HB.out.below hb1 (by simp)
  have g0 := hk1.cell 0
  have g1 := hk1.cell 1
  have g2 := hk1.cell 2
  simp at g0 g1 g2
  have f1 := hk1.free
  have HK := Lib.hid hk1
  have hs1 : w.heap.size < w1.heap.size := hk1.lt
  clear ho hb1 hk1 c0 c1 c2 c3
  go_wp2
  have bf := ((HK.out.set_ 0 (.int .i64 E)).set_ 1 (.int .i64 A)).set_ 2 (.slice P gs.length gs.length)
  have r0 := bf.cell 0
  have r1 := bf.cell 1
  have r2 := bf.cell 2
  simp at r0 r1 r2
  refine bodyPost_ret (v := .tuple #[repV E A (.slice P gs.length gs.length), .bool true, .int .i64 0]) (by simp [results, Try.results20, go_sem, r0, r1, r2]) rfl ⟨P, rfl, ?_, ?_⟩
  · exact (((HO.out.far (p := ⟨w.heap.size, 0, none⟩) (by simp) _).far (p := ⟨w.heap.size, 1, none⟩) (by simp) _).far (p := ⟨w.heap.size, 2, none⟩) (by simp) _).le (by simp)
  · exact ((HBel.out.setCell (p := ⟨w.heap.size, 0, none⟩) (Nat.le_refl _) _).setCell (p := ⟨w.heap.size, 1, none⟩) (Nat.le_refl _) _).setCell (p := ⟨w.heap.size, 2, none⟩) (Nat.le_refl _) _

/-- Ask's answer: the reply, whether it is the last, the error. -/
def askR (B : Nat → Pg) (c n : Int) : (Int × Int × List (Int × Int)) × Bool × Int :=
  if c < 1 ∨ 8 < c then ((0, 0, []), false, 1) else if (B (c - 1).toNat).num < n then ((0, 0, []), false, 0) else if n < (B (c - 1).toNat).num ∨ n = 0 then ((0, 0, []), false, 18)
  else (((B (c - 1).toNat).e, (B (c - 1).toNat).a, (B (c - 1).toNat).gs), true, 0)

theorem ask_any (b : Nat) (B : Nat → Pg) (c n : Int) (w : World) (h : IsBk w b B) :
    Calls Try.prog 20 #[.pointer (some ⟨b, 0, none⟩), .int .u8 c, .int .u64 n] w fun e w' => ∃ P, e = .returned (.tuple #[repV (askR B c n).1.1 (askR B c n).1.2.1 (.slice P (askR B c n).1.2.2.length (askR B c n).1.2.2.length), .bool (askR B c n).2.1, .int .i64 (askR B c n).2.2]) ∧
      Ow w.heap.size w' 42 2 (.slice P (askR B c n).1.2.2.length (askR B c n).1.2.2.length) (askR B c n).1.2.2.length (gcells (askR B c n).1.2.2) ∧ Below w.heap.size w w' := by
  unfold askR
  by_cases h1 : c < 1 ∨ 8 < c
  · rw [if_pos h1]
    exact (ask_arg b B c n w h h1).mono fun _ _ ⟨he, hb⟩ => ⟨none, he, .inl ⟨rfl, rfl, rfl⟩, hb⟩
  · rw [if_neg h1]
    obtain ⟨i, hi, rfl⟩ : ∃ i : Nat, i < 8 ∧ c = i + 1 := ⟨(c - 1).toNat, by omega, by omega⟩
    have e1 : ((i : Int) + 1 - 1).toNat = i := by omega
    rw [e1]
    by_cases h2 : (B i).num < n
    · rw [if_pos h2]
      exact (ask_new b i B n w h hi h2).mono fun _ _ ⟨he, hb⟩ => ⟨none, he, .inl ⟨rfl, rfl, rfl⟩, hb⟩
    · rw [if_neg h2]
      by_cases h3 : n < (B i).num ∨ n = 0
      · rw [if_pos h3]
        exact (ask_old b i B n w h hi h3 h2).mono fun _ _ ⟨he, hb⟩ => ⟨none, he, .inl ⟨rfl, rfl, rfl⟩, hb⟩
      · rw [if_neg h3]
        exact ask_last b i B n w h hi (by omega) (by omega)
end Go.Proofs.Ytielnocnnffdfaa
