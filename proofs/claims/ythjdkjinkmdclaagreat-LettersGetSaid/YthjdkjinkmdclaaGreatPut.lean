/- Putting numbers, numbers with a sign, and bytes: the code's. -/
import Derived.Test.YthjdkjinkmdclaaGreatPlw
import Derived.Laws.Bits64
namespace Go.Proofs.YthjdkjinkmdclaaGreat
open Go.RowKit

theorem xor_ones (a : Nat) (h : a < 18446744073709551616) : a ^^^ 18446744073709551615 = 18446744073709551615 - a := by
  have h1 : (BitVec.ofNat 64 a ^^^ BitVec.allOnes 64).toNat = a ^^^ 18446744073709551615 := by
    rw [BitVec.toNat_xor, BitVec.toNat_ofNat, BitVec.toNat_allOnes, Nat.mod_eq_of_lt h]
  rw [BitVec.xor_allOnes, BitVec.toNat_not, BitVec.toNat_ofNat, Nat.mod_eq_of_lt h] at h1
  omega
theorem zz_pos {n : Int} (h0 : 0 ≤ n) (h2 : n ≤ 9223372036854775807) : bits .xor .u64 (IntKind.u64.wrap (wrap64 (n * 2))) 0 = (zz n : Int) := by
  have e : IntKind.u64.wrap (wrap64 (n * 2)) = ((2 * n).toNat : Int) := by rw [IntKind.wrap_u64]; unfold wrap64; omega
  rw [e, show (0 : Int) = ((0 : Nat) : Int) from rfl, bits_xor_u64_nat _ _ (by omega) (by omega), Nat.xor_zero, zz, if_pos h0]
theorem zz_neg {n : Int} (h0 : ¬ 0 ≤ n) (h1 : -9223372036854775808 ≤ n) : bits .xor .u64 (IntKind.u64.wrap (wrap64 (n * 2))) (IntKind.u64.wrap (-1)) = (zz n : Int) := by
  have e : IntKind.u64.wrap (wrap64 (n * 2)) = ((18446744073709551616 + 2 * n).toNat : Int) := by rw [IntKind.wrap_u64]; unfold wrap64; omega
  rw [e, show IntKind.u64.wrap (-1) = ((18446744073709551615 : Nat) : Int) from by rw [IntKind.wrap_u64]; rfl, bits_xor_u64_nat _ _ (by omega) (by omega), xor_ones _ (by omega), zz, if_neg h0]
  omega


/-- Since W0 nothing has turned but block p and the buffer's block b0. -/
structure Tn (W0 : World) (p : Nat) (b0 : Option Nat) (w : World) : Prop where
  os : w.os = W0.os
  tape : w.tape = W0.tape
  output : w.output = W0.output
  size : W0.heap.size ≤ w.heap.size
  block : ∀ i, i < W0.heap.size → i ≠ p → some i ≠ b0 → w.heap[i]? = W0.heap[i]?
theorem Tn.refl (w : World) (p : Nat) (b : Option Nat) : Tn w p b w := ⟨rfl, rfl, rfl, Nat.le_refl _, fun _ _ _ _ => rfl⟩
theorem Tn.below {W0 w w' : World} {p : Nat} {b0 : Option Nat} (h : Tn W0 p b0 w) (hb : Below w.heap.size w w') : Tn W0 p b0 w' :=
  ⟨hb.os.trans h.os, hb.tape.trans h.tape, hb.output.trans h.output, Nat.le_trans h.size hb.size, fun i hi h1 h2 => (hb.block i (Nat.lt_of_lt_of_le hi h.size)).trans (h.block i hi h1 h2)⟩
theorem Tn.trans {a b c : World} {p : Nat} {b0 b1 : Option Nat} (h : Tn a p b0 b) (h' : Tn b p b1 c) (hb : b1 = b0 ∨ ∀ k, b1 = some k → a.heap.size ≤ k) : Tn a p b0 c :=
  ⟨h'.os.trans h.os, h'.tape.trans h.tape, h'.output.trans h.output, Nat.le_trans h.size h'.size, fun i hi h1 h2 =>
    (h'.block i (Nat.lt_of_lt_of_le hi h.size) h1 (fun e => by
      rcases hb with rfl | hb
      · exact h2 e
      · have := hb i e.symm; omega)).trans (h.block i hi h1 h2)⟩
theorem Tn.blk {W0 w : World} {p : Nat} {b0 : Option Nat} (h : Tn W0 p b0 w) {g : Nat} {t : TypeId} {cs : Array Value} (hk : Blk W0 g t cs) (h1 : g ≠ p) (h2 : some g ≠ b0) : Blk w g t cs := (h.block g hk.lt h1 h2).trans hk
theorem Tn.cell {W0 w : World} {p : Nat} {b0 : Option Nat} (h : Tn W0 p b0 w) {a : Addr} (ha : a.block = p ∨ some a.block = b0) (u : Value) : Tn W0 p b0 (w.setCell a u) :=
  ⟨h.os, h.tape, h.output, by simpa using h.size, fun i hi h1 h2 => (heap_setCell_other w a i u (fun e => by
    rcases ha with ha | ha
    · exact h1 (e.trans ha)
    · exact h2 (by rw [e]; exact ha))).trans (h.block i hi h1 h2)⟩
theorem Tn.to_below {W0 w : World} {p B : Nat} {b0 : Option Nat} (h : Tn W0 p b0 w) (hp : B ≤ p) (hb : ∀ k, b0 = some k → B ≤ k) (hB : B ≤ W0.heap.size) : Below B W0 w :=
  ⟨h.os, h.tape, h.output, h.size, fun i hi => h.block i (by omega) (by omega) (fun e => by have := hb i e.symm; omega)⟩

/-- Bytes being put: the struct in block p, its buffer in the block b (or nowhere). -/
structure Pu (w : World) (p : Nat) (b : Option Nat) (xs : List Int) : Prop where
  ex : ∃ v, Blk w p 170 #[v] ∧ Bo 0 w v xs ∧ v.ownBlock = b
theorem Pu.lt {w : World} {p : Nat} {b : Option Nat} {xs : List Int} (h : Pu w p b xs) : p < w.heap.size := h.ex.elim fun _ hh => hh.1.lt
theorem Pu.blt {w : World} {p : Nat} {b : Option Nat} {xs : List Int} (h : Pu w p b xs) : ∀ k, b = some k → k < w.heap.size := by
  obtain ⟨v, _, ho, rfl⟩ := h.ex; exact ho.lt
theorem Pu.below {w w' : World} {p : Nat} {b : Option Nat} {xs : List Int} (h : Pu w p b xs) (hb : Below w.heap.size w w') : Pu w' p b xs := by
  obtain ⟨v, hk, ho, hv⟩ := h.ex; exact ⟨v, hk.below hb hk.lt, ho.below hb, hv⟩
theorem Pu.alloc {w : World} {p : Nat} {b : Option Nat} {xs : List Int} (h : Pu w p b xs) (o : Obj) : Pu (w.alloc o) p b xs := h.below (below_alloc_ w o)

/-- What a step of putting does: the bytes are behind; nothing else has turned since W0. -/
structure Pv (W0 : World) (p : Nat) (b0 : Option Nat) (w : World) (xs : List Int) : Prop where
  ex : ∃ b, Pu w p b xs ∧ (b = b0 ∨ ∀ k, b = some k → W0.heap.size ≤ k)
  tn : Tn W0 p b0 w
theorem Pu.pv {w : World} {p : Nat} {b : Option Nat} {xs : List Int} (h : Pu w p b xs) : Pv w p b w xs := ⟨⟨b, h, .inl rfl⟩, Tn.refl _ _ _⟩
theorem Pv.trans {W0 w w' : World} {p : Nat} {b0 b1 : Option Nat} {ys : List Int} (ht : Tn W0 p b0 w) (hb : b1 = b0 ∨ ∀ k, b1 = some k → W0.heap.size ≤ k) (h' : Pv w p b1 w' ys) : Pv W0 p b0 w' ys := by
  obtain ⟨⟨b2, hu, h2⟩, ht'⟩ := h'
  refine ⟨⟨b2, hu, ?_⟩, ht.trans ht' hb⟩
  rcases h2 with rfl | h2
  · exact hb
  · exact .inr fun k hk => Nat.le_trans ht.size (h2 k hk)
theorem Pv.below {W0 w w' : World} {p : Nat} {b0 : Option Nat} {xs : List Int} (h : Pv W0 p b0 w xs) (hb : Below w.heap.size w w') : Pv W0 p b0 w' xs := by
  obtain ⟨⟨b, hu, h1⟩, ht⟩ := h; exact ⟨⟨b, hu.below hb, h1⟩, ht.below hb⟩
theorem Pv.alloc {W0 w : World} {p : Nat} {b0 : Option Nat} {xs : List Int} (h : Pv W0 p b0 w xs) (o : Obj) : Pv W0 p b0 (w.alloc o) xs := h.below (below_alloc_ w o)
/-- A block that lay there at W0. -/
theorem Pv.blk {W0 w : World} {p : Nat} {b0 : Option Nat} {xs : List Int} (h : Pv W0 p b0 w xs) {g : Nat} {t : TypeId} {cs : Array Value} (hk : Blk W0 g t cs) (h1 : g ≠ p) (h2 : some g ≠ b0) : Blk w g t cs := h.tn.blk hk h1 h2

/-- The struct is given a new buffer. -/
theorem Pu.store {w w1 : World} {p : Nat} {b : Option Nat} {ys : List Int} {v1 : Value} (ht : Tn w p b w1) (hk : ∃ v, Blk w1 p 170 #[v]) (ho : Bo 0 w1 v1 ys) (hv : v1.ownBlock = b ∨ ∀ k, v1.ownBlock = some k → w.heap.size ≤ k) :
    Pv w p b (w1.setCell ⟨p, 0, none⟩ v1) ys := by
  obtain ⟨v, hk⟩ := hk
  refine ⟨⟨v1.ownBlock, ⟨v1, by have := hk.set_ 0 v1; simpa using this, Ow.aside ho hk (by decide) 0 v1, rfl⟩, hv⟩, ?_⟩
  exact ⟨ht.os, ht.tape, ht.output, by simpa using ht.size, fun i hi h1 h2 => (heap_setCell_other w1 ⟨p, 0, none⟩ i v1 h1).trans (ht.block i hi h1 h2)⟩

set_option maxHeartbeats 1000000 in
theorem pnum_any (p n : Nat) (b : Option Nat) (w : World) (xs : List Int) (h : Pu w p b xs) (hn : n < 18446744073709551616) (hl : xs.length ≤ 70368744177664) :
    Calls Tryz.prog 107 #[.pointer (some ⟨p, 0, none⟩), .int .u64 n] w fun e w' => e = .returned (.tuple #[]) ∧ Pv w p b w' (xs ++ nb n) := by
  have H := Lib.hid h
  obtain ⟨v, hk, ho, hv⟩ := h.ex
  have c0 := hk.cell 0
  simp at c0
  have HK := Lib.hid hk
  have HO := Lib.hid ho
  clear hk ho hv h
  go_enter Tryz.func107, Tryz.ntmps107
  go_wp2_with fail
  refine (num_any v xs n w HO.out.bs hn hl).mono ?_
  rintro e w1 ⟨v1, rfl, ho, hb⟩
  obtain ⟨A1, m1, k1, rfl⟩ := ho.sl
  have HK1 := Lib.hid (HK.out.below hb HK.out.lt)
  have HO1 := Lib.hid ho
  have HB1 := Lib.hid hb
  have f1 := HK1.out.free
  have c1 := HK1.out.cell 0
  simp at c1
  clear ho hb
  go_wp2
  exact bodyPost_end (results_none rfl _ _ _) rfl ⟨rfl, Pu.store ((Tn.refl _ _ _).below HB1.out) ⟨_, HK1.out⟩ (HO1.out.le (Nat.zero_le _)) (.inr fun k hk => Ow.blk_lt HO1.out k hk)⟩

set_option maxHeartbeats 1000000 in
theorem pbyte_any (p : Nat) (c : Int) (b : Option Nat) (w : World) (xs : List Int) (h : Pu w p b xs) (hl : xs.length ≤ 70368744177664) :
    Calls Tryz.prog 108 #[.pointer (some ⟨p, 0, none⟩), .int .u8 c] w fun e w' => e = .returned (.tuple #[]) ∧ Pv w p b w' (xs ++ [c]) := by
  have H := Lib.hid h
  obtain ⟨v, hk, ho, hv⟩ := h.ex
  have c0 := hk.cell 0
  simp at c0
  have HK := Lib.hid hk
  have HF := Lib.hid (show Bf 0 w w v xs from ⟨ho, Below.refl _ _, Nat.zero_le _⟩)
  have HV := Lib.hid hv
  clear hk ho hv h
  go_enter Tryz.func108, Tryz.ntmps108
  go_wp2_with (at_builtin; refine wpList_bf_byteK rfl _ _ 25 rfl Tryz.underlying25 rfl HF.out rfl (by omega) ?_; intro v2 w2 hB2 hK2; obtain ⟨A2, m2, k2, rfl⟩ := hB2.own.sl; have hk2 := Blk.grown HK.out hK2.1 (fun e => by have := (HK.out.cell 0); simp at this; exact (Ow.notat HF.out.own HK.out (by decide) e.symm)); have f1 := hk2.free; have c1 := hk2.cell 0; have HK2 := Lib.hid hk2; have HG2 := Lib.hid hK2; have HB2 := Lib.hid hB2; clear hk2 hB2 hK2; simp at c1)
  refine bodyPost_end (results_none rfl _ _ _) rfl ⟨rfl, Pu.store ?_ ⟨_, HK2.out⟩ HB2.out.own ?_⟩
  · rw [← HV.out]
    exact ⟨HG2.out.1.os, HG2.out.1.tape, HG2.out.1.output, HG2.out.1.size, fun i hi _ h2 => HG2.out.1.block i hi h2⟩
  · rw [← HV.out]; exact HG2.out.2

set_option maxHeartbeats 1000000 in
theorem psign_any (p : Nat) (n : Int) (b : Option Nat) (w : World) (xs : List Int) (h : Pu w p b xs) (h1 : -9223372036854775808 ≤ n) (h2 : n ≤ 9223372036854775807) (hl : xs.length ≤ 70368744177664) :
    Calls Tryz.prog 109 #[.pointer (some ⟨p, 0, none⟩), .int .i64 n] w fun e w' => e = .returned (.tuple #[]) ∧ Pv w p b w' (xs ++ sb n) := by
  have H := Lib.hid h
  have HZ := Lib.hid (zz_lt h1 h2)
  clear h
  by_cases h0 : 0 ≤ n
  · have E1 := Lib.hid (zz_pos h0 h2)
    have e2 : n / 9223372036854775808 = 0 := by omega
    go_enter Tryz.func109, Tryz.ntmps109
    go_wp2_with fail
    rw [E1.out]
    refine (pnum_any p (zz n) b w xs H.out HZ.out hl).mono ?_
    rintro e w1 ⟨rfl, hP⟩
    have HP := Lib.hid hP
    clear hP
    go_wp2
    exact bodyPost_end (results_none rfl _ _ _) rfl ⟨rfl, HP.out⟩
  · have E1 := Lib.hid (zz_neg h0 h1)
    have e2 : n / 9223372036854775808 = -1 := by omega
    go_enter Tryz.func109, Tryz.ntmps109
    go_wp2_with fail
    rw [E1.out]
    refine (pnum_any p (zz n) b w xs H.out HZ.out hl).mono ?_
    rintro e w1 ⟨rfl, hP⟩
    have HP := Lib.hid hP
    clear hP
    go_wp2
    exact bodyPost_end (results_none rfl _ _ _) rfl ⟨rfl, HP.out⟩



/-- The same, from a state that has gone some steps since W0. -/
theorem Pv.chain {f : FuncId} {args : Array Value} {W0 w : World} {p : Nat} {b0 : Option Nat} {xs ys : List Int} (h : Pv W0 p b0 w xs)
    (C : ∀ b, Pu w p b xs → Calls Tryz.prog f args w fun e w' => e = .returned (.tuple #[]) ∧ Pv w p b w' ys) : Calls Tryz.prog f args w fun e w' => e = .returned (.tuple #[]) ∧ Pv W0 p b0 w' ys := by
  obtain ⟨⟨b1, hu, hb⟩, ht⟩ := h
  exact (C b1 hu).mono fun _ _ hh => ⟨hh.1, Pv.trans ht hb hh.2⟩
theorem Pv.base {W W0 w : World} {p : Nat} {b0 : Option Nat} {xs : List Int} (hb : Below W.heap.size W W0) (h : Pv W0 p b0 w xs) : Pv W p b0 w xs := Pv.trans ((Tn.refl _ _ _).below hb) (.inl rfl) h
/-- To go on from a new base, whatever buffer is at hand. -/
theorem Pv.rebase {f : FuncId} {args : Array Value} {W0 w : World} {p : Nat} {b0 : Option Nat} {xs ys : List Int} (h : Pv W0 p b0 w xs)
    (C : ∀ b, Pv w p b w xs → (b = b0 ∨ ∀ k, b = some k → W0.heap.size ≤ k) → (∀ k, b = some k → k < w.heap.size) → Calls Tryz.prog f args w fun e w' => e = .returned (.tuple #[]) ∧ Pv w p b w' ys) : Calls Tryz.prog f args w fun e w' => e = .returned (.tuple #[]) ∧ Pv W0 p b0 w' ys := by
  obtain ⟨⟨b1, hu, hb⟩, ht⟩ := h
  exact (C b1 hu.pv hb hu.blt).mono fun _ _ hh => ⟨hh.1, Pv.trans ht hb hh.2⟩
theorem pnum_v (p n : Nat) (b : Option Nat) (W0 w : World) (xs : List Int) (h : Pv W0 p b w xs) (hn : n < 18446744073709551616) (hl : xs.length + (nb n).length ≤ 70368744177664) :
    Calls Tryz.prog 107 #[.pointer (some ⟨p, 0, none⟩), .int .u64 n] w fun e w' => e = .returned (.tuple #[]) ∧ Pv W0 p b w' (xs ++ nb n) :=
  h.chain fun b' hu => pnum_any p n b' w xs hu hn (by omega)
theorem pbyte_v (p : Nat) (c : Int) (b : Option Nat) (W0 w : World) (xs : List Int) (h : Pv W0 p b w xs) (hl : xs.length + [c].length ≤ 70368744177664) :
    Calls Tryz.prog 108 #[.pointer (some ⟨p, 0, none⟩), .int .u8 c] w fun e w' => e = .returned (.tuple #[]) ∧ Pv W0 p b w' (xs ++ [c]) :=
  h.chain fun b' hu => pbyte_any p c b' w xs hu (by omega)
theorem psign_v (p : Nat) (n : Int) (b : Option Nat) (W0 w : World) (xs : List Int) (h : Pv W0 p b w xs) (hn : in64 n) (hl : xs.length + (sb n).length ≤ 70368744177664) :
    Calls Tryz.prog 109 #[.pointer (some ⟨p, 0, none⟩), .int .i64 n] w fun e w' => e = .returned (.tuple #[]) ∧ Pv W0 p b w' (xs ++ sb n) :=
  h.chain fun b' hu => psign_any p n b' w xs hu hn.1 hn.2 (by omega)
theorem pnumz_v (p : Nat) (x : Int) (b : Option Nat) (W0 w : World) (xs : List Int) (h : Pv W0 p b w xs) (hn : 0 ≤ x ∧ x ≤ 18446744073709551615) (hl : xs.length + (nb x.toNat).length ≤ 70368744177664) :
    Calls Tryz.prog 107 #[.pointer (some ⟨p, 0, none⟩), .int .u64 x] w fun e w' => e = .returned (.tuple #[]) ∧ Pv W0 p b w' (xs ++ nb x.toNat) := by
  obtain ⟨n, rfl⟩ : ∃ n : Nat, x = (n : Int) := ⟨x.toNat, by omega⟩
  rw [Int.toNat_natCast] at hl ⊢
  exact pnum_v p n b W0 w xs h (by omega) hl
/-- The first step of a function that boxes its argument: the box is no block that turns. -/
theorem Pu.box {w : World} {p : Nat} {b : Option Nat} {xs : List Int} (h : Pu w p b xs) (t : TypeId) (cs : Array Value) :
    Pv (w.alloc (.cells cs t)) p b (w.alloc (.cells cs t)) xs ∧ Blk (w.alloc (.cells cs t)) w.heap.size t cs ∧ w.heap.size ≠ p ∧ some w.heap.size ≠ b :=
  ⟨(h.alloc _).pv, Blk.new _ _ _, fun e => by have := h.lt; omega, fun e => by have := h.blt _ e.symm; omega⟩
end Go.Proofs.YthjdkjinkmdclaaGreat
