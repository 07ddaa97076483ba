import Derived.Test.YtoiclicechfmgaaGreatDoorMem
import Derived.Laws.AppendOwnNone
import Derived.Test.YtoiclicechfmgaaGreatDoorPuz
import Derived.Laws.Bits64
import Derived.WalkLawsBesides
/- slices.Clone and slices.Clip at one element type: the same elements in new memory; no room behind. -/
namespace Go.Proofs.YtoiclicechfmgaaGreatDoor
open Go.RowKit

theorem cst_info : (Tryz.prog.info? 235).map (fun i => (i.zero, i.size, i.bytes)) = some (some (.agg #[.int .u8 0, .int .u8 0, .int .u8 0, .int .u8 0, .int .u8 0, .int .i64 0, .int .i64 0, .int .i64 0, .int .i64 0, .int .u64 0]), 10, 48) := by kernel_rfl

theorem cst_clip (A : Option Addr) (n c : Nat) (w : World) (hc : n ≤ c) (hn : n ≤ 4611686018427387904) :
    Calls Tryz.prog 138 #[.slice A n c] w fun e w' => e = .returned (.slice A n n) ∧ w = w' := by
  have h1 : (n : Int) ≤ (c : Int) := by omega
  have h2 : (n : Int) ≤ 4611686018427387904 := by omega
  have h3 : ¬ (c : Int) < (n : Int) := by omega
  go_enter Tryz.func138, Tryz.ntmps138
  go_wp2
  go_ret
  exact ⟨by cases A <;> simp, rfl⟩

theorem cst_clone_nil (w : World) : Calls Tryz.prog 139 #[.slice none 0 0] w fun e w' => e = .returned (.slice none 0 0) ∧ w = w' := by
  have q := fun (w : World) (a : Option Addr) (n c n' c' : Nat) => Lib.run_eql_slice_nil (P := Tryz.prog) w _ _ a n c n' c' Tryz.underlying164
  go_enter Tryz.func139, Tryz.ntmps139
  go_wp2
  go_ret
  exact ⟨rfl, rfl⟩

set_option maxHeartbeats 400000 in
theorem cst_clone_any (v : Value) (n : Nat) (xs : List Value) (w : World) (h : Rd w 10 v n xs) (h1 : ∀ u ∈ xs, u.oneCell' = true) (hn : n * 48 ≤ 140737488355328) (hn2 : n ≤ 4611686018427387904) :
    Calls Tryz.prog 139 #[v] w fun e w' => ∃ v', e = .returned v' ∧ Ow w.heap.size w' 235 10 v' n xs ∧ Below w.heap.size w w' := by
  obtain ⟨A, c, rfl, hc, hl, hcell⟩ := h
  have q := fun (w : World) (a : Option Addr) (n c n' c' : Nat) => Lib.run_eql_slice_nil (P := Tryz.prog) w _ _ a n c n' c' Tryz.underlying164
  obtain ⟨i0, hi, hz0, hz1, hz2⟩ := info_parts cst_info
  have hnm : n ≤ maxLen := by unfold maxLen; omega
  cases A with
  | none =>
    rcases hcell with rfl | ⟨g, o, hA, _⟩
    · have hx : xs = [] := List.eq_nil_of_length_eq_zero (by simpa using hl)
      subst hx
      go_enter Tryz.func139, Tryz.ntmps139
      go_wp2
      go_ret
      exact ⟨_, rfl, .inl ⟨rfl, rfl, rfl⟩, Below.refl _ _⟩
    · cases hA
  | some ad =>
    rcases Nat.eq_zero_or_pos n with h0 | h0
    · subst h0
      have hx : xs = [] := List.eq_nil_of_length_eq_zero (by simpa using hl)
      subst hx
      clear hcell
      go_enter Tryz.func139, Tryz.ntmps139
      go_wp2
      go_ret
      exact ⟨_, rfl, .inr ⟨w.heap.size, 0, #[], rfl, Nat.le_refl _, Blk.new _ _ _, Nat.le_refl _, by simp, by simp, by simp⟩, below_alloc_ _ _⟩
    · rcases hcell with h | ⟨g, o, hA, hg, hcells⟩
      · omega
      · injection hA with hA
        subst hA
        have hown : (w.alloc (.cells #[] 235)).ownsRow w.heap.size 235 10 (.slice (some ⟨w.heap.size, 0, none⟩) 0 0) 0 [] :=
          ⟨by simp, .inr ⟨w.heap.size, 0, #[], rfl, Nat.le_refl _, heap_alloc_new _ _, Nat.le_refl _, by unfold maxLen; omega, by simp, by simp⟩⟩
        have hnews : ∀ j u, xs[j]? = some u → (w.alloc (.cells #[] 235)).cell? ((⟨g, o, none⟩ : Addr).add j) = some u := fun j u hu => by
          have := hcells j u hu
          rw [World.cell?_alloc_lt _ _ _ (by simp [Addr.add]; split <;> exact hg)]
          rcases Nat.eq_zero_or_pos j with hj | hj
          · subst hj; simpa [Addr.add] using this
          · have hj' : ¬ j = 0 := by omega
            simpa [Addr.add, hj'] using this
        have HO := Lib.hid hown
        have HN := Lib.hid hnews
        have HL := Lib.hid hl
        have H1 := Lib.hid h1
        clear hown hnews hl h1 hcells
        go_enter Tryz.func139, Tryz.ntmps139
        go_wp2_with (at_builtin; refine wpList_append_lies _ rfl _ _ 164 rfl w.heap.size 235 i0 (.agg #[.int .u8 0, .int .u8 0, .int .u8 0, .int .u8 0, .int .u8 0, .int .i64 0, .int .i64 0, .int .i64 0, .int .i64 0, .int .u64 0]) 10 48 Tryz.underlying164 hi hz0 hz1 hz2 rfl (by decide) _ _ _ rfl HO.out ⟨g, o, none⟩ n c xs rfl HL.out HN.out H1.out h0 (by simpa using hnm) (by simpa using hn) (by simp) (w.heap.size + 1) (by simp) ?_; intro g' cap' w1 hown' hgrow _ _)
        go_ret
        refine ⟨_, rfl, ?_, ?_⟩
        · have := Ow.of_own hown'
          simpa using this
        · exact (below_alloc_ w _).grown hgrow (by simp) (fun k e => by cases e; exact Nat.le_refl _)
end Go.Proofs.YtoiclicechfmgaaGreatDoor

/- Putting numbers, numbers with a sign, and bytes: the code's. -/
namespace Go.Proofs.YtoiclicechfmgaaGreatDoor
open Go.RowKit

theorem xor_ones (a : Nat) (h : a < 18446744073709551616) : a ^^^ 18446744073709551615 = 18446744073709551615 - a := by
  have h1 : (BitVec.ofNat 64 a ^^^ BitVec.allOnes 64).toNat = a ^^^ 18446744073709551615 := by
    rw [BitVec.toNat_xor, BitVec.toNat_ofNat, BitVec.toNat_allOnes, Nat.mod_eq_of_lt h]
  rw [BitVec.xor_allOnes, BitVec.toNat_not, BitVec.toNat_ofNat, Nat.mod_eq_of_lt h] at h1
  omega
theorem zz_pos {n : Int} (h0 : 0 ≤ n) (h2 : n ≤ 9223372036854775807) : bits .xor .u64 (IntKind.u64.wrap (wrap64 (n * 2))) 0 = (zz n : Int) := by
  have e : IntKind.u64.wrap (wrap64 (n * 2)) = ((2 * n).toNat : Int) := by rw [IntKind.wrap_u64]; unfold wrap64; omega
  rw [e, show (0 : Int) = ((0 : Nat) : Int) from rfl, bits_xor_u64_nat _ _ (by omega) (by omega), Nat.xor_zero, zz, if_pos h0]
theorem zz_neg {n : Int} (h0 : ¬ 0 ≤ n) (h1 : -9223372036854775808 ≤ n) : bits .xor .u64 (IntKind.u64.wrap (wrap64 (n * 2))) (IntKind.u64.wrap (-1)) = (zz n : Int) := by
  have e : IntKind.u64.wrap (wrap64 (n * 2)) = ((18446744073709551616 + 2 * n).toNat : Int) := by rw [IntKind.wrap_u64]; unfold wrap64; omega
  rw [e, show IntKind.u64.wrap (-1) = ((18446744073709551615 : Nat) : Int) from by rw [IntKind.wrap_u64]; rfl, bits_xor_u64_nat _ _ (by omega) (by omega), xor_ones _ (by omega), zz, if_neg h0]
  omega


/-- Since W0 nothing has turned but block p and the buffer's block b0. -/
structure Tn (W0 : World) (p : Nat) (b0 : Option Nat) (w : World) : Prop where
  os : w.os = W0.os
  tape : w.tape = W0.tape
  output : w.output = W0.output
  size : W0.heap.size ≤ w.heap.size
  block : ∀ i, i < W0.heap.size → i ≠ p → some i ≠ b0 → w.heap[i]? = W0.heap[i]?
theorem Tn.refl (w : World) (p : Nat) (b : Option Nat) : Tn w p b w := ⟨rfl, rfl, rfl, Nat.le_refl _, fun _ _ _ _ => rfl⟩
theorem Tn.below {W0 w w' : World} {p : Nat} {b0 : Option Nat} (h : Tn W0 p b0 w) (hb : Below w.heap.size w w') : Tn W0 p b0 w' :=
  ⟨hb.os.trans h.os, hb.tape.trans h.tape, hb.output.trans h.output, Nat.le_trans h.size hb.size, fun i hi h1 h2 => (hb.block i (Nat.lt_of_lt_of_le hi h.size)).trans (h.block i hi h1 h2)⟩
theorem Tn.trans {a b c : World} {p : Nat} {b0 b1 : Option Nat} (h : Tn a p b0 b) (h' : Tn b p b1 c) (hb : b1 = b0 ∨ ∀ k, b1 = some k → a.heap.size ≤ k) : Tn a p b0 c :=
  ⟨h'.os.trans h.os, h'.tape.trans h.tape, h'.output.trans h.output, Nat.le_trans h.size h'.size, fun i hi h1 h2 =>
    (h'.block i (Nat.lt_of_lt_of_le hi h.size) h1 (fun e => by
      rcases hb with rfl | hb
      · exact h2 e
      · have := hb i e.symm; omega)).trans (h.block i hi h1 h2)⟩
theorem Tn.blk {W0 w : World} {p : Nat} {b0 : Option Nat} (h : Tn W0 p b0 w) {g : Nat} {t : TypeId} {cs : Array Value} (hk : Blk W0 g t cs) (h1 : g ≠ p) (h2 : some g ≠ b0) : Blk w g t cs := (h.block g hk.lt h1 h2).trans hk
theorem Tn.cell {W0 w : World} {p : Nat} {b0 : Option Nat} (h : Tn W0 p b0 w) {a : Addr} (ha : a.block = p ∨ some a.block = b0) (u : Value) : Tn W0 p b0 (w.setCell a u) :=
  ⟨h.os, h.tape, h.output, by simpa using h.size, fun i hi h1 h2 => (heap_setCell_other w a i u (fun e => by
    rcases ha with ha | ha
    · exact h1 (e.trans ha)
    · exact h2 (by rw [e]; exact ha))).trans (h.block i hi h1 h2)⟩
theorem Tn.to_below {W0 w : World} {p B : Nat} {b0 : Option Nat} (h : Tn W0 p b0 w) (hp : B ≤ p) (hb : ∀ k, b0 = some k → B ≤ k) (hB : B ≤ W0.heap.size) : Below B W0 w :=
  ⟨h.os, h.tape, h.output, h.size, fun i hi => h.block i (by omega) (by omega) (fun e => by have := hb i e.symm; omega)⟩

/-- Bytes being put: the struct in block p, its buffer in the block b (or nowhere). -/
structure Pu (w : World) (p : Nat) (b : Option Nat) (xs : List Int) : Prop where
  ex : ∃ v, Blk w p 300 #[v] ∧ Bo 0 w v xs ∧ v.ownBlock = b
theorem Pu.lt {w : World} {p : Nat} {b : Option Nat} {xs : List Int} (h : Pu w p b xs) : p < w.heap.size := h.ex.elim fun _ hh => hh.1.lt
theorem Pu.blt {w : World} {p : Nat} {b : Option Nat} {xs : List Int} (h : Pu w p b xs) : ∀ k, b = some k → k < w.heap.size := by
  obtain ⟨v, _, ho, rfl⟩ := h.ex; exact ho.lt
theorem Pu.below {w w' : World} {p : Nat} {b : Option Nat} {xs : List Int} (h : Pu w p b xs) (hb : Below w.heap.size w w') : Pu w' p b xs := by
  obtain ⟨v, hk, ho, hv⟩ := h.ex; exact ⟨v, hk.below hb hk.lt, ho.below hb, hv⟩
theorem Pu.alloc {w : World} {p : Nat} {b : Option Nat} {xs : List Int} (h : Pu w p b xs) (o : Obj) : Pu (w.alloc o) p b xs := h.below (below_alloc_ w o)

/-- What a step of putting does: the bytes are behind; nothing else has turned since W0. -/
structure Pv (W0 : World) (p : Nat) (b0 : Option Nat) (w : World) (xs : List Int) : Prop where
  ex : ∃ b, Pu w p b xs ∧ (b = b0 ∨ ∀ k, b = some k → W0.heap.size ≤ k)
  tn : Tn W0 p b0 w
theorem Pu.pv {w : World} {p : Nat} {b : Option Nat} {xs : List Int} (h : Pu w p b xs) : Pv w p b w xs := ⟨⟨b, h, .inl rfl⟩, Tn.refl _ _ _⟩
theorem Pv.trans {W0 w w' : World} {p : Nat} {b0 b1 : Option Nat} {ys : List Int} (ht : Tn W0 p b0 w) (hb : b1 = b0 ∨ ∀ k, b1 = some k → W0.heap.size ≤ k) (h' : Pv w p b1 w' ys) : Pv W0 p b0 w' ys := by
  obtain ⟨⟨b2, hu, h2⟩, ht'⟩ := h'
  refine ⟨⟨b2, hu, ?_⟩, ht.trans ht' hb⟩
  rcases h2 with rfl | h2
  · exact hb
  · exact .inr fun k hk => Nat.le_trans ht.size (h2 k hk)
theorem Pv.below {W0 w w' : World} {p : Nat} {b0 : Option Nat} {xs : List Int} (h : Pv W0 p b0 w xs) (hb : Below w.heap.size w w') : Pv W0 p b0 w' xs := by
  obtain ⟨⟨b, hu, h1⟩, ht⟩ := h; exact ⟨⟨b, hu.below hb, h1⟩, ht.below hb⟩
theorem Pv.alloc {W0 w : World} {p : Nat} {b0 : Option Nat} {xs : List Int} (h : Pv W0 p b0 w xs) (o : Obj) : Pv W0 p b0 (w.alloc o) xs := h.below (below_alloc_ w o)
/-- A block that lay there at W0. -/
theorem Pv.blk {W0 w : World} {p : Nat} {b0 : Option Nat} {xs : List Int} (h : Pv W0 p b0 w xs) {g : Nat} {t : TypeId} {cs : Array Value} (hk : Blk W0 g t cs) (h1 : g ≠ p) (h2 : some g ≠ b0) : Blk w g t cs := h.tn.blk hk h1 h2

/-- The struct is given a new buffer. -/
theorem Pu.store {w w1 : World} {p : Nat} {b : Option Nat} {ys : List Int} {v1 : Value} (ht : Tn w p b w1) (hk : ∃ v, Blk w1 p 300 #[v]) (ho : Bo 0 w1 v1 ys) (hv : v1.ownBlock = b ∨ ∀ k, v1.ownBlock = some k → w.heap.size ≤ k) :
    Pv w p b (w1.setCell ⟨p, 0, none⟩ v1) ys := by
  obtain ⟨v, hk⟩ := hk
  refine ⟨⟨v1.ownBlock, ⟨v1, by have := hk.set_ 0 v1; simpa using this, Ow.aside ho hk (by decide) 0 v1, rfl⟩, hv⟩, ?_⟩
  exact ⟨ht.os, ht.tape, ht.output, by simpa using ht.size, fun i hi h1 h2 => (heap_setCell_other w1 ⟨p, 0, none⟩ i v1 h1).trans (ht.block i hi h1 h2)⟩

set_option maxHeartbeats 1000000 in
theorem pnum_any (p n : Nat) (b : Option Nat) (w : World) (xs : List Int) (h : Pu w p b xs) (hn : n < 18446744073709551616) (hl : xs.length ≤ 70368744177664) :
    Calls Tryz.prog 164 #[.pointer (some ⟨p, 0, none⟩), .int .u64 n] w fun e w' => e = .returned (.tuple #[]) ∧ Pv w p b w' (xs ++ nb n) := by
  have H := Lib.hid h
  obtain ⟨v, hk, ho, hv⟩ := h.ex
  have c0 := hk.cell 0
  simp at c0
  have HK := Lib.hid hk
  have HO := Lib.hid ho
  clear hk ho hv h
  go_enter Tryz.func164, Tryz.ntmps164
  go_wp2_with fail
  refine (num_any v xs n w HO.out.bs hn hl).mono ?_
  rintro e w1 ⟨v1, rfl, ho, hb⟩
  obtain ⟨A1, m1, k1, rfl⟩ := ho.sl
  have HK1 := Lib.hid (HK.out.below hb HK.out.lt)
  have HO1 := Lib.hid ho
  have HB1 := Lib.hid hb
  have f1 := HK1.out.free
  have c1 := HK1.out.cell 0
  simp at c1
  clear ho hb
  go_wp2
  exact bodyPost_end (results_none rfl _ _ _) rfl ⟨rfl, Pu.store ((Tn.refl _ _ _).below HB1.out) ⟨_, HK1.out⟩ (HO1.out.le (Nat.zero_le _)) (.inr fun k hk => Ow.blk_lt HO1.out k hk)⟩

set_option maxHeartbeats 1000000 in
theorem pbyte_any (p : Nat) (c : Int) (b : Option Nat) (w : World) (xs : List Int) (h : Pu w p b xs) (hl : xs.length ≤ 70368744177664) :
    Calls Tryz.prog 165 #[.pointer (some ⟨p, 0, none⟩), .int .u8 c] w fun e w' => e = .returned (.tuple #[]) ∧ Pv w p b w' (xs ++ [c]) := by
  have H := Lib.hid h
  obtain ⟨v, hk, ho, hv⟩ := h.ex
  have c0 := hk.cell 0
  simp at c0
  have HK := Lib.hid hk
  have HF := Lib.hid (show Bf 0 w w v xs from ⟨ho, Below.refl _ _, Nat.zero_le _⟩)
  have HV := Lib.hid hv
  clear hk ho hv h
  go_enter Tryz.func165, Tryz.ntmps165
  go_wp2_with (at_builtin; refine wpList_bf_byteK rfl _ _ 22 rfl Tryz.underlying22 rfl HF.out rfl (by omega) ?_; intro v2 w2 hB2 hK2; obtain ⟨A2, m2, k2, rfl⟩ := hB2.own.sl; have hk2 := Blk.grown HK.out hK2.1 (fun e => by have := (HK.out.cell 0); simp at this; exact (Ow.notat HF.out.own HK.out (by decide) e.symm)); have f1 := hk2.free; have c1 := hk2.cell 0; have HK2 := Lib.hid hk2; have HG2 := Lib.hid hK2; have HB2 := Lib.hid hB2; clear hk2 hB2 hK2; simp at c1)
  refine bodyPost_end (results_none rfl _ _ _) rfl ⟨rfl, Pu.store ?_ ⟨_, HK2.out⟩ HB2.out.own ?_⟩
  · rw [← HV.out]
    exact ⟨HG2.out.1.os, HG2.out.1.tape, HG2.out.1.output, HG2.out.1.size, fun i hi _ h2 => HG2.out.1.block i hi h2⟩
  · rw [← HV.out]; exact HG2.out.2

set_option maxHeartbeats 1000000 in
theorem psign_any (p : Nat) (n : Int) (b : Option Nat) (w : World) (xs : List Int) (h : Pu w p b xs) (h1 : -9223372036854775808 ≤ n) (h2 : n ≤ 9223372036854775807) (hl : xs.length ≤ 70368744177664) :
    Calls Tryz.prog 197 #[.pointer (some ⟨p, 0, none⟩), .int .i64 n] w fun e w' => e = .returned (.tuple #[]) ∧ Pv w p b w' (xs ++ sb n) := by
  have H := Lib.hid h
  have HZ := Lib.hid (zz_lt h1 h2)
  clear h
  by_cases h0 : 0 ≤ n
  · have E1 := Lib.hid (zz_pos h0 h2)
    have e2 : n / 9223372036854775808 = 0 := by omega
    go_enter Tryz.func197, Tryz.ntmps197
    go_wp2_with fail
    rw [E1.out]
    refine (pnum_any p (zz n) b w xs H.out HZ.out hl).mono ?_
    rintro e w1 ⟨rfl, hP⟩
    have HP := Lib.hid hP
    clear hP
    go_wp2
    exact bodyPost_end (results_none rfl _ _ _) rfl ⟨rfl, HP.out⟩
  · have E1 := Lib.hid (zz_neg h0 h1)
    have e2 : n / 9223372036854775808 = -1 := by omega
    go_enter Tryz.func197, Tryz.ntmps197
    go_wp2_with fail
    rw [E1.out]
    refine (pnum_any p (zz n) b w xs H.out HZ.out hl).mono ?_
    rintro e w1 ⟨rfl, hP⟩
    have HP := Lib.hid hP
    clear hP
    go_wp2
    exact bodyPost_end (results_none rfl _ _ _) rfl ⟨rfl, HP.out⟩



/-- The same, from a state that has gone some steps since W0. -/
theorem Pv.chain {f : FuncId} {args : Array Value} {W0 w : World} {p : Nat} {b0 : Option Nat} {xs ys : List Int} (h : Pv W0 p b0 w xs)
    (C : ∀ b, Pu w p b xs → Calls Tryz.prog f args w fun e w' => e = .returned (.tuple #[]) ∧ Pv w p b w' ys) : Calls Tryz.prog f args w fun e w' => e = .returned (.tuple #[]) ∧ Pv W0 p b0 w' ys := by
  obtain ⟨⟨b1, hu, hb⟩, ht⟩ := h
  exact (C b1 hu).mono fun _ _ hh => ⟨hh.1, Pv.trans ht hb hh.2⟩
theorem Pv.base {W W0 w : World} {p : Nat} {b0 : Option Nat} {xs : List Int} (hb : Below W.heap.size W W0) (h : Pv W0 p b0 w xs) : Pv W p b0 w xs := Pv.trans ((Tn.refl _ _ _).below hb) (.inl rfl) h
/-- To go on from a new base, whatever buffer is at hand. -/
theorem Pv.rebase {f : FuncId} {args : Array Value} {W0 w : World} {p : Nat} {b0 : Option Nat} {xs ys : List Int} (h : Pv W0 p b0 w xs)
    (C : ∀ b, Pv w p b w xs → (b = b0 ∨ ∀ k, b = some k → W0.heap.size ≤ k) → (∀ k, b = some k → k < w.heap.size) → Calls Tryz.prog f args w fun e w' => e = .returned (.tuple #[]) ∧ Pv w p b w' ys) : Calls Tryz.prog f args w fun e w' => e = .returned (.tuple #[]) ∧ Pv W0 p b0 w' ys := by
  obtain ⟨⟨b1, hu, hb⟩, ht⟩ := h
  exact (C b1 hu.pv hb hu.blt).mono fun _ _ hh => ⟨hh.1, Pv.trans ht hb hh.2⟩
theorem pnum_v (p n : Nat) (b : Option Nat) (W0 w : World) (xs : List Int) (h : Pv W0 p b w xs) (hn : n < 18446744073709551616) (hl : xs.length + (nb n).length ≤ 70368744177664) :
    Calls Tryz.prog 164 #[.pointer (some ⟨p, 0, none⟩), .int .u64 n] w fun e w' => e = .returned (.tuple #[]) ∧ Pv W0 p b w' (xs ++ nb n) :=
  h.chain fun b' hu => pnum_any p n b' w xs hu hn (by omega)
theorem pbyte_v (p : Nat) (c : Int) (b : Option Nat) (W0 w : World) (xs : List Int) (h : Pv W0 p b w xs) (hl : xs.length + [c].length ≤ 70368744177664) :
    Calls Tryz.prog 165 #[.pointer (some ⟨p, 0, none⟩), .int .u8 c] w fun e w' => e = .returned (.tuple #[]) ∧ Pv W0 p b w' (xs ++ [c]) :=
  h.chain fun b' hu => pbyte_any p c b' w xs hu (by omega)
theorem psign_v (p : Nat) (n : Int) (b : Option Nat) (W0 w : World) (xs : List Int) (h : Pv W0 p b w xs) (hn : in64 n) (hl : xs.length + (sb n).length ≤ 70368744177664) :
    Calls Tryz.prog 197 #[.pointer (some ⟨p, 0, none⟩), .int .i64 n] w fun e w' => e = .returned (.tuple #[]) ∧ Pv W0 p b w' (xs ++ sb n) :=
  h.chain fun b' hu => psign_any p n b' w xs hu hn.1 hn.2 (by omega)
theorem pnumz_v (p : Nat) (x : Int) (b : Option Nat) (W0 w : World) (xs : List Int) (h : Pv W0 p b w xs) (hn : 0 ≤ x ∧ x ≤ 18446744073709551615) (hl : xs.length + (nb x.toNat).length ≤ 70368744177664) :
    Calls Tryz.prog 164 #[.pointer (some ⟨p, 0, none⟩), .int .u64 x] w fun e w' => e = .returned (.tuple #[]) ∧ Pv W0 p b w' (xs ++ nb x.toNat) := by
  obtain ⟨n, rfl⟩ : ∃ n : Nat, x = (n : Int) := ⟨x.toNat, by omega⟩
  rw [Int.toNat_natCast] at hl ⊢
  exact pnum_v p n b W0 w xs h (by omega) hl
/-- The first step of a function that boxes its argument: the box is no block that turns. -/
theorem Pu.box {w : World} {p : Nat} {b : Option Nat} {xs : List Int} (h : Pu w p b xs) (t : TypeId) (cs : Array Value) :
    Pv (w.alloc (.cells cs t)) p b (w.alloc (.cells cs t)) xs ∧ Blk (w.alloc (.cells cs t)) w.heap.size t cs ∧ w.heap.size ≠ p ∧ some w.heap.size ≠ b :=
  ⟨(h.alloc _).pv, Blk.new _ _ _, fun e => by have := h.lt; omega, fun e => by have := h.blt _ e.symm; omega⟩
end Go.Proofs.YtoiclicechfmgaaGreatDoor

/- Getting numbers and bytes off what is being got: the code's. -/
namespace Go.Proofs.YtoiclicechfmgaaGreatDoor
open Go.RowKit


/-- The panic by which getting ends. -/
def wr (k : Int) : List PanicEntry := [{ v := .iface 222 (.agg #[.int .i64 k]), recovered := false }]

/-- The struct in block g holds these bytes. -/
structure Gt (w : World) (g : Nat) (xs : List Int) : Prop where
  ex : ∃ v, Blk w g 226 #[v] ∧ Bs w v xs ∧ (xs.length = 0 ∨ ∀ k, v.ownBlock = some k → k < g)
  isb : ∀ c ∈ xs, byt c
  len : xs.length ≤ 70368744177664
theorem Gt.lt {w : World} {g : Nat} {xs : List Int} (h : Gt w g xs) : g < w.heap.size := h.ex.elim fun _ hh => hh.1.lt
theorem Gt.below {w w' : World} {g : Nat} {xs : List Int} (h : Gt w g xs) (hb : Below w.heap.size w w') : Gt w' g xs := by
  obtain ⟨⟨v, hk, hv, hw⟩, h1, h2⟩ := h
  exact ⟨⟨v, hk.below hb hk.lt, hv.below hb, hw⟩, h1, h2⟩
theorem Gt.alloc {w : World} {g : Nat} {xs : List Int} (h : Gt w g xs) (o : Obj) : Gt (w.alloc o) g xs := h.below (below_alloc_ w o)
theorem Bs.drop {w : World} {A : Option Addr} {n c : Nat} {xs : List Int} (h : Bs w (.slice A n c) xs) (k : Nat) (hk : k ≤ n) : xs.length = n ∧ n ≤ c ∧ (∀ g o, A = some ⟨g, o, none⟩ → Bs w (.slice (some ⟨g, o + k, none⟩) (n - k) (c - k)) (xs.drop k)) := by
  obtain ⟨A', c', hv, hc, hl, hh⟩ := h
  injection hv with h1 h2 h3
  subst h1; subst h2; subst h3
  refine ⟨rfl, hc, fun g o hA => ⟨_, _, by rw [List.length_drop], by rw [List.length_drop]; omega, by simp, ?_⟩⟩
  rcases hh with h0 | ⟨g', o', hA', hg, hcell⟩
  · left; simp; omega
  · rw [hA'] at hA
    injection hA with hA
    injection hA with e1 e2
    subst e1; subst e2
    right
    refine ⟨g', o' + k, rfl, hg, fun j u hu => ?_⟩
    rw [Nat.add_assoc]
    refine hcell (k + j) u ?_
    rw [← hu]
    simp [bc]

set_option maxHeartbeats 1000000 in
theorem gnum_err (g : Nat) (xs : List Int) (w : World) (h : Gt w g xs) (k : Int) (hk : numP xs = .error k) :
    Calls Tryz.prog 135 #[.pointer (some ⟨g, 0, none⟩)] w fun e w' => e = .panicked (wr k) ∧ w = w' := by
  obtain ⟨⟨v, hb, hv, hw⟩, hby, hl⟩ := id h
  have c0 := hb.cell 0
  simp at c0
  have h0 : ¬ (tk xs).2.2 = 0 ∧ (tk xs).2.2 = k := by
    unfold numP at hk
    split at hk
    · cases hk
    · rename_i hh; injection hk with hk; exact ⟨hh, hk⟩
  have HK := Lib.hid hk
  have HV := Lib.hid hv
  have HB := Lib.hid hby
  obtain ⟨t1, ht1⟩ : ∃ t, t = (tk xs).1 := ⟨_, rfl⟩
  obtain ⟨t2, ht2⟩ : ∃ t, t = (tk xs).2.1 := ⟨_, rfl⟩
  have E := Lib.hid (show tk xs = (t1, t2, k) by rw [ht1, ht2, ← h0.2])
  have hk0 : ¬ k = 0 := by rw [← h0.2]; exact h0.1
  clear hb hv hby hk ht1 ht2 h0 h
  go_enter Tryz.func135, Tryz.ntmps135
  go_wp2_with fail
  refine (take_any v xs w HV.out HB.out hl).mono ?_
  rintro e w1 ⟨rfl, rfl⟩
  rw [E.out]
  go_wp2
  exact ⟨rfl, rfl, rfl⟩

theorem tkGo_ok : ∀ (f i acc : Nat) (xs : List Int) (n s : Nat), f + i = 10 → acc < 2 ^ (7 * i) → (∀ c ∈ xs, byt c) → tkGo f i acc xs = (n, s, 0) → i < s ∧ s ≤ i + xs.length ∧ n < 18446744073709551616
  | 0, _, _, _, _, _, _, _, _, h => by simp [tkGo] at h
  | f + 1, i, acc, [], _, _, _, _, _, h => by simp [tkGo] at h
  | f + 1, i, acc, c :: rest, n, s, hf, ha, hb, h => by
    have hc := hb c (by simp)
    rw [tkGo] at h
    split at h
    · simp at h
    · rename_i h1
      split at h
      · rename_i h2
        split at h
        · simp at h
        · injection h with e1 e2
          injection e2 with e2 _
          subst e1; subst e2
          refine ⟨by omega, by simp, ?_⟩
          have hm : c.toNat % 128 < 128 := Nat.mod_lt _ (by omega)
          by_cases h9 : i = 9
          · subst h9
            have : c.toNat % 128 ≤ 1 := by have := hc.1; omega
            have h3 : c.toNat % 128 * 2 ^ (7 * 9) ≤ 1 * 2 ^ (7 * 9) := Nat.mul_le_mul_right _ this
            omega
          · have h4 := acc_next ha hm
            have : 2 ^ (7 * (i + 1)) ≤ 2 ^ 63 := Nat.pow_le_pow_right (by omega) (by omega)
            omega
      · have := tkGo_ok f (i + 1) _ rest n s (by omega) (acc_next ha (Nat.mod_lt _ (by omega))) (fun x hx => hb x (by simp [hx])) h
        simp only [List.length_cons]
        omega
theorem tk_ok {xs : List Int} {n s : Nat} (hb : ∀ c ∈ xs, byt c) (h : tk xs = (n, s, 0)) : 0 < s ∧ s ≤ xs.length ∧ n < 18446744073709551616 := by
  have := tkGo_ok 10 0 0 xs n s rfl (by simp) hb h
  omega
theorem numP_ok {xs r : List Int} {n : Nat} (h : numP xs = .ok (n, r)) : ∃ s, tk xs = (n, s, 0) ∧ r = xs.drop s := by
  unfold numP at h
  split at h
  · rename_i h0
    injection h with h
    injection h with h1 h2
    exact ⟨(tk xs).2.1, by rw [← h1, ← h0], h2.symm⟩
  · cases h
theorem Gt.lt_num {w : World} {g : Nat} {xs r : List Int} {n : Nat} (h : Gt w g xs) (hk : numP xs = .ok (n, r)) : n < 18446744073709551616 := by
  exact (numP_ok hk).elim fun s hs => (tk_ok h.isb hs.1).2.2

/-- Bytes are not told by a block that holds a slice. -/
theorem Bs.store {w : World} {g t : Nat} {a b : Option Addr} {n c n' c' : Nat} {u : Value} {ys : List Int} (hk : Blk w g t #[.slice a n c]) (h : Bs w u ys) : Bs (w.setCell ⟨g, 0, none⟩ (.slice b n' c')) u ys := by
  obtain ⟨A, k, rfl, hc, hl, hh⟩ := h
  refine ⟨A, k, rfl, hc, hl, ?_⟩
  rcases hh with h0 | ⟨gb, o, rfl, hgl, hcell⟩
  · exact .inl h0
  · cases ys with
    | nil => exact .inl rfl
    | cons y ys =>
      have hne : gb ≠ g := by
        rintro rfl
        have h1 := hcell 0 (.int .u8 y) rfl
        rw [hk.cell] at h1
        cases o with
        | zero => simp at h1
        | succ o => simp at h1
      exact .inr ⟨gb, o, rfl, by simpa using hgl, fun j u hu => (World.cell?_of_block (a := ⟨gb, o + j, none⟩) (heap_setCell_other w ⟨g, 0, none⟩ gb _ hne)).trans (hcell j u hu)⟩
theorem Gt.store {w : World} {g : Nat} {a b : Option Addr} {n c n' c' : Nat} {ys : List Int} (hk : Blk w g 226 #[.slice a n c]) (h : Bs w (.slice b n' c') ys) (hb : ∀ y ∈ ys, byt y) (hl : ys.length ≤ 70368744177664)
    (hw : ys.length = 0 ∨ ∀ k, (Value.slice b n' c').ownBlock = some k → k < g) : Gt (w.setCell ⟨g, 0, none⟩ (.slice b n' c')) g ys :=
  ⟨⟨_, by have := hk.set_ 0 (.slice b n' c'); simpa using this, h.store hk, hw⟩, hb, hl⟩
theorem Bs.empty {w : World} {A : Option Addr} {n c : Nat} {ys : List Int} (h : ys = []) (hn : n = 0) : Bs w (.slice A n c) ys := by
  subst h; subst hn; exact ⟨A, c, rfl, Nat.zero_le _, rfl, .inl rfl⟩

set_option maxHeartbeats 1000000 in
theorem gnum_ok (g : Nat) (xs : List Int) (w : World) (h : Gt w g xs) (n : Nat) (r : List Int) (hk : numP xs = .ok (n, r)) :
    Calls Tryz.prog 135 #[.pointer (some ⟨g, 0, none⟩)] w fun e w' => e = .returned (.int .u64 n) ∧ Gt w' g r ∧ w.grownBy w' (some g) := by
  obtain ⟨s, hs, rfl⟩ := numP_ok hk
  obtain ⟨hs0, hs1, hn⟩ := tk_ok h.isb hs
  obtain ⟨⟨v, hb, hv, hw⟩, hby, hl⟩ := id h
  obtain ⟨A, c, rfl, hc, hlx, hh⟩ := id hv
  rcases hh with h0 | ⟨gb, o, rfl, hgl, -⟩
  · omega
  have hgb : gb < g := by
    rcases hw with h0 | hw
    · omega
    · exact hw gb rfl
  clear hw
  obtain ⟨_, _, hd⟩ := Bs.drop hv s hs1
  have HD := Lib.hid (hd gb o rfl)
  have hbc := hb.cell 0
  have hfz := hb.free
  simp at hbc
  have HK := Lib.hid hb
  have HV := Lib.hid hv
  have HB := Lib.hid hby
  have HL := Lib.hid hl
  have HH := Lib.hid h
  have E := Lib.hid hs
  obtain ⟨m, hm⟩ : ∃ m, m = xs.length := ⟨_, rfl⟩
  have M := Lib.hid hm
  rw [← hm] at hs1 hc hbc HD HV HK hl
  have hs1' : (s : Int) ≤ m := by omega
  have hsc' : (s : Int) ≤ c := by omega
  have hmc' : (m : Int) ≤ c := by omega
  have hml' : (m : Int) ≤ 70368744177664 := by omega
  clear hb hv hby hk h hs hd hlx hm hl hs1 hc
  go_enter Tryz.func135, Tryz.ntmps135
  go_wp2_with fail
  refine (take_any _ xs w HV.out HB.out HL.out).mono ?_
  rintro e w1 ⟨rfl, rfl⟩
  rw [E.out]
  have hby2 : ∀ y ∈ xs.drop s, byt y := fun y hy => HB.out y (List.mem_of_mem_drop hy)
  have hl2 : (xs.drop s).length ≤ 70368744177664 := by rw [List.length_drop]; have := HL.out; omega
  have HY := Lib.hid hby2
  have HL2 := Lib.hid hl2
  clear hby2 hl2
  go_wp2
  · refine bodyPost_ret (results_tmp rfl _ _ _) rfl ⟨rfl, Gt.store HK.out (Bs.empty ?_ (by omega)) HY.out HL2.out (.inr (fun k hk => by simp [Value.ownBlock] at hk; omega)), grown_set_ _ _ _ _⟩
    exact List.drop_of_length_le (by have := M.out; omega)
  · exact bodyPost_ret (results_tmp rfl _ _ _) rfl ⟨rfl, Gt.store HK.out HD.out HY.out HL2.out (.inr (fun k hk => by simp [Value.ownBlock] at hk; omega)), grown_set_ _ _ _ _⟩

theorem xor_i64_0 {a : Nat} (h : a < 9223372036854775808) : bits .xor .i64 (a : Int) 0 = a := by
  have h1 : (BitVec.ofInt 64 (a : Int)).toNat = a := by
    rw [BitVec.ofInt_natCast, BitVec.toNat_ofNat]; exact Nat.mod_eq_of_lt (by omega)
  show IntKind.i64.wrap ((BitVec.ofInt 64 (a : Int) ^^^ BitVec.ofInt 64 0).toNat : Int) = _
  rw [show BitVec.ofInt 64 0 = 0#64 from rfl, BitVec.xor_zero, h1, IntKind.wrap_i64]
  omega
theorem xor_i64_1 {a : Nat} (h : a < 9223372036854775808) : bits .xor .i64 (a : Int) (-1) = -(a : Int) - 1 := by
  have h1 : (BitVec.ofInt 64 (a : Int)).toNat = a := by
    rw [BitVec.ofInt_natCast, BitVec.toNat_ofNat]; exact Nat.mod_eq_of_lt (by omega)
  show IntKind.i64.wrap ((BitVec.ofInt 64 (a : Int) ^^^ BitVec.ofInt 64 (-1)).toNat : Int) = _
  rw [show BitVec.ofInt 64 (-1) = BitVec.allOnes 64 from rfl, BitVec.xor_allOnes, BitVec.toNat_not, h1, IntKind.wrap_i64]
  omega

theorem signP_ok {xs r : List Int} {a : Int} (h : signP xs = .ok (a, r)) : ∃ n, numP xs = .ok (n, r) ∧ a = unzz n := by
  unfold signP bindP at h
  split at h
  · rename_i n r' hn; injection h with h; injection h with h1 h2; subst h2; exact ⟨n, hn, h1.symm⟩
  · cases h
theorem signP_err {xs : List Int} {k : Int} (h : signP xs = .error k) : numP xs = .error k := by
  unfold signP bindP at h
  split at h
  · cases h
  · rename_i e hn; injection h with h; subst h; exact hn

theorem gsign_err (g : Nat) (xs : List Int) (w : World) (h : Gt w g xs) (k : Int) (hk : signP xs = .error k) :
    Calls Tryz.prog 162 #[.pointer (some ⟨g, 0, none⟩)] w fun e w' => e = .panicked (wr k) ∧ w = w' := by
  have H := Lib.hid h
  have HK := Lib.hid (signP_err hk)
  clear h hk
  go_enter Tryz.func162, Tryz.ntmps162
  go_wp2_with fail
  refine (gnum_err g xs w H.out k HK.out).mono ?_
  rintro e w1 ⟨rfl, rfl⟩
  go_wp2
  exact ⟨rfl, rfl, rfl⟩

theorem unzz_even {n : Nat} (_hn : n < 18446744073709551616) (h : n % 2 = 0) : unzz n = ((n / 2 : Nat) : Int) := by rw [unzz, if_pos h]
theorem unzz_odd {n : Nat} (_hn : n < 18446744073709551616) (h : ¬ n % 2 = 0) : unzz n = -((n / 2 : Nat) : Int) - 1 := by rw [unzz, if_neg h]

set_option maxHeartbeats 1000000 in
theorem gsign_ok (g : Nat) (xs : List Int) (w : World) (h : Gt w g xs) (a : Int) (r : List Int) (hk : signP xs = .ok (a, r)) :
    Calls Tryz.prog 162 #[.pointer (some ⟨g, 0, none⟩)] w fun e w' => e = .returned (.int .i64 a) ∧ Gt w' g r ∧ w.grownBy w' (some g) := by
  obtain ⟨n, hn, rfl⟩ := signP_ok hk
  have hlt := h.lt_num hn
  have H := Lib.hid h
  have HN := Lib.hid hn
  clear h hk hn
  have hd : ((n / 2 : Nat) : Int) = (n : Int) / 2 := by omega
  have hlt' : (n : Int) ≤ 18446744073709551615 := by omega
  by_cases h2 : n % 2 = 0
  · have e1 : bits .and .u64 (n : Int) 1 = 0 := by rw [and_one_u64 _ (by omega) (by omega)]; omega
    have E := Lib.hid (unzz_even hlt h2)
    have X := Lib.hid (xor_i64_0 (a := n / 2) (by omega))
    go_enter Tryz.func162, Tryz.ntmps162
    go_wp2_with fail
    refine (gnum_ok g xs w H.out n r HN.out).mono ?_
    rintro e w1 ⟨rfl, hG, hg⟩
    have HG := Lib.hid hG
    have Hg := Lib.hid hg
    clear hG hg
    have x := X.out
    rw [hd] at x
    go_wp2
    refine bodyPost_ret (results_tmp rfl _ _ _) rfl ⟨?_, HG.out, Hg.out⟩
    rw [E.out, hd, ← x]
    rfl
  · have e1 : bits .and .u64 (n : Int) 1 = 1 := by rw [and_one_u64 _ (by omega) (by omega)]; omega
    have E := Lib.hid (unzz_odd hlt h2)
    have X := Lib.hid (xor_i64_1 (a := n / 2) (by omega))
    go_enter Tryz.func162, Tryz.ntmps162
    go_wp2_with fail
    refine (gnum_ok g xs w H.out n r HN.out).mono ?_
    rintro e w1 ⟨rfl, hG, hg⟩
    have HG := Lib.hid hG
    have Hg := Lib.hid hg
    clear hG hg
    have x := Lib.hid (hd ▸ X.out)
    go_wp2
    refine bodyPost_ret (results_tmp rfl _ _ _) rfl ⟨?_, HG.out, Hg.out⟩
    rw [E.out, ← X.out, hd]
    rfl

theorem gbyte_err (g : Nat) (xs : List Int) (w : World) (h : Gt w g xs) (k : Int) (hk : byteP xs = .error k) :
    Calls Tryz.prog 136 #[.pointer (some ⟨g, 0, none⟩)] w fun e w' => e = .panicked (wr k) ∧ w = w' := by
  cases xs with
  | cons c r => cases hk
  | nil =>
    injection hk with hk
    subst hk
    obtain ⟨⟨v, hb, hv, -⟩, _, _⟩ := h
    obtain ⟨A, c, rfl, hc, -⟩ := hv
    have c0 := hb.cell 0
    simp at c0
    clear hb hc
    go_enter Tryz.func136, Tryz.ntmps136
    go_wp2
    exact ⟨rfl, rfl, rfl⟩

set_option maxHeartbeats 1000000 in
theorem gbyte_ok (g : Nat) (xs : List Int) (w : World) (h : Gt w g xs) (a : Int) (r : List Int) (hk : byteP xs = .ok (a, r)) :
    Calls Tryz.prog 136 #[.pointer (some ⟨g, 0, none⟩)] w fun e w' => e = .returned (.int .u8 a) ∧ Gt w' g r ∧ w.grownBy w' (some g) := by
  cases xs with
  | nil => cases hk
  | cons x r' =>
    injection hk with hk
    injection hk with h1 h2
    subst h1; subst h2
    obtain ⟨⟨v, hb, hv, hw⟩, hby, hl⟩ := id h
    obtain ⟨A, c, rfl, hc, hlx, hh⟩ := id hv
    rcases hh with h0 | ⟨gb, o, rfl, hgl, hcell⟩
    · cases h0
    have hgb : gb < g := by
      rcases hw with h0 | hw
      · simp at h0
      · exact hw gb rfl
    clear hw
    obtain ⟨_, _, hd⟩ := Bs.drop hv 1 (by simp)
    have hx := hcell 0 (.int .u8 x) rfl
    rw [Nat.add_zero] at hx
    have HD := Lib.hid (hd gb o rfl)
    obtain ⟨m, hm⟩ : ∃ m, m = (x :: r').length := ⟨_, rfl⟩
    have M := Lib.hid hm
    have hbc := hb.cell 0
    have hfz := hb.free
    simp only [← hm] at hbc
    have HK := Lib.hid hb
    have HB := Lib.hid (show ∀ y ∈ r', byt y from fun y hy => hby y (by simp [hy]))
    have HL := Lib.hid (show r'.length ≤ 70368744177664 by simp at hl; omega)
    have hm0 : 0 < m := by rw [hm]; simp
    rw [← hm] at HD HK hc
    have hm0' : 0 < (m : Int) := by omega
    have hm1' : (1 : Int) ≤ (m : Int) := by omega
    have hmc' : (m : Int) ≤ (c : Int) := by omega
    have hmc1' : (1 : Int) ≤ (c : Int) := by omega
    have hml' : (m : Int) ≤ 70368744177664 := by omega
    have hmz : ¬ (m : Int) = 0 := by omega
    have hbc' : w.cell? ⟨g, 0, none⟩ = some (.slice (some ⟨gb, o, none⟩) m c) := hbc
    clear hb hv hby h hd hlx hm hl hcell hbc hc
    go_enter Tryz.func136, Tryz.ntmps136
    go_wp2
    · refine bodyPost_ret (results_tmp rfl _ _ _) rfl ⟨rfl, Gt.store HK.out (Bs.empty (ys := r') ?_ (by omega)) HB.out HL.out (.inr (fun k hk => by simp [Value.ownBlock] at hk; omega)), grown_set_ _ _ _ _⟩
      have hM := M.out
      simp at hM
      exact List.eq_nil_of_length_eq_zero (by omega)
    · exact bodyPost_ret (results_tmp rfl _ _ _) rfl ⟨rfl, Gt.store HK.out HD.out HB.out HL.out (.inr (fun k hk => by simp [Value.ownBlock] at hk; omega)), grown_set_ _ _ _ _⟩


/-- How getting ends. -/
def Gpost {α : Type} (x : Res α) (val : α → Value) (g : Nat) (w : World) (e : Ending) (w' : World) : Prop := match x with
  | .ok (a, r) => e = .returned (val a) ∧ Gt w' g r ∧ w.grownBy w' (some g)
  | .error k => e = .panicked (wr k) ∧ w.grownBy w' (some g)
theorem gsign_any (g : Nat) (xs : List Int) (w : World) (h : Gt w g xs) : Calls Tryz.prog 162 #[.pointer (some ⟨g, 0, none⟩)] w (Gpost (signP xs) (.int .i64 ·) g w) := by
  rcases hr : signP xs with k | ⟨a, r⟩
  · exact (gsign_err g xs w h k hr).mono fun _ _ hh => ⟨hh.1, hh.2 ▸ grown_refl_ _ _⟩
  · exact gsign_ok g xs w h a r hr
theorem gnum_any (g : Nat) (xs : List Int) (w : World) (h : Gt w g xs) : Calls Tryz.prog 135 #[.pointer (some ⟨g, 0, none⟩)] w (Gpost (numP xs) (fun n : Nat => .int .u64 n) g w) := by
  rcases hr : numP xs with k | ⟨a, r⟩
  · exact (gnum_err g xs w h k hr).mono fun _ _ hh => ⟨hh.1, hh.2 ▸ grown_refl_ _ _⟩
  · exact gnum_ok g xs w h a r hr
theorem gbyte_any (g : Nat) (xs : List Int) (w : World) (h : Gt w g xs) : Calls Tryz.prog 136 #[.pointer (some ⟨g, 0, none⟩)] w (Gpost (byteP xs) (.int .u8 ·) g w) := by
  rcases hr : byteP xs with k | ⟨a, r⟩
  · exact (gbyte_err g xs w h k hr).mono fun _ _ hh => ⟨hh.1, hh.2 ▸ grown_refl_ _ _⟩
  · exact gbyte_ok g xs w h a r hr
theorem grown_far_ {w w' : World} {r : Option Nat} (h : w.grownBy w' r) {p : Addr} (hp : w.heap.size ≤ p.block) (u : Value) : w.grownBy (w'.setCell p u) r :=
  ⟨h.os, h.tape, h.output, by simpa using h.size, fun i hi hne => (heap_setCell_other w' p i u (by omega)).trans (h.block i hi hne)⟩
/-- A store into a block behind. -/
theorem Gt.out_ {w : World} {g b : Nat} {xs : List Int} (h : Gt w g xs) (hlt : g < b) (i : Nat) (u : Value) : Gt (w.setCell ⟨b, i, none⟩ u) g xs := by
  obtain ⟨⟨v, hb, hv, hw⟩, h1, h2⟩ := h
  refine ⟨⟨v, hb.far (p := ⟨b, i, none⟩) (by simp; omega) u, ?_, hw⟩, h1, h2⟩
  obtain ⟨A, c, rfl, hc, hl, hh⟩ := hv
  refine ⟨A, c, rfl, hc, hl, ?_⟩
  rcases hh with h0 | ⟨gb, o, rfl, hgl, hcell⟩
  · exact .inl h0
  · rcases hw with h0 | hw
    · exact .inl h0
    · have := hw gb rfl
      exact .inr ⟨gb, o, rfl, by simpa using hgl, fun j u hu => (World.cell?_of_block (a := ⟨gb, o + j, none⟩) (heap_setCell_other w ⟨b, i, none⟩ gb _ (by simp; omega))).trans (hcell j u hu)⟩






theorem Ow.keep {B n size e g : Nat} {w w' : World} {v : Value} {xs : List Value} (h : Ow B w e size v n xs) (hg : w.grownBy w' (some g)) (hB : g < B) : Ow B w' e size v n xs := by
  rcases h with h | ⟨b, c, cur, rfl, hb, hk, h⟩
  · exact .inl h
  · exact .inr ⟨b, c, cur, rfl, hb, hk.grown hg (by simp; omega), h⟩

/-- How getting a list ends. -/
def Lpost {α : Type} (x : Res (List α)) (e0 : TypeId) (size : Nat) (cs : α → List Value) (g : Nat) (w : World) (e : Ending) (w' : World) : Prop := match x with
  | .ok (bs, r) => ∃ A, e = .returned (.slice A bs.length bs.length) ∧ Ow w.heap.size w' e0 size (.slice A bs.length bs.length) bs.length (bs.flatMap cs) ∧ Gt w' g r ∧ w.grownBy w' (some g)
  | .error k => e = .panicked (wr k) ∧ w.grownBy w' (some g)

/-- What lies up to block g goes on. -/
theorem Gt.upto {w w' : World} {g : Nat} {xs : List Int} (h : Gt w g xs) (hb : ∀ i, i ≤ g → w'.heap[i]? = w.heap[i]?) (hs : w.heap.size ≤ w'.heap.size) : Gt w' g xs := by
  obtain ⟨⟨v, hk, hv, hw⟩, h1, h2⟩ := h
  refine ⟨⟨v, (hb g (Nat.le_refl _)).trans hk, ?_, hw⟩, h1, h2⟩
  obtain ⟨A, c, rfl, hc, hl, hh⟩ := hv
  refine ⟨A, c, rfl, hc, hl, ?_⟩
  rcases hh with h0 | ⟨gb, o, rfl, hgl, hcell⟩
  · exact .inl h0
  · rcases hw with h0 | hw
    · exact .inl h0
    · have := hw gb rfl
      exact .inr ⟨gb, o, rfl, by omega, fun j u hu => (World.cell?_of_block (a := ⟨gb, o + j, none⟩) (hb gb (by omega))).trans (hcell j u hu)⟩
theorem Gt.grew {B n size e g : Nat} {w w' : World} {v v' : Value} {xs : List Value} {ys : List Int} (h : Gt w g ys) (ho : Ow B w e size v n xs) (hg : Grew w w' v v') (hB : g < B) : Gt w' g ys :=
  h.upto (fun i hi => hg.1.block i (by have := h.lt; omega) (fun e' => by have := Ow.blk_lt ho i e'.symm; omega)) hg.1.size
theorem grown_grew {B n size e g : Nat} {w w0 w' : World} {v v' : Value} {xs : List Value} (h : w.grownBy w0 (some g)) (ho : Ow B w0 e size v n xs) (hg : Grew w0 w' v v') (hB : w.heap.size ≤ B) : w.grownBy w' (some g) :=
  ⟨hg.1.os.trans h.os, hg.1.tape.trans h.tape, hg.1.output.trans h.output, Nat.le_trans h.size hg.1.size, fun i hi hne => (hg.1.block i (Nat.lt_of_lt_of_le hi h.size) (fun e' => by have := Ow.blk_lt ho i e'.symm; omega)).trans (h.block i hi hne)⟩

/-- How getting a struct ends. -/
def SPost {α : Type} (x : Res α) (Q : α → Nat → World → Value → Prop) (g : Nat) (w : World) (e : Ending) (w' : World) : Prop := match x with
  | .ok (a, r) => ∃ v, e = .returned v ∧ Q a w.heap.size w' v ∧ Gt w' g r ∧ w.grownBy w' (some g)
  | .error k => e = .panicked (wr k) ∧ w.grownBy w' (some g)
/-- How getting all ends. -/
def GPost {α : Type} (x : Res α) (Q : α → Nat → World → Value → Prop) (zero : Value) (w : World) (e : Ending) (w' : World) : Prop := match allP x with
  | .ok a => ∃ v, e = .returned (.tuple #[v, .int .i64 0]) ∧ Q a w.heap.size w' v ∧ Below w.heap.size w w'
  | .error k => e = .returned (.tuple #[zero, .int .i64 k]) ∧ Below w.heap.size w w'
theorem gpost_ok {α : Type} {Q : α → Nat → World → Value → Prop} {zero v : Value} {w w' : World} {a : α} {x : Res α} (hx : x = .ok (a, [])) (hq : Q a w.heap.size w' v) (hb : Below w.heap.size w w') : GPost x Q zero w (.returned (.tuple #[v, .int .i64 0])) w' := by
  subst hx; exact ⟨v, rfl, hq, hb⟩
theorem gpost_more {α : Type} {Q : α → Nat → World → Value → Prop} {zero : Value} {w w' : World} {a : α} {x : Res α} {r : List Int} (hx : x = .ok (a, r)) (hr : ¬ r.length = 0) (hb : Below w.heap.size w w') : GPost x Q zero w (.returned (.tuple #[zero, .int .i64 4])) w' := by
  subst hx
  cases r with
  | nil => exact absurd rfl hr
  | cons y ys => exact ⟨rfl, hb⟩
theorem gpost_err {α : Type} {Q : α → Nat → World → Value → Prop} {zero : Value} {w w' : World} {k : Int} {x : Res α} (hx : x = .error k) (hb : Below w.heap.size w w') : GPost x Q zero w (.returned (.tuple #[zero, .int .i64 k])) w' := by
  subst hx; exact ⟨rfl, hb⟩
theorem gpost_all {α : Type} {Q : α → Nat → World → Value → Prop} {zero v : Value} {w w' : World} {a : α} {x : Res α} (hx : allP x = .ok a) (hq : Q a w.heap.size w' v) (hb : Below w.heap.size w w') : GPost x Q zero w (.returned (.tuple #[v, .int .i64 0])) w' := by
  unfold GPost; rw [hx]; exact ⟨v, rfl, hq, hb⟩
theorem gpost_allerr {α : Type} {Q : α → Nat → World → Value → Prop} {zero : Value} {w w' : World} {k : Int} {x : Res α} (hx : allP x = .error k) (hb : Below w.heap.size w w') : GPost x Q zero w (.returned (.tuple #[zero, .int .i64 k])) w' := by
  unfold GPost; rw [hx]; exact ⟨rfl, hb⟩
theorem below_of_some_ {w w' : World} {g B : Nat} (h : w.grownBy w' (some g)) (hB : B ≤ g) : Below (min B w.heap.size) w w' :=
  ⟨h.os, h.tape, h.output, h.size, fun i hi => h.block i (by omega) (by simp; omega)⟩
end Go.Proofs.YtoiclicechfmgaaGreatDoor
