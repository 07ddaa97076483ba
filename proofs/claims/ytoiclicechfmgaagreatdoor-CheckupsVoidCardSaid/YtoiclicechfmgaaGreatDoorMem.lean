/- Small facts on memory that the contracts share. -/
import Derived.Test.YtoiclicechfmgaaGreatDoorChecked
import Derived.WalkKit
import Derived.WalkSpells
import Derived.Lib.Hide
import Derived.Deep.QuietTactic
import Derived.BigQuiet
import Derived.Laws.Rows
import Derived.Deep.AppendLies
import Derived.Deep.RegionHeld3
import Derived.Deep.DrawnRows
import Derived.Deep.DeepCutAuto
import Derived.Deep.LoopGhost
namespace Go.Proofs.YtoiclicechfmgaaGreatDoor
open Go.RowKit

theorem quiet_left_ {P : Program} {f : FuncId} {args : Array Value} {w : World} {n : Nat} {v : Value}
    (h : Calls P f args (w.drewN n) fun e w' => e = .returned v ∧ w.drewN n = w') : Calls P f args (w.drewN n) fun e w' => e = .returned v ∧ ∃ m, w' = w.drewN m :=
  h.mono fun _ _ hh => ⟨hh.1, n, hh.2.symm⟩
theorem quiet_add_ {P : Program} {f : FuncId} {args : Array Value} {w : World} {a n : Nat} {v : Value}
    (h : Calls P f args (w.drewN (a + n)) fun e w' => e = .returned v ∧ ∃ m, w' = (w.drewN (a + n)).drewN m) :
    Calls P f args (w.drewN (a + n)) fun e w'' => e = .returned v ∧ ∃ m, w'' = w.drewN (a + m) :=
  h.mono fun _ _ hh => ⟨hh.1, hh.2.elim fun m hm => ⟨n + m, by rw [hm, World.drewN_drewN, Nat.add_assoc]⟩⟩
theorem quiet_add_left_ {P : Program} {f : FuncId} {args : Array Value} {w : World} {a n : Nat} {v : Value}
    (h : Calls P f args (w.drewN (a + n)) fun e w' => e = .returned v ∧ w.drewN (a + n) = w') :
    Calls P f args (w.drewN (a + n)) fun e w'' => e = .returned v ∧ ∃ m, w'' = w.drewN (a + m) :=
  h.mono fun _ _ hh => ⟨hh.1, n, hh.2.symm⟩

theorem below_drewN_ (B : Nat) (w : World) (n : Nat) : Below B w (w.drewN n) := ⟨rfl, rfl, rfl, Nat.le_refl _, fun _ _ => rfl⟩
theorem below_alloc_ (w : World) (o : Obj) : Below w.heap.size w (w.alloc o) := (Below.refl _ _).alloc (Nat.le_refl _) o
theorem grown_refl_ (w : World) (r : Option Nat) : w.grownBy w r := ⟨rfl, rfl, rfl, Nat.le_refl _, fun _ _ _ => rfl⟩
theorem grown_below_ {w w' : World} (h : Below w.heap.size w w') (r : Option Nat) : w.grownBy w' r := ⟨h.os, h.tape, h.output, h.size, fun i hi _ => h.block i hi⟩
theorem below_of_grown_ {w w' : World} (h : w.grownBy w' none) : Below w.heap.size w w' := ⟨h.os, h.tape, h.output, h.size, fun i hi => h.block i hi (by simp)⟩
theorem grown_trans_ {a b c : World} {r : Option Nat} (h : a.grownBy b r) (k : b.grownBy c r) : a.grownBy c r :=
  ⟨k.os.trans h.os, k.tape.trans h.tape, k.output.trans h.output, Nat.le_trans h.size k.size, fun i hi hne => (k.block i (Nat.lt_of_lt_of_le hi h.size) hne).trans (h.block i hi hne)⟩
/-- Only block r may have turned: carried over a step that turns only what is new. -/
theorem grown_then_below_ {a b c : World} {r : Option Nat} (h : a.grownBy b r) (k : Below b.heap.size b c) : a.grownBy c r := grown_trans_ h (grown_below_ k r)
theorem below_then_grown_ {a b c : World} {r : Option Nat} (h : Below a.heap.size a b) (k : b.grownBy c r) : a.grownBy c r := grown_trans_ (grown_below_ h r) k
theorem grown_set_ (w : World) (g i : Nat) (v : Value) : w.grownBy (w.setCell ⟨g, i, none⟩ v) (some g) :=
  ⟨rfl, rfl, rfl, by simp [World.setCell], fun j _ hne => Below.heap_setCell w _ v j (fun e => hne (by rw [e]))⟩
theorem below_grown_ {B : Nat} {w w0 w' : World} {g : Nat} (h : Below B w0 w) (hg : w.grownBy w' (some g)) (hB : B ≤ w.heap.size) (hr : B ≤ g) : Below B w0 w' :=
  h.grown hg hB (fun k e => by cases e; exact hr)

theorem cell_on {B : Nat} {w X : World} {p : Addr} {v : Value} (hb : Below B w X) (hp : p.block < B) (h : w.cell? p = some v) : X.cell? p = some v := (hb.cell hp).trans h
theorem below_alloc2_ (w : World) (a b : Obj) : Below w.heap.size w ((w.alloc a).alloc b) := (below_alloc_ w a).alloc (by simp) b
theorem below_alloc3_ (w : World) (a b c : Obj) : Below w.heap.size w (((w.alloc a).alloc b).alloc c) := (below_alloc2_ w a b).alloc (by simp; omega) c
theorem below_alloc4_ (w : World) (a b c d : Obj) : Below w.heap.size w ((((w.alloc a).alloc b).alloc c).alloc d) := (below_alloc3_ w a b c).alloc (by simp; omega) d

/-- Block g is just these cells of type t, none of them frozen. -/
def Blk (w : World) (g : Nat) (t : TypeId) (cs : Array Value) : Prop := w.heap[g]? = some (.cells cs t (0, 0))
section
variable {w w' : World} {g : Nat} {t : TypeId} {cs : Array Value}
theorem Blk.lt (h : Blk w g t cs) : g < w.heap.size := by
  rcases Nat.lt_or_ge g w.heap.size with hlt | hge
  · exact hlt
  · unfold Blk at h; rw [Array.getElem?_eq_none hge] at h; cases h
theorem Blk.cell (h : Blk w g t cs) (i : Nat) : w.cell? ⟨g, i, none⟩ = cs[i]? := cell_of_row w g i cs t (0, 0) h
theorem Blk.free (h : Blk w g t cs) (i : Nat) : w.frozen? ⟨g, i, none⟩ = false := frozen_of_row w g i cs t h
theorem Blk.new (w : World) (t : TypeId) (cs : Array Value) : Blk (w.alloc (.cells cs t)) w.heap.size t cs := heap_alloc_new w _
theorem Blk.alloc (h : Blk w g t cs) (o : Obj) : Blk (w.alloc o) g t cs := (Below.heap_alloc w o g h.lt).trans h
theorem Blk.drew (h : Blk w g t cs) : Blk w.drew g t cs := h
theorem Blk.drewN (h : Blk w g t cs) (n : Nat) : Blk (w.drewN n) g t cs := h
theorem Blk.set_ (h : Blk w g t cs) (i : Nat) (u : Value) : Blk (w.setCell ⟨g, i, none⟩ u) g t (cs.setIfInBounds i u) := heap_setCell_same w g i cs t u h
theorem Blk.far (h : Blk w g t cs) {p : Addr} (hp : g ≠ p.block) (u : Value) : Blk (w.setCell p u) g t cs := (heap_setCell_other w p g u hp).trans h
theorem Blk.below {B : Nat} (h : Blk w g t cs) (hb : Below B w w') (hg : g < B) : Blk w' g t cs := (hb.block g hg).trans h
theorem Blk.grown {r : Option Nat} (h : Blk w g t cs) (hb : w.grownBy w' r) (hg : some g ≠ r) : Blk w' g t cs := (hb.block g h.lt hg).trans h
end

theorem Blk.ne_ {w : World} {g g' : Nat} {t t' : TypeId} {cs cs' : Array Value} (h : Blk w g t cs) (h' : Blk w g' t' cs') (hne : t ≠ t') : g ≠ g' := by
  rintro rfl
  unfold Blk at h h'
  rw [h] at h'
  injection h' with h'
  injection h' with _ ht
  exact hne ht

/-- The slice value v of n elements, of size cells each, holds the cells xs. -/
def Rd (w : World) (size : Nat) (v : Value) (n : Nat) (xs : List Value) : Prop :=
  ∃ A c, v = .slice A n c ∧ n ≤ c ∧ xs.length = n * size ∧ (n = 0 ∨ ∃ g o, A = some ⟨g, o, none⟩ ∧ g < w.heap.size ∧ ∀ j u, xs[j]? = some u → w.cell? ⟨g, o + j, none⟩ = some u)
/-- The slice value v of n elements of type e holds the cells xs, in a block of its own from B on. -/
def Ow (B : Nat) (w : World) (e : TypeId) (size : Nat) (v : Value) (n : Nat) (xs : List Value) : Prop :=
  (v = .slice none 0 0 ∧ n = 0 ∧ xs = []) ∨ ∃ g c cur, v = .slice (some ⟨g, 0, none⟩) n c ∧ B ≤ g ∧ Blk w g e cur ∧ n ≤ c ∧ xs.length = n * size ∧ c * size ≤ cur.size ∧ cur.toList.take (n * size) = xs
section
variable {w w' : World} {size n B : Nat} {v : Value} {xs : List Value} {e : TypeId}
theorem Rd.below (h : Rd w size v n xs) (hb : Below w.heap.size w w') : Rd w' size v n xs := by
  obtain ⟨A, c, rfl, hc, hl, h⟩ := h
  refine ⟨A, c, rfl, hc, hl, h.imp id ?_⟩
  rintro ⟨g, o, rfl, hg, hh⟩
  exact ⟨g, o, rfl, Nat.lt_of_lt_of_le hg hb.size, fun j u hu => (hb.cell hg).trans (hh j u hu)⟩
theorem Rd.alloc (h : Rd w size v n xs) (o : Obj) : Rd (w.alloc o) size v n xs := h.below (below_alloc_ _ _)
theorem Rd.drew (h : Rd w size v n xs) : Rd w.drew size v n xs := h
theorem Rd.drewN (h : Rd w size v n xs) (k : Nat) : Rd (w.drewN k) size v n xs := h
theorem Ow.rd (h : Ow B w e size v n xs) : Rd w size v n xs := by
  rcases h with ⟨rfl, rfl, rfl⟩ | ⟨g, c, cur, rfl, hB, hg, hc, hl, hs, ht⟩
  · exact ⟨none, 0, rfl, Nat.le_refl _, by simp, .inl rfl⟩
  · refine ⟨_, c, rfl, hc, hl, .inr ⟨g, 0, rfl, hg.lt, fun j u hu => ?_⟩⟩
    have hj : j < n * size := by
      rcases Nat.lt_or_ge j (n * size) with h | h
      · exact h
      · rw [List.getElem?_eq_none (by omega)] at hu; cases hu
    rw [← ht, List.getElem?_take, if_pos hj] at hu
    rw [Nat.zero_add, hg.cell]
    simpa using hu
theorem Ow.below (h : Ow B w e size v n xs) (hb : Below w.heap.size w w') : Ow B w' e size v n xs := by
  rcases h with h | ⟨g, c, cur, rfl, hB, hg, h⟩
  · exact .inl h
  · exact .inr ⟨g, c, cur, rfl, hB, hg.below hb hg.lt, h⟩
theorem Ow.far (h : Ow B w e size v n xs) {p : Addr} (hp : p.block < B) (u : Value) : Ow B (w.setCell p u) e size v n xs := by
  rcases h with h | ⟨g, c, cur, rfl, hB, hg, h⟩
  · exact .inl h
  · exact .inr ⟨g, c, cur, rfl, hB, hg.far (by omega) u, h⟩
/-- A store into a block of another element type. -/
theorem Ow.aside (h : Ow B w e size v n xs) {b t' : Nat} {cs' : Array Value} (hb : Blk w b t' cs') (hne : e ≠ t') (i : Nat) (u : Value) : Ow B (w.setCell ⟨b, i, none⟩ u) e size v n xs := by
  rcases h with h | ⟨g, c, cur, rfl, hB, hg, h⟩
  · exact .inl h
  · exact .inr ⟨g, c, cur, rfl, hB, hg.far (hg.ne_ hb hne) u, h⟩
theorem Ow.grown {r : Nat} (h : Ow B w e size v n xs) (hg' : w.grownBy w' (some r)) {t' : Nat} {cs' : Array Value} (hb : Blk w r t' cs') (hne : e ≠ t') : Ow B w' e size v n xs := by
  rcases h with h | ⟨g, c, cur, rfl, hB, hg, h⟩
  · exact .inl h
  · exact .inr ⟨g, c, cur, rfl, hB, hg.grown hg' (by have := hg.ne_ hb hne; simpa using this), h⟩
theorem Ow.le {B' : Nat} (h : Ow B w e size v n xs) (hb : B' ≤ B) : Ow B' w e size v n xs := by
  rcases h with h | ⟨g, c, cur, rfl, hB, h⟩
  · exact .inl h
  · exact .inr ⟨g, c, cur, rfl, by omega, h⟩
theorem Ow.of_own {base : Nat} (h : w.ownsRow base e size v n xs) : Ow base w e size v n xs := by
  obtain ⟨hl, ⟨rfl, rfl⟩ | ⟨g, cap, cur, rfl, hB, hg, hn, _, hs, ht⟩⟩ := h
  · exact .inl ⟨rfl, rfl, List.eq_nil_of_length_eq_zero (by simpa using hl)⟩
  · exact .inr ⟨g, cap, cur, rfl, hB, hg, hn, hl, by omega, ht⟩
/-- The clip of what is owned. -/
theorem Ow.clip (h : Ow B w e size v n xs) : ∃ A c, v = .slice A n c ∧ n ≤ c ∧ Ow B w e size (.slice A n n) n xs := by
  rcases h with ⟨rfl, rfl, rfl⟩ | ⟨g, c, cur, rfl, hB, hg, hc, hl, hs, ht⟩
  · exact ⟨none, 0, rfl, Nat.le_refl _, .inl ⟨rfl, rfl, rfl⟩⟩
  · exact ⟨_, c, rfl, hc, .inr ⟨g, n, cur, rfl, hB, hg, Nat.le_refl _, hl, Nat.le_trans (Nat.mul_le_mul_right _ hc) hs, ht⟩⟩
end

/-- The j-th of lists of one length, laid end to end. -/
theorem flatMap_get {α : Type} (f : α → List Value) (s : Nat) (hf : ∀ x, (f x).length = s) : ∀ (xs : List α) (j i : Nat) (hj : j < xs.length), i < s → (xs.flatMap f)[j * s + i]? = (f xs[j])[i]?
  | x :: xs, 0, i, _, hi => by
    rw [List.flatMap_cons, List.getElem?_append_left (by rw [hf]; omega)]
    simp
  | x :: xs, j + 1, i, hj, hi => by
    rw [List.flatMap_cons, List.getElem?_append_right (by rw [hf, Nat.succ_mul]; omega)]
    have : (j + 1) * s + i - (f x).length = j * s + i := by rw [hf, Nat.succ_mul]; omega
    rw [this, flatMap_get f s hf xs j i (by simpa using hj) hi]
    rfl
theorem flatMap_len {α : Type} (f : α → List Value) (s : Nat) (hf : ∀ x, (f x).length = s) (xs : List α) : (xs.flatMap f).length = xs.length * s := by
  induction xs with
  | nil => simp
  | cons x xs ih => rw [List.flatMap_cons, List.length_append, hf, ih, List.length_cons, Nat.succ_mul]; omega
theorem Rd.at_ {α : Type} {f : α → List Value} {s : Nat} {w : World} {v : Value} {xs : List α} (hf : ∀ x, (f x).length = s) (h : Rd w s v xs.length (xs.flatMap f)) (h0 : 0 < xs.length) :
    ∃ g o c, v = .slice (some ⟨g, o, none⟩) xs.length c ∧ xs.length ≤ c ∧ g < w.heap.size ∧ ∀ j (hj : j < xs.length) i u, i < s → (f xs[j])[i]? = some u → w.cell? ⟨g, o + j * s + i, none⟩ = some u := by
  obtain ⟨A, c, rfl, hc, hl, h | ⟨g, o, rfl, hg, hh⟩⟩ := h
  · omega
  · refine ⟨g, o, c, rfl, hc, hg, fun j hj i u hi hu => ?_⟩
    rw [Nat.add_assoc]
    exact hh _ u ((flatMap_get f s hf xs j i hj hi).trans hu)
end Go.Proofs.YtoiclicechfmgaaGreatDoor
