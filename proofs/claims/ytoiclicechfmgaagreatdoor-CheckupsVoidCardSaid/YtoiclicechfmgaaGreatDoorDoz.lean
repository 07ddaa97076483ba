import Derived.Test.YtoiclicechfmgaaGreatDoorDskL
import Derived.Test.YtoiclicechfmgaaGreatDoorSmz
import Derived.Test.YtoiclicechfmgaaGreatDoorCaz
/- A disk of one file at most, whose blocks are a law's own. -/
namespace Go.Proofs.YtoiclicechfmgaaGreatDoor
open Go.RowKit

/-- The disk d is in the state s; its blocks lie from B on; below B nothing has turned since W; the blocks of X are as told, and none of the disk's. -/
structure On (X : List (Nat × Obj)) (B : Nat) (W w : World) (d : Nat) (nm : ByteArray) (s : Dst) : Prop where
  ex : ∃ F, Dk w d nm s F ∧ (∀ k ∈ F, B ≤ k) ∧ ∀ p ∈ X, p.1 ∉ F
  keep : ∀ p ∈ X, w.heap[p.1]? = some p.2
  bel : Below B W w
  le : B ≤ w.heap.size
/-- The slice v reads as these bytes wherever the blocks of X are as told. -/
def Sl (v : Value) (xs : List Int) (X : List (Nat × Obj)) : Prop := ∀ w : World, (∀ p ∈ X, w.heap[p.1]? = some p.2) → Bs w v xs
section
variable {X : List (Nat × Obj)} {B : Nat} {W w w' : World} {d : Nat} {nm : ByteArray} {s s' : Dst}
theorem On.below (h : On X B W w d nm s) (hb : Below w.heap.size w w') : On X B W w' d nm s := by
  obtain ⟨⟨F, hd, hF⟩, hk, h1, h2⟩ := h
  exact ⟨⟨F, hd.below hb, hF⟩, fun p hp => (hb.block _ (lt_of_heap (hk p hp))).trans (hk p hp), h1.trans (hb.mono h2), Nat.le_trans h2 hb.size⟩
theorem On.alloc (h : On X B W w d nm s) (o : Obj) : On X B W (w.alloc o) d nm s := h.below (below_alloc_ _ _)
theorem On.to_ {F : List Nat} (hF : ∀ k ∈ F, B ≤ k) (hX : ∀ p ∈ X, p.1 ∉ F) (hk : ∀ p ∈ X, w.heap[p.1]? = some p.2) (h1 : Below B W w) (h2 : B ≤ w.heap.size) (t : DkTo w F d nm s' w') : On X B W w' d nm s' := by
  obtain ⟨⟨G, hd, hG⟩, kp⟩ := t
  refine ⟨⟨G, hd, fun k hk' => ?_, fun p hp hg => ?_⟩, fun p hp => (kp.block _ (lt_of_heap (hk p hp)) (hX p hp)).trans (hk p hp), h1.trans (kp.to_below hF h2), Nat.le_trans h2 kp.size⟩
  · rcases hG k hk' with h | h
    · exact hF k h
    · omega
  · rcases hG _ hg with h | h
    · exact hX p hp h
    · have := lt_of_heap (hk p hp); omega
theorem On.mono {Y : List (Nat × Obj)} (h : On X B W w d nm s) (hY : ∀ p ∈ Y, p ∈ X) : On Y B W w d nm s := by
  obtain ⟨⟨F, hd, hF, hX⟩, hk, h1, h2⟩ := h
  exact ⟨⟨F, hd, hF, fun p hp => hX p (hY p hp)⟩, fun p hp => hk p (hY p hp), h1, h2⟩
theorem On.sl {v : Value} {xs : List Int} {Y : List (Nat × Obj)} (h : On X B W w d nm s) (hs : Sl v xs Y) (hY : ∀ p ∈ Y, p ∈ X) : Bs w v xs := hs w fun p hp => h.keep p (hY p hp)
end

theorem on_new (nm : ByteArray) (w : World) : Calls Tryz.prog 10 #[] w fun e w' => e = .returned (.pointer (some ⟨w.heap.size + 1, 0, none⟩)) ∧ On [] w.heap.size w w' (w.heap.size + 1) nm ⟨none, -1, false⟩ :=
  (dnew nm w).mono fun _ _ ⟨he, hd, hb⟩ => ⟨he, ⟨_, hd, by intro k hk; simp at hk; omega, by simp⟩, by simp, hb, hb.size⟩
section
variable {X : List (Nat × Obj)} {B : Nat} {W w : World} {d : Nat} {nm : ByteArray} {s : Dst}
theorem on_add (s' : Dst) (r : Int) (hn : Nm nm) (bv : Value) (bs : List Int) (hby : ∀ c ∈ bs, byt c) (hlb : bs.length ≤ 4611686018427387904) (h : On X B W w d nm s) (hbs : Bs w bv bs)
    (he : doesS s ((sizeS s : Nat) + (bs.length : Nat) : Int) true (fun q => some (q.1 ++ bs, q.2)) = (s', r)) :
    Calls Tryz.prog 14 #[.pointer (some ⟨d, 0, none⟩), .string nm, bv] w fun e w' => e = .returned (.int .i64 r) ∧ On X B W w' d nm s' := by
  obtain ⟨⟨F, hd, hF, hX⟩, hk, h1, h2⟩ := h
  have := dadd nm hn d s F bv bs hby hlb w hd hbs
  rw [he] at this
  exact this.mono fun _ _ ⟨he, ht⟩ => ⟨he, On.to_ hF hX hk h1 h2 ht⟩
theorem on_put (s' : Dst) (r : Int) (hn : Nm nm) (bv : Value) (bs : List Int) (hby : ∀ c ∈ bs, byt c) (hlb : bs.length ≤ 4611686018427387904) (h : On X B W w d nm s) (hbs : Bs w bv bs)
    (he : doesS s bs.length true (fun _ => some (bs, bs.length)) = (s', r)) :
    Calls Tryz.prog 12 #[.pointer (some ⟨d, 0, none⟩), .string nm, bv] w fun e w' => e = .returned (.int .i64 r) ∧ On X B W w' d nm s' := by
  obtain ⟨⟨F, hd, hF, hX⟩, hk, h1, h2⟩ := h
  have := dput nm hn d s F bv bs hby hlb w hd hbs
  rw [he] at this
  exact this.mono fun _ _ ⟨he, ht⟩ => ⟨he, On.to_ hF hX hk h1 h2 ht⟩
theorem on_lift (s' : Dst) (lv : Value) (ls : List Int) (hls : ∀ x ∈ ls, -9223372036854775808 ≤ x ∧ x ≤ 9223372036854775807) (h : On X B W w d nm s) (hlv : Rd w 1 lv ls.length (lossC ls)) (he : liftS s ls = s') :
    Calls Tryz.prog 18 #[.pointer (some ⟨d, 0, none⟩), lv] w fun e w' => e = .returned (.tuple #[]) ∧ On X B W w' d nm s' := by
  subst he
  obtain ⟨⟨F, hd, hF, hX⟩, hk, h1, h2⟩ := h
  exact (dlift nm d s F lv ls hls w hd hlv).mono fun _ _ ⟨he, ht⟩ => ⟨he, On.to_ hF hX hk h1 h2 ht⟩
theorem on_dead (h : On X B W w d nm s) :
    Calls Tryz.prog 45 #[.pointer (some ⟨d, 0, none⟩)] w fun e w' => e = .returned (.bool s.dead) ∧ w = w' := by
  obtain ⟨F, hd, hF⟩ := h.ex
  exact ddead nm d s F w hd
theorem on_fuse (n : Int) (hn : n ≤ 9223372036854775807) (h : On X B W w d nm s) :
    Calls Tryz.prog 11 #[.pointer (some ⟨d, 0, none⟩), .int .i64 n] w fun e w' => e = .returned (.tuple #[]) ∧ On X B W w' d nm { s with fuse := max 0 n } := by
  obtain ⟨⟨F, hd, hF, hX⟩, hk, h1, h2⟩ := h
  exact (dfuse nm d s F n hn w hd).mono fun _ _ ⟨he, ht, kp⟩ => ⟨he, On.to_ hF hX hk h1 h2 ⟨⟨F, ht, fun _ hk => .inl hk⟩, kp.mono (by obtain ⟨m, G, _, _, rfl⟩ := hd.ex; simp)⟩⟩
theorem Bo.sl_ {v : Value} {xs : List Int} {B : Nat} (h : Bo B w v xs) : ∃ Y, (∀ p ∈ Y, B ≤ p.1 ∧ w.heap[p.1]? = some p.2) ∧ Sl v xs Y := by
  rcases h with ⟨rfl, h0, hx⟩ | ⟨g, c, cur, rfl, hB, hg, hh⟩
  · exact ⟨[], by simp, fun w' _ => Bo.bs (.inl ⟨rfl, h0, hx⟩ : Bo 0 w' _ xs)⟩
  · exact ⟨[(g, .cells cur 5)], fun p hp => by simp at hp; subst hp; exact ⟨hB, hg⟩, fun w' hw => Bo.bs (.inr ⟨g, c, cur, rfl, Nat.zero_le _, hw (g, .cells cur 5) (by simp), hh⟩ : Bo 0 w' _ xs)⟩
theorem on_read (xs : List Int) (r : Int) (hn : Nm nm) (h : On X B W w d nm s) (he : readS s = (xs, r)) :
    Calls Tryz.prog 21 #[.pointer (some ⟨d, 0, none⟩), .string nm] w fun e w' => ∃ P Y, e = .returned (.tuple #[.slice P xs.length xs.length, .int .i64 r]) ∧
      Sl (.slice P xs.length xs.length) xs Y ∧ On (Y ++ X) B W w' d nm s ∧ Below w.heap.size w w' := by
  obtain ⟨F, hd, hF, hX⟩ := h.ex
  have := dread nm hn d s F w hd
  rw [he] at this
  refine this.mono fun _ w' ⟨P, he, ho, hb⟩ => ?_
  obtain ⟨Y, hY, hs⟩ := ho.sl_
  have h' := h.below hb
  refine ⟨P, Y, he, hs, ⟨⟨F, hd.below hb, hF, fun p hp hf => ?_⟩, fun p hp => ?_, h'.bel, h'.le⟩, hb⟩
  · rcases List.mem_append.1 hp with hp | hp
    · have := (hY p hp).1; have := hd.lt _ hf; omega
    · exact hX p hp hf
  · rcases List.mem_append.1 hp with hp | hp
    · exact (hY p hp).2
    · exact h'.keep p hp
end

/-- Bytes, written out. -/
theorem Bs.lit (w : World) (bs : List Int) (_hne : bs ≠ []) : Bs (w.alloc (.cells (bc bs).toArray 5)) (.slice (some ⟨w.heap.size, 0, none⟩) bs.length bs.length) bs := by
  have hk := Blk.new w 5 (bc bs).toArray
  refine ⟨_, _, rfl, Nat.le_refl _, by simp, .inr ⟨w.heap.size, 0, rfl, by simp, fun j u hu => ?_⟩⟩
  rw [Nat.zero_add, hk.cell]
  simpa using hu
end Go.Proofs.YtoiclicechfmgaaGreatDoor

/- A promise: Term, Vote, may. -/
namespace Go.Proofs.YtoiclicechfmgaaGreatDoor
open Go.RowKit

theorem nm_state : Nm ⟨#[115, 116, 97, 116, 101]⟩ := ⟨by decide +kernel, by decide⟩

/-- A promise's block. -/
def prC (term vote : Int) (d : Value) (lost : Bool) : Array Value := #[.int .u64 term, .int .u8 vote, d, .bool lost]

theorem term_any (p : Nat) (term vote : Int) (d : Value) (lost : Bool) (w : World) (h : Blk w p 125 (prC term vote d lost)) :
    Calls Tryz.prog 26 #[.pointer (some ⟨p, 0, none⟩)] w fun e w' => e = .returned (.int .u64 term) ∧ w = w' := by
  have c0 := h.cell 0
  simp [prC] at c0
  clear h
  go_enter Tryz.func26, Tryz.ntmps26
  go_wp2
  go_ret
  exact ⟨rfl, rfl⟩
theorem term_nil (w : World) : Calls Tryz.prog 26 #[.pointer none] w fun e w' => e = .returned (.int .u64 0) ∧ w = w' := by
  go_enter Tryz.func26, Tryz.ntmps26
  go_wp2
  go_ret
  exact ⟨rfl, rfl⟩
theorem vote_any (p : Nat) (term vote : Int) (d : Value) (lost : Bool) (w : World) (h : Blk w p 125 (prC term vote d lost)) :
    Calls Tryz.prog 27 #[.pointer (some ⟨p, 0, none⟩)] w fun e w' => e = .returned (.int .u8 vote) ∧ w = w' := by
  have c1 := h.cell 1
  simp [prC] at c1
  clear h
  go_enter Tryz.func27, Tryz.ntmps27
  go_wp2
  go_ret
  exact ⟨rfl, rfl⟩
theorem vote_nil (w : World) : Calls Tryz.prog 27 #[.pointer none] w fun e w' => e = .returned (.int .u8 0) ∧ w = w' := by
  go_enter Tryz.func27, Tryz.ntmps27
  go_wp2
  go_ret
  exact ⟨rfl, rfl⟩
theorem open_nil (w : World) : Calls Tryz.prog 25 #[.pointer none] w fun e w' => e = .returned (.tuple #[.pointer none, .int .i64 2]) ∧ w = w' := by
  go_enter Tryz.func25, Tryz.ntmps25
  go_wp2
  go_ret2
  exact ⟨rfl, rfl⟩
/-- May it become another? -/
def mayB (t v t' v' : Int) : Bool := decide (t < t') || (decide (t' = t) && decide (v' = v)) || (decide (t' = t) && decide (v = 0))
theorem On.allocX {X : List (Nat × Obj)} {B : Nat} {W w : World} {d : Nat} {nm : ByteArray} {s : Dst} (h : On X B W w d nm s) (o : Obj) : On ((w.heap.size, o) :: X) B W (w.alloc o) d nm s := by
  obtain ⟨⟨F, hd, hF, hX⟩, hk, h1, h2⟩ := h
  have hb := below_alloc_ w o
  refine ⟨⟨F, hd.below hb, hF, fun p hp hf => ?_⟩, fun p hp => ?_, h1.trans (hb.mono h2), Nat.le_trans h2 hb.size⟩
  · rcases List.mem_cons.1 hp with rfl | hp
    · exact Nat.lt_irrefl _ (hd.lt _ hf)
    · exact hX p hp hf
  · rcases List.mem_cons.1 hp with rfl | hp
    · exact heap_alloc_new w o
    · exact (hb.block _ (lt_of_heap (hk p hp))).trans (hk p hp)
/-- A block beside the disk turns. -/
theorem On.turn {X : List (Nat × Obj)} {B : Nat} {W w w' : World} {d p : Nat} {nm : ByteArray} {s : Dst} {o : Obj} (o' : Obj) (h : On ((p, o) :: X) B W w d nm s) (k : Kp w [p] w') (hp : w'.heap[p]? = some o') (hX : ∀ q ∈ X, q.1 ≠ p) (hB : B ≤ p) :
    On ((p, o') :: X) B W w' d nm s := by
  obtain ⟨⟨F, hd, hF, hX'⟩, hk, h1, h2⟩ := h
  have hpF : p ∉ F := hX' (p, o) (by simp)
  refine ⟨⟨F, hd.kp k (fun i hi hip => by simp at hip; subst hip; exact hpF hi), hF, fun q hq hf => ?_⟩, fun q hq => ?_, h1.trans (k.to_below (fun i hi => by simp at hi; omega) h2), Nat.le_trans h2 k.size⟩
  · rcases List.mem_cons.1 hq with rfl | hq
    · exact hpF hf
    · exact hX' q (by simp [hq]) hf
  · rcases List.mem_cons.1 hq with rfl | hq
    · exact hp
    · exact (k.block _ (lt_of_heap (hk q (by simp [hq]))) (by simpa using hX q hq)).trans (hk q (by simp [hq]))
end Go.Proofs.YtoiclicechfmgaaGreatDoor

/- An album: Shot; Open of a disk without the file; what is none. -/
namespace Go.Proofs.YtoiclicechfmgaaGreatDoor
open Go.RowKit

theorem nm_shot : Nm ⟨#[115, 104, 111, 116]⟩ := ⟨by decide +kernel, by decide⟩
/-- An album's cells. -/
def alC (t v : Int) (dv d : Value) (lost : Bool) : Array Value := #[.int .u64 t, .int .u64 v, dv, d, .bool lost]

set_option maxHeartbeats 1000000 in
theorem shot_nil (w : World) : Calls Tryz.prog 29 #[.pointer none] w fun e w' => e = .returned (.agg #[.int .u64 0, .int .u64 0, .slice none 0 0]) ∧ Below w.heap.size w w' := by
  have k := Blk.new w 77 #[.int .u64 0, .int .u64 0, .slice none 0 0]
  go_enter Tryz.func29, Tryz.ntmps29
  go_wp2
  refine bodyPost_ret (res_cell1 Tryz.results29 k rfl Tryz.underlying77 infS) rfl ?_
  exact ⟨rfl, below_alloc_ _ _⟩

set_option maxHeartbeats 1000000 in
set_option maxRecDepth 100000 in
theorem shot_any (p : Nat) (t v : Int) (dv d : Value) (lost : Bool) (xs : List Int) (w : World) (h : Blk w p 127 (alC t v dv d lost)) (hd : Bs w dv xs) (hl : xs.length ≤ 70368744177664) :
    Calls Tryz.prog 29 #[.pointer (some ⟨p, 0, none⟩)] w fun e w' => ∃ P, e = .returned (.agg #[.int .u64 t, .int .u64 v, .slice P xs.length xs.length]) ∧ Bo w.heap.size w' (.slice P xs.length xs.length) xs ∧ Below w.heap.size w w' := by
  have b0 := below_alloc_ w (.cells #[.int .u64 0, .int .u64 0, .slice none 0 0] 77)
  have k0 := Blk.new w 77 #[.int .u64 0, .int .u64 0, .slice none 0 0]
  have k := h.below b0 h.lt
  have HB := Lib.hid (hd.below b0)
  obtain ⟨A, c, rfl, -⟩ := id hd
  have c0 := k.cell 0
  have c1 := k.cell 1
  have c2 := k.cell 2
  simp only [alC] at c0 c1 c2
  simp at c0 c1 c2
  have K0 := Lib.hid k0
  have B0 := Lib.hid b0
  clear h hd b0 k k0
  obtain ⟨L, hL⟩ : ∃ L, L = xs.length := ⟨_, rfl⟩
  rw [← hL] at HB c2 ⊢
  have LL := Lib.hid hL
  clear hL
  go_enter Tryz.func29, Tryz.ntmps29
  go_wp2_with fail
  refine (own_any t v _ xs _ HB.out hl).mono ?_
  rintro e w1 ⟨P, rfl, ho, b1⟩
  rw [← LL.out] at ho ⊢
  have HO := Lib.hid ho
  have B1 := Lib.hid (B0.out.trans (b1.mono B0.out.size))
  have j := K0.out.below b1 K0.out.lt
  have J := Lib.hid j
  have j0 := j.cell 0
  have j1 := j.cell 1
  have j2 := j.cell 2
  have f0 := j.free 0
  have f1 := j.free 1
  have f2 := j.free 2
  simp at j0 j1 j2
  clear ho b1 j
  go_wp2
  refine bodyPost_ret (res_cell1 Tryz.results29 (((J.out.set_ 0 _).set_ 1 _).set_ 2 _) rfl Tryz.underlying77 infS) rfl ?_
  have q : w.heap.size < (w.alloc (.cells #[.int .u64 0, .int .u64 0, .slice none 0 0] 77)).heap.size := by simp
  refine ⟨P, by simp, ?_, ?_⟩
  · exact (((HO.out.far (p := ⟨w.heap.size, 0, none⟩) q _).far (p := ⟨w.heap.size, 1, none⟩) q _).far (p := ⟨w.heap.size, 2, none⟩) q _).le (by simp)
  · exact ((B1.out.setCell (p := ⟨w.heap.size, 0, none⟩) (Nat.le_refl _) _).setCell (p := ⟨w.heap.size, 1, none⟩) (Nat.le_refl _) _).setCell (p := ⟨w.heap.size, 2, none⟩) (Nat.le_refl _) _

theorem aopen_nil (w : World) : Calls Tryz.prog 28 #[.pointer none] w fun e w' => e = .returned (.tuple #[.pointer none, .int .i64 2]) ∧ w = w' := by
  go_enter Tryz.func28, Tryz.ntmps28
  go_wp2
  go_ret2
  exact ⟨rfl, rfl⟩

/-- An album's block, as an object. -/
def alO (t v : Int) (dv : Value) (d : Nat) (lost : Bool) : Obj := .cells (alC t v dv (.pointer (some ⟨d, 0, none⟩)) lost) 127 (0, 0)

set_option maxHeartbeats 1000000 in
set_option maxRecDepth 100000 in
theorem aopen_new {X : List (Nat × Obj)} {B : Nat} {W w : World} {d : Nat} {s : Dst} (h : On X B W w d ⟨#[115, 104, 111, 116]⟩ s) (hs : readS s = ([], 7)) :
    Calls Tryz.prog 28 #[.pointer (some ⟨d, 0, none⟩)] w fun e w' => ∃ p, e = .returned (.tuple #[.pointer (some ⟨p, 0, none⟩), .int .i64 0]) ∧ On ((p, alO 0 0 (.slice none 0 0) d false) :: X) B W w' d ⟨#[115, 104, 111, 116]⟩ s ∧ w.heap.size ≤ p := by
  have H := Lib.hid h
  clear h
  go_enter Tryz.func28, Tryz.ntmps28
  go_wp2_with fail
  refine (on_read [] 7 nm_shot H.out hs).mono ?_
  rintro e w1 ⟨P1, Y1, rfl, -, h1, b1⟩
  have O1 := Lib.hid ((h1.mono (Y := X) (by intro p hp; exact List.mem_append_right _ hp)).allocX (alO 0 0 (.slice none 0 0) d false))
  have B1 := Lib.hid b1.size
  clear h1 b1
  go_wp2_with fail
  go_ret2
  exact ⟨_, rfl, O1.out, B1.out⟩
end Go.Proofs.YtoiclicechfmgaaGreatDoor
