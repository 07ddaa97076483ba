/- A disk of one file at most, whose blocks are a law's own. -/
import Derived.Test.YtenobcfgapolhaaDskL
import Derived.Test.YtenobcfgapolhaaStr
namespace Go.Proofs.Ytenobcfgapolhaa
open Go.RowKit

/-- The disk d is in the state s; its blocks lie from B on; below B nothing has turned since W; the blocks of X are as told, and none of the disk's. -/
structure On (X : List (Nat × Obj)) (B : Nat) (W w : World) (d : Nat) (nm : ByteArray) (s : Dst) : Prop where
  ex : ∃ F, Dk w d nm s F ∧ (∀ k ∈ F, B ≤ k) ∧ ∀ p ∈ X, p.1 ∉ F
  keep : ∀ p ∈ X, w.heap[p.1]? = some p.2
  bel : Below B W w
  le : B ≤ w.heap.size
/-- The slice v reads as these bytes wherever the blocks of X are as told. -/
def Sl (v : Value) (xs : List Int) (X : List (Nat × Obj)) : Prop := ∀ w : World, (∀ p ∈ X, w.heap[p.1]? = some p.2) → Bs w v xs
section
variable {X : List (Nat × Obj)} {B : Nat} {W w w' : World} {d : Nat} {nm : ByteArray} {s s' : Dst}
theorem On.below (h : On X B W w d nm s) (hb : Below w.heap.size w w') : On X B W w' d nm s := by
  obtain ⟨⟨F, hd, hF⟩, hk, h1, h2⟩ := h
  exact ⟨⟨F, hd.below hb, hF⟩, fun p hp => (hb.block _ (lt_of_heap (hk p hp))).trans (hk p hp), h1.trans (hb.mono h2), Nat.le_trans h2 hb.size⟩
theorem On.alloc (h : On X B W w d nm s) (o : Obj) : On X B W (w.alloc o) d nm s := h.below (below_alloc_ _ _)
theorem On.to_ {F : List Nat} (hF : ∀ k ∈ F, B ≤ k) (hX : ∀ p ∈ X, p.1 ∉ F) (hk : ∀ p ∈ X, w.heap[p.1]? = some p.2) (h1 : Below B W w) (h2 : B ≤ w.heap.size) (t : DkTo w F d nm s' w') : On X B W w' d nm s' := by
  obtain ⟨⟨G, hd, hG⟩, kp⟩ := t
  refine ⟨⟨G, hd, fun k hk' => ?_, fun p hp hg => ?_⟩, fun p hp => (kp.block _ (lt_of_heap (hk p hp)) (hX p hp)).trans (hk p hp), h1.trans (kp.to_below hF h2), Nat.le_trans h2 kp.size⟩
  · rcases hG k hk' with h | h
    · exact hF k h
    · omega
  · rcases hG _ hg with h | h
    · exact hX p hp h
    · have := lt_of_heap (hk p hp); omega
theorem On.mono {Y : List (Nat × Obj)} (h : On X B W w d nm s) (hY : ∀ p ∈ Y, p ∈ X) : On Y B W w d nm s := by
  obtain ⟨⟨F, hd, hF, hX⟩, hk, h1, h2⟩ := h
  exact ⟨⟨F, hd, hF, fun p hp => hX p (hY p hp)⟩, fun p hp => hk p (hY p hp), h1, h2⟩
theorem On.sl {v : Value} {xs : List Int} {Y : List (Nat × Obj)} (h : On X B W w d nm s) (hs : Sl v xs Y) (hY : ∀ p ∈ Y, p ∈ X) : Bs w v xs := hs w fun p hp => h.keep p (hY p hp)
end

theorem on_new (nm : ByteArray) (w : World) : Calls Try.prog 6 #[] w fun e w' => e = .returned (.pointer (some ⟨w.heap.size + 1, 0, none⟩)) ∧ On [] w.heap.size w w' (w.heap.size + 1) nm ⟨none, -1, false⟩ :=
  (dnew nm w).mono fun _ _ ⟨he, hd, hb⟩ => ⟨he, ⟨_, hd, by intro k hk; simp at hk; omega, by simp⟩, by simp, hb, hb.size⟩
section
variable {X : List (Nat × Obj)} {B : Nat} {W w : World} {d : Nat} {nm : ByteArray} {s : Dst}
theorem on_add (s' : Dst) (r : Int) (hn : Nm nm) (bv : Value) (bs : List Int) (hby : ∀ c ∈ bs, byt c) (hlb : bs.length ≤ 4611686018427387904) (h : On X B W w d nm s) (hbs : Bs w bv bs)
    (he : doesS s ((sizeS s : Nat) + (bs.length : Nat) : Int) true (fun q => some (q.1 ++ bs, q.2)) = (s', r)) :
    Calls Try.prog 9 #[.pointer (some ⟨d, 0, none⟩), .string nm, bv] w fun e w' => e = .returned (.int .i64 r) ∧ On X B W w' d nm s' := by
  obtain ⟨⟨F, hd, hF, hX⟩, hk, h1, h2⟩ := h
  have := dadd nm hn d s F bv bs hby hlb w hd hbs
  rw [he] at this
  exact this.mono fun _ _ ⟨he, ht⟩ => ⟨he, On.to_ hF hX hk h1 h2 ht⟩
theorem on_put (s' : Dst) (r : Int) (hn : Nm nm) (bv : Value) (bs : List Int) (hby : ∀ c ∈ bs, byt c) (hlb : bs.length ≤ 4611686018427387904) (h : On X B W w d nm s) (hbs : Bs w bv bs)
    (he : doesS s bs.length true (fun _ => some (bs, bs.length)) = (s', r)) :
    Calls Try.prog 14 #[.pointer (some ⟨d, 0, none⟩), .string nm, bv] w fun e w' => e = .returned (.int .i64 r) ∧ On X B W w' d nm s' := by
  obtain ⟨⟨F, hd, hF, hX⟩, hk, h1, h2⟩ := h
  have := dput nm hn d s F bv bs hby hlb w hd hbs
  rw [he] at this
  exact this.mono fun _ _ ⟨he, ht⟩ => ⟨he, On.to_ hF hX hk h1 h2 ht⟩
theorem on_sure (s' : Dst) (r : Int) (hn : Nm nm) (h : On X B W w d nm s) (he : doesS s 0 false (fun q => some (q.1, q.1.length)) = (s', r)) :
    Calls Try.prog 10 #[.pointer (some ⟨d, 0, none⟩), .string nm] w fun e w' => e = .returned (.int .i64 r) ∧ On X B W w' d nm s' := by
  obtain ⟨⟨F, hd, hF, hX⟩, hk, h1, h2⟩ := h
  have := dsure nm hn d s F w hd
  rw [he] at this
  exact this.mono fun _ _ ⟨he, ht⟩ => ⟨he, On.to_ hF hX hk h1 h2 ht⟩
theorem on_lift (s' : Dst) (lv : Value) (ls : List Int) (hls : ∀ x ∈ ls, -9223372036854775808 ≤ x ∧ x ≤ 9223372036854775807) (h : On X B W w d nm s) (hlv : Rd w 1 lv ls.length (lossC ls)) (he : liftS s ls = s') :
    Calls Try.prog 11 #[.pointer (some ⟨d, 0, none⟩), lv] w fun e w' => e = .returned (.tuple #[]) ∧ On X B W w' d nm s' := by
  subst he
  obtain ⟨⟨F, hd, hF, hX⟩, hk, h1, h2⟩ := h
  exact (dlift nm d s F lv ls hls w hd hlv).mono fun _ _ ⟨he, ht⟩ => ⟨he, On.to_ hF hX hk h1 h2 ht⟩
theorem on_dead (h : On X B W w d nm s) :
    Calls Try.prog 15 #[.pointer (some ⟨d, 0, none⟩)] w fun e w' => e = .returned (.bool s.dead) ∧ w = w' := by
  obtain ⟨F, hd, hF⟩ := h.ex
  exact ddead nm d s F w hd
theorem on_fuse (n : Int) (hn : n ≤ 9223372036854775807) (h : On X B W w d nm s) :
    Calls Try.prog 13 #[.pointer (some ⟨d, 0, none⟩), .int .i64 n] w fun e w' => e = .returned (.tuple #[]) ∧ On X B W w' d nm { s with fuse := max 0 n } := by
  obtain ⟨⟨F, hd, hF, hX⟩, hk, h1, h2⟩ := h
  exact (dfuse nm d s F n hn w hd).mono fun _ _ ⟨he, ht, kp⟩ => ⟨he, On.to_ hF hX hk h1 h2 ⟨⟨F, ht, fun _ hk => .inl hk⟩, kp.mono (by obtain ⟨m, G, _, _, rfl⟩ := hd.ex; simp)⟩⟩
theorem Bo.sl_ {v : Value} {xs : List Int} {B : Nat} (h : Bo B w v xs) : ∃ Y, (∀ p ∈ Y, B ≤ p.1 ∧ w.heap[p.1]? = some p.2) ∧ Sl v xs Y := by
  rcases h with ⟨rfl, h0, hx⟩ | ⟨g, c, cur, rfl, hB, hg, hh⟩
  · exact ⟨[], by simp, fun w' _ => Bo.bs (.inl ⟨rfl, h0, hx⟩ : Bo 0 w' _ xs)⟩
  · exact ⟨[(g, .cells cur 5)], fun p hp => by simp at hp; subst hp; exact ⟨hB, hg⟩, fun w' hw => Bo.bs (.inr ⟨g, c, cur, rfl, Nat.zero_le _, hw (g, .cells cur 5) (by simp), hh⟩ : Bo 0 w' _ xs)⟩
theorem on_read (xs : List Int) (r : Int) (hn : Nm nm) (h : On X B W w d nm s) (he : readS s = (xs, r)) :
    Calls Try.prog 12 #[.pointer (some ⟨d, 0, none⟩), .string nm] w fun e w' => ∃ P Y, e = .returned (.tuple #[.slice P xs.length xs.length, .int .i64 r]) ∧
      Sl (.slice P xs.length xs.length) xs Y ∧ On (Y ++ X) B W w' d nm s ∧ Below w.heap.size w w' := by
  obtain ⟨F, hd, hF, hX⟩ := h.ex
  have := dread nm hn d s F w hd
  rw [he] at this
  refine this.mono fun _ w' ⟨P, he, ho, hb⟩ => ?_
  obtain ⟨Y, hY, hs⟩ := ho.sl_
  have h' := h.below hb
  refine ⟨P, Y, he, hs, ⟨⟨F, hd.below hb, hF, fun p hp hf => ?_⟩, fun p hp => ?_, h'.bel, h'.le⟩, hb⟩
  · rcases List.mem_append.1 hp with hp | hp
    · have := (hY p hp).1; have := hd.lt _ hf; omega
    · exact hX p hp hf
  · rcases List.mem_append.1 hp with hp | hp
    · exact (hY p hp).2
    · exact h'.keep p hp
end

/-- Bytes, written out. -/
theorem Bs.lit (w : World) (bs : List Int) (_hne : bs ≠ []) : Bs (w.alloc (.cells (bc bs).toArray 5)) (.slice (some ⟨w.heap.size, 0, none⟩) bs.length bs.length) bs := by
  have hk := Blk.new w 5 (bc bs).toArray
  refine ⟨_, _, rfl, Nat.le_refl _, by simp, .inr ⟨w.heap.size, 0, rfl, by simp, fun j u hu => ?_⟩⟩
  rw [Nat.zero_add, hk.cell]
  simpa using hu
end Go.Proofs.Ytenobcfgapolhaa
