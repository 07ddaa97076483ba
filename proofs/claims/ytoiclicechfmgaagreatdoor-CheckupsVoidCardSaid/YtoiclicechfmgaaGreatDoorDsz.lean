import Derived.Test.YtoiclicechfmgaaGreatDoorMemB
import Derived.MapKept
import Derived.WideMake
import Derived.Laws.IdiomRangeMap
import Derived.WalkSpells
import Derived.WalkLawsBesides
/- A disk of one file at most: what it holds; what its operations may turn; the laws of its map. -/
namespace Go.Proofs.YtoiclicechfmgaaGreatDoor
open Go.RowKit

/-- The map's one entry. -/
def ent (nm : ByteArray) (f born : Nat) : MapEntry := { key := .string nm, val := .pointer (some ⟨f, 0, none⟩), born := born }
/-- The world, an object laid anew. -/
def setH (w : World) (m : Nat) (o : Obj) : World := { w with heap := w.heap.setIfInBounds m o }

section
variable {P : Program} {w : World} {t k e : TypeId} {m ck : Nat}
theorem run_look_none (ht : P.underlying t = some (.map k e)) (hk : P.underlying k = some .string) (hb : w.heap[m]? = some (.map #[] ck)) (s : ByteArray) (z : Value) (hz : (zeroValue e).run P w = .ok z w) :
    (Instr.lookup t (.map (some m)) (.string s) false).run P w = .ok z w := by
  have hf : Instr.findNow .string (.string s) ([] : List MapEntry) 0 = some none := rfl
  have hc := MapKept.run_checkKey (P := P) (w := w) (k := .string s) hk (by simp [MapKept.IsKey]) true 9999
  simp [Instr.lookup, run_underlying ht, MapKept.run_getObj_map hb, hc, MapKept.run_findKey hk hf, hz, Result.andThen]
theorem run_look_one (ht : P.underlying t = some (.map k e)) (hk : P.underlying k = some .string) (s : ByteArray) {f born : Nat} (hb : w.heap[m]? = some (.map #[ent s f born] ck)) :
    (Instr.lookup t (.map (some m)) (.string s) false).run P w = .ok (.pointer (some ⟨f, 0, none⟩)) w := by
  have hf : Instr.findNow .string (.string s) [ent s f born] 0 = some (some (0, .pointer (some ⟨f, 0, none⟩))) := by simp [Instr.findNow, Instr.sameNow, ent, show (s == s) = true from (MapKept.bytes_beq s s).2 rfl]
  have hc := MapKept.run_checkKey (P := P) (w := w) (k := .string s) hk (by simp [MapKept.IsKey]) false 9999
  simp [Instr.lookup, run_underlying ht, MapKept.run_getObj_map hb, hc, MapKept.run_findKey hk hf, Result.andThen]
theorem run_put_one (ht : P.underlying t = some (.map k e)) (hk : P.underlying k = some .string) (hb : w.heap[m]? = some (.map #[] ck)) (s : ByteArray) (f : Nat) :
    (Instr.mapUpdate t (.map (some m)) (.string s) (.pointer (some ⟨f, 0, none⟩))).run P w = .ok () (setH w m (.map #[ent s f ck] (ck + 1))) := run_mapUpdate_first w t k e m ck s _ ht hk hb
theorem run_del_one {k' ty : TypeId} (ht : P.underlying t = some (.map k e)) (hk : P.underlying k = some .string) (s : ByteArray) {f born : Nat} (hb : w.heap[m]? = some (.map #[ent s f born] ck)) :
    (Builtin.delete_ #[t, k'] ty #[.map (some m), .string s]).run P w = .ok (.tuple #[]) (setH w m (.map #[] ck)) := by
  have hf : Instr.findNow .string (.string s) [ent s f born] 0 = some (some (0, .pointer (some ⟨f, 0, none⟩))) := by simp [Instr.findNow, Instr.sameNow, ent, show (s == s) = true from (MapKept.bytes_beq s s).2 rfl]
  have hc := MapKept.run_checkKey (P := P) (w := w) (k := .string s) hk (by simp [MapKept.IsKey]) false 9999
  simp [Builtin.delete_, run_underlying ht, MapKept.run_getObj_map hb, hc, MapKept.run_findKey hk hf, MapKept.run_setObj_map _ hb, Result.andThen, setH]
theorem run_len_ {ty : TypeId} (ht : P.underlying t = some (.map k e)) {es : Array MapEntry} (hb : w.heap[m]? = some (.map es ck)) :
    (Builtin.len_ #[t] ty #[.map (some m)]).run P w = .ok (.int .i64 es.size) w := by
  simp [Builtin.len_, run_underlying ht, MapKept.run_getObj_map hb, Result.andThen, goInt]
end

/-- Since a nothing has turned but the blocks of F. -/
structure Kp (a : World) (F : List Nat) (b : World) : Prop where
  os : b.os = a.os
  tape : b.tape = a.tape
  output : b.output = a.output
  size : a.heap.size ≤ b.heap.size
  block : ∀ i, i < a.heap.size → i ∉ F → b.heap[i]? = a.heap[i]?
section
variable {a b c : World} {F G : List Nat}
theorem Kp.refl (a : World) (F : List Nat) : Kp a F a := ⟨rfl, rfl, rfl, Nat.le_refl _, fun _ _ _ => rfl⟩
theorem Kp.below (h : Kp a F b) (hb : Below b.heap.size b c) : Kp a F c :=
  ⟨hb.os.trans h.os, hb.tape.trans h.tape, hb.output.trans h.output, Nat.le_trans h.size hb.size, fun i hi hn => (hb.block i (Nat.lt_of_lt_of_le hi h.size)).trans (h.block i hi hn)⟩
theorem Kp.alloc (h : Kp a F b) (o : Obj) : Kp a F (b.alloc o) := h.below (below_alloc_ b o)
theorem Kp.of_below (hb : Below a.heap.size a b) (F : List Nat) : Kp a F b := (Kp.refl a F).below hb
theorem Kp.trans (h : Kp a F b) (k : Kp b G c) (hG : ∀ i ∈ G, i ∈ F ∨ a.heap.size ≤ i) : Kp a F c :=
  ⟨k.os.trans h.os, k.tape.trans h.tape, k.output.trans h.output, Nat.le_trans h.size k.size, fun i hi hn =>
    (k.block i (Nat.lt_of_lt_of_le hi h.size) (fun hg => by
      rcases hG i hg with h1 | h1
      · exact hn h1
      · omega)).trans (h.block i hi hn)⟩
theorem Kp.mono (h : Kp a F b) (hG : ∀ i ∈ F, i ∈ G) : Kp a G b := ⟨h.os, h.tape, h.output, h.size, fun i hi hn => h.block i hi (fun hf => hn (hG i hf))⟩
theorem Kp.setCell (h : Kp a F b) {p : Addr} (hp : p.block ∈ F ∨ a.heap.size ≤ p.block) (u : Value) : Kp a F (b.setCell p u) :=
  ⟨h.os, h.tape, h.output, by simpa using h.size, fun i hi hn => (heap_setCell_other b p i u (fun e => by
    subst e
    rcases hp with hp | hp
    · exact hn hp
    · omega)).trans (h.block i hi hn)⟩
theorem Kp.setH (h : Kp a F b) {m : Nat} (hp : m ∈ F ∨ a.heap.size ≤ m) (o : Obj) : Kp a F (setH b m o) :=
  ⟨h.os, h.tape, h.output, by simpa [Proofs.YtoiclicechfmgaaGreatDoor.setH] using h.size, fun i hi hn => (show (b.heap.setIfInBounds m o)[i]? = b.heap[i]? from by
    have hne : m ≠ i := fun e => by
      subst e
      rcases hp with hp | hp
      · exact hn hp
      · omega
    simp [hne]).trans (h.block i hi hn)⟩
theorem Kp.to_below (h : Kp a F b) {B : Nat} (hF : ∀ i ∈ F, B ≤ i) (hB : B ≤ a.heap.size) : Below B a b :=
  ⟨h.os, h.tape, h.output, h.size, fun i hi => h.block i (by omega) (fun hf => by have := hF i hf; omega)⟩
theorem Kp.blk (h : Kp a F b) {g : Nat} {t : TypeId} {cs : Array Value} (hk : Blk a g t cs) (hg : g ∉ F) : Blk b g t cs := (h.block g hk.lt hg).trans hk
theorem Kp.rd (h : Kp a F b) {size n : Nat} {v : Value} {xs : List Value} (hs : Rd a size v n xs) (hne : n = 0 ∨ ∀ k, v.ownBlock = some k → k ∉ F) : Rd b size v n xs := by
  obtain ⟨A, c, rfl, hc, hl, hh⟩ := hs
  refine ⟨A, c, rfl, hc, hl, ?_⟩
  rcases hh with h0 | ⟨g, o, rfl, hg, hcell⟩
  · exact .inl h0
  · rcases hne with h0 | hne
    · exact .inl h0
    · exact .inr ⟨g, o, rfl, Nat.lt_of_lt_of_le hg h.size, fun j u hu => (World.cell?_of_block (a := ⟨g, o + j, none⟩) (h.block g hg (hne g rfl))).trans (hcell j u hu)⟩
theorem Kp.ow (h : Kp a F b) {B size n : Nat} {e : TypeId} {v : Value} {xs : List Value} (hs : Ow B a e size v n xs) (hne : ∀ k, v.ownBlock = some k → k ∉ F) : Ow B b e size v n xs := by
  rcases hs with hs | ⟨g, c, cur, rfl, hB, hg, hs⟩
  · exact .inl hs
  · exact .inr ⟨g, c, cur, rfl, hB, h.blk hg (hne g rfl), hs⟩
end

/-- A disk's state: its file (the bytes, how many are sure), the doings that are left (-1: any), whether it is dead. -/
structure Dst where
  file : Option (List Int × Nat)
  fuse : Int
  dead : Bool

/-- What the map m holds: F: the blocks that the file lies in. -/
def DkF (w : World) (m : Nat) (nm : ByteArray) (file : Option (List Int × Nat)) (F : List Nat) : Prop := match file with
  | none => ∃ ck, w.heap[m]? = some (.map #[] ck) ∧ F = []
  | some (xs, su) => ∃ f born ck v, w.heap[m]? = some (.map #[ent nm f born] ck) ∧ born < ck ∧ Blk w f 100 #[v, .int .i64 su, .string nm] ∧ Bo 0 w v xs ∧ (∀ c ∈ xs, byt c) ∧ su ≤ xs.length ∧ xs.length ≤ 1048576 ∧ F = f :: v.ownBlock.toList
/-- Block d is a disk in this state; it lies in the blocks of F. -/
structure Dk (w : World) (d : Nat) (nm : ByteArray) (s : Dst) (F : List Nat) : Prop where
  ex : ∃ m G, Blk w d 30 #[.map (some m), .int .i64 s.fuse, .bool s.dead] ∧ DkF w m nm s.file G ∧ F = d :: m :: G
  fuse : -1 ≤ s.fuse ∧ s.fuse ≤ 9223372036854775807

theorem lt_of_heap {w : World} {i : Nat} {o : Obj} (h : w.heap[i]? = some o) : i < w.heap.size := by
  rcases Nat.lt_or_ge i w.heap.size with h1 | h1
  · exact h1
  · rw [Array.getElem?_eq_none h1] at h; cases h
theorem DkF.lt {w : World} {m : Nat} {nm : ByteArray} {file : Option (List Int × Nat)} {F : List Nat} (h : DkF w m nm file F) : m < w.heap.size ∧ ∀ k ∈ F, k < w.heap.size := by
  cases file with
  | none => obtain ⟨ck, hm, rfl⟩ := h; exact ⟨lt_of_heap hm, by simp⟩
  | some q =>
    obtain ⟨f, born, ck, v, hm, _, hf, ho, _, _, _, rfl⟩ := h
    refine ⟨lt_of_heap hm, fun k hk => ?_⟩
    rcases List.mem_cons.1 hk with rfl | hk
    · exact hf.lt
    · rcases ho with ⟨rfl, _⟩ | ⟨g, c, cur, rfl, _, hg, _⟩
      · simp [Value.ownBlock] at hk
      · simp [Value.ownBlock] at hk; subst hk; exact hg.lt
theorem Dk.lt {w : World} {d : Nat} {nm : ByteArray} {s : Dst} {F : List Nat} (h : Dk w d nm s F) : ∀ k ∈ F, k < w.heap.size := by
  obtain ⟨m, G, hd, hf, rfl⟩ := h.ex
  intro k hk
  rcases List.mem_cons.1 hk with rfl | hk
  · exact hd.lt
  · rcases List.mem_cons.1 hk with rfl | hk
    · exact hf.lt.1
    · exact hf.lt.2 k hk
theorem DkF.kp {w w' : World} {m : Nat} {nm : ByteArray} {file : Option (List Int × Nat)} {F G : List Nat} (h : DkF w m nm file F) (k : Kp w G w') (hm : m ∉ G) (hF : ∀ i ∈ F, i ∉ G) : DkF w' m nm file F := by
  cases file with
  | none => obtain ⟨ck, hb, rfl⟩ := h; exact ⟨ck, (k.block m (lt_of_heap hb) hm).trans hb, rfl⟩
  | some q =>
    obtain ⟨f, born, ck, v, hb, h1, hf, ho, h2, h3, h4, rfl⟩ := h
    refine ⟨f, born, ck, v, (k.block m (lt_of_heap hb) hm).trans hb, h1, k.blk hf (hF f (by simp)), k.ow ho (fun j hj => hF j (by simp [hj])), h2, h3, h4, rfl⟩
theorem Dk.kp {w w' : World} {d : Nat} {nm : ByteArray} {s : Dst} {F G : List Nat} (h : Dk w d nm s F) (k : Kp w G w') (hF : ∀ i ∈ F, i ∉ G) : Dk w' d nm s F := by
  obtain ⟨⟨m, H, hd, hf, rfl⟩, h1⟩ := h
  exact ⟨⟨m, H, k.blk hd (hF d (by simp)), hf.kp k (hF m (by simp)) (fun i hi => hF i (by simp [hi])), rfl⟩, h1⟩
theorem Dk.below {w w' : World} {d : Nat} {nm : ByteArray} {s : Dst} {F : List Nat} (h : Dk w d nm s F) (hb : Below w.heap.size w w') : Dk w' d nm s F := h.kp (Kp.of_below hb []) (by simp)

/-- What an operation does: the disk d is in the state s then; nothing has turned but the disk's blocks F. -/
structure DkTo (w : World) (F : List Nat) (d : Nat) (nm : ByteArray) (s : Dst) (w' : World) : Prop where
  ex : ∃ F', Dk w' d nm s F' ∧ ∀ k ∈ F', k ∈ F ∨ w.heap.size ≤ k
  kp : Kp w F w'
theorem Dk.to {w : World} {d : Nat} {nm : ByteArray} {s : Dst} {F : List Nat} (h : Dk w d nm s F) : DkTo w F d nm s w := ⟨⟨F, h, fun _ hk => .inl hk⟩, Kp.refl _ _⟩
theorem DkTo.trans {a b c : World} {F G : List Nat} {d : Nat} {nm : ByteArray} {s : Dst} (h : Kp a F b) (hG : ∀ i ∈ G, i ∈ F ∨ a.heap.size ≤ i) (k : DkTo b G d nm s c) : DkTo a F d nm s c := by
  obtain ⟨⟨H, hd, hH⟩, hk⟩ := k
  refine ⟨⟨H, hd, fun i hi => ?_⟩, h.trans hk hG⟩
  rcases hH i hi with h1 | h1
  · exact hG i h1
  · exact .inr (Nat.le_trans h.size h1)
theorem DkTo.below {a b c : World} {F : List Nat} {d : Nat} {nm : ByteArray} {s : Dst} (h : DkTo a F d nm s b) (hb : Below b.heap.size b c) : DkTo a F d nm s c := by
  obtain ⟨⟨H, hd, hH⟩, hk⟩ := h
  exact ⟨⟨H, hd.below hb, hH⟩, hk.below hb⟩

/-- A slice that reads bytes lies in no block that holds other things. -/
theorem Bs.off {w : World} {g t : Nat} {cs : Array Value} {v : Value} {xs : List Int} (hk : Blk w g t cs) (hcs : ∀ (j : Nat) (c : Int), cs[j]? ≠ some (.int .u8 c)) (h : Bs w v xs) : xs.length = 0 ∨ ∀ k, v.ownBlock = some k → k ≠ g := by
  obtain ⟨A, k, rfl, hc, hl, hh⟩ := h
  rcases hh with h0 | ⟨gb, o, rfl, hgl, hcell⟩
  · exact .inl h0
  · cases xs with
    | nil => exact .inl rfl
    | cons y ys =>
      refine .inr fun j hj => ?_
      have hjg : j = gb := by simpa [Value.ownBlock] using hj.symm
      subst hjg
      rintro rfl
      have h1 := hcell 0 (.int .u8 y) rfl
      rw [hk.cell] at h1
      exact hcs _ _ h1
theorem Bs.offmap {w : World} {m : Nat} {es : Array MapEntry} {ck : Nat} {v : Value} {xs : List Int} (hk : w.heap[m]? = some (.map es ck)) (h : Bs w v xs) : xs.length = 0 ∨ ∀ k, v.ownBlock = some k → k ≠ m := by
  obtain ⟨A, k, rfl, hc, hl, hh⟩ := h
  rcases hh with h0 | ⟨gb, o, rfl, hgl, hcell⟩
  · exact .inl h0
  · cases xs with
    | nil => exact .inl rfl
    | cons y ys =>
      refine .inr fun j hj => ?_
      have hjg : j = gb := by simpa [Value.ownBlock] using hj.symm
      subst hjg
      rintro rfl
      have h1 := hcell 0 (.int .u8 y) rfl
      simp [World.cell?, hk] at h1
end Go.Proofs.YtoiclicechfmgaaGreatDoor

/- A disk of one file at most: what is small. -/
namespace Go.Proofs.YtoiclicechfmgaaGreatDoor
open Go.RowKit

theorem dnew (nm : ByteArray) (w : World) : Calls Tryz.prog 10 #[] w fun e w' => e = .returned (.pointer (some ⟨w.heap.size + 1, 0, none⟩)) ∧ Dk w' (w.heap.size + 1) nm ⟨none, -1, false⟩ [w.heap.size + 1, w.heap.size] ∧ Below w.heap.size w w' := by
  have hmm := @run_makeMap Tryz.prog
  go_enter Tryz.func10, Tryz.ntmps10
  go_wp2
  go_ret
  refine ⟨rfl, ⟨⟨w.heap.size, [], ?_, ⟨0, ?_, rfl⟩, rfl⟩, by simp, by simp⟩, ?_⟩
  · have := Blk.new (w.alloc (.map #[] 0)) 30 #[.map (some w.heap.size), .int .i64 (-1), .bool false]
    simpa using this
  · exact (heap_alloc_old _ _ (by simp)).trans (heap_alloc_new _ _)
  · exact below_alloc2_ _ _ _

/-- What is asked of a name. -/
structure Nm (nm : ByteArray) : Prop where
  pos : ¬ nm.toList = []
  most : nm.size ≤ 16

theorem dasked (nm : ByteArray) (hn : Nm nm) (d : Nat) (s : Dst) (F : List Nat) (w : World) (h : Dk w d nm s F) :
    Calls Tryz.prog 54 #[.pointer (some ⟨d, 0, none⟩), .string nm] w fun e w' => e = .returned (.int .i64 (if s.dead then 17 else 0)) ∧ w = w' := by
  obtain ⟨m, G, hd, hf, rfl⟩ := h.ex
  have c0 := hd.cell 0
  have c2 := hd.cell 2
  simp at c0 c2
  have h16 : ¬ (16 : Int) < (nm.size : Int) := by have := hn.most; omega
  have hp := hn.pos
  have hp2 : nm.toList.isEmpty = false := by
    cases hl : nm.toList with
    | nil => exact absurd hl hp
    | cons _ _ => rfl
  obtain ⟨file, fu, dead⟩ := s
  simp only at c2
  have qm := fun (w : World) (r : Option Nat) => run_neq_map_nil (P := Tryz.prog) w _ _ _ r Tryz.underlying28
  clear hd hf h hn
  cases dead
  · go_enter Tryz.func54, Tryz.ntmps54
    go_wp2
    go_ret
    exact ⟨rfl, rfl⟩
  · go_enter Tryz.func54, Tryz.ntmps54
    go_wp2
    go_ret
    exact ⟨rfl, rfl⟩

theorem Dk.apart {nm : ByteArray} {d : Nat} {s : Dst} {F : List Nat} {w : World} (h : Dk w d nm s F) : ∀ k ∈ F.drop 1, k ≠ d := by
  obtain ⟨m, G, hd, hf, rfl⟩ := h.ex
  intro k hk
  obtain ⟨file, fu, dead⟩ := s
  cases file with
  | none => obtain ⟨ck, hb, rfl⟩ := hf; simp at hk; subst hk; exact fun e => (by subst e; unfold Blk at hd; rw [hd] at hb; cases hb)
  | some q =>
    obtain ⟨f, born, ck, v, hb, _, hff, ho, _, _, _, rfl⟩ := hf
    intro e
    subst e
    rcases List.mem_cons.1 hk with rfl | hk
    · unfold Blk at hd; rw [hd] at hb; cases hb
    · rcases List.mem_cons.1 hk with rfl | hk
      · exact (hff.ne_ hd (by decide)) rfl
      · rcases ho with ⟨rfl, _⟩ | ⟨g, c, cur, rfl, _, hg, _⟩
        · simp [Value.ownBlock] at hk
        · simp [Value.ownBlock] at hk; subst hk; exact (hg.ne_ hd (by decide)) rfl
def burnS (s : Dst) : Dst × Int := if s.fuse = 0 then ({ s with dead := true }, 17) else if 0 < s.fuse then ({ s with fuse := s.fuse - 1 }, 0) else (s, 0)

theorem dburns (nm : ByteArray) (d : Nat) (s : Dst) (F : List Nat) (w : World) (h : Dk w d nm s F) :
    Calls Tryz.prog 72 #[.pointer (some ⟨d, 0, none⟩)] w fun e w' => e = .returned (.int .i64 (burnS s).2) ∧ Dk w' d nm (burnS s).1 F ∧ Kp w [d] w' := by
  have H := Lib.hid h
  have hnd := h.apart
  obtain ⟨⟨m, G, hd, hf, rfl⟩, hfu1, hfu2⟩ := h
  have c1 := hd.cell 1
  have c2 := hd.cell 2
  have fz := hd.free
  simp at c1 c2
  have HD := Lib.hid hd
  have HF := Lib.hid hf
  have HN := Lib.hid hnd
  obtain ⟨file, fu, dead⟩ := s
  simp only at c1 c2 hfu1 hfu2
  clear hd hf hnd
  by_cases h0 : fu = 0
  · have hb : burnS ⟨file, fu, dead⟩ = (⟨file, fu, true⟩, 17) := by simp [burnS, h0]
    have HB := Lib.hid hb
    clear hb
    subst h0
    rw [HB.out]
    go_enter Tryz.func72, Tryz.ntmps72
    go_wp2
    go_ret
    have k : Kp w [d] (w.setCell ⟨d, 2, none⟩ (.bool true)) := (Kp.refl _ _).setCell (.inl (by simp)) _
    refine ⟨rfl, ⟨⟨m, G, ?_, HF.out.kp k (by simpa using HN.out m (by simp)) (fun i hi => by simpa using HN.out i (by simp [hi])), rfl⟩, by simp, by simp⟩, k⟩
    have := HD.out.set_ 2 (.bool true)
    simpa using this
  · by_cases h1 : 0 < fu
    · have hb : burnS ⟨file, fu, dead⟩ = (⟨file, fu - 1, dead⟩, 0) := by simp [burnS, h0, h1]
      have HB := Lib.hid hb
      clear hb
      rw [HB.out]
      go_enter Tryz.func72, Tryz.ntmps72
      go_wp2
      go_ret
      have k : Kp w [d] (w.setCell ⟨d, 1, none⟩ (.int .i64 (fu - 1))) := (Kp.refl _ _).setCell (.inl (by simp)) _
      refine ⟨rfl, ⟨⟨m, G, ?_, HF.out.kp k (by simpa using HN.out m (by simp)) (fun i hi => by simpa using HN.out i (by simp [hi])), rfl⟩, by simp; omega, by simp; omega⟩, k⟩
      have := HD.out.set_ 1 (.int .i64 (fu - 1))
      simpa using this
    · have hb : burnS ⟨file, fu, dead⟩ = (⟨file, fu, dead⟩, 0) := by simp [burnS, h0, h1]
      have HB := Lib.hid hb
      clear hb
      rw [HB.out]
      go_enter Tryz.func72, Tryz.ntmps72
      go_wp2
      go_ret
      exact ⟨rfl, H.out, Kp.refl _ _⟩

def sizeS (s : Dst) : Nat := (s.file.map fun q => q.1.length).getD 0

theorem dsize (nm : ByteArray) (d : Nat) (s : Dst) (F : List Nat) (w : World) (h : Dk w d nm s F) :
    Calls Tryz.prog 46 #[.pointer (some ⟨d, 0, none⟩), .string nm] w fun e w' => e = .returned (.int .i64 (sizeS s)) ∧ w = w' := by
  obtain ⟨m, G, hd, hf, rfl⟩ := h.ex
  have c0 := hd.cell 0
  simp at c0
  obtain ⟨file, fu, dead⟩ := s
  cases file with
  | none =>
    obtain ⟨ck, hb, rfl⟩ := hf
    have hl := run_look_none (P := Tryz.prog) Tryz.underlying28 Tryz.underlying9 hb nm (.pointer none) (by kernel_rfl)
    clear hd hb h
    have qm := fun (w : World) (r : Option Nat) => run_neq_map_nil (P := Tryz.prog) w _ _ _ r Tryz.underlying28
    go_enter Tryz.func46, Tryz.ntmps46
    go_wp2
    go_ret
    exact ⟨rfl, rfl⟩
  | some q =>
    obtain ⟨xs, su⟩ := q
    obtain ⟨f, born, ck, v, hb, h1, hff, ho, hby, hsu, hlen, rfl⟩ := hf
    have hl := run_look_one (P := Tryz.prog) Tryz.underlying28 Tryz.underlying9 nm hb
    obtain ⟨A, c, rfl, hc, -⟩ := ho.clip
    have d0 := hff.cell 0
    simp at d0
    clear hd hb h hff ho hby
    have qm := fun (w : World) (r : Option Nat) => run_neq_map_nil (P := Tryz.prog) w _ _ _ r Tryz.underlying28
    go_enter Tryz.func46, Tryz.ntmps46
    go_wp2
    go_ret
    exact ⟨rfl, rfl⟩

theorem dfuse (nm : ByteArray) (d : Nat) (s : Dst) (F : List Nat) (n : Int) (hn : n ≤ 9223372036854775807) (w : World) (h : Dk w d nm s F) :
    Calls Tryz.prog 11 #[.pointer (some ⟨d, 0, none⟩), .int .i64 n] w fun e w' => e = .returned (.tuple #[]) ∧ Dk w' d nm { s with fuse := max 0 n } F ∧ Kp w [d] w' := by
  have hnd := h.apart
  obtain ⟨⟨m, G, hd, hf, rfl⟩, hfu1, hfu2⟩ := h
  have c0 := hd.cell 0
  have c1 := hd.cell 1
  have fz := hd.free
  simp at c0 c1
  have HD := Lib.hid hd
  have HF := Lib.hid hf
  have HN := Lib.hid hnd
  obtain ⟨file, fu, dead⟩ := s
  simp only at c1 hfu1 hfu2
  clear hd hf hnd
  have qm := fun (w : World) (r : Option Nat) => run_neq_map_nil (P := Tryz.prog) w _ _ _ r Tryz.underlying28
  have k : ∀ v, Kp w [d] (w.setCell ⟨d, 1, none⟩ v) := fun v => (Kp.refl _ _).setCell (.inl (by simp)) _
  have K := Lib.hid k
  clear k
  by_cases h0 : 0 < n
  · have E := Lib.hid (show max 0 n = n by omega)
    rw [E.out]
    go_enter Tryz.func11, Tryz.ntmps11
    go_wp2
    all_goals
      go_end0
      refine ⟨rfl, ⟨⟨m, G, ?_, HF.out.kp (K.out _) (by simpa using HN.out m (by simp)) (fun i hi => by simpa using HN.out i (by simp [hi])), rfl⟩, by first | (simp; done) | (simp; omega), by first | (simp; done) | (simp; omega)⟩, K.out _⟩
      have := HD.out.set_ 1 (.int .i64 (n))
      simpa using this
  · have E := Lib.hid (show max 0 n = 0 by omega)
    rw [E.out]
    go_enter Tryz.func11, Tryz.ntmps11
    go_wp2
    all_goals
      go_end0
      refine ⟨rfl, ⟨⟨m, G, ?_, HF.out.kp (K.out _) (by simpa using HN.out m (by simp)) (fun i hi => by simpa using HN.out i (by simp [hi])), rfl⟩, by first | (simp; done) | (simp; omega), by first | (simp; done) | (simp; omega)⟩, K.out _⟩
      have := HD.out.set_ 1 (.int .i64 (0))
      simpa using this
theorem ddead (nm : ByteArray) (d : Nat) (s : Dst) (F : List Nat) (w : World) (h : Dk w d nm s F) :
    Calls Tryz.prog 45 #[.pointer (some ⟨d, 0, none⟩)] w fun e w' => e = .returned (.bool s.dead) ∧ w = w' := by
  obtain ⟨m, G, hd, hf, rfl⟩ := h.ex
  have c0 := hd.cell 0
  have c2 := hd.cell 2
  simp at c0 c2
  clear hd hf h
  have qm := fun (w : World) (r : Option Nat) => run_neq_map_nil (P := Tryz.prog) w _ _ _ r Tryz.underlying28
  go_enter Tryz.func45, Tryz.ntmps45
  go_wp2
  go_ret
  exact ⟨rfl, rfl⟩
end Go.Proofs.YtoiclicechfmgaaGreatDoor
