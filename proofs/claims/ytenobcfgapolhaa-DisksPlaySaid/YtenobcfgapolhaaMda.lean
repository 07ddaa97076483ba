/- A disk of any files: what it holds; the laws of its map. -/
import Derived.Test.YtenobcfgapolhaaDskA
namespace Go.Proofs.Ytenobcfgapolhaa
open Go.RowKit

section
variable {P : Program} {w : World} {t k e : TypeId} {m ck : Nat}
theorem find_none_ (s : ByteArray) : ∀ (l : List MapEntry) (i : Nat), (∀ x ∈ l, ∃ q, x.key = .string q ∧ q ≠ s) → Instr.findNow .string (.string s) l i = some none
  | [], _, _ => rfl
  | x :: l, i, h => by
    obtain ⟨q, hq, hne⟩ := h x (by simp)
    have hb : (s == q) = false := by
      rw [Bool.eq_false_iff]
      intro h'
      exact hne ((MapKept.bytes_beq s q).1 h').symm
    simp [Instr.findNow, hq, Instr.sameNow, hb]
    exact find_none_ s l (i + 1) fun y hy => h y (by simp [hy])
theorem find_at_ (s : ByteArray) (f born : Nat) (post : List MapEntry) : ∀ (pre : List MapEntry) (i : Nat), (∀ x ∈ pre, ∃ q, x.key = .string q ∧ q ≠ s) →
    Instr.findNow .string (.string s) (pre ++ ent s f born :: post) i = some (some (i + pre.length, .pointer (some ⟨f, 0, none⟩)))
  | [], i, _ => by
    have hb : (s == s) = true := (MapKept.bytes_beq s s).2 rfl
    simp [Instr.findNow, ent, Instr.sameNow, hb]
  | x :: l, i, h => by
    obtain ⟨q, hq, hne⟩ := h x (by simp)
    have hb : (s == q) = false := by
      rw [Bool.eq_false_iff]
      intro h'
      exact hne ((MapKept.bytes_beq s q).1 h').symm
    have := find_at_ s f born post l (i + 1) fun y hy => h y (by simp [hy])
    simp [Instr.findNow, hq, Instr.sameNow, hb, this]
    omega
theorem run_mlook_none (ht : P.underlying t = some (.map k e)) (hk : P.underlying k = some .string) {es : List MapEntry} (hb : w.heap[m]? = some (.map es.toArray ck)) (s : ByteArray) (hs : ∀ x ∈ es, ∃ q, x.key = .string q ∧ q ≠ s) (z : Value) (hz : (zeroValue e).run P w = .ok z w) :
    (Instr.lookup t (.map (some m)) (.string s) false).run P w = .ok z w := by
  have hf := find_none_ s es 0 hs
  have hc := fun b => MapKept.run_checkKey (P := P) (w := w) (k := .string s) hk (by simp [MapKept.IsKey]) b 9999
  simp [Instr.lookup, run_underlying ht, MapKept.run_getObj_map hb, hc, MapKept.run_findKey hk hf, hz, Result.andThen]
theorem run_mlook_at (ht : P.underlying t = some (.map k e)) (hk : P.underlying k = some .string) (s : ByteArray) {f born : Nat} {pre post : List MapEntry} (hb : w.heap[m]? = some (.map (pre ++ ent s f born :: post).toArray ck)) (hs : ∀ x ∈ pre, ∃ q, x.key = .string q ∧ q ≠ s) :
    (Instr.lookup t (.map (some m)) (.string s) false).run P w = .ok (.pointer (some ⟨f, 0, none⟩)) w := by
  have hf := find_at_ s f born post pre 0 hs
  have hc := fun b => MapKept.run_checkKey (P := P) (w := w) (k := .string s) hk (by simp [MapKept.IsKey]) b 9999
  simp [Instr.lookup, run_underlying ht, MapKept.run_getObj_map hb, hc, MapKept.run_findKey hk hf, Result.andThen]
theorem run_mput (ht : P.underlying t = some (.map k e)) (hk : P.underlying k = some .string) {es : List MapEntry} (hb : w.heap[m]? = some (.map es.toArray ck)) (s : ByteArray) (hs : ∀ x ∈ es, ∃ q, x.key = .string q ∧ q ≠ s) (f : Nat) :
    (Instr.mapUpdate t (.map (some m)) (.string s) (.pointer (some ⟨f, 0, none⟩))).run P w = .ok () (setH w m (.map (es ++ [ent s f ck]).toArray (ck + 1))) := by
  have hf := find_none_ s es 0 hs
  have hc := MapKept.run_checkKey (P := P) (w := w) (k := .string s) hk (by simp [MapKept.IsKey]) false 9999
  simp [Instr.mapUpdate, run_underlying ht, MapKept.run_getObj_map hb, hc, MapKept.run_findKey hk hf, MapKept.run_setObj_map _ hb, Result.andThen, setH, ent]
theorem erase_at_ {α : Type} (pre post : List α) (x : α) : (pre ++ x :: post).toArray.eraseIdxIfInBounds pre.length = (pre ++ post).toArray := by
  simp [Array.eraseIdxIfInBounds, List.eraseIdx_append_of_length_le]
theorem run_mdel {k' ty : TypeId} (ht : P.underlying t = some (.map k e)) (hk : P.underlying k = some .string) (s : ByteArray) {f born : Nat} {pre post : List MapEntry} (hb : w.heap[m]? = some (.map (pre ++ ent s f born :: post).toArray ck)) (hs : ∀ x ∈ pre, ∃ q, x.key = .string q ∧ q ≠ s) :
    (Builtin.delete_ #[t, k'] ty #[.map (some m), .string s]).run P w = .ok (.tuple #[]) (setH w m (.map (pre ++ post).toArray ck)) := by
  have hf := find_at_ s f born post pre 0 hs
  have hc := fun b => MapKept.run_checkKey (P := P) (w := w) (k := .string s) hk (by simp [MapKept.IsKey]) b 9999
  have he := erase_at_ pre post (ent s f born)
  simp [Builtin.delete_, run_underlying ht, MapKept.run_getObj_map hb, hc, MapKept.run_findKey hk hf, MapKept.run_setObj_map _ hb, Result.andThen, setH]
  simp at he
  rw [he]
end

/-- A file of a disk. -/
structure Fl where
  nm : ByteArray
  f : Nat
  born : Nat
  v : Value
  xs : List Int
  su : Nat
def Fl.en (r : Fl) : MapEntry := ent r.nm r.f r.born
def Fl.bl (r : Fl) : List Nat := r.f :: r.v.ownBlock.toList
/-- What a file is, plainly: its name, its bytes, how many are sure. -/
def Fl.pf (r : Fl) : ByteArray × List Int × Nat := (r.nm, r.xs, r.su)
structure FlOk (w : World) (ck : Nat) (r : Fl) : Prop where
  blk : Blk w r.f 63 #[r.v, .int .i64 r.su, .string r.nm]
  own : Bo 0 w r.v r.xs
  by_ : ∀ c ∈ r.xs, byt c
  su : r.su ≤ r.xs.length
  len : r.xs.length ≤ 1048576
  born : r.born < ck
  n1 : 1 ≤ r.nm.size
  n16 : r.nm.size ≤ 16
/-- The map m holds these files. -/
structure Fls (w : World) (m ck : Nat) (rs : List Fl) : Prop where
  map_ : w.heap[m]? = some (.map (rs.map Fl.en).toArray ck)
  ok : ∀ r ∈ rs, FlOk w ck r
  names : (rs.map (·.nm)).Nodup
  borns : (rs.map (·.born)).Nodup
  blocks : (rs.flatMap Fl.bl).Nodup
  most : rs.length ≤ 16
/-- A disk, plainly. -/
structure Mst where
  fs : List (ByteArray × List Int × Nat)
  fuse : Int
  dead : Bool
/-- Block d is a disk in this state; it lies in the blocks of F. -/
structure Md (w : World) (d : Nat) (s : Mst) (F : List Nat) : Prop where
  ex : ∃ m ck rs, Blk w d 46 #[.map (some m), .int .i64 s.fuse, .bool s.dead] ∧ Fls w m ck rs ∧ s.fs = rs.map Fl.pf ∧ F = d :: m :: rs.flatMap Fl.bl
  fuse : -1 ≤ s.fuse ∧ s.fuse ≤ 9223372036854775807

section
variable {w w' : World} {ck m d : Nat} {r : Fl} {rs : List Fl} {s : Mst} {F G : List Nat}
theorem FlOk.lt (h : FlOk w ck r) : ∀ k ∈ r.bl, k < w.heap.size := by
  intro k hk
  rcases List.mem_cons.1 hk with rfl | hk
  · exact h.blk.lt
  · exact h.own.lt k (by simpa using hk)
theorem FlOk.kp (h : FlOk w ck r) (k : Kp w G w') (hG : ∀ i ∈ r.bl, i ∉ G) : FlOk w' ck r :=
  ⟨k.blk h.blk (hG _ (by simp [Fl.bl])), k.ow h.own (fun j hj => hG j (by simp [Fl.bl, hj])), h.by_, h.su, h.len, h.born, h.n1, h.n16⟩
theorem FlOk.ne_map {es : Array MapEntry} (h : FlOk w ck r) (hm : w.heap[m]? = some (.map es ck)) : ∀ k ∈ r.bl, k ≠ m := by
  intro k hk e
  subst e
  rcases List.mem_cons.1 hk with rfl | hk
  · have := h.blk; unfold Blk at this; rw [this] at hm; cases hm
  · rcases h.own with ⟨hv, _⟩ | ⟨g, c, cur, hv, _, hg, _⟩
    · rw [hv] at hk; simp [Value.ownBlock] at hk
    · rw [hv] at hk
      simp [Value.ownBlock] at hk
      subst hk
      unfold Blk at hg
      rw [hg] at hm
      cases hm
theorem FlOk.ne_blk {t : TypeId} {cs : Array Value} {g : Nat} (h : FlOk w ck r) (hg : Blk w g t cs) (h1 : t ≠ 63) (h2 : t ≠ 5) : ∀ k ∈ r.bl, k ≠ g := by
  intro k hk
  rcases List.mem_cons.1 hk with rfl | hk
  · exact h.blk.ne_ hg (Ne.symm h1)
  · rcases h.own with ⟨hv, _⟩ | ⟨g', c, cur, hv, _, hg', _⟩
    · rw [hv] at hk; simp [Value.ownBlock] at hk
    · rw [hv] at hk
      simp [Value.ownBlock] at hk
      subst hk
      exact hg'.ne_ hg (Ne.symm h2)
theorem Fls.lt (h : Fls w m ck rs) : ∀ k ∈ rs.flatMap Fl.bl, k < w.heap.size := by
  intro k hk
  obtain ⟨r, hr, hk⟩ := List.mem_flatMap.1 hk
  exact (h.ok r hr).lt k hk
theorem Fls.ne_map (h : Fls w m ck rs) : ∀ k ∈ rs.flatMap Fl.bl, k ≠ m := by
  intro k hk
  obtain ⟨r, hr, hk⟩ := List.mem_flatMap.1 hk
  exact (h.ok r hr).ne_map h.map_ k hk
theorem Fls.ne_blk {t : TypeId} {cs : Array Value} {g : Nat} (h : Fls w m ck rs) (hg : Blk w g t cs) (h1 : t ≠ 63) (h2 : t ≠ 5) : ∀ k ∈ rs.flatMap Fl.bl, k ≠ g := by
  intro k hk
  obtain ⟨r, hr, hk⟩ := List.mem_flatMap.1 hk
  exact (h.ok r hr).ne_blk hg h1 h2 k hk
theorem Fls.kp (h : Fls w m ck rs) (k : Kp w G w') (hm : m ∉ G) (hG : ∀ i ∈ rs.flatMap Fl.bl, i ∉ G) : Fls w' m ck rs :=
  ⟨(k.block m (lt_of_heap h.map_) hm).trans h.map_, fun r hr => (h.ok r hr).kp k fun i hi => hG i (List.mem_flatMap.2 ⟨r, hr, hi⟩), h.names, h.borns, h.blocks, h.most⟩
theorem Md.lt (h : Md w d s F) : ∀ k ∈ F, k < w.heap.size := by
  obtain ⟨m, ck, rs, hd, hf, -, rfl⟩ := h.ex
  intro k hk
  rcases List.mem_cons.1 hk with rfl | hk
  · exact hd.lt
  · rcases List.mem_cons.1 hk with rfl | hk
    · exact lt_of_heap hf.map_
    · exact hf.lt k hk
theorem ne_disk_map {es : Array MapEntry} {cs : Array Value} {t : TypeId} (hd : Blk w d t cs) (hm : w.heap[m]? = some (.map es ck)) : d ≠ m := fun e => by
  subst e; unfold Blk at hd; rw [hd] at hm; cases hm
theorem Md.kp (h : Md w d s F) (k : Kp w G w') (hF : ∀ i ∈ F, i ∉ G) : Md w' d s F := by
  obtain ⟨⟨m, ck, rs, hd, hf, hs, rfl⟩, h1⟩ := h
  exact ⟨⟨m, ck, rs, k.blk hd (hF d (by simp)), hf.kp k (hF m (by simp)) (fun i hi => hF i (by simp only [List.mem_cons]; exact .inr (.inr hi))), hs, rfl⟩, h1⟩
theorem Md.below (h : Md w d s F) (hb : Below w.heap.size w w') : Md w' d s F := h.kp (Kp.of_below hb []) (by simp)
end
/-- What an operation does. -/
structure MdTo (w : World) (F : List Nat) (d : Nat) (s : Mst) (w' : World) : Prop where
  ex : ∃ F', Md w' d s F' ∧ ∀ k ∈ F', k ∈ F ∨ w.heap.size ≤ k
  kp : Kp w F w'
theorem Md.to {w : World} {d : Nat} {s : Mst} {F : List Nat} (h : Md w d s F) : MdTo w F d s w := ⟨⟨F, h, fun _ hk => .inl hk⟩, Kp.refl _ _⟩
theorem MdTo.trans {a b c : World} {F G : List Nat} {d : Nat} {s : Mst} (h : Kp a F b) (hG : ∀ i ∈ G, i ∈ F ∨ a.heap.size ≤ i) (k : MdTo b G d s c) : MdTo a F d s c := by
  obtain ⟨⟨H, hd, hH⟩, hk⟩ := k
  refine ⟨⟨H, hd, fun i hi => ?_⟩, h.trans hk hG⟩
  rcases hH i hi with h1 | h1
  · exact hG i h1
  · exact .inr (Nat.le_trans h.size h1)
theorem MdTo.below {a b c : World} {F : List Nat} {d : Nat} {s : Mst} (h : MdTo a F d s b) (hb : Below b.heap.size b c) : MdTo a F d s c := by
  obtain ⟨⟨H, hd, hH⟩, hk⟩ := h
  exact ⟨⟨H, hd.below hb, hH⟩, hk.below hb⟩
end Go.Proofs.Ytenobcfgapolhaa
