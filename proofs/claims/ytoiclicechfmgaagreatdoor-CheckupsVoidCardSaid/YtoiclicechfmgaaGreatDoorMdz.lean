import Derived.Test.YtoiclicechfmgaaGreatDoorDsz
import Derived.Lib.Strings
/- A disk of any files: what it holds; the laws of its map. -/
namespace Go.Proofs.YtoiclicechfmgaaGreatDoor
open Go.RowKit

section
variable {P : Program} {w : World} {t k e : TypeId} {m ck : Nat}
theorem find_none_ (s : ByteArray) : ∀ (l : List MapEntry) (i : Nat), (∀ x ∈ l, ∃ q, x.key = .string q ∧ q ≠ s) → Instr.findNow .string (.string s) l i = some none
  | [], _, _ => rfl
  | x :: l, i, h => by
    obtain ⟨q, hq, hne⟩ := h x (by simp)
    have hb : (s == q) = false := by
      rw [Bool.eq_false_iff]
      intro h'
      exact hne ((MapKept.bytes_beq s q).1 h').symm
    simp [Instr.findNow, hq, Instr.sameNow, hb]
    exact find_none_ s l (i + 1) fun y hy => h y (by simp [hy])
theorem find_at_ (s : ByteArray) (f born : Nat) (post : List MapEntry) : ∀ (pre : List MapEntry) (i : Nat), (∀ x ∈ pre, ∃ q, x.key = .string q ∧ q ≠ s) →
    Instr.findNow .string (.string s) (pre ++ ent s f born :: post) i = some (some (i + pre.length, .pointer (some ⟨f, 0, none⟩)))
  | [], i, _ => by
    have hb : (s == s) = true := (MapKept.bytes_beq s s).2 rfl
    simp [Instr.findNow, ent, Instr.sameNow, hb]
  | x :: l, i, h => by
    obtain ⟨q, hq, hne⟩ := h x (by simp)
    have hb : (s == q) = false := by
      rw [Bool.eq_false_iff]
      intro h'
      exact hne ((MapKept.bytes_beq s q).1 h').symm
    have := find_at_ s f born post l (i + 1) fun y hy => h y (by simp [hy])
    simp [Instr.findNow, hq, Instr.sameNow, hb, this]
    omega
theorem run_mlook_none (ht : P.underlying t = some (.map k e)) (hk : P.underlying k = some .string) {es : List MapEntry} (hb : w.heap[m]? = some (.map es.toArray ck)) (s : ByteArray) (hs : ∀ x ∈ es, ∃ q, x.key = .string q ∧ q ≠ s) (z : Value) (hz : (zeroValue e).run P w = .ok z w) :
    (Instr.lookup t (.map (some m)) (.string s) false).run P w = .ok z w := by
  have hf := find_none_ s es 0 hs
  have hc := fun b => MapKept.run_checkKey (P := P) (w := w) (k := .string s) hk (by simp [MapKept.IsKey]) b 9999
  simp [Instr.lookup, run_underlying ht, MapKept.run_getObj_map hb, hc, MapKept.run_findKey hk hf, hz, Result.andThen]
theorem run_mlook_at (ht : P.underlying t = some (.map k e)) (hk : P.underlying k = some .string) (s : ByteArray) {f born : Nat} {pre post : List MapEntry} (hb : w.heap[m]? = some (.map (pre ++ ent s f born :: post).toArray ck)) (hs : ∀ x ∈ pre, ∃ q, x.key = .string q ∧ q ≠ s) :
    (Instr.lookup t (.map (some m)) (.string s) false).run P w = .ok (.pointer (some ⟨f, 0, none⟩)) w := by
  have hf := find_at_ s f born post pre 0 hs
  have hc := fun b => MapKept.run_checkKey (P := P) (w := w) (k := .string s) hk (by simp [MapKept.IsKey]) b 9999
  simp [Instr.lookup, run_underlying ht, MapKept.run_getObj_map hb, hc, MapKept.run_findKey hk hf, Result.andThen]
theorem run_mput (ht : P.underlying t = some (.map k e)) (hk : P.underlying k = some .string) {es : List MapEntry} (hb : w.heap[m]? = some (.map es.toArray ck)) (s : ByteArray) (hs : ∀ x ∈ es, ∃ q, x.key = .string q ∧ q ≠ s) (f : Nat) :
    (Instr.mapUpdate t (.map (some m)) (.string s) (.pointer (some ⟨f, 0, none⟩))).run P w = .ok () (setH w m (.map (es ++ [ent s f ck]).toArray (ck + 1))) := by
  have hf := find_none_ s es 0 hs
  have hc := MapKept.run_checkKey (P := P) (w := w) (k := .string s) hk (by simp [MapKept.IsKey]) false 9999
  simp [Instr.mapUpdate, run_underlying ht, MapKept.run_getObj_map hb, hc, MapKept.run_findKey hk hf, MapKept.run_setObj_map _ hb, Result.andThen, setH, ent]
theorem erase_at_ {α : Type} (pre post : List α) (x : α) : (pre ++ x :: post).toArray.eraseIdxIfInBounds pre.length = (pre ++ post).toArray := by
  simp [Array.eraseIdxIfInBounds, List.eraseIdx_append_of_length_le]
theorem run_mdel {k' ty : TypeId} (ht : P.underlying t = some (.map k e)) (hk : P.underlying k = some .string) (s : ByteArray) {f born : Nat} {pre post : List MapEntry} (hb : w.heap[m]? = some (.map (pre ++ ent s f born :: post).toArray ck)) (hs : ∀ x ∈ pre, ∃ q, x.key = .string q ∧ q ≠ s) :
    (Builtin.delete_ #[t, k'] ty #[.map (some m), .string s]).run P w = .ok (.tuple #[]) (setH w m (.map (pre ++ post).toArray ck)) := by
  have hf := find_at_ s f born post pre 0 hs
  have hc := fun b => MapKept.run_checkKey (P := P) (w := w) (k := .string s) hk (by simp [MapKept.IsKey]) b 9999
  have he := erase_at_ pre post (ent s f born)
  simp [Builtin.delete_, run_underlying ht, MapKept.run_getObj_map hb, hc, MapKept.run_findKey hk hf, MapKept.run_setObj_map _ hb, Result.andThen, setH]
  simp at he
  rw [he]
end

/-- A file of a disk. -/
structure Fl where
  nm : ByteArray
  f : Nat
  born : Nat
  v : Value
  xs : List Int
  su : Nat
def Fl.en (r : Fl) : MapEntry := ent r.nm r.f r.born
def Fl.bl (r : Fl) : List Nat := r.f :: r.v.ownBlock.toList
/-- What a file is, plainly: its name, its bytes, how many are sure. -/
def Fl.pf (r : Fl) : ByteArray × List Int × Nat := (r.nm, r.xs, r.su)
structure FlOk (w : World) (ck : Nat) (r : Fl) : Prop where
  blk : Blk w r.f 100 #[r.v, .int .i64 r.su, .string r.nm]
  own : Bo 0 w r.v r.xs
  by_ : ∀ c ∈ r.xs, byt c
  su : r.su ≤ r.xs.length
  len : r.xs.length ≤ 1048576
  born : r.born < ck
  n1 : 1 ≤ r.nm.size
  n16 : r.nm.size ≤ 16
/-- The map m holds these files. -/
structure Fls (w : World) (m ck : Nat) (rs : List Fl) : Prop where
  map_ : w.heap[m]? = some (.map (rs.map Fl.en).toArray ck)
  ok : ∀ r ∈ rs, FlOk w ck r
  names : (rs.map (·.nm)).Nodup
  borns : (rs.map (·.born)).Nodup
  blocks : (rs.flatMap Fl.bl).Nodup
  most : rs.length ≤ 16
/-- A disk, plainly. -/
structure Mst where
  fs : List (ByteArray × List Int × Nat)
  fuse : Int
  dead : Bool
/-- Block d is a disk in this state; it lies in the blocks of F. -/
structure Md (w : World) (d : Nat) (s : Mst) (F : List Nat) : Prop where
  ex : ∃ m ck rs, Blk w d 30 #[.map (some m), .int .i64 s.fuse, .bool s.dead] ∧ Fls w m ck rs ∧ s.fs = rs.map Fl.pf ∧ F = d :: m :: rs.flatMap Fl.bl
  fuse : -1 ≤ s.fuse ∧ s.fuse ≤ 9223372036854775807

section
variable {w w' : World} {ck m d : Nat} {r : Fl} {rs : List Fl} {s : Mst} {F G : List Nat}
theorem FlOk.lt (h : FlOk w ck r) : ∀ k ∈ r.bl, k < w.heap.size := by
  intro k hk
  rcases List.mem_cons.1 hk with rfl | hk
  · exact h.blk.lt
  · exact h.own.lt k (by simpa using hk)
theorem FlOk.kp (h : FlOk w ck r) (k : Kp w G w') (hG : ∀ i ∈ r.bl, i ∉ G) : FlOk w' ck r :=
  ⟨k.blk h.blk (hG _ (by simp [Fl.bl])), k.ow h.own (fun j hj => hG j (by simp [Fl.bl, hj])), h.by_, h.su, h.len, h.born, h.n1, h.n16⟩
theorem FlOk.ne_map {es : Array MapEntry} (h : FlOk w ck r) (hm : w.heap[m]? = some (.map es ck)) : ∀ k ∈ r.bl, k ≠ m := by
  intro k hk e
  subst e
  rcases List.mem_cons.1 hk with rfl | hk
  · have := h.blk; unfold Blk at this; rw [this] at hm; cases hm
  · rcases h.own with ⟨hv, _⟩ | ⟨g, c, cur, hv, _, hg, _⟩
    · rw [hv] at hk; simp [Value.ownBlock] at hk
    · rw [hv] at hk
      simp [Value.ownBlock] at hk
      subst hk
      unfold Blk at hg
      rw [hg] at hm
      cases hm
theorem FlOk.ne_blk {t : TypeId} {cs : Array Value} {g : Nat} (h : FlOk w ck r) (hg : Blk w g t cs) (h1 : t ≠ 100) (h2 : t ≠ 5) : ∀ k ∈ r.bl, k ≠ g := by
  intro k hk
  rcases List.mem_cons.1 hk with rfl | hk
  · exact h.blk.ne_ hg (Ne.symm h1)
  · rcases h.own with ⟨hv, _⟩ | ⟨g', c, cur, hv, _, hg', _⟩
    · rw [hv] at hk; simp [Value.ownBlock] at hk
    · rw [hv] at hk
      simp [Value.ownBlock] at hk
      subst hk
      exact hg'.ne_ hg (Ne.symm h2)
theorem Fls.lt (h : Fls w m ck rs) : ∀ k ∈ rs.flatMap Fl.bl, k < w.heap.size := by
  intro k hk
  obtain ⟨r, hr, hk⟩ := List.mem_flatMap.1 hk
  exact (h.ok r hr).lt k hk
theorem Fls.ne_map (h : Fls w m ck rs) : ∀ k ∈ rs.flatMap Fl.bl, k ≠ m := by
  intro k hk
  obtain ⟨r, hr, hk⟩ := List.mem_flatMap.1 hk
  exact (h.ok r hr).ne_map h.map_ k hk
theorem Fls.ne_blk {t : TypeId} {cs : Array Value} {g : Nat} (h : Fls w m ck rs) (hg : Blk w g t cs) (h1 : t ≠ 100) (h2 : t ≠ 5) : ∀ k ∈ rs.flatMap Fl.bl, k ≠ g := by
  intro k hk
  obtain ⟨r, hr, hk⟩ := List.mem_flatMap.1 hk
  exact (h.ok r hr).ne_blk hg h1 h2 k hk
theorem Fls.kp (h : Fls w m ck rs) (k : Kp w G w') (hm : m ∉ G) (hG : ∀ i ∈ rs.flatMap Fl.bl, i ∉ G) : Fls w' m ck rs :=
  ⟨(k.block m (lt_of_heap h.map_) hm).trans h.map_, fun r hr => (h.ok r hr).kp k fun i hi => hG i (List.mem_flatMap.2 ⟨r, hr, hi⟩), h.names, h.borns, h.blocks, h.most⟩
theorem Md.lt (h : Md w d s F) : ∀ k ∈ F, k < w.heap.size := by
  obtain ⟨m, ck, rs, hd, hf, -, rfl⟩ := h.ex
  intro k hk
  rcases List.mem_cons.1 hk with rfl | hk
  · exact hd.lt
  · rcases List.mem_cons.1 hk with rfl | hk
    · exact lt_of_heap hf.map_
    · exact hf.lt k hk
theorem ne_disk_map {es : Array MapEntry} {cs : Array Value} {t : TypeId} (hd : Blk w d t cs) (hm : w.heap[m]? = some (.map es ck)) : d ≠ m := fun e => by
  subst e; unfold Blk at hd; rw [hd] at hm; cases hm
theorem Md.kp (h : Md w d s F) (k : Kp w G w') (hF : ∀ i ∈ F, i ∉ G) : Md w' d s F := by
  obtain ⟨⟨m, ck, rs, hd, hf, hs, rfl⟩, h1⟩ := h
  exact ⟨⟨m, ck, rs, k.blk hd (hF d (by simp)), hf.kp k (hF m (by simp)) (fun i hi => hF i (by simp only [List.mem_cons]; exact .inr (.inr hi))), hs, rfl⟩, h1⟩
theorem Md.below (h : Md w d s F) (hb : Below w.heap.size w w') : Md w' d s F := h.kp (Kp.of_below hb []) (by simp)
end
/-- What an operation does. -/
structure MdTo (w : World) (F : List Nat) (d : Nat) (s : Mst) (w' : World) : Prop where
  ex : ∃ F', Md w' d s F' ∧ ∀ k ∈ F', k ∈ F ∨ w.heap.size ≤ k
  kp : Kp w F w'
theorem Md.to {w : World} {d : Nat} {s : Mst} {F : List Nat} (h : Md w d s F) : MdTo w F d s w := ⟨⟨F, h, fun _ hk => .inl hk⟩, Kp.refl _ _⟩
theorem MdTo.trans {a b c : World} {F G : List Nat} {d : Nat} {s : Mst} (h : Kp a F b) (hG : ∀ i ∈ G, i ∈ F ∨ a.heap.size ≤ i) (k : MdTo b G d s c) : MdTo a F d s c := by
  obtain ⟨⟨H, hd, hH⟩, hk⟩ := k
  refine ⟨⟨H, hd, fun i hi => ?_⟩, h.trans hk hG⟩
  rcases hH i hi with h1 | h1
  · exact hG i h1
  · exact .inr (Nat.le_trans h.size h1)
theorem MdTo.below {a b c : World} {F : List Nat} {d : Nat} {s : Mst} (h : MdTo a F d s b) (hb : Below b.heap.size b c) : MdTo a F d s c := by
  obtain ⟨⟨H, hd, hH⟩, hk⟩ := h
  exact ⟨⟨H, hd.below hb, hH⟩, hk.below hb⟩
end Go.Proofs.YtoiclicechfmgaaGreatDoor

/- A disk of any files: what is small. -/
namespace Go.Proofs.YtoiclicechfmgaaGreatDoor
open Go.RowKit

theorem mnew (w : World) : Calls Tryz.prog 10 #[] w fun e w' => e = .returned (.pointer (some ⟨w.heap.size + 1, 0, none⟩)) ∧ Md w' (w.heap.size + 1) ⟨[], -1, false⟩ [w.heap.size + 1, w.heap.size] ∧ Below w.heap.size w w' := by
  have hmm := @run_makeMap Tryz.prog
  go_enter Tryz.func10, Tryz.ntmps10
  go_wp2
  go_ret
  refine ⟨rfl, ⟨⟨w.heap.size, 0, [], ?_, ⟨?_, by simp, by simp, by simp, by simp, by simp⟩, rfl, rfl⟩, by simp, by simp⟩, ?_⟩
  · have := Blk.new (w.alloc (.map #[] 0)) 30 #[.map (some w.heap.size), .int .i64 (-1), .bool false]
    simpa using this
  · exact (heap_alloc_old _ _ (by simp)).trans (heap_alloc_new _ _)
  · exact below_alloc2_ _ _ _

/-- What is wrong with a name, ahead of all else. -/
def askM (s : Mst) (nm : ByteArray) : Int := if s.dead = true then 17 else if nm.size < 1 ∨ 16 < nm.size then 1 else 0
theorem size_list (nm : ByteArray) : nm.toList.length = nm.size := by rw [ByteArray.size, ← Array.length_toList, Lib.toList_data]
theorem masked (nm : ByteArray) (d : Nat) (s : Mst) (F : List Nat) (w : World) (h : Md w d s F) :
    Calls Tryz.prog 54 #[.pointer (some ⟨d, 0, none⟩), .string nm] w fun e w' => e = .returned (.int .i64 (askM s nm)) ∧ w = w' := by
  obtain ⟨m, ck, rs, hd, hf, -, -⟩ := h.ex
  have c0 := hd.cell 0
  have c2 := hd.cell 2
  simp at c0 c2
  obtain ⟨fs, fu, dead⟩ := s
  simp only at c2
  have qm := fun (w : World) (r : Option Nat) => run_neq_map_nil (P := Tryz.prog) w _ _ _ r Tryz.underlying28
  have hl := size_list nm
  clear hd hf h
  cases dead
  · by_cases h1 : nm.size < 1
    · have E := Lib.hid (show askM ⟨fs, fu, false⟩ nm = 1 from by simp [askM, h1])
      rw [E.out]
      have h2 : nm.toList = [] := List.eq_nil_of_length_eq_zero (by omega)
      clear hl
      go_enter Tryz.func54, Tryz.ntmps54
      go_wp2
      go_ret
      exact ⟨rfl, rfl⟩
    · have h2 : ¬ nm.toList = [] := fun e => by rw [e] at hl; simp at hl; omega
      have h3 : nm.toList.isEmpty = false := by
        cases hh : nm.toList with
        | nil => exact absurd hh h2
        | cons _ _ => rfl
      clear hl
      by_cases h16 : 16 < nm.size
      · have E := Lib.hid (show askM ⟨fs, fu, false⟩ nm = 1 from by simp [askM, h16])
        rw [E.out]
        have h4 : (16 : Int) < (nm.size : Int) := by omega
        go_enter Tryz.func54, Tryz.ntmps54
        go_wp2
        go_ret
        exact ⟨rfl, rfl⟩
      · have E := Lib.hid (show askM ⟨fs, fu, false⟩ nm = 0 from by simp [askM, h16, h1])
        rw [E.out]
        have h4 : ¬ (16 : Int) < (nm.size : Int) := by omega
        go_enter Tryz.func54, Tryz.ntmps54
        go_wp2
        go_ret
        exact ⟨rfl, rfl⟩
  · have E := Lib.hid (show askM ⟨fs, fu, true⟩ nm = 17 from rfl)
    rw [E.out]
    go_enter Tryz.func54, Tryz.ntmps54
    go_wp2
    go_ret
    exact ⟨rfl, rfl⟩

def burnM (s : Mst) : Mst × Int := if s.fuse = 0 then ({ s with dead := true }, 17) else if 0 < s.fuse then ({ s with fuse := s.fuse - 1 }, 0) else (s, 0)
/-- The disk's own block turns. -/
theorem Md.own {w w' : World} {d : Nat} {s s' : Mst} {F : List Nat} (h : Md w d s F) (hfs : s'.fs = s.fs) (h1 : -1 ≤ s'.fuse ∧ s'.fuse ≤ 9223372036854775807) (k : Kp w [d] w')
    (hb : ∀ m, Blk w d 30 #[.map (some m), .int .i64 s.fuse, .bool s.dead] → Blk w' d 30 #[.map (some m), .int .i64 s'.fuse, .bool s'.dead]) : Md w' d s' F := by
  obtain ⟨⟨m, ck, rs, hd, hf, hs, rfl⟩, h2⟩ := h
  exact ⟨⟨m, ck, rs, hb m hd, hf.kp k (by simpa using (ne_disk_map hd hf.map_).symm) (fun i hi => by simpa using hf.ne_blk hd (by decide) (by decide) i hi), hfs.trans hs, rfl⟩, h1⟩
theorem Md.parts {w : World} {d : Nat} {s : Mst} {F : List Nat} (h : Md w d s F) : ∃ m, Blk w d 30 #[.map (some m), .int .i64 s.fuse, .bool s.dead] ∧ d ∈ F := by
  obtain ⟨m, ck, rs, hd, hf, hs, rfl⟩ := h.ex
  exact ⟨m, hd, by simp⟩
theorem mburns (d : Nat) (s : Mst) (F : List Nat) (w : World) (h : Md w d s F) :
    Calls Tryz.prog 72 #[.pointer (some ⟨d, 0, none⟩)] w fun e w' => e = .returned (.int .i64 (burnM s).2) ∧ Md w' d (burnM s).1 F ∧ Kp w [d] w' := by
  have H := Lib.hid h
  obtain ⟨m, hd, -⟩ := h.parts
  obtain ⟨hfu1, hfu2⟩ := h.fuse
  have c1 := hd.cell 1
  have c2 := hd.cell 2
  have fz := hd.free
  simp at c1 c2
  obtain ⟨fs, fu, dead⟩ := s
  simp only at c1 c2 hfu1 hfu2
  clear hd h
  by_cases h0 : fu = 0
  · have HB := Lib.hid (show burnM ⟨fs, fu, dead⟩ = (⟨fs, fu, true⟩, 17) by simp [burnM, h0])
    subst h0
    rw [HB.out]
    go_enter Tryz.func72, Tryz.ntmps72
    go_wp2
    go_ret
    have k : Kp w [d] (w.setCell ⟨d, 2, none⟩ (.bool true)) := (Kp.refl _ _).setCell (.inl (by simp)) _
    refine ⟨rfl, H.out.own rfl (by simp) k fun m hd => ?_, k⟩
    have := hd.set_ 2 (.bool true)
    simpa using this
  · by_cases h1 : 0 < fu
    · have HB := Lib.hid (show burnM ⟨fs, fu, dead⟩ = (⟨fs, fu - 1, dead⟩, 0) by simp [burnM, h0, h1])
      rw [HB.out]
      go_enter Tryz.func72, Tryz.ntmps72
      go_wp2
      go_ret
      have k : Kp w [d] (w.setCell ⟨d, 1, none⟩ (.int .i64 (fu - 1))) := (Kp.refl _ _).setCell (.inl (by simp)) _
      refine ⟨rfl, H.out.own rfl ⟨by simp; omega, by simp; omega⟩ k fun m hd => ?_, k⟩
      have := hd.set_ 1 (.int .i64 (fu - 1))
      simpa using this
    · have HB := Lib.hid (show burnM ⟨fs, fu, dead⟩ = (⟨fs, fu, dead⟩, 0) by simp [burnM, h0, h1])
      rw [HB.out]
      go_enter Tryz.func72, Tryz.ntmps72
      go_wp2
      go_ret
      exact ⟨rfl, H.out, Kp.refl _ _⟩
theorem mfuse (d : Nat) (s : Mst) (F : List Nat) (n : Int) (hn : n ≤ 9223372036854775807) (w : World) (h : Md w d s F) :
    Calls Tryz.prog 11 #[.pointer (some ⟨d, 0, none⟩), .int .i64 n] w fun e w' => e = .returned (.tuple #[]) ∧ MdTo w F d { s with fuse := max 0 n } w' := by
  have H := Lib.hid h
  obtain ⟨m, hd, hdF⟩ := h.parts
  have c0 := hd.cell 0
  have c1 := hd.cell 1
  have fz := hd.free
  simp at c0 c1
  have DF := Lib.hid hdF
  clear hd h hdF
  have qm := fun (w : World) (r : Option Nat) => run_neq_map_nil (P := Tryz.prog) w _ _ _ r Tryz.underlying28
  have K := Lib.hid (show ∀ v, Kp w [d] (w.setCell ⟨d, 1, none⟩ v) from fun v => (Kp.refl _ _).setCell (.inl (by simp)) _)
  have M := Lib.hid (show ∀ z : Int, z = max 0 n → MdTo w F d { s with fuse := max 0 n } (w.setCell ⟨d, 1, none⟩ (.int .i64 z)) from fun z hz => by
    subst hz
    refine ⟨⟨F, H.out.own rfl ⟨by simp only; omega, by simp only; omega⟩ (K.out _) fun m hd => ?_, fun _ hk => .inl hk⟩, (K.out _).mono (by simpa using DF.out)⟩
    have := hd.set_ 1 (.int .i64 (max 0 n))
    simpa using this)
  by_cases h0 : 0 < n
  · go_enter Tryz.func11, Tryz.ntmps11
    go_wp2
    all_goals
      go_end0
      exact ⟨rfl, M.out _ (by omega)⟩
  · go_enter Tryz.func11, Tryz.ntmps11
    go_wp2
    all_goals
      go_end0
      exact ⟨rfl, M.out _ (by omega)⟩
theorem mdead (d : Nat) (s : Mst) (F : List Nat) (w : World) (h : Md w d s F) :
    Calls Tryz.prog 45 #[.pointer (some ⟨d, 0, none⟩)] w fun e w' => e = .returned (.bool s.dead) ∧ w = w' := by
  obtain ⟨m, hd, -⟩ := h.parts
  have c0 := hd.cell 0
  have c2 := hd.cell 2
  simp at c0 c2
  clear hd h
  have qm := fun (w : World) (r : Option Nat) => run_neq_map_nil (P := Tryz.prog) w _ _ _ r Tryz.underlying28
  go_enter Tryz.func45, Tryz.ntmps45
  go_wp2
  go_ret
  exact ⟨rfl, rfl⟩

/-- The file of a name. -/
def getM (fs : List (ByteArray × List Int × Nat)) (nm : ByteArray) : Option (List Int × Nat) := (fs.find? (fun q => q.1 == nm)).map (·.2)
theorem bytes_ne {a b : ByteArray} (h : a ≠ b) : (a == b) = false := by
  rw [Bool.eq_false_iff]; intro h'; exact h ((MapKept.bytes_beq a b).1 h')
theorem getM_none {rs : List Fl} {nm : ByteArray} (h : ∀ r ∈ rs, r.nm ≠ nm) : getM (rs.map Fl.pf) nm = none := by
  unfold getM
  rw [List.find?_eq_none.2]
  · rfl
  · intro q hq
    obtain ⟨r, hr, rfl⟩ := List.mem_map.1 hq
    simpa [Fl.pf] using bytes_ne (h r hr)
theorem getM_at {pre post : List Fl} {r : Fl} (h : ∀ x ∈ pre, x.nm ≠ r.nm) : getM ((pre ++ r :: post).map Fl.pf) r.nm = some (r.xs, r.su) := by
  unfold getM
  rw [List.map_append, List.find?_append, List.find?_eq_none.2 (by
    intro q hq
    obtain ⟨x, hx, rfl⟩ := List.mem_map.1 hq
    simpa [Fl.pf] using bytes_ne (h x hx))]
  have hb : (r.nm == r.nm) = true := (MapKept.bytes_beq _ _).2 rfl
  simp [Fl.pf, hb]
/-- A name is there, or not. -/
theorem Fls.find {w : World} {m ck : Nat} {rs : List Fl} (h : Fls w m ck rs) (nm : ByteArray) :
    (∀ r ∈ rs, r.nm ≠ nm) ∨ ∃ pre r post, rs = pre ++ r :: post ∧ r.nm = nm ∧ (∀ x ∈ pre, x.nm ≠ nm) ∧ ∀ x ∈ post, x.nm ≠ nm := by
  by_cases hx : ∃ r ∈ rs, r.nm = nm
  · obtain ⟨r, hr, e⟩ := hx
    obtain ⟨pre, post, rfl⟩ := List.append_of_mem hr
    have hn := h.names
    rw [List.map_append, List.map_cons, List.nodup_append] at hn
    obtain ⟨_, h2, h3⟩ := hn
    rw [List.nodup_cons] at h2
    refine .inr ⟨pre, r, post, rfl, e, fun x hx hxe => ?_, fun x hx hxe => h2.1 ?_⟩
    · exact h3 x.nm (List.mem_map_of_mem hx) r.nm (by simp) (hxe.trans e.symm)
    · rw [e, ← hxe]; exact List.mem_map_of_mem hx
  · exact .inl fun r hr e => hx ⟨r, hr, e⟩
theorem keys_ne {rs : List Fl} {nm : ByteArray} (h : ∀ r ∈ rs, r.nm ≠ nm) : ∀ x ∈ rs.map Fl.en, ∃ q, x.key = .string q ∧ q ≠ nm := by
  intro x hx
  obtain ⟨r, hr, rfl⟩ := List.mem_map.1 hx
  exact ⟨r.nm, rfl, h r hr⟩
def sizeM (s : Mst) (nm : ByteArray) : Nat := ((getM s.fs nm).map fun q => q.1.length).getD 0
theorem msize (nm : ByteArray) (d : Nat) (s : Mst) (F : List Nat) (w : World) (h : Md w d s F) :
    Calls Tryz.prog 46 #[.pointer (some ⟨d, 0, none⟩), .string nm] w fun e w' => e = .returned (.int .i64 (sizeM s nm)) ∧ w = w' := by
  obtain ⟨m, ck, rs, hd, hf, hs, -⟩ := h.ex
  have c0 := hd.cell 0
  simp at c0
  have qm := fun (w : World) (r : Option Nat) => run_neq_map_nil (P := Tryz.prog) w _ _ _ r Tryz.underlying28
  rcases hf.find nm with hn | ⟨pre, r, post, rfl, rfl, hn, -⟩
  · have hl := run_mlook_none (P := Tryz.prog) Tryz.underlying28 Tryz.underlying9 hf.map_ nm (keys_ne hn) (.pointer none) (by kernel_rfl)
    have E := Lib.hid (show sizeM s nm = 0 from by unfold sizeM; rw [hs, getM_none hn]; rfl)
    rw [E.out]
    clear hd hf h hs hn
    go_enter Tryz.func46, Tryz.ntmps46
    go_wp2
    go_ret
    exact ⟨rfl, rfl⟩
  · have hm := hf.map_
    rw [List.map_append, List.map_cons] at hm
    have hl := run_mlook_at (P := Tryz.prog) Tryz.underlying28 Tryz.underlying9 r.nm (f := r.f) (born := r.born) hm (keys_ne hn)
    have E := Lib.hid (show sizeM s r.nm = r.xs.length from by unfold sizeM; rw [hs, getM_at hn]; rfl)
    rw [E.out]
    have ho := hf.ok r (by simp)
    obtain ⟨A, c, hv, hc, -⟩ := ho.own.clip
    have d0 := ho.blk.cell 0
    simp at d0
    rw [hv] at d0
    obtain ⟨nm, f, born, v, xs, su⟩ := r
    simp only at hl d0 hc ⊢
    clear hd hf h hs hn hm ho hv E
    go_enter Tryz.func46, Tryz.ntmps46
    go_wp2
    go_ret
    exact ⟨rfl, rfl⟩
end Go.Proofs.YtoiclicechfmgaaGreatDoor
