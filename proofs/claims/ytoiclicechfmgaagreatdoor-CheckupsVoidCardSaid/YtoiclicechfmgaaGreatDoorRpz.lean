import Derived.Test.YtoiclicechfmgaaGreatDoorRmg
/- Two disks of any files, side by side, in plain Lean: the same files, in any order and sorted. -/
namespace Go.Proofs.YtoiclicechfmgaaGreatDoor
open Go.RowKit

structure Al (a b : Mst) : Prop where
  fs : a.fs.Perm b.fs
  so : Srtd b.fs
  fuse : a.fuse = b.fuse
  dead : a.dead = b.dead
theorem Srtd.nodup {fs : Pfs} (h : Srtd fs) : (fs.map (·.1)).Nodup := List.Pairwise.imp (fun h => ltB_ne h) h
theorem nodup_perm_ {fs gs : Pfs} (h : fs.Perm gs) (hn : (gs.map (·.1)).Nodup) : (fs.map (·.1)).Nodup := (h.map (·.1)).nodup_iff.2 hn
theorem getM_mem : ∀ {fs : Pfs} {nm : ByteArray} {q : List Int × Nat}, (fs.map (·.1)).Nodup → (getM fs nm = some q ↔ (nm, q) ∈ fs)
  | [], nm, q, _ => by simp [getM]
  | x :: fs, nm, q, h => by
    have ih := getM_mem (fs := fs) (nm := nm) (q := q) (List.nodup_cons.1 h).2
    by_cases hx : x.1 = nm
    · obtain ⟨xn, xq⟩ := x
      simp only at hx
      subst hx
      have hnot : ∀ q, (xn, q) ∉ fs := fun q hq => (List.nodup_cons.1 h).1 (List.mem_map.2 ⟨_, hq, rfl⟩)
      have hg : getM ((xn, xq) :: fs) xn = some xq := by
        unfold getM
        rw [List.find?_cons, (MapKept.bytes_beq xn xn).2 rfl]
        rfl
      rw [hg]
      constructor
      · intro e
        injection e with e
        subst e
        simp
      · intro e
        rcases List.mem_cons.1 e with e | e
        · injection e with _ e
          rw [e]
        · exact absurd e (hnot q)
    · have hg : getM (x :: fs) nm = getM fs nm := by
        unfold getM
        rw [List.find?_cons, bytes_ne hx]
      rw [hg, ih]
      constructor
      · intro e; exact List.mem_cons_of_mem _ e
      · intro e
        rcases List.mem_cons.1 e with e | e
        · exact absurd (by rw [← e]) hx
        · exact e
theorem getM_perm {fs gs : Pfs} (h : fs.Perm gs) (hn : (gs.map (·.1)).Nodup) (nm : ByteArray) : getM fs nm = getM gs nm := by
  apply Option.ext
  intro q
  rw [getM_mem (nodup_perm_ h hn), getM_mem hn]
  exact h.mem_iff
theorem putM_split : ∀ {fs : Pfs} {nm : ByteArray} (o : Option (List Int × Nat)), (fs.map (·.1)).Nodup → (putM fs nm o).Perm ((o.toList.map fun y => (nm, y)) ++ fs.filter fun x => decide (x.1 ≠ nm))
  | [], nm, o, _ => by simp [putM]
  | x :: fs, nm, o, h => by
    unfold putM
    obtain ⟨h1, h2⟩ := List.nodup_cons.1 h
    by_cases hx : x.1 = nm
    · rw [if_pos hx, List.filter_cons, if_neg (by simpa using hx)]
      have : fs.filter (fun x => decide (x.1 ≠ nm)) = fs := List.filter_eq_self.2 fun y hy => by
        have : y.1 ≠ nm := fun e => h1 (List.mem_map.2 ⟨y, hy, e.trans hx.symm⟩)
        simpa using this
      rw [this]
    · rw [if_neg hx, List.filter_cons, if_pos (by simpa using hx)]
      exact ((putM_split o h2).cons x).trans List.perm_middle.symm
theorem putM_perm {fs gs : Pfs} (h : fs.Perm gs) (hn : (gs.map (·.1)).Nodup) (nm : ByteArray) (o : Option (List Int × Nat)) : (putM fs nm o).Perm (putM gs nm o) :=
  (putM_split o (nodup_perm_ h hn)).trans ((List.Perm.append_left _ (h.filter _)).trans (putM_split o hn).symm)
theorem putM_none_sub : ∀ (fs : Pfs) (nm : ByteArray), (putM fs nm none).Sublist fs
  | [], nm => by simp [putM]
  | x :: fs, nm => by
    unfold putM
    by_cases hx : x.1 = nm
    · rw [if_pos hx]; simp
    · rw [if_neg hx]; exact (putM_none_sub fs nm).cons_cons x
theorem stepL_sorted {fs : Pfs} {nm : ByteArray} (o : Option (List Int × Nat)) (h : Srtd fs) : Srtd (stepL fs nm o) := by
  cases o with
  | none => exact List.Pairwise.sublist ((putM_none_sub fs nm).map (·.1)) h
  | some q => exact insL_sorted q h
theorem stepL_perm {fs gs : Pfs} (h : fs.Perm gs) (hs : Srtd gs) (nm : ByteArray) (o : Option (List Int × Nat)) : (putM fs nm o).Perm (stepL gs nm o) := by
  refine (putM_perm h hs.nodup nm o).trans ?_
  cases o with
  | none => exact List.Perm.refl _
  | some q => exact insL_perm q hs
section
variable {a b : Mst}
theorem Al.ask (h : Al a b) (nm : ByteArray) : askM a nm = askM b nm := by unfold askM; rw [h.dead]
theorem Al.get (h : Al a b) (nm : ByteArray) : getM a.fs nm = getM b.fs nm := getM_perm h.fs h.so.nodup nm
theorem Al.size (h : Al a b) (nm : ByteArray) : sizeM a nm = sizeM b nm := by unfold sizeM; rw [h.get]
theorem Al.read (h : Al a b) (nm : ByteArray) : readM a nm = readM b nm := by unfold readM; rw [h.get, h.ask]
theorem Al.names (h : Al a b) : (a.fs.map (·.1)).Perm (b.fs.map (·.1)) := h.fs.map _
theorem Al.setFuse (h : Al a b) (n : Int) : Al { a with fuse := n } { b with fuse := n } := ⟨h.fs, h.so, rfl, h.dead⟩
theorem Al.burn (h : Al a b) : (burnM a).1.fuse = (burnM b).1.fuse ∧ (burnM a).1.dead = (burnM b).1.dead := by
  unfold burnM
  rw [h.fuse]
  by_cases h0 : b.fuse = 0
  · rw [if_pos h0, if_pos h0]; exact ⟨rfl, rfl⟩
  · rw [if_neg h0, if_neg h0]
    by_cases h1 : 0 < b.fuse
    · rw [if_pos h1, if_pos h1]; exact ⟨rfl, h.dead⟩
    · rw [if_neg h1, if_neg h1]; exact ⟨h.fuse, h.dead⟩
theorem Al.does (h : Al a b) (nm : ByteArray) (size : Int) (made : Bool) (eff : List Int × Nat → Option (List Int × Nat)) :
    (doesM a nm size made eff).2 = (doesL b nm size made eff).2 ∧ Al (doesM a nm size made eff).1 (doesL b nm size made eff).1 := by
  unfold doesM doesL
  rw [h.ask, h.get, h.fs.length_eq, h.fuse]
  split
  · exact ⟨rfl, h⟩
  split
  · exact ⟨rfl, h⟩
  split
  · exact ⟨rfl, h⟩
  split
  · exact ⟨rfl, h.fs, h.so, rfl, rfl⟩
  · refine ⟨rfl, stepL_perm h.fs h.so _ _, stepL_sorted _ h.so, ?_, ?_⟩
    · exact h.burn.1
    · exact h.burn.2
theorem putM_set : ∀ {fs : Pfs} (i : Nat) (hi : i < fs.length) (q : List Int × Nat), (fs.map (·.1)).Nodup → putM fs fs[i].1 (some q) = fs.set i (fs[i].1, q)
  | x :: fs, 0, _, q, _ => by simp [putM]
  | x :: fs, i + 1, hi, q, h => by
    have hi' : i < fs.length := by simpa using hi
    have hne : ¬ x.1 = fs[i].1 := fun e => (List.nodup_cons.1 h).1 (List.mem_map.2 ⟨fs[i], List.getElem_mem hi', e.symm⟩)
    have := putM_set i hi' q (List.nodup_cons.1 h).2
    simp only [List.getElem_cons_succ, List.set_cons_succ]
    unfold putM
    rw [if_neg hne, this]
theorem liftLK_names (ls : List Int) (i : Nat) (fs : Pfs) : (liftLK ls i fs).map (·.1) = fs.map (·.1) := by
  refine List.ext_getElem (by simp [liftLK]) fun j h1 h2 => ?_
  simp only [liftLK, List.getElem_map, List.getElem_mapIdx]
  split <;> rfl
theorem lift_perm {fs gs : Pfs} (h : fs.Perm gs) (hs : Srtd gs) (ls : List Int) : ∀ i, i ≤ gs.length → (liftK (gs.map (·.1)) ls i fs).Perm (liftLK ls i gs)
  | 0, _ => by rw [liftLK_zero]; exact h
  | i + 1, hi => by
    have ih := lift_perm h hs ls i (by omega)
    have hn : ((liftLK ls i gs).map (·.1)).Nodup := by rw [liftLK_names]; exact hs.nodup
    have hl : i < (liftLK ls i gs).length := by rw [liftLK_len]; omega
    have hg : (liftLK ls i gs)[i] = gs[i] := liftLK_get ls i gs (by omega) hl
    have hN : (gs.map (·.1)).getD i ⟨#[]⟩ = gs[i].1 := by
      rw [List.getD_eq_getElem?_getD, List.getElem?_eq_getElem (by simpa using (by omega : i < gs.length))]
      simp
    have hget : getM (liftK (gs.map (·.1)) ls i fs) gs[i].1 = some gs[i].2 := by
      rw [getM_perm ih hn, getM_mem hn]
      exact hg ▸ List.getElem_mem hl
    have hstep : liftK (gs.map (·.1)) ls (i + 1) fs = putM (liftK (gs.map (·.1)) ls i fs) gs[i].1 (some (liftF ls i gs[i].2)) := by
      rw [liftK, hN, hget]
    rw [hstep, liftLK_step ls i gs (by omega)]
    refine (putM_perm ih hn _ _).trans ?_
    have := putM_set i hl (liftF ls i gs[i].2) hn
    rw [hg] at this
    rw [this]
theorem Al.lift (h : Al a b) (ls : List Int) : Al (liftM (b.fs.map (·.1)) a ls) (liftL b ls) := by
  refine ⟨?_, ?_, rfl, rfl⟩
  · have := lift_perm h.fs h.so ls b.fs.length (Nat.le_refl _)
    simpa [liftM, liftL] using this
  · show ((liftLK ls b.fs.length b.fs).map (·.1)).Pairwise _
    rw [liftLK_names]
    exact h.so
end
end Go.Proofs.YtoiclicechfmgaaGreatDoor

/- A disk of any files and the document's disk side by side, whose blocks are a law's own. -/
namespace Go.Proofs.YtoiclicechfmgaaGreatDoor
open Go.RowKit

/-- The disk d is in the state a, the document's disk m in the state b; the blocks of X are as told; all lie from B on, and below B nothing has turned since W. -/
structure BM (X : List (Nat × Obj)) (B : Nat) (W w : World) (d m : Nat) (a b : Mst) : Prop where
  ex : ∃ F G, Md w d a F ∧ RMd w m b G ∧ (∀ k ∈ F, B ≤ k ∧ k ∉ G) ∧ (∀ k ∈ G, B ≤ k) ∧ ∀ q ∈ X, q.1 ∉ F ∧ q.1 ∉ G
  keep : ∀ q ∈ X, w.heap[q.1]? = some q.2
  bel : Below B W w
  le : B ≤ w.heap.size
section
variable {X Y : List (Nat × Obj)} {B : Nat} {W w w' : World} {d m : Nat} {a b a' b' : Mst}
theorem BM.below (h : BM X B W w d m a b) (hb : Below w.heap.size w w') : BM X B W w' d m a b := by
  obtain ⟨⟨F, G, h1, h2, h3⟩, hk, hB, hl⟩ := h
  exact ⟨⟨F, G, h1.below hb, h2.below hb, h3⟩, fun q hq => (hb.block _ (lt_of_heap (hk q hq))).trans (hk q hq), hB.trans (hb.mono hl), Nat.le_trans hl hb.size⟩
theorem BM.mono (h : BM X B W w d m a b) (hY : ∀ p ∈ Y, p ∈ X) : BM Y B W w d m a b := by
  obtain ⟨⟨F, G, h1, h2, h3, h4, h5⟩, hk, hB, hl⟩ := h
  exact ⟨⟨F, G, h1, h2, h3, h4, fun q hq => h5 q (hY q hq)⟩, fun q hq => hk q (hY q hq), hB, hl⟩
/-- A doing of the disk. -/
theorem BM.conc {P : Program} {f : FuncId} {args : Array Value} {e0 : Value} (h : BM X B W w d m a b)
    (hc : ∀ F, Md w d a F → (∀ k ∈ F, B ≤ k) → Calls P f args w fun e w' => e = .returned e0 ∧ MdTo w F d a' w') : Calls P f args w fun e w' => e = .returned e0 ∧ BM X B W w' d m a' b := by
  obtain ⟨⟨F, G, h1, h2, h3, h4, h5⟩, hk, hB, hl⟩ := h
  refine (hc F h1 fun k hk => (h3 k hk).1).mono ?_
  rintro e w' ⟨he, ⟨F', h1', hin⟩, kp⟩
  refine ⟨he, ⟨F', G, h1', h2.kp kp fun i hi hf => (h3 i hf).2 hi, fun k hk => ⟨?_, ?_⟩, h4, fun q hq => ⟨fun hf => ?_, (h5 q hq).2⟩⟩, fun q hq => ?_, hB.trans (kp.to_below (fun k hk => (h3 k hk).1) hl), Nat.le_trans hl kp.size⟩
  · rcases hin k hk with h | h
    · exact (h3 k h).1
    · exact Nat.le_trans hl h
  · rcases hin k hk with h | h
    · exact (h3 k h).2
    · intro hg
      exact absurd (h2.lt k hg) (by omega)
  · rcases hin _ hf with h | h
    · exact (h5 q hq).1 h
    · exact absurd (lt_of_heap (hk q hq)) (by omega)
  · exact (kp.block _ (lt_of_heap (hk q hq)) (h5 q hq).1).trans (hk q hq)
/-- A doing of the document's disk. -/
theorem BM.docs {P : Program} {f : FuncId} {args : Array Value} {e0 : Value} (h : BM X B W w d m a b)
    (hc : ∀ G, RMd w m b G → (∀ k ∈ G, B ≤ k) → Calls P f args w fun e w' => e = .returned e0 ∧ RMTo w G m b' w') : Calls P f args w fun e w' => e = .returned e0 ∧ BM X B W w' d m a b' := by
  obtain ⟨⟨F, G, h1, h2, h3, h4, h5⟩, hk, hB, hl⟩ := h
  refine (hc G h2 h4).mono ?_
  rintro e w' ⟨he, ⟨G', h2', hin⟩, kp⟩
  refine ⟨he, ⟨F, G', h1.kp kp fun i hi hf => (h3 i hi).2 hf, h2', fun k hk => ⟨(h3 k hk).1, fun hg => ?_⟩, fun k hk => ?_, fun q hq => ⟨(h5 q hq).1, fun hf => ?_⟩⟩, fun q hq => ?_, hB.trans (kp.to_below h4 hl), Nat.le_trans hl kp.size⟩
  · rcases hin k hg with h | h
    · exact (h3 k hk).2 h
    · exact absurd (h1.lt k hk) (by omega)
  · rcases hin k hk with h | h
    · exact h4 k h
    · exact Nat.le_trans hl h
  · rcases hin _ hf with h | h
    · exact (h5 q hq).2 h
    · exact absurd (lt_of_heap (hk q hq)) (by omega)
  · exact (kp.block _ (lt_of_heap (hk q hq)) (h5 q hq).2).trans (hk q hq)
/-- A block is laid beside. -/
theorem BM.put (h : BM X B W w d m a b) (hb : Below w.heap.size w w') {q : Nat} {o : Obj} (hq : w.heap.size ≤ q) (ho : w'.heap[q]? = some o) : BM ((q, o) :: X) B W w' d m a b := by
  obtain ⟨⟨F, G, h1, h2, h3, h4, h5⟩, hk, hB, hl⟩ := h
  refine ⟨⟨F, G, h1.below hb, h2.below hb, h3, h4, fun p hp => ?_⟩, fun p hp => ?_, hB.trans (hb.mono hl), Nat.le_trans hl hb.size⟩
  · rcases List.mem_cons.1 hp with rfl | hp
    · exact ⟨fun hf => absurd (h1.lt _ hf) (by simp; omega), fun hf => absurd (h2.lt _ hf) (by simp; omega)⟩
    · exact h5 p hp
  · rcases List.mem_cons.1 hp with rfl | hp
    · exact ho
    · exact (hb.block _ (lt_of_heap (hk p hp))).trans (hk p hp)
/-- The disk alone, read. -/
theorem BM.md (h : BM X B W w d m a b) : ∃ F, Md w d a F := by obtain ⟨F, G, h1, -⟩ := h.ex; exact ⟨F, h1⟩
theorem BM.rmd (h : BM X B W w d m a b) : ∃ G, RMd w m b G := by obtain ⟨F, G, -, h2, -⟩ := h.ex; exact ⟨G, h2⟩
/-- What reads below B reads on. -/
theorem BM.rd (h : BM X B W w d m a b) (hBW : B = W.heap.size) {n k : Nat} {v : Value} {xs : List Value} (hv : Rd W n v k xs) : Rd w n v k xs := hv.below (hBW ▸ h.bel)
end
end Go.Proofs.YtoiclicechfmgaaGreatDoor
