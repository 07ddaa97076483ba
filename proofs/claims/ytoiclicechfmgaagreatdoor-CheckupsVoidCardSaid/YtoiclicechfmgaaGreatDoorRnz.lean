import Derived.Test.YtoiclicechfmgaaGreatDoorPuz
import Derived.RegionTactic
import Derived.BigRegion
/- The document's Num and Sign. -/
namespace Go.Proofs.YtoiclicechfmgaaGreatDoor
open Go.RowKit

theorem Bf.start_ (w : World) : Bf w.heap.size w w (.slice none 0 0) [] := ⟨Bo.nil_ _ _, Below.refl _ _, Nat.le_refl _⟩

theorem zz_pos_eq {n : Int} (h : 0 ≤ n) : ((zz n : Nat) : Int) = 2 * n := by rw [zz, if_pos h]; omega
theorem zz_neg_eq {n : Int} (h : ¬ 0 ≤ n) : ((zz n : Nat) : Int) = 2 * (-(n + 1)) + 1 := by rw [zz, if_neg h]; omega

end Go.Proofs.YtoiclicechfmgaaGreatDoor

/- The document's disk of any files: set. -/
namespace Go.Proofs.YtoiclicechfmgaaGreatDoor
open Go.RowKit

abbrev Pfs := List (ByteArray × List Int × Nat)
/-- The files by rising names, one of them put. -/
def insL : Pfs → ByteArray → List Int × Nat → Pfs
  | [], nm, q => [(nm, q)]
  | x :: fs, nm, q => if x.1 = nm then (nm, q) :: fs else if ltB x.1 nm = true then x :: insL fs nm q else (nm, q) :: x :: fs
def Srtd (fs : Pfs) : Prop := (fs.map (·.1)).Pairwise fun a b => ltB a b = true
theorem Srtd.tail {x : ByteArray × List Int × Nat} {fs : Pfs} (h : Srtd (x :: fs)) : Srtd fs := (List.pairwise_cons.1 h).2
theorem Srtd.head {x : ByteArray × List Int × Nat} {fs : Pfs} (h : Srtd (x :: fs)) : ∀ y ∈ fs, ltB x.1 y.1 = true := fun y hy => (List.pairwise_cons.1 h).1 y.1 (List.mem_map_of_mem hy)
theorem ltB_ne {a b : ByteArray} (h : ltB a b = true) : a ≠ b := fun e => by rw [e, ltB_irrefl] at h; cases h
theorem ltB_total {a b : ByteArray} (h1 : ¬ a = b) (h2 : ¬ ltB a b = true) : ltB b a = true := by
  cases h : ltB b a with
  | true => rfl
  | false => exact absurd (ltB_anti (by simpa using h2) h) h1
theorem Srtd.ne {fs : Pfs} (h : Srtd fs) : ∀ {i j : Nat} (hi : i < fs.length) (hj : j < fs.length), i < j → fs[i].1 ≠ fs[j].1 := by
  intro i j hi hj hij
  have := List.pairwise_iff_getElem.1 h i j (by simpa using hi) (by simpa using hj) hij
  simp only [List.getElem_map] at this
  exact ltB_ne this
theorem insL_at : ∀ {pre post : Pfs} {nm : ByteArray} {y : List Int × Nat} (q : List Int × Nat), Srtd (pre ++ (nm, y) :: post) → insL (pre ++ (nm, y) :: post) nm q = pre ++ (nm, q) :: post
  | [], post, nm, y, q, _ => by simp [insL]
  | x :: pre, post, nm, y, q, h => by
    have hx := h.head (nm, y) (by simp)
    simp only [List.cons_append, insL]
    rw [if_neg (ltB_ne hx), if_pos hx, insL_at q h.tail]
theorem insL_new : ∀ {fs : Pfs} {nm : ByteArray} (q : List Int × Nat) (k : Nat), (∀ x ∈ fs, x.1 ≠ nm) → k ≤ fs.length → (∀ i (hi : i < fs.length), i < k → ltB fs[i].1 nm = true) → (∀ hk : k < fs.length, ltB fs[k].1 nm = false) →
    insL fs nm q = fs.take k ++ (nm, q) :: fs.drop k
  | [], nm, q, k, _, _, _, _ => by simp [insL]
  | x :: fs, nm, q, 0, h, _, _, h0 => by
    have h1 := h x (by simp)
    have h2 := h0 (by simp)
    simp only [List.getElem_cons_zero] at h2
    simp only [insL]
    rw [if_neg h1, if_neg (by rw [h2]; simp)]
    simp
  | x :: fs, nm, q, k + 1, h, hk, hl, h0 => by
    have h1 := h x (by simp)
    have h2 := hl 0 (by simp) (by omega)
    simp only [List.getElem_cons_zero] at h2
    simp only [insL]
    rw [if_neg h1, if_pos h2, insL_new q k (fun y hy => h y (by simp [hy])) (by simpa using hk) (fun i hi hik => by
      have := hl (i + 1) (by simpa using hi) (by omega)
      simpa using this) (fun hk' => by
      have := h0 (by simpa using hk')
      simpa using this)]
    simp
theorem insL_sorted : ∀ {fs : Pfs} {nm : ByteArray} (q : List Int × Nat), Srtd fs → Srtd (insL fs nm q)
  | [], nm, q, _ => by simp [insL, Srtd]
  | x :: fs, nm, q, h => by
    simp only [insL]
    split
    · rename_i e
      unfold Srtd at h ⊢
      simp only [List.map_cons] at h ⊢
      rw [e] at h
      exact h
    · rename_i e
      split
      · rename_i e2
        have ih := insL_sorted (nm := nm) q h.tail
        unfold Srtd
        rw [List.map_cons, List.pairwise_cons]
        refine ⟨fun a ha => ?_, ih⟩
        have hm : ∀ {l : Pfs} {b : ByteArray}, b ∈ (insL l nm q).map (·.1) → b = nm ∨ b ∈ l.map (·.1) := by
          intro l
          induction l with
          | nil => intro b hb; simp [insL] at hb; exact .inl hb
          | cons z l ih2 =>
            intro b hb
            simp only [insL] at hb
            split at hb
            · rename_i e3
              simp only [List.map_cons, List.mem_cons] at hb ⊢
              rcases hb with hb | hb
              · exact .inl hb
              · exact .inr (.inr hb)
            · split at hb
              · simp only [List.map_cons, List.mem_cons] at hb ⊢
                rcases hb with hb | hb
                · exact .inr (.inl hb)
                · rcases ih2 hb with h | h
                  · exact .inl h
                  · exact .inr (.inr h)
              · simp only [List.map_cons, List.mem_cons] at hb ⊢
                rcases hb with hb | hb | hb
                · exact .inl hb
                · exact .inr (.inl hb)
                · exact .inr (.inr hb)
        rcases hm ha with rfl | ha
        · exact e2
        · obtain ⟨y, hy, rfl⟩ := List.mem_map.1 ha
          exact h.head y hy
      · rename_i e2
        have hlt := ltB_total e e2
        unfold Srtd at h ⊢
        rw [List.map_cons, List.pairwise_cons]
        refine ⟨fun a ha => ?_, h⟩
        rw [List.map_cons, List.mem_cons] at ha
        rcases ha with rfl | ha
        · exact hlt
        · obtain ⟨y, hy, rfl⟩ := List.mem_map.1 ha
          exact swo_ltB.trans _ _ _ hlt (Srtd.head h y hy)
theorem insL_perm : ∀ {fs : Pfs} {nm : ByteArray} (q : List Int × Nat), Srtd fs → (putM fs nm (some q)).Perm (insL fs nm q)
  | [], nm, q, _ => by simp [insL, putM]
  | x :: fs, nm, q, h => by
    simp only [insL, putM]
    split
    · simp
    · rename_i e
      split
      · exact (insL_perm q h.tail).cons x
      · rename_i e2
        have hlt := ltB_total e e2
        rw [putM_new _ fun y hy e3 => by
          have := swo_ltB.trans _ _ _ hlt (h.head y hy)
          rw [e3, ltB_irrefl] at this
          cases this]
        show (x :: (fs ++ [(nm, q)])).Perm ((nm, q) :: x :: fs)
        exact ((List.perm_append_comm (l₁ := fs) (l₂ := [(nm, q)])).cons x).trans (List.Perm.swap _ _ _)
/-- A name is there, or not. -/
theorem pfs_find (fs : Pfs) (nm : ByteArray) (hs : Srtd fs) : ((∀ x ∈ fs, x.1 ≠ nm) ∧ getM fs nm = none) ∨ ∃ pre y post, fs = pre ++ (nm, y) :: post ∧ (∀ x ∈ pre, x.1 ≠ nm) ∧ getM fs nm = some y := by
  by_cases hx : ∃ x ∈ fs, x.1 = nm
  · obtain ⟨x, hx, rfl⟩ := hx
    obtain ⟨pre, post, rfl⟩ := List.append_of_mem hx
    have hn : ∀ z ∈ pre, z.1 ≠ x.1 := fun z hz => by
      unfold Srtd at hs
      rw [List.map_append, List.map_cons, List.pairwise_append] at hs
      exact ltB_ne (hs.2.2 z.1 (List.mem_map_of_mem hz) x.1 (by simp))
    refine .inr ⟨pre, x.2, post, rfl, hn, ?_⟩
    unfold getM
    rw [List.find?_append, List.find?_eq_none.2 (by
      intro q hq
      simpa using bytes_ne (hn q hq))]
    have hb : (x.1 == x.1) = true := (MapKept.bytes_beq _ _).2 rfl
    simp [hb]
  · have hn : ∀ x ∈ fs, x.1 ≠ nm := fun x hx' e => hx ⟨x, hx', e⟩
    refine .inl ⟨hn, ?_⟩
    unfold getM
    rw [List.find?_eq_none.2]
    · rfl
    · intro q hq
      simpa using bytes_ne (hn q hq)
/-- What set leaves, and answers. -/
def setL (s : Mst) (nm : ByteArray) (bs : List Int) (su : Nat) : Mst × Int :=
  if 1048576 < bs.length ∨ (getM s.fs nm = none ∧ 16 ≤ s.fs.length) then (s, 3) else if s.fuse = 0 then ({ s with dead := true }, 17) else ({ (burnM s).1 with fs := insL s.fs nm (bs, su) }, 0)
/-- Where a name is, at a disk: as at answers it. -/
theorem mat_no {nm : ByteArray} {m : Nat} {s : Mst} {F : List Nat} {w : World} (h : RMd w m s F) (hn : ∀ x ∈ s.fs, x.1 ≠ nm) :
    Calls Tryz.prog 49 #[.pointer (some ⟨m, 0, none⟩), .string nm] w fun e w' => e = .returned (.int .i64 (-1)) ∧ w = w' :=
  mat_any nm m s F s.fs.length w h (fun _i hi _ => hn _ (List.getElem_mem hi)) (-1) (.inl ⟨rfl, rfl⟩)
theorem mat_yes {nm : ByteArray} {m : Nat} {s : Mst} {F : List Nat} {w : World} (h : RMd w m s F) {pre post : Pfs} {y : List Int × Nat} (hs : s.fs = pre ++ (nm, y) :: post) (hn : ∀ x ∈ pre, x.1 ≠ nm) :
    Calls Tryz.prog 49 #[.pointer (some ⟨m, 0, none⟩), .string nm] w fun e w' => e = .returned (.int .i64 (pre.length : Nat)) ∧ w = w' := by
  have hl : pre.length < s.fs.length := by rw [hs]; simp
  refine mat_any nm m s F pre.length w h (fun i hi hik => ?_) _ (.inr ⟨hl, ?_, rfl⟩)
  · simp only [hs, List.getElem_append_left hik]; exact hn _ (List.getElem_mem hik)
  · simp only [hs]; rw [List.getElem_append_right (Nat.le_refl _)]; simp
/-- A slice that reads bytes does not lie in the document's disk's own block. -/
theorem RMd.off {w : World} {m : Nat} {s : Mst} {F : List Nat} (h : RMd w m s F) {v : Value} {xs : List Int} (hs : Bs w v xs) : xs.length = 0 ∨ ∀ k, v.ownBlock = some k → k ∉ [m] := by
  obtain ⟨A, c, rs, hk, -⟩ := h.rows
  rcases Bs.off hk (fun j c => by
    match j with
    | 0 => simp [rmC]
    | 1 => simp [rmC]
    | 2 => simp [rmC]
    | 3 => simp [rmC]
    | j + 4 => simp [rmC]) hs with h | h
  · exact .inl h
  · exact .inr fun k hk => by simpa using h k hk
theorem rf3_info : (Tryz.prog.info? 105).map (fun i => (i.zero, i.size, i.bytes)) = some (some (.agg #[.string ⟨#[]⟩, .slice none 0 0, .int .i64 0]), 3, 48) := by kernel_rfl
theorem rlC_one (rs : List Rl) (h : ∀ r ∈ rs, ∃ A n c, r.v = .slice A n c) : ∀ u ∈ rs.flatMap rlC, u.oneCell' = true := by
  intro u hu
  obtain ⟨r, hr, hu⟩ := List.mem_flatMap.1 hu
  obtain ⟨A, n, c, hv⟩ := h r hr
  simp only [rlC, List.mem_cons, List.not_mem_nil, or_false] at hu
  rcases hu with rfl | rfl | rfl
  · rfl
  · rw [hv]; rfl
  · rfl
/-- A row of files, the k-th one written anew. -/
theorem flat_set (rs : List Rl) (k : Nat) (hk : k < rs.length) (r' : Rl) : (((rs.flatMap rlC).set (k * 3) (.string r'.nm)).set (k * 3 + 1) r'.v).set (k * 3 + 2) (.int .i64 (r'.su : Nat)) = (rs.set k r').flatMap rlC := by
  induction rs generalizing k with
  | nil => simp at hk
  | cons x rs ih =>
    cases k with
    | zero => simp [rlC]
    | succ k =>
      have := ih k (by simpa using hk)
      rw [List.set_cons_succ, List.flatMap_cons, List.flatMap_cons, ← this]
      have e0 : (k + 1) * 3 = (rlC x).length + k * 3 := by rw [rlC_len]; omega
      have e1 : (k + 1) * 3 + 1 = (rlC x).length + (k * 3 + 1) := by rw [rlC_len]; omega
      have e2 : (k + 1) * 3 + 2 = (rlC x).length + (k * 3 + 2) := by rw [rlC_len]; omega
      rw [e1, e2, e0]
      rw [List.set_append_right _ _ (by omega), List.set_append_right _ _ (by omega), List.set_append_right _ _ (by omega)]
      simp
end Go.Proofs.YtoiclicechfmgaaGreatDoor
