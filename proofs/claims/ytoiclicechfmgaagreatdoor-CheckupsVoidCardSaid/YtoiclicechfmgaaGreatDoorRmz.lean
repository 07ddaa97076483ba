import Derived.Test.YtoiclicechfmgaaGreatDoorRmc
import Derived.Deep.RegionLaw
/- The document's disk of any files: Put, Add, Sure, Read. -/
namespace Go.Proofs.YtoiclicechfmgaaGreatDoor
open Go.RowKit

def stepL (fs : Pfs) (nm : ByteArray) : Option (List Int × Nat) → Pfs
  | some q => insL fs nm q
  | none => putM fs nm none
def doesL (s : Mst) (nm : ByteArray) (size : Int) (made : Bool) (eff : List Int × Nat → Option (List Int × Nat)) : Mst × Int :=
  if ¬ askM s nm = 0 then (s, askM s nm) else if getM s.fs nm = none ∧ made = false then (s, 7) else if 1048576 < size ∨ (getM s.fs nm = none ∧ 16 ≤ s.fs.length) then (s, 3) else
  if s.fuse = 0 then ({ s with dead := true }, 17) else ({ (burnM s).1 with fs := stepL s.fs nm (eff ((getM s.fs nm).getD ([], 0))) }, 0)
theorem doesL_ask {s : Mst} {nm : ByteArray} (h : ¬ askM s nm = 0) (size : Int) (made : Bool) (eff : List Int × Nat → Option (List Int × Nat)) : doesL s nm size made eff = (s, askM s nm) := by unfold doesL; rw [if_pos h]
theorem doesL_set {s : Mst} {nm : ByteArray} (h : askM s nm = 0) (size : Nat) (made : Bool) (eff : List Int × Nat → Option (List Int × Nat)) (bs : List Int) (su : Nat) (hm : made = true ∨ ¬ getM s.fs nm = none) (hs : size = bs.length ∨ (size ≤ 1048576 ∧ bs.length ≤ 1048576)) (he : eff ((getM s.fs nm).getD ([], 0)) = some (bs, su)) :
    doesL s nm size made eff = setL s nm bs su := by
  unfold doesL setL
  rw [if_neg (by simpa using h), if_neg (by rintro ⟨h1, h2⟩; rcases hm with h3 | h3; rw [h2] at h3; cases h3; exact h3 h1), he]
  have hc : (1048576 < (size : Int) ∨ (getM s.fs nm = none ∧ 16 ≤ s.fs.length)) ↔ (1048576 < bs.length ∨ (getM s.fs nm = none ∧ 16 ≤ s.fs.length)) := by
    constructor
    · rintro (h | h)
      · exact .inl (by omega)
      · exact .inr h
    · rintro (h | h)
      · exact .inl (by omega)
      · exact .inr h
  by_cases h1 : 1048576 < (size : Int) ∨ (getM s.fs nm = none ∧ 16 ≤ s.fs.length)
  · rw [if_pos h1, if_pos (hc.1 h1)]
  · rw [if_neg h1, if_neg (fun h => h1 (hc.2 h))]
    rfl
/-- The cells of a name's file. -/
theorem RMd.file {w : World} {m : Nat} {s : Mst} {F : List Nat} (h : RMd w m s F) {pre post : Pfs} {nm : ByteArray} {ys : List Int} {su : Nat} (hs : s.fs = pre ++ (nm, (ys, su)) :: post) :
    ∃ (g n c : Nat) (v : Value), Blk w m 54 (rmC s.fuse s.dead (.slice (some ⟨g, 0, none⟩) n c)) ∧ pre.length < n ∧ n ≤ c ∧ n ≤ 16 ∧ g < w.heap.size ∧ w.cell? ⟨g, pre.length * 3 + 1, none⟩ = some v ∧ w.cell? ⟨g, pre.length * 3 + 2, none⟩ = some (.int .i64 (su : Nat)) ∧
      Bo 0 w v ys ∧ (∀ c ∈ ys, byt c) ∧ su ≤ ys.length ∧ ys.length ≤ 1048576 := by
  obtain ⟨A, c, rs, hk, hc, ho, hr, hf, -, h16⟩ := h.rows
  have hl : pre.length < rs.length := by
    have := congrArg List.length hf
    rw [hs, List.length_map] at this
    simp at this
    omega
  obtain ⟨g, rfl, ⟨cur, hg, -⟩, -, e1, e2⟩ := row_at ho pre.length hl
  have hrow : rs[pre.length].pf = (nm, (ys, su)) := by
    have := congrArg (fun l : Pfs => l[pre.length]?) hf
    simp only [hs] at this
    rw [List.getElem?_append_right (Nat.le_refl _)] at this
    simp only [Nat.sub_self, List.getElem?_cons_zero, List.getElem?_map, List.getElem?_eq_getElem hl, Option.map_some, Option.some.injEq] at this
    exact this.symm
  have hok := hr _ (List.getElem_mem hl)
  have h1 : rs[pre.length].xs = ys := congrArg (fun q : ByteArray × List Int × Nat => q.2.1) hrow
  have h2 : rs[pre.length].su = su := congrArg (fun q : ByteArray × List Int × Nat => q.2.2) hrow
  rw [h2] at e2
  refine ⟨g, rs.length, c, _, hk, hl, hc, h16, hg.lt, e1, e2, ?_, ?_, ?_, ?_⟩
  · rw [← h1]; exact hok.own
  · rw [← h1]; exact hok.by_
  · rw [← h1, ← h2]; exact hok.su
  · rw [← h1]; exact hok.len

set_option maxHeartbeats 1000000 in
set_option maxRecDepth 100000 in
theorem mput_ref (nm : ByteArray) (m : Nat) (s : Mst) (F : List Nat) (bv : Value) (bs : List Int) (w : World) (h : RMd w m s F) (hb : Bs w bv bs) (hby : ∀ c ∈ bs, byt c) (hl : bs.length ≤ 4611686018427387904) :
    Calls Tryz.prog 51 #[.pointer (some ⟨m, 0, none⟩), .string nm, bv] w fun e w' => e = .returned (.int .i64 (doesL s nm bs.length true (fun _ => some (bs, bs.length))).2) ∧ RMTo w F m (doesL s nm bs.length true (fun _ => some (bs, bs.length))).1 w' := by
  have AS := Lib.hid (masked_ref nm m s F w h)
  have ST := Lib.hid (mset_ref nm m s F bv bs bs.length w h hb hby (Nat.le_refl _) hl)
  have H := Lib.hid h
  obtain ⟨A, c, rfl, hc, -⟩ := id hb
  by_cases hask : ¬ askM s nm = 0
  · rw [doesL_ask hask]
    obtain ⟨a, ha⟩ : ∃ a, a = askM s nm := ⟨_, rfl⟩
    rw [← ha] at AS hask ⊢
    have hne : (a != 0) = true := by simpa using hask
    clear h hb hby ha hask
    go_enter Tryz.func51, Tryz.ntmps51
    go_wp2_with fail
    refine AS.out.mono ?_
    rintro e w1 ⟨rfl, rfl⟩
    go_wp2
    go_ret
    exact ⟨rfl, H.out.to⟩
  · have hask0 : askM s nm = 0 := by simpa using hask
    rw [doesL_set hask0 bs.length true (fun _ => some (bs, bs.length)) bs bs.length (.inl rfl) (.inl rfl) rfl]
    rw [hask0] at AS
    clear h hb hby hask hask0
    go_enter Tryz.func51, Tryz.ntmps51
    go_wp2_with fail
    refine AS.out.mono ?_
    rintro e w1 ⟨rfl, rfl⟩
    go_wp2_with fail
    refine ST.out.mono ?_
    rintro e w1 ⟨rfl, h1⟩
    have H1 := Lib.hid h1
    clear h1
    go_wp2
    go_ret
    exact ⟨rfl, H1.out⟩

end Go.Proofs.YtoiclicechfmgaaGreatDoor

/- The document's disk of any files: Drop. -/
namespace Go.Proofs.YtoiclicechfmgaaGreatDoor
open Go.RowKit

/-- Some of the files, laid anew. -/
theorem md_rows {w2 w7 : World} {m B : Nat} {v7 : Value} {s1 : Mst} {F : List Nat} {rs rs' : List Rl} {L : Value} (h : RMd w2 m s1 F) (hb : Below w2.heap.size w2 w7) (hk : Blk w2 m 54 (rmC s1.fuse s1.dead L)) (hr : ∀ r ∈ rs, RlOk w2 r)
    (hF : F = m :: (L.ownBlock.toList ++ rs.flatMap Rl.bl)) (hB : w2.heap.size ≤ B) (n7 : Nat) (h7 : Ow B w7 105 3 v7 n7 (rs'.flatMap rlC)) (hn7 : n7 = rs'.length) (hsub : ∀ r ∈ rs', r ∈ rs) (fs' : Pfs) (hfs : fs' = rs'.map Rl.pf) (hso : Srtd fs') (h16 : fs'.length ≤ 16) :
    RMTo w2 F m { s1 with fs := fs' } (w7.setCell ⟨m, 0, none⟩ v7) := by
  have hk7 := hk.below hb hk.lt
  have kA : Kp w2 [m] (w7.setCell ⟨m, 0, none⟩ v7) := (Kp.of_below hb [m]).setCell (.inl (by simp)) _
  refine ⟨⟨m :: (v7.ownBlock.toList ++ rs'.flatMap Rl.bl), ⟨h.lo, h.hi, ⟨v7, rs', ?_, ?_, ?_, hfs, rfl⟩, h16, hso⟩, ?_⟩, kA.mono (by simpa using h.mem)⟩
  · have := hk7.set_ 0 v7
    simpa [rmC] using this
  · rw [← hn7]
    exact (h7.aside hk7 (by decide) 0 v7).le (Nat.zero_le _)
  · intro r hr'
    exact (hr r (hsub r hr')).kp kA fun i hi => by simpa using (hr r (hsub r hr')).ne hk (by decide) i hi
  · intro i hi
    rw [hF]
    simp only [List.mem_cons, List.mem_append] at hi ⊢
    rcases hi with h1 | h1 | h1
    · exact .inl (.inl h1)
    · exact .inr (Nat.le_trans hB (h7.blk_lt i (by simpa using h1)))
    · obtain ⟨r, hr', h4⟩ := List.mem_flatMap.1 h1
      exact .inl (.inr (.inr (List.mem_flatMap.2 ⟨r, hsub r hr', h4⟩)))

end Go.Proofs.YtoiclicechfmgaaGreatDoor
