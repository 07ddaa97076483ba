/- The document's disk of any files: Drop. -/
import Derived.Test.YtenobcfgapolhaaRmd
namespace Go.Proofs.Ytenobcfgapolhaa
open Go.RowKit

/-- Some of the files, laid anew. -/
theorem md_rows {w2 w7 : World} {m B : Nat} {v7 : Value} {s1 : Mst} {F : List Nat} {rs rs' : List Rl} {L : Value} (h : RMd w2 m s1 F) (hb : Below w2.heap.size w2 w7) (hk : Blk w2 m 30 (rmC s1.fuse s1.dead L)) (hr : ∀ r ∈ rs, RlOk w2 r)
    (hF : F = m :: (L.ownBlock.toList ++ rs.flatMap Rl.bl)) (hB : w2.heap.size ≤ B) (n7 : Nat) (h7 : Ow B w7 56 3 v7 n7 (rs'.flatMap rlC)) (hn7 : n7 = rs'.length) (hsub : ∀ r ∈ rs', r ∈ rs) (fs' : Pfs) (hfs : fs' = rs'.map Rl.pf) (hso : Srtd fs') (h16 : fs'.length ≤ 16) :
    RMTo w2 F m { s1 with fs := fs' } (w7.setCell ⟨m, 0, none⟩ v7) := by
  have hk7 := hk.below hb hk.lt
  have kA : Kp w2 [m] (w7.setCell ⟨m, 0, none⟩ v7) := (Kp.of_below hb [m]).setCell (.inl (by simp)) _
  refine ⟨⟨m :: (v7.ownBlock.toList ++ rs'.flatMap Rl.bl), ⟨h.lo, h.hi, ⟨v7, rs', ?_, ?_, ?_, hfs, rfl⟩, h16, hso⟩, ?_⟩, kA.mono (by simpa using h.mem)⟩
  · have := hk7.set_ 0 v7
    simpa [rmC] using this
  · rw [← hn7]
    exact (h7.aside hk7 (by decide) 0 v7).le (Nat.zero_le _)
  · intro r hr'
    exact (hr r (hsub r hr')).kp kA fun i hi => by simpa using (hr r (hsub r hr')).ne hk (by decide) i hi
  · intro i hi
    rw [hF]
    simp only [List.mem_cons, List.mem_append] at hi ⊢
    rcases hi with h1 | h1 | h1
    · exact .inl (.inl h1)
    · exact .inr (Nat.le_trans hB (h7.blk_lt i (by simpa using h1)))
    · obtain ⟨r, hr', h4⟩ := List.mem_flatMap.1 h1
      exact .inl (.inr (.inr (List.mem_flatMap.2 ⟨r, hsub r hr', h4⟩)))

set_option maxHeartbeats 4000000 in
set_option maxRecDepth 100000 in
theorem mdrop_ref (nm : ByteArray) (m : Nat) (s : Mst) (F : List Nat) (w : World) (h : RMd w m s F) :
    Calls Try.prog 21 #[.pointer (some ⟨m, 0, none⟩), .string nm] w fun e w' => e = .returned (.int .i64 (doesL s nm 0 false (fun _ => none)).2) ∧ RMTo w F m (doesL s nm 0 false (fun _ => none)).1 w' := by
  have AS := Lib.hid (masked_ref nm m s F w h)
  have BU := Lib.hid (mburn_ref m s F w h)
  have H := Lib.hid h
  have MF := Lib.hid h.mem
  by_cases hask : ¬ askM s nm = 0
  · rw [doesL_ask hask]
    obtain ⟨a, ha⟩ : ∃ a, a = askM s nm := ⟨_, rfl⟩
    rw [← ha] at AS hask ⊢
    have hne : (a != 0) = true := by simpa using hask
    clear h ha hask
    go_enter Try.func21, Try.ntmps21
    go_wp2_with fail
    refine AS.out.mono ?_
    rintro e w1 ⟨rfl, rfl⟩
    go_wp2
    go_ret
    exact ⟨rfl, H.out.to⟩
  have hask0 : askM s nm = 0 := by simpa using hask
  rw [hask0] at AS
  rcases pfs_find s.fs nm h.sorted with ⟨hno, GN⟩ | ⟨pre, ⟨ys, su⟩, post, hsp, hpre, GY⟩
  · have AT := Lib.hid (mat_no h hno)
    rw [show doesL s nm 0 false (fun _ => none) = (s, 7) from by unfold doesL; rw [if_neg hask, if_pos ⟨GN, rfl⟩]]
    clear h hask hask0 hno GN
    go_enter Try.func21, Try.ntmps21
    go_wp2_with fail
    refine AS.out.mono ?_
    rintro e w1 ⟨rfl, rfl⟩
    go_wp2_with fail
    refine AT.out.mono ?_
    rintro e w1 ⟨rfl, rfl⟩
    go_wp2
    go_ret
    exact ⟨rfl, H.out.to⟩
  · have AT := Lib.hid (mat_yes h hsp hpre)
    obtain ⟨k, hkp⟩ : ∃ k, k = pre.length := ⟨_, rfl⟩
    rw [← hkp] at AT
    have hneg : ¬ (k : Int) < 0 := by omega
    have hcond : ¬ (1048576 < (0 : Int) ∨ (getM s.fs nm = none ∧ 16 ≤ s.fs.length)) := by rw [GY]; simp
    by_cases hfu : s.fuse = 0
    · have E := Lib.hid (show doesL s nm 0 false (fun _ => none) = ({ s with dead := true }, 17) from by unfold doesL; rw [if_neg hask, if_neg (by rw [GY]; simp), if_neg hcond, if_pos hfu])
      have E1 := Lib.hid (show (burnM s).1 = { s with dead := true } from by unfold burnM; rw [if_pos hfu])
      rw [E.out]
      rw [E1.out, show decide (s.fuse ≠ 0) = false from by rw [hfu]; rfl] at BU
      clear h hask hask0 hsp hpre GY E hcond hfu E1 hkp
      go_enter Try.func21, Try.ntmps21
      go_wp2_with fail
      refine AS.out.mono ?_
      rintro e w1 ⟨rfl, rfl⟩
      go_wp2_with fail
      refine AT.out.mono ?_
      rintro e w1 ⟨rfl, rfl⟩
      go_wp2_with fail
      refine BU.out.mono ?_
      rintro e w1 ⟨rfl, h1, k1⟩
      have T1 := Lib.hid (show RMTo w F m _ w1 from ⟨⟨F, h1, fun _ hk => .inl hk⟩, k1.mono (by simpa using MF.out)⟩)
      clear h1 k1
      go_wp2
      go_ret
      exact ⟨rfl, T1.out⟩
    have FS := Lib.hid (show putM s.fs nm none = pre ++ post from by rw [hsp, putM_at (ys, su) none hpre]; simp)
    have E := Lib.hid (show doesL s nm 0 false (fun _ => none) = ({ (burnM s).1 with fs := pre ++ post }, 0) from by unfold doesL; rw [if_neg hask, if_neg (by rw [GY]; simp), if_neg hcond, if_neg hfu]; simp only [stepL]; rw [FS.out])
    rw [E.out]
    rw [show decide (s.fuse ≠ 0) = true from decide_eq_true hfu] at BU
    have SP := Lib.hid (And.intro hsp hkp)
    clear h hask hask0 hsp hpre GY E hcond hfu FS hkp
    go_enter Try.func21, Try.ntmps21
    go_wp2_with fail
    refine AS.out.mono ?_
    rintro e w1 ⟨rfl, rfl⟩
    go_wp2_with fail
    refine AT.out.mono ?_
    rintro e w1 ⟨rfl, rfl⟩
    go_wp2_with fail
    refine BU.out.mono ?_
    rintro e w2 ⟨rfl, h2, k2⟩
    have H2 := Lib.hid h2
    have K2 := Lib.hid k2
    obtain ⟨AL, c, rs, hk, hc, ho, hr, hs, hF, h16⟩ := h2.rows
    rw [burnM_fs] at hs
    have hkl : k < rs.length := by
      have := congrArg List.length hs
      rw [SP.out.1, List.length_map] at this
      have := SP.out.2
      simp at *
      omega
    obtain ⟨g, rfl, -, -, -, -⟩ := row_at ho k hkl
    obtain ⟨n, hn⟩ : ∃ n, n = rs.length := ⟨_, rfl⟩
    have NN := Lib.hid hn
    rw [← hn] at hk hc ho hkl h16
    have ONE := Lib.hid (rlC_one rs fun r hr' => by
      obtain ⟨A, c, hv, -⟩ := (hr r hr').own.clip
      exact ⟨A, _, c, hv⟩)
    have TK := Lib.hid (show ∀ u, Below w2.heap.size w2 u → Rd u 3 (.slice (some ⟨g, 0, none⟩) k c) k ((rs.flatMap rlC).take (k * 3)) from fun u hu => (ho.rd.below hu).front_ k c (by omega) (by omega))
    have MC := Lib.hid (show ∀ u, Below w2.heap.size w2 u → u.cell? ⟨m, 0, none⟩ = some (.slice (some ⟨g, 0, none⟩) n c) ∧ u.frozen? ⟨m, 0, none⟩ = false from fun u hu => ⟨(hu.cell (p := ⟨m, 0, none⟩) hk.lt).trans (by rw [hk.cell]; rfl), (hk.below hu hk.lt).free 0⟩)
    have FIN := Lib.hid (show ∀ (v7 : Value) (w7 : World) (ct : Nat), ct = k + (n - (k + 1)) → Ow w2.heap.size w7 56 3 v7 ct (((rs.flatMap rlC).take (k * 3)) ++ (rs.flatMap rlC).drop ((k + 1) * 3)) → Below w2.heap.size w2 w7 → RMTo w F m { (burnM s).1 with fs := pre ++ post } (w7.setCell ⟨m, 0, none⟩ v7) from fun v7 w7 ct hct ho7 hb7 => by
      have hfs : pre ++ post = (rs.take k ++ rs.drop (k + 1)).map Rl.pf := by
        rw [List.map_append, List.map_take, List.map_drop, ← hs, SP.out.1, SP.out.2]
        simp
      have hso : Srtd (pre ++ post) := by
        have := H2.out.sorted
        rw [burnM_fs, SP.out.1] at this
        unfold Srtd
        rw [List.map_append, List.map_cons] at this
        rw [List.map_append]
        exact List.Pairwise.sublist (List.Sublist.append (List.Sublist.refl _) (List.sublist_cons_self _ _)) this
      rw [flat_take, flat_drop, ← List.flatMap_append] at ho7
      have t := md_rows H2.out hb7 hk hr hF (Nat.le_refl _) ct ho7 (by simp only [List.length_append, List.length_take, List.length_drop]; have := NN.out; omega) (fun r hr' => by
        rcases List.mem_append.1 hr' with h | h
        · exact List.mem_of_mem_take h
        · exact List.mem_of_mem_drop h) (pre ++ post) hfs hso (by
        rw [hfs]
        simp only [List.length_map, List.length_append, List.length_take, List.length_drop]
        have := NN.out
        omega)
      exact ⟨t.ex.elim fun F' hF' => ⟨F', hF'.1, fun j hj => (hF'.2 j hj).imp id fun h => Nat.le_trans K2.out.size h⟩, (K2.out.mono (by simpa using MF.out)).trans t.kp fun _ hi => .inl hi⟩)
    have RD := Lib.hid (show ∀ u, Below w2.heap.size w2 u → Rd u 3 (.slice (some ⟨g, 0, none⟩) n c) n (rs.flatMap rlC) from fun u hu => ho.rd.below hu)
    have N16 := Lib.hid h16
    have FLL := Lib.hid (show (rs.flatMap rlC).length = n * 3 from by rw [flatMap_len rlC 3 rlC_len, NN.out])
    have hk0 : (0 : Int) ≤ (k : Int) := by omega
    have hkc : (k : Int) ≤ (c : Int) := by omega
    have hw : IntKind.i64.wrap ((k : Int) + 1) = ((k + 1 : Nat) : Int) := (IntWalk.i64_in _ (by omega)).trans (by omega)
    obtain ⟨k1, hk1⟩ : ∃ k1, k1 = k + 1 := ⟨_, rfl⟩
    rw [← hk1] at hw FIN
    have K1 := Lib.hid hk1
    have hk10 : (0 : Int) ≤ (k1 : Int) := by omega
    have hk1n : (k1 : Int) ≤ (n : Int) := by omega
    have hnc : (n : Int) ≤ (c : Int) := by omega
    have hk1c : (k1 : Int) ≤ (c : Int) := by omega
    have i5 : ((n : Int) - (k1 : Int)).toNat = n - k1 := by omega
    have i6 : ((c : Int) - (k1 : Int)).toNat = c - k1 := by omega
    have hk1l : k1 ≤ n := by omega
    obtain ⟨m0, mf0⟩ := MC.out _ ((Below.refl _ w2).drew)
    by_cases hce : c = k1
    · have hn1 : n = k1 := by omega
      have YD := Lib.hid (show ∀ u, Rd u 3 (.slice (some ⟨g, 0, none⟩) 0 0) 0 ((rs.flatMap rlC).drop (k1 * 3)) from fun u => by
        rw [List.drop_eq_nil_of_le (by rw [FLL.out, hn1]; exact Nat.le_refl _)]
        exact Rd.none_ _ _ _ _)
      subst hn1
      subst hce
      clear h2 k2 hk hc ho hr hs hF hn hk1 hkl h16
      go_wp2_with fail
      go_region_law (first
        | (refine step_ow_rows rfl _ _ 28 56 (.agg #[.string ⟨#[]⟩, .slice none 0 0, .int .i64 0]) 3 48 rfl Try.underlying28 rf3_info rfl (by decide) rfl O3.out.1 O3.out.2.size (YD.out _) (fun u hu => ONE.out u (List.mem_of_mem_drop hu)) rfl (by have := N16.out; have := K1.out; omega) (by unfold maxLen; have := N16.out; have := K1.out; omega) ?_; intro v4 w4 h4 hg4; obtain ⟨A4, c4, rfl⟩ := h4.sl_; rw [Nat.add_zero] at h4; have O4 := Lib.hid (And.intro h4 (below_grown_own_ O3.out.2 hg4.1 O3.out.1)); obtain ⟨m4, mf4⟩ := MC.out _ O4.out.2; clear h4 hg4)
        | (refine step_ow_rows rfl _ _ 28 56 (.agg #[.string ⟨#[]⟩, .slice none 0 0, .int .i64 0]) 3 48 rfl Try.underlying28 rf3_info rfl (by decide) rfl (B := w2.heap.size) (n := 0) (xs := []) (.inl ⟨rfl, rfl, rfl⟩) (Nat.le_refl _) (TK.out _ (Below.refl _ w2).drew) (fun u hu => ONE.out u (List.mem_of_mem_take hu)) rfl (by have := N16.out; have := K1.out; omega) (by unfold maxLen; have := N16.out; have := K1.out; omega) ?_; intro v3 w3 h3 hg3; rw [Nat.zero_add, List.nil_append] at h3; obtain ⟨A3, c3, rfl⟩ := h3.sl_; have O3 := Lib.hid (And.intro h3 (show Below w2.heap.size w2 w3 from (Below.refl _ w2).drew.trans (below_of_grown_ hg3.1))); obtain ⟨m3, mf3⟩ := MC.out _ O3.out.2; clear h3 hg3))
      all_goals
        go_wp2
        go_ret
        exact ⟨rfl, FIN.out _ _ _ (by omega) O4.out.1 O4.out.2⟩
    · have hce2 : ¬ k1 = c := fun e => hce e.symm
      have YD := Lib.hid (show ∀ u, Below w2.heap.size w2 u → Rd u 3 (.slice (some ⟨g, k1 * 3, none⟩) (n - k1) (c - k1)) (n - k1) ((rs.flatMap rlC).drop (k1 * 3)) from fun u hu => by
        have h9 := (RD.out u hu).back_ k1 (c - k1) hk1l (by omega)
        rwa [Nat.zero_add] at h9)
      clear h2 k2 hk hc ho hr hs hF hn hk1 hkl h16
      go_wp2_with fail
      go_region_law (first
        | (refine step_ow_rows rfl _ _ 28 56 (.agg #[.string ⟨#[]⟩, .slice none 0 0, .int .i64 0]) 3 48 rfl Try.underlying28 rf3_info rfl (by decide) rfl O3.out.1 O3.out.2.size (YD.out _ O3.out.2) (fun u hu => ONE.out u (List.mem_of_mem_drop hu)) rfl (by have := N16.out; have := K1.out; omega) (by unfold maxLen; have := N16.out; have := K1.out; omega) ?_; intro v4 w4 h4 hg4; obtain ⟨A4, c4, rfl⟩ := h4.sl_; have O4 := Lib.hid (And.intro h4 (below_grown_own_ O3.out.2 hg4.1 O3.out.1)); obtain ⟨m4, mf4⟩ := MC.out _ O4.out.2; clear h4 hg4)
        | (refine step_ow_rows rfl _ _ 28 56 (.agg #[.string ⟨#[]⟩, .slice none 0 0, .int .i64 0]) 3 48 rfl Try.underlying28 rf3_info rfl (by decide) rfl (B := w2.heap.size) (n := 0) (xs := []) (.inl ⟨rfl, rfl, rfl⟩) (Nat.le_refl _) (TK.out _ (Below.refl _ w2).drew) (fun u hu => ONE.out u (List.mem_of_mem_take hu)) rfl (by have := N16.out; have := K1.out; omega) (by unfold maxLen; have := N16.out; have := K1.out; omega) ?_; intro v3 w3 h3 hg3; rw [Nat.zero_add, List.nil_append] at h3; obtain ⟨A3, c3, rfl⟩ := h3.sl_; have O3 := Lib.hid (And.intro h3 (show Below w2.heap.size w2 w3 from (Below.refl _ w2).drew.trans (below_of_grown_ hg3.1))); obtain ⟨m3, mf3⟩ := MC.out _ O3.out.2; clear h3 hg3))
      all_goals
        go_wp2
        go_ret
        exact ⟨rfl, FIN.out _ _ _ rfl O4.out.1 O4.out.2⟩
end Go.Proofs.Ytenobcfgapolhaa
