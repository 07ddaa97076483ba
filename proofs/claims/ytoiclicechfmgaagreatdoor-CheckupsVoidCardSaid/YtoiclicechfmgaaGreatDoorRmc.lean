/- The document's disk of any files: set, walked. -/
import Derived.Test.YtoiclicechfmgaaGreatDoorRnz
namespace Go.Proofs.YtoiclicechfmgaaGreatDoor
open Go.RowKit

theorem burnM_fs (s : Mst) : (burnM s).1.fs = s.fs := by
  unfold burnM
  split
  · rfl
  · split <;> rfl
theorem less_list (x y : ByteArray) : Op.bytesLess x.toList y.toList = ltB x y := by rw [bytesLess_ltB, Lib.toList_data, Lib.toList_data]; rfl
theorem cut_at (p : Rl → Bool) : ∀ rs : List Rl, ∃ K, K ≤ rs.length ∧ (∀ i (hi : i < rs.length), i < K → p rs[i] = true) ∧ (∀ hi : K < rs.length, p rs[K] = false)
  | [] => ⟨0, by simp, by simp, by simp⟩
  | r :: rs => by
    cases hp : p r with
    | false => exact ⟨0, by simp, fun i _ h => by omega, fun _ => by simpa using hp⟩
    | true =>
      obtain ⟨K, h1, h2, h3⟩ := cut_at p rs
      refine ⟨K + 1, by simp; omega, fun i hi hik => ?_, fun hi => ?_⟩
      · cases i with
        | zero => simpa using hp
        | succ i => simpa using h2 i (by simpa using hi) (by omega)
      · simpa using h3 (by simpa using hi)
/-- What replacing leaves. -/
theorem md_replace {w1 w3 : World} {m g c k su : Nat} {A2 : Option Addr} {n2 c2 : Nat} {s1 : Mst} {F : List Nat} {rs : List Rl} {bs : List Int} {nm : ByteArray} {cur : Array Value} (h : RMd w1 m s1 F) (hb : Below w1.heap.size w1 w3)
    (hk : Blk w1 m 54 (rmC s1.fuse s1.dead (.slice (some ⟨g, 0, none⟩) rs.length c))) (ho : Ow 0 w1 105 3 (.slice (some ⟨g, 0, none⟩) rs.length c) rs.length (rs.flatMap rlC)) (hr : ∀ r ∈ rs, RlOk w1 r) (hs : s1.fs = rs.map Rl.pf)
    (hF : F = m :: ((Value.slice (some ⟨g, 0, none⟩) rs.length c).ownBlock.toList ++ rs.flatMap Rl.bl)) (hg : Blk w3 g 105 cur) (hkl : k < rs.length) (hn : rs[k].nm = nm) (h2 : Bo w1.heap.size w3 (.slice A2 n2 c2) bs) (hby : ∀ c ∈ bs, byt c) (hsu : su ≤ bs.length) (hl : bs.length ≤ 1048576)
    (fs' : Pfs) (hfs : fs' = (rs.set k ⟨nm, .slice A2 n2 c2, bs, su⟩).map Rl.pf) :
    RMTo w1 F m { s1 with fs := fs' } (((w3.drew.setCell ⟨g, k * 3, none⟩ (.string nm)).setCell ⟨g, k * 3 + 1, none⟩ (.slice A2 n2 c2)).setCell ⟨g, k * 3 + 2, none⟩ (.int .i64 (su : Nat))) := by
  have hgF : g ∈ F := by rw [hF]; simp [Value.ownBlock]
  have hgm : g ≠ m := by
    rcases ho with ⟨h, _⟩ | ⟨g', _, _, h, _, hg', _⟩
    · cases h
    · injection h with h _ _
      injection h with h
      injection h with h _
      subst h
      exact hg'.ne_ hk (by decide)
  have kW : Kp w3.drew [g] (((w3.drew.setCell ⟨g, k * 3, none⟩ (.string nm)).setCell ⟨g, k * 3 + 1, none⟩ (.slice A2 n2 c2)).setCell ⟨g, k * 3 + 2, none⟩ (.int .i64 (su : Nat))) := (((Kp.refl _ _).setCell (.inl (by simp)) _).setCell (.inl (by simp)) _).setCell (.inl (by simp)) _
  have kA : Kp w1 [g] (((w3.drew.setCell ⟨g, k * 3, none⟩ (.string nm)).setCell ⟨g, k * 3 + 1, none⟩ (.slice A2 n2 c2)).setCell ⟨g, k * 3 + 2, none⟩ (.int .i64 (su : Nat))) := (Kp.of_below (hb.drew) [g]).trans kW fun _ hi => .inl hi
  have ho3 := ho.below hb
  refine ⟨⟨m :: ((Value.slice (some ⟨g, 0, none⟩) rs.length c).ownBlock.toList ++ (rs.set k ⟨nm, .slice A2 n2 c2, bs, su⟩).flatMap Rl.bl), ⟨h.lo, h.hi, ⟨.slice (some ⟨g, 0, none⟩) rs.length c, rs.set k ⟨nm, .slice A2 n2 c2, bs, su⟩, ?_, ?_, ?_, hfs, rfl⟩, ?_, ?_⟩, ?_⟩, kA.mono (by simpa using hgF)⟩
  · exact kA.blk hk (by simpa using hgm.symm)
  · rw [List.length_set]
    rcases ho3 with ⟨h, _⟩ | ⟨g', c', cur', hv, hB, hg', hc, hlx, hsz, ht⟩
    · cases h
    · injection hv with h1 _ h3
      injection h1 with h1
      injection h1 with h1 _
      subst h1 h3
      have hcc : cur' = cur := by
        unfold Blk at hg hg'
        rw [hg'] at hg
        injection hg with hg
        injection hg
      subst hcc
      have hd : Blk w3.drew g 105 cur' := hg
      refine .inr ⟨g, c, _, rfl, hB, ((hd.set_ (k * 3) (.string nm)).set_ (k * 3 + 1) (.slice A2 n2 c2)).set_ (k * 3 + 2) (.int .i64 (su : Nat)), hc, ?_, by simpa using hsz, ?_⟩
      · rw [flatMap_len rlC 3 rlC_len]; simp
      · rw [← flat_set rs k hkl ⟨nm, .slice A2 n2 c2, bs, su⟩, ← ht]
        simp only [Array.toList_setIfInBounds, List.take_set]
  · intro r hr'
    rcases List.mem_or_eq_of_mem_set hr' with h1 | h1
    · exact (hr r h1).kp kA fun i hi => by
        have := (hr r h1).ne (g := g) (show Blk w1 g 105 cur from by
          rcases ho with ⟨h, _⟩ | ⟨g', _, cur', h, _, hg', _⟩
          · cases h
          · injection h with h _ _
            injection h with h
            injection h with h _
            subst h
            have h3 := hg'.below hb hg'.lt
            unfold Blk at hg h3 hg' ⊢
            rw [h3] at hg
            injection hg with hg
            injection hg with hg _
            rw [← hg]; exact hg') (by decide) i hi
        simpa using this
    · subst h1
      exact ⟨(kW.ow (show Ow w1.heap.size w3.drew 5 1 (.slice A2 n2 c2) bs.length (bc bs) from h2) (fun j hj => by
        rcases h2 with ⟨h, _⟩ | ⟨g', _, _, h, hB', hg', _⟩
        · rw [h] at hj; simp [Value.ownBlock] at hj
        · rw [h] at hj
          simp [Value.ownBlock] at hj
          subst hj
          simpa using hg'.ne_ hg (by decide))).le (Nat.zero_le _), hby, hsu, hl⟩
  · have := h.most
    simp only [hfs, List.length_map, List.length_set]
    rw [hs, List.length_map] at this
    exact this
  · have := h.sorted
    simp only
    rw [hfs, List.map_set, List.map_set]
    rw [hs] at this
    have e : (((rs.map Rl.pf).map (·.1)).set k nm) = (rs.map Rl.pf).map (·.1) := by
      refine List.ext_getElem (by simp) fun i h1 h2 => ?_
      rw [List.getElem_set]
      split
      · rename_i e; subst e; simp [Rl.pf, hn]
      · rfl
    rw [show (Rl.pf ⟨nm, .slice A2 n2 c2, bs, su⟩).1 = nm from rfl, e]
    exact this
  · intro i hi
    rw [hF]
    simp only [List.mem_cons, List.mem_append] at hi ⊢
    rcases hi with h1 | h1 | h1
    · exact .inl (.inl h1)
    · exact .inl (.inr (.inl h1))
    · obtain ⟨r, hr', h4⟩ := List.mem_flatMap.1 h1
      rcases List.mem_or_eq_of_mem_set hr' with h5 | h5
      · exact .inl (.inr (.inr (List.mem_flatMap.2 ⟨r, h5, h4⟩)))
      · subst h5
        exact .inr (h2.blk_lt i (by simpa [Rl.bl] using h4))

theorem flat_take (rs : List Rl) (K : Nat) : (rs.flatMap rlC).take (K * 3) = (rs.take K).flatMap rlC := by
  induction rs generalizing K with
  | nil => simp
  | cons x rs ih =>
    cases K with
    | zero => simp
    | succ K =>
      rw [List.flatMap_cons, List.take_succ_cons, List.flatMap_cons, ← ih K, show (K + 1) * 3 = (rlC x).length + K * 3 by rw [rlC_len]; omega, List.take_length_add_append]
theorem flat_drop (rs : List Rl) (K : Nat) : (rs.flatMap rlC).drop (K * 3) = (rs.drop K).flatMap rlC := by
  induction rs generalizing K with
  | nil => simp
  | cons x rs ih =>
    cases K with
    | zero => simp
    | succ K =>
      rw [List.flatMap_cons, List.drop_succ_cons, ← ih K, show (K + 1) * 3 = (rlC x).length + K * 3 by rw [rlC_len]; omega, List.drop_length_add_append]
theorem Rd.front_ {w : World} {size n c : Nat} {A : Option Addr} {xs : List Value} (h : Rd w size (.slice A n c) n xs) (k c' : Nat) (hk : k ≤ n) (hc : k ≤ c') : Rd w size (.slice A k c') k (xs.take (k * size)) := by
  obtain ⟨A', c2, hv, hc2, hl, hh⟩ := h
  injection hv with h1 h2 h3
  subst h1
  have hks : k * size ≤ n * size := Nat.mul_le_mul_right _ hk
  refine ⟨A, c', rfl, hc, by rw [List.length_take]; omega, ?_⟩
  rcases hh with h0 | ⟨g, o, hA, hg, hcell⟩
  · exact .inl (by omega)
  · refine .inr ⟨g, o, hA, hg, fun j u hu => hcell j u ?_⟩
    rw [List.getElem?_take] at hu
    split at hu
    · exact hu
    · cases hu
theorem Rd.back_ {w : World} {size n c g o : Nat} {xs : List Value} (h : Rd w size (.slice (some ⟨g, o, none⟩) n c) n xs) (k c' : Nat) (hk : k ≤ n) (hc : n - k ≤ c') : Rd w size (.slice (some ⟨g, o + k * size, none⟩) (n - k) c') (n - k) (xs.drop (k * size)) := by
  obtain ⟨A', c2, hv, hc2, hl, hh⟩ := h
  injection hv with h1 h2 h3
  subst h1
  refine ⟨_, c', rfl, hc, by rw [List.length_drop, hl, Nat.sub_mul], ?_⟩
  rcases hh with h0 | ⟨g', o', hA, hg, hcell⟩
  · exact .inl (by omega)
  · injection hA with hA
    injection hA with hA1 hA2
    subst hA1 hA2
    refine .inr ⟨g, o + k * size, rfl, hg, fun j u hu => ?_⟩
    rw [List.getElem?_drop] at hu
    have := hcell _ u hu
    rw [Nat.add_assoc]
    exact this
theorem Rd.none_ (w : World) (size : Nat) (A : Option Addr) (c : Nat) : Rd w size (.slice A 0 c) 0 [] := ⟨A, c, rfl, Nat.zero_le _, by simp, .inl rfl⟩
/-- What laying a file between the others leaves. -/
theorem md_insert {w2 w7 : World} {m K su B : Nat} {v v7 : Value} {s1 : Mst} {F : List Nat} {rs : List Rl} {bs : List Int} {nm : ByteArray} {L : Value} (h : RMd w2 m s1 F) (hb : Below w2.heap.size w2 w7) (hk : Blk w2 m 54 (rmC s1.fuse s1.dead L)) (hr : ∀ r ∈ rs, RlOk w2 r)
    (hF : F = m :: (L.ownBlock.toList ++ rs.flatMap Rl.bl)) (hB : w2.heap.size ≤ B) (n7 : Nat) (h7 : Ow B w7 105 3 v7 n7 ((rs.take K ++ (⟨nm, v, bs, su⟩ : Rl) :: rs.drop K).flatMap rlC)) (hn7 : n7 = (rs.take K ++ (⟨nm, v, bs, su⟩ : Rl) :: rs.drop K).length) (h2 : Bo w2.heap.size w7 v bs) (hby : ∀ c ∈ bs, byt c) (hsu : su ≤ bs.length) (hl : bs.length ≤ 1048576)
    (fs' : Pfs) (hfs : fs' = (rs.take K ++ (⟨nm, v, bs, su⟩ : Rl) :: rs.drop K).map Rl.pf) (hso : Srtd fs') (h16 : fs'.length ≤ 16) :
    RMTo w2 F m { s1 with fs := fs' } (w7.setCell ⟨m, 0, none⟩ v7) := by
  have hk7 := hk.below hb hk.lt
  have kA : Kp w2 [m] (w7.setCell ⟨m, 0, none⟩ v7) := (Kp.of_below hb [m]).setCell (.inl (by simp)) _
  refine ⟨⟨m :: (v7.ownBlock.toList ++ (rs.take K ++ (⟨nm, v, bs, su⟩ : Rl) :: rs.drop K).flatMap Rl.bl), ⟨h.lo, h.hi, ⟨v7, rs.take K ++ (⟨nm, v, bs, su⟩ : Rl) :: rs.drop K, ?_, ?_, ?_, hfs, rfl⟩, h16, hso⟩, ?_⟩, kA.mono (by simpa using h.mem)⟩
  · have := hk7.set_ 0 v7
    simpa [rmC] using this
  · rw [← hn7]
    exact (h7.aside hk7 (by decide) 0 v7).le (Nat.zero_le _)
  · intro r hr'
    have hcase : r ∈ rs ∨ r = ⟨nm, v, bs, su⟩ := by
      rcases List.mem_append.1 hr' with h | h
      · exact .inl (List.mem_of_mem_take h)
      · rcases List.mem_cons.1 h with h | h
        · exact .inr h
        · exact .inl (List.mem_of_mem_drop h)
    rcases hcase with h1 | rfl
    · exact (hr r h1).kp kA fun i hi => by simpa using (hr r h1).ne hk (by decide) i hi
    · exact ⟨(Ow.aside h2 hk7 (by decide) 0 v7).le (Nat.zero_le _), hby, hsu, hl⟩
  · intro i hi
    rw [hF]
    simp only [List.mem_cons, List.mem_append] at hi ⊢
    rcases hi with h1 | h1 | h1
    · exact .inl (.inl h1)
    · exact .inr (Nat.le_trans hB (h7.blk_lt i (by simpa using h1)))
    · obtain ⟨r, hr', h4⟩ := List.mem_flatMap.1 h1
      have hcase : r ∈ rs ∨ r = ⟨nm, v, bs, su⟩ := by
        rcases List.mem_append.1 hr' with h | h
        · exact .inl (List.mem_of_mem_take h)
        · rcases List.mem_cons.1 h with h | h
          · exact .inr h
          · exact .inl (List.mem_of_mem_drop h)
      rcases hcase with h5 | rfl
      · exact .inl (.inr (.inr (List.mem_flatMap.2 ⟨r, h5, h4⟩)))
      · exact .inr (h2.blk_lt i (by simpa [Rl.bl] using h4))

set_option maxHeartbeats 4000000 in
set_option maxRecDepth 100000 in
theorem mset_ref (nm : ByteArray) (m : Nat) (s : Mst) (F : List Nat) (bv : Value) (bs : List Int) (su : Nat) (w : World) (h : RMd w m s F) (hb : Bs w bv bs) (hby : ∀ c ∈ bs, byt c) (hsu : su ≤ bs.length) (hl : bs.length ≤ 4611686018427387904) :
    Calls Tryz.prog 50 #[.pointer (some ⟨m, 0, none⟩), .string nm, bv, .int .i64 su] w fun e w' => e = .returned (.int .i64 (setL s nm bs su).2) ∧ RMTo w F m (setL s nm bs su).1 w' := by
  have H := Lib.hid h
  have BU := Lib.hid (mburn_ref m s F w h)
  have HB := Lib.hid hb
  have HV := Lib.hid (h.off hb)
  have BY := Lib.hid hby
  have SRT : Srtd s.fs := h.sorted
  obtain ⟨A, c, rfl, hc, -⟩ := id hb
  obtain ⟨AL, cl, rs, hk, hcl, -, -, hs, -, h16⟩ := h.rows
  have c0 := hk.cell 0
  simp only [rmC, List.getElem?_toArray, List.getElem?_cons_zero] at c0
  have hlen : s.fs.length = rs.length := by rw [hs, List.length_map]
  obtain ⟨nl, hnl⟩ : ∃ nl, nl = rs.length := ⟨_, rfl⟩
  rw [← hnl] at c0 hcl h16 hlen
  obtain ⟨bl, hbl⟩ : ∃ bl, bl = bs.length := ⟨_, rfl⟩
  have BL := Lib.hid hbl
  have MF := Lib.hid h.mem
  rcases pfs_find s.fs nm SRT with ⟨hno, GN⟩ | ⟨pre, y, post, hsp, hpre, GY⟩
  · have AT := Lib.hid (mat_no h hno)
    have NO := Lib.hid hno
    by_cases hbig : 1048576 < bs.length
    · have E := Lib.hid (show setL s nm bs su = (s, 3) from by unfold setL; rw [if_pos (.inl hbig)])
      rw [E.out]
      rw [← hbl] at hc hbig ⊢
      have hb1 : (1048576 : Int) < (bl : Int) := by omega
      clear h hb hby hsu hl hk hs hlen hnl hbl hno GN SRT E hbig
      go_enter Tryz.func50, Tryz.ntmps50
      go_wp2_with fail
      refine AT.out.mono ?_
      rintro e w1 ⟨rfl, rfl⟩
      go_wp2
      go_ret
      exact ⟨rfl, H.out.to⟩
    have hb1 : ¬ (1048576 : Int) < (bl : Int) := by omega
    by_cases hfull : 16 ≤ nl
    · have E := Lib.hid (show setL s nm bs su = (s, 3) from by unfold setL; rw [if_pos (.inr ⟨GN, by omega⟩)])
      rw [E.out]
      rw [← hbl] at hc ⊢
      have hb2 : (16 : Int) ≤ (nl : Int) := by omega
      clear h hb hby hsu hl hk hs hlen hnl hbl hno GN SRT E hbig hfull
      go_enter Tryz.func50, Tryz.ntmps50
      go_wp2_with fail
      refine AT.out.mono ?_
      rintro e w1 ⟨rfl, rfl⟩
      go_wp2
      go_ret
      exact ⟨rfl, H.out.to⟩
    have hb2 : ¬ (16 : Int) ≤ (nl : Int) := by omega
    have hcond : ¬ (1048576 < bs.length ∨ (getM s.fs nm = none ∧ 16 ≤ s.fs.length)) := by rintro (h | ⟨-, h⟩) <;> omega
    by_cases hfu : s.fuse = 0
    · have E := Lib.hid (show setL s nm bs su = ({ s with dead := true }, 17) from by unfold setL; rw [if_neg hcond, if_pos hfu])
      have E1 := Lib.hid (show (burnM s).1 = { s with dead := true } from by unfold burnM; rw [if_pos hfu])
      rw [E.out]
      rw [E1.out, show decide (s.fuse ≠ 0) = false from by rw [hfu]; rfl] at BU
      rw [← hbl] at hc ⊢
      clear h hb hby hsu hl hk hs hlen hnl hbl hno GN SRT E hbig hfull hcond hfu E1
      go_enter Tryz.func50, Tryz.ntmps50
      go_wp2_with fail
      refine AT.out.mono ?_
      rintro e w1 ⟨rfl, rfl⟩
      go_wp2_with fail
      refine BU.out.mono ?_
      rintro e w1 ⟨rfl, h1, k1⟩
      have T1 := Lib.hid (show RMTo w F m _ w1 from ⟨⟨F, h1, fun _ hk => .inl hk⟩, k1.mono (by simpa using MF.out)⟩)
      clear h1 k1
      go_wp2
      go_ret
      exact ⟨rfl, T1.out⟩
    have E := Lib.hid (show setL s nm bs su = ({ (burnM s).1 with fs := insL s.fs nm (bs, su) }, 0) from by unfold setL; rw [if_neg hcond, if_neg hfu])
    rw [E.out]
    rw [show decide (s.fuse ≠ 0) = true from decide_eq_true hfu] at BU
    have HBI := Lib.hid hbig
    have NLL := Lib.hid hlen
    have HFL := Lib.hid hfull
    rw [← hbl] at hc ⊢
    clear h hb hby hk hs hlen hnl hbl hno GN SRT E hbig hcond hfu hfull
    go_enter Tryz.func50, Tryz.ntmps50
    go_wp2_with fail
    refine AT.out.mono ?_
    rintro e w1 ⟨rfl, rfl⟩
    go_wp2_with fail
    refine BU.out.mono ?_
    rintro e w2 ⟨rfl, h2, k2⟩
    have H2 := Lib.hid h2
    have K2 := Lib.hid k2
    have HB2 := Lib.hid (show Bs w2 (.slice A bl c) bs from by rw [BL.out]; exact k2.rd HB.out HV.out)
    clear h2 k2
    go_upto_region 7 with (at_builtin; refine wpList_bf_bytes rfl _ _ 22 rfl Tryz.underlying22 rfl (Bf.start_ w2) HB2.out rfl (by have := HBI.out; simp; omega) ?_; intro v3 w3 hB3; obtain ⟨A3, n3, c3, rfl⟩ := hB3.own.sl; have HB3 := Lib.hid hB3; clear hB3)
    have hB3 := HB3.out
    rw [List.nil_append] at hB3
    obtain ⟨t, ht⟩ : ∃ t, t = w3.heap.size := ⟨_, rfl⟩
    have kt := Blk.new w3 105 #[.string nm, .slice A3 n3 c3, .int .i64 (su : Nat)]
    have b4 : Below w2.heap.size w2 (w3.alloc (.cells #[.string nm, .slice A3 n3 c3, .int .i64 (su : Nat)] 105)) := hB3.bel.trans ((below_alloc_ w3 _).mono hB3.le)
    have o4 := hB3.own.below (below_alloc_ w3 (.cells #[.string nm, .slice A3 n3 c3, .int .i64 (su : Nat)] 105))
    rw [← ht] at kt ⊢
    obtain ⟨w4, hw4⟩ : ∃ w4, w4 = w3.alloc (.cells #[.string nm, .slice A3 n3 c3, .int .i64 (su : Nat)] 105) := ⟨_, rfl⟩
    rw [← hw4] at kt b4 o4 ⊢
    obtain ⟨AL2, cl2, rs2, hk2, hcl2, ho2, hr2, hs2, hF2, h162⟩ := H2.out.rows
    have hl2 : rs2.length = nl := by
      have h1 := congrArg List.length hs2
      rw [burnM_fs, List.length_map] at h1
      have := NLL.out
      omega
    have RS := Lib.hid (And.intro hr2 (And.intro hs2 (And.intro hF2 hl2)))
    have KT := Lib.hid kt
    have B4 := Lib.hid b4
    have O4 := Lib.hid o4
    have KM := Lib.hid (hk2.below b4 hk2.lt)
    have OL := Lib.hid (ho2.below b4)
    have SRT2 : Srtd s.fs := by have := H2.out.sorted; rw [burnM_fs] at this; exact this
    have hfs2 : s.fs = rs2.map Rl.pf := by rw [← hs2, burnM_fs]
    obtain ⟨K, hK1, hK2, hK3⟩ := cut_at (fun r => ltB r.nm nm) rs2
    rw [hl2] at hK1
    have KK := Lib.hid (And.intro hK2 hK3)
    have SRTF := Lib.hid (And.intro SRT2 hfs2)
    have d0 := KM.out.cell 0
    have d1 := KM.out.free 0
    have g0 := kt.cell 0
    have g1 := kt.cell 1
    have g2 := kt.cell 2
    simp only [rmC, List.getElem?_toArray, List.getElem?_cons_zero, List.getElem?_cons_succ] at d0 g0 g1 g2
    rw [hl2] at d0 hcl2
    clear hB3 HB3 kt b4 o4 hw4 hk2 ho2 hr2 hs2 hF2 h162 hl2 SRT2 hfs2 hK2 hK3 ht
    go_wp2_with fail
    go_loopg [11] nl (fun g c11 wr => ∃ i : Nat, i ≤ K ∧ g = nl - i ∧ c11 = .int .i64 i ∧ wr = w4)
    case atStart => exact ⟨0, by omega, by omega, rfl, rfl⟩
    case round =>
      obtain ⟨i, hiK, hg, rfl, rfl⟩ := hrel
      have G := Lib.hid hg
      clear hg
      by_cases hlt : i < K
      · obtain ⟨g, hA, -, e0, -, -⟩ := row_at OL.out i (by have := RS.out.2.2.2; omega)
        subst hA
        have hlb := less_list (rs2[i]'(by have := RS.out.2.2.2; omega)).nm nm
        rw [KK.out.1 i (by have := RS.out.2.2.2; omega) hlt] at hlb
        obtain ⟨x, hx⟩ : ∃ x, x = (rs2[i]'(by have := RS.out.2.2.2; omega)).nm := ⟨_, rfl⟩
        rw [← hx] at e0 hlb
        have hi1 : (i : Int) < (nl : Int) := by omega
        have hw : IntKind.i64.wrap ((i : Int) + 1) = (i : Int) + 1 := IntWalk.i64_in _ (by omega)
        clear hx
        go_wp2
        go_roundg (nl - (i + 1))
        case measure => have := G.out; omega
        case rel => exact ⟨i + 1, by omega, by omega, by go_num, rfl⟩
      · obtain rfl : i = K := by omega
        by_cases hin : i < nl
        · obtain ⟨g, hA, -, e0, -, -⟩ := row_at OL.out i (by have := RS.out.2.2.2; omega)
          subst hA
          have hlb := less_list (rs2[i]'(by have := RS.out.2.2.2; omega)).nm nm
          rw [KK.out.2 (by have := RS.out.2.2.2; omega)] at hlb
          obtain ⟨x, hx⟩ : ∃ x, x = (rs2[i]'(by have := RS.out.2.2.2; omega)).nm := ⟨_, rfl⟩
          rw [← hx] at e0 hlb
          have hi1 : (i : Int) < (nl : Int) := by omega
          have hi2 : (i : Int) ≤ (cl2 : Int) := by omega
          have hi0 : (0 : Int) ≤ (i : Int) := by omega
          clear hx
          have ONE := Lib.hid (rlC_one rs2 fun r hr => by
            obtain ⟨A, c, hv, -⟩ := (RS.out.1 r hr).own.clip
            exact ⟨A, _, c, hv⟩)
          have TK := Lib.hid (OL.out.rd)
          have NL2 := Lib.hid (show nl ≤ 16 from h16)
          have NLR := Lib.hid RS.out.2.2.2
          have hic : (i : Int) ≤ (cl2 : Int) := by omega
          have hi00 : (0 : Int) ≤ (i : Int) := by omega
          have hinl : (i : Int) ≤ (nl : Int) := by omega
          have hnc : (nl : Int) ≤ (cl2 : Int) := by omega
          have i5 : ((nl : Int) - (i : Int)).toNat = nl - i := by omega
          have i6 : ((cl2 : Int) - (i : Int)).toNat = cl2 - i := by omega
          have TK1 := Lib.hid (show Rd wr 3 (.slice (some ⟨g, 0, none⟩) i cl2) i ((rs2.flatMap rlC).take (i * 3)) from by
            have := TK.out
            rw [NLR.out] at this
            exact this.front_ i cl2 (by omega) (by omega))
          go_upto_region 15 with (at_builtin; refine wpList_ow_rows rfl _ _ 52 105 (.agg #[.string ⟨#[]⟩, .slice none 0 0, .int .i64 0]) 3 48 rfl Tryz.underlying52 rf3_info rfl (by decide) rfl (B := wr.heap.size) (n := 0) (xs := []) (.inl ⟨rfl, rfl, rfl⟩) (Nat.le_refl _) TK1.out (fun u hu => ONE.out u (List.mem_of_mem_take hu)) rfl (by have := NL2.out; omega) (by unfold maxLen; have := NL2.out; omega) ?_; intro v5 w5 h5 hg5; rw [Nat.zero_add, List.nil_append] at h5; have O5 := Lib.hid h5; have G5 := Lib.hid hg5; clear h5 hg5)
          have b5 := below_of_grown_ G5.out.1
          obtain ⟨A5, c5, rfl⟩ := O5.out.sl_
          have t0 := (b5.cell (p := ⟨t, 0, none⟩) KT.out.lt).trans g0
          have t1 := (b5.cell (p := ⟨t, 1, none⟩) KT.out.lt).trans g1
          have t2 := (b5.cell (p := ⟨t, 2, none⟩) KT.out.lt).trans g2
          have B5 := Lib.hid b5
          clear b5
          go_upto_region 16 with (at_builtin; refine wpList_ow rfl _ _ 52 105 (.agg #[.string ⟨#[]⟩, .slice none 0 0, .int .i64 0]) 3 48 rfl Tryz.underlying52 rf3_info rfl (by decide) rfl #[.string nm, .slice A3 n3 c3, .int .i64 (su : Nat)] O5.out B5.out.size rfl (by simp [Value.oneCell']) rfl (by have := NL2.out; omega) (by unfold maxLen; have := NL2.out; omega) ?_; intro v6 w6 h6 hg6; have O6 := Lib.hid h6; have G6 := Lib.hid hg6; clear h6 hg6)
          have b6 : Below wr.heap.size wr w6 := below_grown_own_ B5.out G6.out.1 O5.out
          obtain ⟨A6, c6, rfl⟩ := O6.out.sl_
          have m0 := (b6.cell (p := ⟨m, 0, none⟩) KM.out.lt).trans d0
          have B6 := Lib.hid b6
          have TKD := Lib.hid (TK.out.below b6)
          clear b6
          have FIN := Lib.hid (show ∀ (v7 : Value) (w7 : World) (ct : Nat), ct = i + 1 + (nl - i) → Ow wr.heap.size w7 105 3 v7 ct (((rs2.flatMap rlC).take (i * 3) ++ #[Value.string nm, .slice A3 n3 c3, .int .i64 (su : Nat)].toList) ++ (rs2.flatMap rlC).drop (i * 3)) → Below wr.heap.size wr w7 → RMTo w2 F m { (burnM s).1 with fs := insL s.fs nm (bs, su) } (w7.setCell ⟨m, 0, none⟩ v7) from fun v7 w7 ct hct ho hb7 => by
            have hlen2 : rs2.length = nl := NLR.out
            have hil : i ≤ rs2.length := by omega
            have hfs : insL s.fs nm (bs, su) = (rs2.take i ++ (⟨nm, .slice A3 n3 c3, bs, su⟩ : Rl) :: rs2.drop i).map Rl.pf := by
              rw [insL_new (fs := s.fs) (nm := nm) (bs, su) i NO.out (by rw [NLL.out]; omega) (fun j hj hji => by
                have := KK.out.1 j (by have := NLL.out; omega) hji
                simp only [SRTF.out.2, List.getElem_map]
                exact this) (fun hj => by
                have := KK.out.2 (by have := NLL.out; omega)
                simp only [SRTF.out.2, List.getElem_map]
                exact this), SRTF.out.2]
              simp [List.map_take, List.map_drop, Rl.pf]
            refine md_insert (K := i) (v := .slice A3 n3 c3) H2.out (B4.out.trans (hb7.mono B4.out.size)) (by
              obtain ⟨_, hL⟩ := H2.out.blk
              have h1 := KM.out
              have h2 := hL.below B4.out hL.lt
              unfold Blk at h1 h2 hL ⊢
              rw [h2] at h1
              rw [hL]; exact h1) RS.out.1 RS.out.2.2.1 B4.out.size ct ?_ ?_ (O4.out.below hb7) BY.out hsu (by have := HBI.out; omega) _ hfs (insL_sorted _ SRTF.out.1) ?_
            · rw [flat_take, flat_drop] at ho
              simpa [rlC] using ho
            · simp only [List.length_append, List.length_cons, List.length_take, List.length_drop]
              omega
            · rw [hfs]
              simp only [List.length_map, List.length_append, List.length_cons, List.length_take, List.length_drop]
              have := HFL.out
              omega)
          have UP := Lib.hid (show ∀ W', RMTo w2 F m { (burnM s).1 with fs := insL s.fs nm (bs, su) } W' → RMTo w F m { (burnM s).1 with fs := insL s.fs nm (bs, su) } W' from fun W' hT => ⟨hT.ex.elim fun F' hF' => ⟨F', hF'.1, fun j hj => (hF'.2 j hj).imp id fun h => Nat.le_trans K2.out.size h⟩, (K2.out.mono (by simpa using MF.out)).trans hT.kp fun _ hi => .inl hi⟩)
          rcases OL.out with ⟨hA, h0, -⟩ | ⟨g9, c9, cur9, hA, -, -, -⟩
          · injection hA with hA1 _ _
            cases hA1
          · obtain rfl : g = g9 := by injection hA with hA1 _ _; injection hA1 with hA1; injection hA1
            by_cases hce : cl2 = i
            · omega
            · have hce2 : ¬ i = cl2 := fun e => hce e.symm
              have YD := Lib.hid (show Rd w6 3 (.slice (some ⟨g, i * 3, none⟩) (nl - i) (cl2 - i)) (nl - i) ((rs2.flatMap rlC).drop (i * 3)) from by
                have := TKD.out
                rw [NLR.out] at this
                have h9 := this.back_ i (cl2 - i) (by omega) (by omega)
                rwa [Nat.zero_add] at h9)
              go_wp2_with (at_builtin; refine wpList_ow_rows rfl _ _ 52 105 (.agg #[.string ⟨#[]⟩, .slice none 0 0, .int .i64 0]) 3 48 rfl Tryz.underlying52 rf3_info rfl (by decide) rfl O6.out B6.out.size YD.out (fun u hu => ONE.out u (List.mem_of_mem_drop hu)) rfl (by have := NL2.out; omega) (by unfold maxLen; have := NL2.out; omega) ?_; intro v7 w7 h7 hg7; obtain ⟨A7, c7, rfl⟩ := h7.sl_; have O7 := Lib.hid h7; have B7 := Lib.hid (below_grown_own_ B6.out hg7.1 O6.out); clear h7 hg7; have mm := (B7.out.cell (p := ⟨m, 0, none⟩) KM.out.lt).trans d0; have mf := (KM.out.below B7.out KM.out.lt).free 0)
              go_ret
              exact ⟨rfl, UP.out _ (FIN.out _ _ _ (by omega) O7.out B7.out)⟩
        · obtain rfl : i = nl := by omega
          have hi1 : ¬ (i : Int) < (i : Int) := by omega
          have ONE := Lib.hid (rlC_one rs2 fun r hr => by
            obtain ⟨A, c, hv, -⟩ := (RS.out.1 r hr).own.clip
            exact ⟨A, _, c, hv⟩)
          have TK := Lib.hid (OL.out.rd)
          have NL2 := Lib.hid (show i ≤ 16 from h16)
          have NLR := Lib.hid RS.out.2.2.2
          have hic : (i : Int) ≤ (cl2 : Int) := by omega
          have hi00 : (0 : Int) ≤ (i : Int) := by omega
          have hinl : (i : Int) ≤ (i : Int) := by omega
          have hnc : (i : Int) ≤ (cl2 : Int) := by omega
          have i5 : ((i : Int) - (i : Int)).toNat = i - i := by omega
          have i6 : ((cl2 : Int) - (i : Int)).toNat = cl2 - i := by omega
          have TK1 := Lib.hid (show Rd wr 3 (.slice AL2 i cl2) i ((rs2.flatMap rlC).take (i * 3)) from by
            have := TK.out
            rw [NLR.out] at this
            exact this.front_ i cl2 (by omega) (by omega))
          go_upto_region 15 with (at_builtin; refine wpList_ow_rows rfl _ _ 52 105 (.agg #[.string ⟨#[]⟩, .slice none 0 0, .int .i64 0]) 3 48 rfl Tryz.underlying52 rf3_info rfl (by decide) rfl (B := wr.heap.size) (n := 0) (xs := []) (.inl ⟨rfl, rfl, rfl⟩) (Nat.le_refl _) TK1.out (fun u hu => ONE.out u (List.mem_of_mem_take hu)) rfl (by have := NL2.out; omega) (by unfold maxLen; have := NL2.out; omega) ?_; intro v5 w5 h5 hg5; rw [Nat.zero_add, List.nil_append] at h5; have O5 := Lib.hid h5; have G5 := Lib.hid hg5; clear h5 hg5)
          have b5 := below_of_grown_ G5.out.1
          obtain ⟨A5, c5, rfl⟩ := O5.out.sl_
          have t0 := (b5.cell (p := ⟨t, 0, none⟩) KT.out.lt).trans g0
          have t1 := (b5.cell (p := ⟨t, 1, none⟩) KT.out.lt).trans g1
          have t2 := (b5.cell (p := ⟨t, 2, none⟩) KT.out.lt).trans g2
          have B5 := Lib.hid b5
          clear b5
          go_upto_region 16 with (at_builtin; refine wpList_ow rfl _ _ 52 105 (.agg #[.string ⟨#[]⟩, .slice none 0 0, .int .i64 0]) 3 48 rfl Tryz.underlying52 rf3_info rfl (by decide) rfl #[.string nm, .slice A3 n3 c3, .int .i64 (su : Nat)] O5.out B5.out.size rfl (by simp [Value.oneCell']) rfl (by have := NL2.out; omega) (by unfold maxLen; have := NL2.out; omega) ?_; intro v6 w6 h6 hg6; have O6 := Lib.hid h6; have G6 := Lib.hid hg6; clear h6 hg6)
          have b6 : Below wr.heap.size wr w6 := below_grown_own_ B5.out G6.out.1 O5.out
          obtain ⟨A6, c6, rfl⟩ := O6.out.sl_
          have m0 := (b6.cell (p := ⟨m, 0, none⟩) KM.out.lt).trans d0
          have B6 := Lib.hid b6
          have TKD := Lib.hid (TK.out.below b6)
          clear b6
          have FIN := Lib.hid (show ∀ (v7 : Value) (w7 : World) (ct : Nat), ct = i + 1 + (i - i) → Ow wr.heap.size w7 105 3 v7 ct (((rs2.flatMap rlC).take (i * 3) ++ #[Value.string nm, .slice A3 n3 c3, .int .i64 (su : Nat)].toList) ++ (rs2.flatMap rlC).drop (i * 3)) → Below wr.heap.size wr w7 → RMTo w2 F m { (burnM s).1 with fs := insL s.fs nm (bs, su) } (w7.setCell ⟨m, 0, none⟩ v7) from fun v7 w7 ct hct ho hb7 => by
            have hlen2 : rs2.length = i := NLR.out
            have hil : i ≤ rs2.length := by omega
            have hfs : insL s.fs nm (bs, su) = (rs2.take i ++ (⟨nm, .slice A3 n3 c3, bs, su⟩ : Rl) :: rs2.drop i).map Rl.pf := by
              rw [insL_new (fs := s.fs) (nm := nm) (bs, su) i NO.out (by rw [NLL.out]; omega) (fun j hj hji => by
                have := KK.out.1 j (by have := NLL.out; omega) hji
                simp only [SRTF.out.2, List.getElem_map]
                exact this) (fun hj => by
                have := KK.out.2 (by have := NLL.out; omega)
                simp only [SRTF.out.2, List.getElem_map]
                exact this), SRTF.out.2]
              simp [List.map_take, List.map_drop, Rl.pf]
            refine md_insert (K := i) (v := .slice A3 n3 c3) H2.out (B4.out.trans (hb7.mono B4.out.size)) (by
              obtain ⟨_, hL⟩ := H2.out.blk
              have h1 := KM.out
              have h2 := hL.below B4.out hL.lt
              unfold Blk at h1 h2 hL ⊢
              rw [h2] at h1
              rw [hL]; exact h1) RS.out.1 RS.out.2.2.1 B4.out.size ct ?_ ?_ (O4.out.below hb7) BY.out hsu (by have := HBI.out; omega) _ hfs (insL_sorted _ SRTF.out.1) ?_
            · rw [flat_take, flat_drop] at ho
              simpa [rlC] using ho
            · simp only [List.length_append, List.length_cons, List.length_take, List.length_drop]
              omega
            · rw [hfs]
              simp only [List.length_map, List.length_append, List.length_cons, List.length_take, List.length_drop]
              have := HFL.out
              omega)
          have UP := Lib.hid (show ∀ W', RMTo w2 F m { (burnM s).1 with fs := insL s.fs nm (bs, su) } W' → RMTo w F m { (burnM s).1 with fs := insL s.fs nm (bs, su) } W' from fun W' hT => ⟨hT.ex.elim fun F' hF' => ⟨F', hF'.1, fun j hj => (hF'.2 j hj).imp id fun h => Nat.le_trans K2.out.size h⟩, (K2.out.mono (by simpa using MF.out)).trans hT.kp fun _ hi => .inl hi⟩)
          rcases OL.out with ⟨hA, h0, -⟩ | ⟨g9, c9, cur9, hA, -, -, -⟩
          · injection hA with hA1 hA2 hA3
            subst hA1 hA3
            obtain rfl : i = 0 := by have := NLR.out; omega
            have YD := Lib.hid (show Rd w6 3 (.slice none 0 0) 0 ((rs2.flatMap rlC).drop (0 * 3)) from by
              have e : rs2 = [] := List.eq_nil_of_length_eq_zero NLR.out
              rw [e]
              exact Rd.none_ _ _ _ _)
            go_wp2_with (at_builtin; refine wpList_ow_rows rfl _ _ 52 105 (.agg #[.string ⟨#[]⟩, .slice none 0 0, .int .i64 0]) 3 48 rfl Tryz.underlying52 rf3_info rfl (by decide) rfl O6.out B6.out.size YD.out (fun u hu => ONE.out u (List.mem_of_mem_drop hu)) rfl (by have := NL2.out; omega) (by unfold maxLen; have := NL2.out; omega) ?_; intro v7 w7 h7 hg7; obtain ⟨A7, c7, rfl⟩ := h7.sl_; have O7 := Lib.hid h7; have B7 := Lib.hid (below_grown_own_ B6.out hg7.1 O6.out); clear h7 hg7; have mm := (B7.out.cell (p := ⟨m, 0, none⟩) KM.out.lt).trans d0; have mf := (KM.out.below B7.out KM.out.lt).free 0)
            go_ret
            exact ⟨rfl, UP.out _ (FIN.out _ _ _ (by omega) O7.out B7.out)⟩
          · injection hA with hA1 hA2 hA3
            subst hA1
            clear hA2 hA3
            by_cases hce : cl2 = i
            · subst hce
              have YD := Lib.hid (show Rd w6 3 (.slice (some ⟨g9, 0, none⟩) 0 0) 0 ((rs2.flatMap rlC).drop (cl2 * 3)) from by
                rw [flat_drop, ← NLR.out, List.drop_length]
                exact Rd.none_ _ _ _ _)
              go_wp2_with (at_builtin; refine wpList_ow_rows rfl _ _ 52 105 (.agg #[.string ⟨#[]⟩, .slice none 0 0, .int .i64 0]) 3 48 rfl Tryz.underlying52 rf3_info rfl (by decide) rfl O6.out B6.out.size YD.out (fun u hu => ONE.out u (List.mem_of_mem_drop hu)) rfl (by have := NL2.out; omega) (by unfold maxLen; have := NL2.out; omega) ?_; intro v7 w7 h7 hg7; rw [Nat.add_zero] at h7; obtain ⟨A7, c7, rfl⟩ := h7.sl_; have O7 := Lib.hid h7; have B7 := Lib.hid (below_grown_own_ B6.out hg7.1 O6.out); clear h7 hg7; have mm := (B7.out.cell (p := ⟨m, 0, none⟩) KM.out.lt).trans d0; have mf := (KM.out.below B7.out KM.out.lt).free 0)
              go_ret
              exact ⟨rfl, UP.out _ (FIN.out _ _ _ (by omega) O7.out B7.out)⟩
            · have hce2 : ¬ i = cl2 := fun e => hce e.symm
              have YD := Lib.hid (show Rd w6 3 (.slice (some ⟨g9, i * 3, none⟩) 0 (cl2 - i)) 0 ((rs2.flatMap rlC).drop (i * 3)) from by
                rw [flat_drop, ← NLR.out, List.drop_length]
                exact Rd.none_ _ _ _ _)
              go_wp2_with (at_builtin; refine wpList_ow_rows rfl _ _ 52 105 (.agg #[.string ⟨#[]⟩, .slice none 0 0, .int .i64 0]) 3 48 rfl Tryz.underlying52 rf3_info rfl (by decide) rfl O6.out B6.out.size YD.out (fun u hu => ONE.out u (List.mem_of_mem_drop hu)) rfl (by have := NL2.out; omega) (by unfold maxLen; have := NL2.out; omega) ?_; intro v7 w7 h7 hg7; rw [Nat.add_zero] at h7; obtain ⟨A7, c7, rfl⟩ := h7.sl_; have O7 := Lib.hid h7; have B7 := Lib.hid (below_grown_own_ B6.out hg7.1 O6.out); clear h7 hg7; have mm := (B7.out.cell (p := ⟨m, 0, none⟩) KM.out.lt).trans d0; have mf := (KM.out.below B7.out KM.out.lt).free 0)
              go_ret
              exact ⟨rfl, UP.out _ (FIN.out _ _ _ (by omega) O7.out B7.out)⟩
  · have AT := Lib.hid (mat_yes h hsp hpre)
    obtain ⟨k, hkp⟩ : ∃ k, k = pre.length := ⟨_, rfl⟩
    rw [← hkp] at AT
    have hkn : k < nl := by rw [← hlen, hsp, hkp]; simp
    have hneg : ¬ (k : Int) < 0 := by omega
    have hk0 : (0 : Int) ≤ (k : Int) := by omega
    have hkl : (k : Int) < (nl : Int) := by omega
    by_cases hbig : 1048576 < bs.length
    · have E := Lib.hid (show setL s nm bs su = (s, 3) from by unfold setL; rw [if_pos (.inl hbig)])
      rw [E.out]
      rw [← hbl] at hc hbig ⊢
      have hb1 : (1048576 : Int) < (bl : Int) := by omega
      clear h hb hby hsu hl hk hs hlen hnl hbl hpre GY SRT E hbig hsp hkp
      go_enter Tryz.func50, Tryz.ntmps50
      go_wp2_with fail
      refine AT.out.mono ?_
      rintro e w1 ⟨rfl, rfl⟩
      go_wp2
      go_ret
      exact ⟨rfl, H.out.to⟩
    have hb1 : ¬ (1048576 : Int) < (bl : Int) := by omega
    have hcond : ¬ (1048576 < bs.length ∨ (getM s.fs nm = none ∧ 16 ≤ s.fs.length)) := by rw [GY]; simp; omega
    by_cases hfu : s.fuse = 0
    · have E := Lib.hid (show setL s nm bs su = ({ s with dead := true }, 17) from by unfold setL; rw [if_neg hcond, if_pos hfu])
      have E1 := Lib.hid (show (burnM s).1 = { s with dead := true } from by unfold burnM; rw [if_pos hfu])
      rw [E.out]
      rw [E1.out, show decide (s.fuse ≠ 0) = false from by rw [hfu]; rfl] at BU
      rw [← hbl] at hc ⊢
      clear h hb hby hsu hl hk hs hlen hnl hbl hpre GY SRT E hbig hcond hfu E1 hsp hkp
      go_enter Tryz.func50, Tryz.ntmps50
      go_wp2_with fail
      refine AT.out.mono ?_
      rintro e w1 ⟨rfl, rfl⟩
      go_wp2_with fail
      refine BU.out.mono ?_
      rintro e w1 ⟨rfl, h1, k1⟩
      have T1 := Lib.hid (show RMTo w F m _ w1 from ⟨⟨F, h1, fun _ hk => .inl hk⟩, k1.mono (by simpa using MF.out)⟩)
      clear h1 k1
      go_wp2
      go_ret
      exact ⟨rfl, T1.out⟩
    have E := Lib.hid (show setL s nm bs su = ({ (burnM s).1 with fs := insL s.fs nm (bs, su) }, 0) from by unfold setL; rw [if_neg hcond, if_neg hfu])
    have FS := Lib.hid (show insL s.fs nm (bs, su) = pre ++ (nm, (bs, su)) :: post from by rw [hsp]; rw [hsp] at SRT; exact insL_at _ SRT)
    have SP := Lib.hid (And.intro hsp hkp)
    rw [E.out]
    rw [show decide (s.fuse ≠ 0) = true from decide_eq_true hfu] at BU
    have HBI := Lib.hid hbig
    have NLL := Lib.hid hlen
    rw [← hbl] at hc ⊢
    clear h hb hby hk hs hlen hnl hbl hpre GY SRT E hbig hcond hfu hsp hkp
    go_enter Tryz.func50, Tryz.ntmps50
    go_wp2_with fail
    refine AT.out.mono ?_
    rintro e w1 ⟨rfl, rfl⟩
    go_wp2_with fail
    refine BU.out.mono ?_
    rintro e w2 ⟨rfl, h2, k2⟩
    have H2 := Lib.hid h2
    have K2 := Lib.hid k2
    have HB2 := Lib.hid (show Bs w2 (.slice A bl c) bs from by rw [BL.out]; exact k2.rd HB.out HV.out)
    clear h2 k2
    go_upto_region 7 with (at_builtin; refine wpList_bf_bytes rfl _ _ 22 rfl Tryz.underlying22 rfl (Bf.start_ w2) HB2.out rfl (by have := HBI.out; simp; omega) ?_; intro v3 w3 hB3; obtain ⟨A3, n3, c3, rfl⟩ := hB3.own.sl; have HB3 := Lib.hid hB3; clear hB3)
    have hB3 := HB3.out
    rw [List.nil_append] at hB3
    obtain ⟨t, ht⟩ : ∃ t, t = w3.heap.size := ⟨_, rfl⟩
    have kt := Blk.new w3 105 #[.string nm, .slice A3 n3 c3, .int .i64 (su : Nat)]
    have b4 : Below w2.heap.size w2 (w3.alloc (.cells #[.string nm, .slice A3 n3 c3, .int .i64 (su : Nat)] 105)) := hB3.bel.trans ((below_alloc_ w3 _).mono hB3.le)
    have o4 := hB3.own.below (below_alloc_ w3 (.cells #[.string nm, .slice A3 n3 c3, .int .i64 (su : Nat)] 105))
    rw [← ht] at kt ⊢
    obtain ⟨w4, hw4⟩ : ∃ w4, w4 = w3.alloc (.cells #[.string nm, .slice A3 n3 c3, .int .i64 (su : Nat)] 105) := ⟨_, rfl⟩
    rw [← hw4] at kt b4 o4 ⊢
    obtain ⟨AL2, cl2, rs2, hk2, hcl2, ho2, hr2, hs2, hF2, h162⟩ := H2.out.rows
    have hl2 : rs2.length = nl := by
      have h1 := congrArg List.length hs2
      rw [burnM_fs, List.length_map] at h1
      have := NLL.out
      omega
    obtain ⟨g, hA, ⟨cur, hgc, hgs⟩, e0, e1, e2⟩ := row_at ho2 k (by omega)
    subst hA
    have hk4 := (hk2.below b4 hk2.lt).drew
    have hg4 := (hgc.below b4 hgc.lt).drew
    have kt4 := kt.drew
    have d0 := hk4.cell 0
    obtain ⟨q0, x0⟩ : ∃ q, w4.cell? ⟨g, k * 3, none⟩ = some q := ⟨_, (b4.cell (p := ⟨g, k * 3, none⟩) hgc.lt).trans e0⟩
    obtain ⟨q1, x1⟩ : ∃ q, w4.cell? ⟨g, k * 3 + 1, none⟩ = some q := ⟨_, (b4.cell (p := ⟨g, k * 3 + 1, none⟩) hgc.lt).trans e1⟩
    obtain ⟨q2, x2⟩ : ∃ q, w4.cell? ⟨g, k * 3 + 2, none⟩ = some q := ⟨_, (b4.cell (p := ⟨g, k * 3 + 2, none⟩) hgc.lt).trans e2⟩
    have y0 : w4.drew.cell? ⟨g, k * 3, none⟩ = some q0 := x0
    have y1 : w4.drew.cell? ⟨g, k * 3 + 1, none⟩ = some q1 := x1
    have y2 : w4.drew.cell? ⟨g, k * 3 + 2, none⟩ = some q2 := x2
    have z0 := hg4.free (k * 3)
    have z1 := hg4.free (k * 3 + 1)
    have z2 := hg4.free (k * 3 + 2)
    have zz0 : w4.frozen? ⟨g, k * 3, none⟩ = false := z0
    have zz1 : w4.frozen? ⟨g, k * 3 + 1, none⟩ = false := z1
    have zz2 : w4.frozen? ⟨g, k * 3 + 2, none⟩ = false := z2
    have g0 := kt4.cell 0
    have g1 := kt4.cell 1
    have g2 := kt4.cell 2
    simp only [rmC, List.getElem?_toArray, List.getElem?_cons_zero, List.getElem?_cons_succ] at d0 g0 g1 g2
    rw [hl2] at d0
    have FIN := Lib.hid (show RMTo w2 F m { (burnM s).1 with fs := insL s.fs nm (bs, su) } (((w4.drew.setCell ⟨g, k * 3, none⟩ (.string nm)).setCell ⟨g, k * 3 + 1, none⟩ (.slice A3 n3 c3)).setCell ⟨g, k * 3 + 2, none⟩ (.int .i64 (su : Nat))) from by
      refine md_replace H2.out b4 hk2 ho2 hr2 hs2 hF2 (hgc.below b4 hgc.lt) (by omega) ?_ o4 BY.out hsu (by have := HBI.out; omega) _ ?_
      · have h1 := congrArg (fun l : Pfs => l[k]?) hs2
        simp only [burnM_fs, SP.out.1] at h1
        rw [SP.out.2, List.getElem?_append_right (Nat.le_refl _)] at h1
        simp only [Nat.sub_self, List.getElem?_cons_zero, List.getElem?_map] at h1
        rw [List.getElem?_eq_getElem (by have := SP.out.2; omega)] at h1
        simp only [Option.map_some, Option.some.injEq] at h1
        have h3 := congrArg Prod.fst h1
        simp only [SP.out.2]
        exact h3.symm
      · rw [FS.out, List.map_set, ← hs2, burnM_fs, SP.out.1, SP.out.2, List.set_append_right _ _ (Nat.le_refl _)]
        simp [Rl.pf])
    clear hB3 kt b4 o4 hw4 ht hk2 ho2 hr2 hs2 hF2 hgc hgs e0 e1 e2 hk4 hg4 kt4 hl2 h162 HB3
    go_wp2_with fail
    go_region
    all_goals
      go_wp2
      go_ret
      exact ⟨rfl, ⟨FIN.out.ex.elim fun F' hF' => ⟨F', hF'.1, fun j hj => (hF'.2 j hj).imp id fun h => Nat.le_trans K2.out.size h⟩, (K2.out.mono (by simpa using MF.out)).trans FIN.out.kp fun _ hi => .inl hi⟩⟩
end Go.Proofs.YtoiclicechfmgaaGreatDoor
