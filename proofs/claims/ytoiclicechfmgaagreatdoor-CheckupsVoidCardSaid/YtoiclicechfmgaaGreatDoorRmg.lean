/- The document's disk of any files: Lift. -/
import Derived.Test.YtoiclicechfmgaaGreatDoorRmz
import Derived.Test.YtoiclicechfmgaaGreatDoorSmz
namespace Go.Proofs.YtoiclicechfmgaaGreatDoor
open Go.RowKit

/-- The files, the first i of them lifted. -/
def liftLK (ls : List Int) (i : Nat) (fs : Pfs) : Pfs := fs.mapIdx fun j q => if j < i then (q.1, liftF ls j q.2) else q
def liftL (s : Mst) (ls : List Int) : Mst := ⟨liftLK ls s.fs.length s.fs, -1, false⟩
theorem liftLK_zero (ls : List Int) (fs : Pfs) : liftLK ls 0 fs = fs := by
  refine List.ext_getElem (by simp [liftLK]) fun j h1 h2 => ?_
  simp [liftLK]
theorem liftLK_len (ls : List Int) (i : Nat) (fs : Pfs) : (liftLK ls i fs).length = fs.length := by simp [liftLK]
theorem liftLK_step (ls : List Int) (i : Nat) (fs : Pfs) (hi : i < fs.length) : liftLK ls (i + 1) fs = (liftLK ls i fs).set i (fs[i].1, liftF ls i fs[i].2) := by
  refine List.ext_getElem (by simp [liftLK]) fun j h1 h2 => ?_
  rw [List.getElem_set]
  simp only [liftLK, List.getElem_mapIdx]
  by_cases hj : i = j
  · subst hj
    rw [if_pos rfl, if_pos (by omega)]
  · rw [if_neg hj]
    by_cases hlt : j < i
    · rw [if_pos (by omega), if_pos hlt]
    · rw [if_neg (by omega), if_neg hlt]
theorem liftLK_get (ls : List Int) (i : Nat) (fs : Pfs) (hi : i < fs.length) (hi' : i < (liftLK ls i fs).length) : (liftLK ls i fs)[i] = fs[i] := by
  simp [liftLK]
theorem arr_set_self {α : Type} (a : Array α) (i : Nat) (x : α) (h : a[i]? = some x) : a.setIfInBounds i x = a := by
  refine Array.ext_getElem? fun j => ?_
  rw [Array.getElem?_setIfInBounds]
  split
  · rename_i e
    subst e
    obtain ⟨hi, _⟩ := Array.getElem?_eq_some_iff.1 h
    rw [if_pos hi, h]
  · rfl
/-- What replacing leaves. -/
theorem md_replace2 {w1 w3 WW : World} {m g c k su : Nat} {A2 : Option Addr} {n2 c2 : Nat} {s1 : Mst} {F : List Nat} {rs : List Rl} {bs : List Int} {nm : ByteArray} {cur : Array Value} (h : RMd w1 m s1 F) (hb : Below w1.heap.size w1 w3)
    (hk : Blk w1 m 54 (rmC s1.fuse s1.dead (.slice (some ⟨g, 0, none⟩) rs.length c))) (ho : Ow 0 w1 105 3 (.slice (some ⟨g, 0, none⟩) rs.length c) rs.length (rs.flatMap rlC)) (hr : ∀ r ∈ rs, RlOk w1 r) (hs : s1.fs = rs.map Rl.pf)
    (hF : F = m :: ((Value.slice (some ⟨g, 0, none⟩) rs.length c).ownBlock.toList ++ rs.flatMap Rl.bl)) (hg : Blk w3 g 105 cur) (hkl : k < rs.length) (hn : rs[k].nm = nm) (h2 : Bo w1.heap.size w3 (.slice A2 n2 c2) bs) (hby : ∀ c ∈ bs, byt c) (hsu : su ≤ bs.length) (hl : bs.length ≤ 1048576)
    (kW0 : Kp w3 [g] WW) (hWW : Blk WW g 105 (((cur.setIfInBounds (k * 3) (.string nm)).setIfInBounds (k * 3 + 1) (.slice A2 n2 c2)).setIfInBounds (k * 3 + 2) (.int .i64 (su : Nat)))) (fs' : Pfs) (hfs : fs' = (rs.set k ⟨nm, .slice A2 n2 c2, bs, su⟩).map Rl.pf) :
    RMTo w1 F m { s1 with fs := fs' } WW := by
  have hgF : g ∈ F := by rw [hF]; simp [Value.ownBlock]
  have hgm : g ≠ m := by
    rcases ho with ⟨h, _⟩ | ⟨g', _, _, h, _, hg', _⟩
    · cases h
    · injection h with h _ _
      injection h with h
      injection h with h _
      subst h
      exact hg'.ne_ hk (by decide)
  have kW : Kp w3.drew [g] WW := ⟨kW0.os, kW0.tape, kW0.output, kW0.size, kW0.block⟩
  have kA : Kp w1 [g] WW := (Kp.of_below (hb.drew) [g]).trans kW fun _ hi => .inl hi
  have ho3 := ho.below hb
  refine ⟨⟨m :: ((Value.slice (some ⟨g, 0, none⟩) rs.length c).ownBlock.toList ++ (rs.set k ⟨nm, .slice A2 n2 c2, bs, su⟩).flatMap Rl.bl), ⟨h.lo, h.hi, ⟨.slice (some ⟨g, 0, none⟩) rs.length c, rs.set k ⟨nm, .slice A2 n2 c2, bs, su⟩, ?_, ?_, ?_, hfs, rfl⟩, ?_, ?_⟩, ?_⟩, kA.mono (by simpa using hgF)⟩
  · exact kA.blk hk (by simpa using hgm.symm)
  · rw [List.length_set]
    rcases ho3 with ⟨h, _⟩ | ⟨g', c', cur', hv, hB, hg', hc, hlx, hsz, ht⟩
    · cases h
    · injection hv with h1 _ h3
      injection h1 with h1
      injection h1 with h1 _
      subst h1 h3
      have hcc : cur' = cur := by
        unfold Blk at hg hg'
        rw [hg'] at hg
        injection hg with hg
        injection hg
      subst hcc
      refine .inr ⟨g, c, _, rfl, hB, hWW, hc, ?_, by simpa using hsz, ?_⟩
      · rw [flatMap_len rlC 3 rlC_len]; simp
      · rw [← flat_set rs k hkl ⟨nm, .slice A2 n2 c2, bs, su⟩, ← ht]
        simp only [Array.toList_setIfInBounds, List.take_set]
  · intro r hr'
    rcases List.mem_or_eq_of_mem_set hr' with h1 | h1
    · exact (hr r h1).kp kA fun i hi => by
        have := (hr r h1).ne (g := g) (show Blk w1 g 105 cur from by
          rcases ho with ⟨h, _⟩ | ⟨g', _, cur', h, _, hg', _⟩
          · cases h
          · injection h with h _ _
            injection h with h
            injection h with h _
            subst h
            have h3 := hg'.below hb hg'.lt
            unfold Blk at hg h3 hg' ⊢
            rw [h3] at hg
            injection hg with hg
            injection hg with hg _
            rw [← hg]; exact hg') (by decide) i hi
        simpa using this
    · subst h1
      exact ⟨(kW.ow (show Ow w1.heap.size w3.drew 5 1 (.slice A2 n2 c2) bs.length (bc bs) from h2) (fun j hj => by
        rcases h2 with ⟨h, _⟩ | ⟨g', _, _, h, hB', hg', _⟩
        · rw [h] at hj; simp [Value.ownBlock] at hj
        · rw [h] at hj
          simp [Value.ownBlock] at hj
          subst hj
          simpa using hg'.ne_ hg (by decide))).le (Nat.zero_le _), hby, hsu, hl⟩
  · have := h.most
    simp only [hfs, List.length_map, List.length_set]
    rw [hs, List.length_map] at this
    exact this
  · have := h.sorted
    simp only
    rw [hfs, List.map_set, List.map_set]
    rw [hs] at this
    have e : (((rs.map Rl.pf).map (·.1)).set k nm) = (rs.map Rl.pf).map (·.1) := by
      refine List.ext_getElem (by simp) fun i h1 h2 => ?_
      rw [List.getElem_set]
      split
      · rename_i e; subst e; simp [Rl.pf, hn]
      · rfl
    rw [show (Rl.pf ⟨nm, .slice A2 n2 c2, bs, su⟩).1 = nm from rfl, e]
    exact this
  · intro i hi
    rw [hF]
    simp only [List.mem_cons, List.mem_append] at hi ⊢
    rcases hi with h1 | h1 | h1
    · exact .inl (.inl h1)
    · exact .inl (.inr (.inl h1))
    · obtain ⟨r, hr', h4⟩ := List.mem_flatMap.1 h1
      rcases List.mem_or_eq_of_mem_set hr' with h5 | h5
      · exact .inl (.inr (.inr (List.mem_flatMap.2 ⟨r, h5, h4⟩)))
      · subst h5
        exact .inr (h2.blk_lt i (by simpa [Rl.bl] using h4))


set_option maxHeartbeats 8000000 in
set_option maxRecDepth 100000 in
theorem mlift_ref (m : Nat) (s : Mst) (F : List Nat) (lv : Value) (ls : List Int) (w : World) (h : RMd w m s F) (hlv : Rd w 1 lv ls.length (losC ls)) (hls : ∀ x ∈ ls, -9223372036854775808 ≤ x ∧ x ≤ 9223372036854775807) (hlv2 : ls.length = 0 ∨ ∀ k, lv.ownBlock = some k → k ∉ F) :
    Calls Tryz.prog 19 #[.pointer (some ⟨m, 0, none⟩), lv] w fun e w' => e = .returned (.tuple #[]) ∧ RMTo w F m (liftL s ls) w' := by
  have H := Lib.hid h
  have HLS := Lib.hid hls
  have HLV := Lib.hid hlv
  have HL2 := Lib.hid hlv2
  have MF := Lib.hid h.mem
  obtain ⟨AL, cl, rfl, hlc, -, hlh⟩ := id hlv
  obtain ⟨ll, hll⟩ : ∃ ll, ll = ls.length := ⟨_, rfl⟩
  have LL := Lib.hid hll
  obtain ⟨n, hn⟩ : ∃ n, n = s.fs.length := ⟨_, rfl⟩
  have NN := Lib.hid hn
  have N16 := Lib.hid (show n ≤ 16 from by have := h.most; omega)
  rw [← hll] at HLV HL2 ⊢
  clear h hlv hls hlv2 hll hlh hn
  go_enter Tryz.func19, Tryz.ntmps19
  go_wp2
  go_loopg [4, 5, 6] n (fun g c4 c5 c6 wr => ∃ i : Nat, i ≤ n ∧ g = n - i ∧ c4 = .int .i64 i ∧ RMTo w F m ⟨liftLK ls i s.fs, s.fuse, s.dead⟩ wr)
  case atStart => exact ⟨0, by omega, by omega, rfl, by rw [liftLK_zero]; exact H.out.to⟩
  case round =>
    obtain ⟨i, hi, hg, rfl, hT⟩ := hrel
    have GG := Lib.hid hg
    have TT := Lib.hid hT
    obtain ⟨⟨F', hm, hF'⟩, hk⟩ := hT
    obtain ⟨AR, cR, rs, hkm, hcR, ho, hr, hs, hFe, h16⟩ := hm.rows
    simp only at hkm hs
    have hlen : rs.length = n := by
      have := congrArg List.length hs
      rw [liftLK_len, List.length_map] at this
      have := NN.out
      omega
    rw [hlen] at hkm hcR ho
    have HM := Lib.hid hm
    have HKM := Lib.hid hkm
    have c0 := hkm.cell 0
    have f1 := hkm.free 1
    have f2 := hkm.free 2
    have f3 := hkm.free 3
    have d1 := hkm.cell 1
    have d2 := hkm.cell 2
    have d3 := hkm.cell 3
    simp only [rmC, List.getElem?_toArray, List.getElem?_cons_zero, List.getElem?_cons_succ] at c0 d1 d2 d3
    by_cases hin : i < n
    · have hir : i < rs.length := by omega
      obtain ⟨g, rfl, ⟨cur, hgc, hgs⟩, e0, e1, e2⟩ := row_at (rs := rs) (c := cR) (A := AR) (by rw [hlen]; exact ho) i hir
      obtain ⟨r, hr0⟩ : ∃ r, r = rs[i] := ⟨_, rfl⟩
      rw [← hr0] at e0 e1 e2
      have hok := hr _ (List.getElem_mem hir)
      rw [← hr0] at hok
      have hin' : i < s.fs.length := by have := NN.out; omega
      have hrow : r.pf = s.fs[i] := by
        have h1 : (liftLK ls i s.fs)[i]'(by rw [liftLK_len]; exact hin') = (rs.map Rl.pf)[i]'(by simpa using hir) := by simp only [hs]
        rw [liftLK_get ls i s.fs hin', List.getElem_map] at h1
        rw [h1, hr0]
      obtain ⟨rn, rv, rx, rsu⟩ := r
      simp only at e0 e1 e2 hok
      obtain ⟨A, cc, hv, hcc, -⟩ := hok.own.clip
      simp only at hv hcc
      subst hv
      have hbo := hok.own
      have hsule := hok.su
      have hxl := hok.len
      have hbyx := hok.by_
      simp only at hbo hsule hxl hbyx
      obtain ⟨x, hx⟩ : ∃ x, x = ls.getD i 0 := ⟨_, rfl⟩
      obtain ⟨nl, hnl⟩ : ∃ nl, nl = rx.length := ⟨_, rfl⟩
      obtain ⟨N, hN⟩ : ∃ N, N = rsu + min (max 0 x).toNat (nl - rsu) := ⟨_, rfl⟩
      have LT := Lib.hid (show (rx.take N).length = N ∧ N ≤ 1048576 from by simp; omega)
      have BT2 := Lib.hid (show Bs wr.drew (.slice A N cc) (rx.take N) from hbo.bs.takes N cc (by omega) (by omega))
      have CC := Lib.hid (show ∀ u, Below wr.heap.size wr u → u.cell? ⟨m, 0, none⟩ = some (.slice (some ⟨g, 0, none⟩) n cR) ∧ u.cell? ⟨g, i * 3 + 1, none⟩ = some (.slice A rx.length cc) ∧ u.cell? ⟨g, i * 3 + 2, none⟩ = some (.int .i64 (rsu : Nat)) ∧ u.frozen? ⟨g, i * 3 + 1, none⟩ = false ∧ u.frozen? ⟨g, i * 3 + 2, none⟩ = false from fun u hu =>
        ⟨(hu.cell (p := ⟨m, 0, none⟩) hkm.lt).trans (by rw [hkm.cell]; rfl), (hu.cell (p := ⟨g, i * 3 + 1, none⟩) hgc.lt).trans e1, (hu.cell (p := ⟨g, i * 3 + 2, none⟩) hgc.lt).trans e2, (hgc.below hu hgc.lt).free _, (hgc.below hu hgc.lt).free _⟩)
      have XC := Lib.hid (show i < ll → ∃ g o, AL = some ⟨g, o, none⟩ ∧ wr.cell? ⟨g, o + i, none⟩ = some (.int .i64 x) from fun hil => by
        have hrl := hk.rd HLV.out HL2.out
        obtain ⟨A', c', hv, -, -, h0 | ⟨g, o, rfl, -, hcl⟩⟩ := hrl
        · omega
        · injection hv with h1 _ _
          refine ⟨g, o, h1, hcl i _ ?_⟩
          have := LL.out
          rw [hx, List.getD_eq_getElem?_getD, List.getElem?_eq_getElem (show i < ls.length by omega)]
          simp [losC, show i < ls.length by omega])
      have XN : ¬ i < ll → x = 0 := fun hil => by
        have := LL.out
        rw [hx, List.getD_eq_getElem?_getD, List.getElem?_eq_none (show ls.length ≤ i by omega)]
        rfl
      have hgm : g ≠ m := hgc.ne_ hkm (by decide)
      have hgm2 : ¬ m = g := fun e => hgm e.symm
      have END := Lib.hid (show ∀ (w2 : World) (A2 : Option Addr) (n2 c2 : Nat), Below wr.heap.size wr w2 → Bo wr.drew.heap.size w2 (.slice A2 n2 c2) (rx.take N) → ∃ i' : Nat, i' ≤ n ∧ n - (i + 1) = n - i' ∧ Value.int .i64 ((i : Int) + 1) = .int .i64 i' ∧
          RMTo w F m ⟨liftLK ls i' s.fs, s.fuse, s.dead⟩ ((w2.setCell ⟨g, i * 3 + 1, none⟩ (.slice A2 n2 c2)).setCell ⟨g, i * 3 + 2, none⟩ (.int .i64 (N : Nat))) from fun w2 A2 n2 c2 hb2 ho2 => by
        have hg2 := hgc.below hb2 hgc.lt
        have hfs : liftLK ls (i + 1) s.fs = (rs.set i ⟨rn, .slice A2 n2 c2, rx.take N, N⟩).map Rl.pf := by
          rw [liftLK_step ls i s.fs hin', List.map_set, ← hs, ← hrow]
          congr 1
          show (rn, liftF ls i (rx, rsu)) = (rn, (rx.take N, N))
          unfold liftF
          simp only
          rw [← hx, ← hnl, ← hN]
        have t := md_replace2 (k := i) (su := N) (A2 := A2) (n2 := n2) (c2 := c2) (nm := rn) (c := cR) (WW := (w2.setCell ⟨g, i * 3 + 1, none⟩ (.slice A2 n2 c2)).setCell ⟨g, i * 3 + 2, none⟩ (.int .i64 (N : Nat))) hm hb2 (by rw [hlen]; exact hkm) (by rw [hlen]; exact ho) hr hs hFe hg2 hir (by rw [← hr0]) ho2 (fun z hz => hbyx z (List.mem_of_mem_take hz)) (by have := LT.out; omega) (by have := LT.out; omega)
          (((Kp.refl _ _).setCell (.inl (by simp)) _).setCell (.inl (by simp)) _) (by
            rw [arr_set_self cur (i * 3) (.string rn) (by rw [← hgc.cell]; exact e0)]
            exact (hg2.set_ (i * 3 + 1) (.slice A2 n2 c2)).set_ (i * 3 + 2) (.int .i64 (N : Nat))) (liftLK ls (i + 1) s.fs) hfs
        refine ⟨i + 1, by omega, rfl, by simp, ?_⟩
        obtain ⟨⟨F'', h1, h2⟩, h3⟩ := t
        exact ⟨⟨F'', h1, fun j hj => by
          rcases h2 j hj with h | h
          · exact hF' j h
          · exact .inr (Nat.le_trans hk.size h)⟩, hk.trans h3 hF'⟩)
      rw [← hnl] at e1 hcc
      have hNn : N ≤ nl := by omega
      have hcc' : nl ≤ cc := hcc
      have nc1 : (N : Int) ≤ (cc : Int) := by omega
      have nc0 : (0 : Int) ≤ (N : Int) := by omega
      have ws1 : IntKind.i64.wrap ((nl : Int) - (rsu : Int)) = ((nl - rsu : Nat) : Int) := (IntWalk.i64_in _ (by omega)).trans (by omega)
      have hw1 : IntKind.i64.wrap ((i : Int) + 1) = (i : Int) + 1 := IntWalk.i64_in _ (by have := N16.out; omega)
      have hi0 : (0 : Int) ≤ (i : Int) := by omega
      have hi1 : (i : Int) < (n : Int) := by omega
      obtain ⟨y0, y1, y2, -, -⟩ := CC.out _ ((Below.refl _ wr).drew)
      rw [← hnl] at CC y1
      have hxl2 : nl ≤ 1048576 := by omega
      by_cases hil : i < ll
      · obtain ⟨gL, oL, rfl, hcL⟩ := XC.out hil
        have hil' : (i : Int) < (ll : Int) := by omega
        by_cases hx0 : x ≤ 0
        · have hx0' : ¬ 0 < x := by omega
          have e : (rsu : Int) = (N : Int) := by omega
          rw [e] at e2
          clear hg hk hm hF' hkm ho hr hs hFe h16 hgc hgs hr0 hok hrow hbo hsule hxl hbyx hx hnl hN XN hcc hlen hir hin'
          go_upto_region 9 with fail
          go_region_law (refine step_bf_bytes rfl _ _ 22 rfl Tryz.underlying22 rfl (Bf.start_ wr.drew) BT2.out rfl (by have := LT.out; simp only [List.length_nil]; omega) ?_; intro v2 w2 hB2 hK2; rw [List.nil_append] at hB2; obtain ⟨A2, n2, c2, rfl⟩ := hB2.own.sl; have b2 := (Below.refl _ wr).drew.trans hB2.bel; obtain ⟨x0, x1, x2, z1, z2⟩ := CC.out _ b2; have B2 := Lib.hid hB2; have BB2 := Lib.hid b2; clear hB2 hK2 b2)
          all_goals
            go_wp2
            go_roundg (n - (i + 1))
            case measure => have := GG.out; omega
            case rel => exact END.out _ _ _ _ BB2.out B2.out.own
        · have hx0' : 0 < x := by omega
          by_cases hxl3 : x < ((nl - rsu : Nat) : Int)
          · have ws2 : IntKind.i64.wrap ((rsu : Int) + x) = (N : Int) := (IntWalk.i64_in _ (by omega)).trans (by omega)
            clear hg hk hm hF' hkm ho hr hs hFe h16 hgc hgs hr0 hok hrow hbo hsule hxl hbyx hx hnl hN XN hcc hlen hir hin'
            go_upto_region 9 with fail
            go_region_law (refine step_bf_bytes rfl _ _ 22 rfl Tryz.underlying22 rfl (Bf.start_ wr.drew) BT2.out rfl (by have := LT.out; simp only [List.length_nil]; omega) ?_; intro v2 w2 hB2 hK2; rw [List.nil_append] at hB2; obtain ⟨A2, n2, c2, rfl⟩ := hB2.own.sl; have b2 := (Below.refl _ wr).drew.trans hB2.bel; obtain ⟨x0, x1, x2, z1, z2⟩ := CC.out _ b2; have B2 := Lib.hid hB2; have BB2 := Lib.hid b2; clear hB2 hK2 b2)
            all_goals
              go_wp2
              go_roundg (n - (i + 1))
              case measure => have := GG.out; omega
              case rel => exact END.out _ _ _ _ BB2.out B2.out.own
          · have ws2 : IntKind.i64.wrap ((rsu : Int) + ((nl - rsu : Nat) : Int)) = (N : Int) := (IntWalk.i64_in _ (by omega)).trans (by omega)
            clear hg hk hm hF' hkm ho hr hs hFe h16 hgc hgs hr0 hok hrow hbo hsule hxl hbyx hx hnl hN XN hcc hlen hir hin'
            go_upto_region 9 with fail
            go_region_law (refine step_bf_bytes rfl _ _ 22 rfl Tryz.underlying22 rfl (Bf.start_ wr.drew) BT2.out rfl (by have := LT.out; simp only [List.length_nil]; omega) ?_; intro v2 w2 hB2 hK2; rw [List.nil_append] at hB2; obtain ⟨A2, n2, c2, rfl⟩ := hB2.own.sl; have b2 := (Below.refl _ wr).drew.trans hB2.bel; obtain ⟨x0, x1, x2, z1, z2⟩ := CC.out _ b2; have B2 := Lib.hid hB2; have BB2 := Lib.hid b2; clear hB2 hK2 b2)
            all_goals
              go_wp2
              go_roundg (n - (i + 1))
              case measure => have := GG.out; omega
              case rel => exact END.out _ _ _ _ BB2.out B2.out.own
      · have hil' : ¬ (i : Int) < (ll : Int) := by omega
        have hx0 := XN hil
        have e : (rsu : Int) = (N : Int) := by omega
        rw [e] at e2
        clear hg hk hm hF' hkm ho hr hs hFe h16 hgc hgs hr0 hok hrow hbo hsule hxl hbyx hx hnl hN XN hcc hlen hir hin'
        go_upto_region 9 with fail
        go_region_law (refine step_bf_bytes rfl _ _ 22 rfl Tryz.underlying22 rfl (Bf.start_ wr.drew) BT2.out rfl (by have := LT.out; simp only [List.length_nil]; omega) ?_; intro v2 w2 hB2 hK2; rw [List.nil_append] at hB2; obtain ⟨A2, n2, c2, rfl⟩ := hB2.own.sl; have b2 := (Below.refl _ wr).drew.trans hB2.bel; obtain ⟨x0, x1, x2, z1, z2⟩ := CC.out _ b2; have B2 := Lib.hid hB2; have BB2 := Lib.hid b2; clear hB2 hK2 b2)
        all_goals
          go_wp2
          go_roundg (n - (i + 1))
          case measure => have := GG.out; omega
          case rel => exact END.out _ _ _ _ BB2.out B2.out.own
    · obtain rfl : i = n := by omega
      have hw1 : ¬ (i : Int) < (i : Int) := by omega
      clear hg hk hm hF' hkm hcR ho hr hs hFe h16 hlen
      go_wp2
      refine bodyPost_end (results_none rfl _ _ _) rfl ?_
      have kk : Kp wr [m] (((wr.setCell ⟨m, 3, none⟩ (.bool false)).setCell ⟨m, 1, none⟩ (.bool false)).setCell ⟨m, 2, none⟩ (.int .i64 0)) := (((Kp.refl _ _).setCell (.inl (by simp)) _).setCell (.inl (by simp)) _).setCell (.inl (by simp)) _
      refine ⟨rfl, RMTo.trans TT.out fun F2 h2 => ⟨⟨F2, h2.turn (s' := liftL s ls) (by unfold liftL; simp only; rw [← NN.out]) (by simp [liftL]) (by simp [liftL]) (fun L hL => ?_) kk, fun _ hk => .inl hk⟩, kk.mono (by simpa using h2.mem)⟩⟩
      have := ((hL.set_ 3 (.bool false)).set_ 1 (.bool false)).set_ 2 (.int .i64 0)
      simpa [rmC, liftL] using this
end Go.Proofs.YtoiclicechfmgaaGreatDoor
