import Derived.Test.YtnegondlkfeleaaDoorRdy
/- The document's disk: set. -/
namespace Go.Proofs.YtnegondlkfeleaaDoor
open Go.RowKit

/-- What a doing with these bytes leaves, and answers. -/
def setR (s : Dst) (bs : List Int) (su : Nat) : Dst × Int :=
  if 1048576 < bs.length then (s, 3) else if s.fuse = 0 then ({ s with dead := true }, 17) else ({ (burnS s).1 with file := some (bs, su) }, 0)
/-- The disk goes over to s'. -/
def RTo (w : World) (F : List Nat) (m : Nat) (nm : ByteArray) (s' : Dst) (w' : World) : Prop := (∃ F', RDk w' m nm s' F' ∧ ∀ k ∈ F', k ∈ F ∨ w.heap.size ≤ k) ∧ Kp w F w'
theorem RDk.mem {w : World} {m : Nat} {nm : ByteArray} {s : Dst} {F : List Nat} (h : RDk w m nm s F) : m ∈ F := by
  rcases h.ex with ⟨_, _, rfl⟩ | ⟨_, _, _, _, _, _, _, _, _, _, _, _, _, _, _, _, _, rfl⟩ <;> simp
theorem RDk.to {w w' : World} {m : Nat} {nm : ByteArray} {s s' : Dst} {F : List Nat} (h : RDk w m nm s F) (h' : RDk w' m nm s' F) (k : Kp w [m] w') : RTo w F m nm s' w' :=
  ⟨⟨F, h', fun _ hk => .inl hk⟩, k.mono (by simp [h.mem])⟩

theorem rf_info : (Tryd.prog.info? 129).map (fun i => (i.zero, i.size, i.bytes)) = some (some (.agg #[.string ⟨#[]⟩, .slice none 0 0, .int .i64 0]), 3, 48) := by kernel_rfl
set_option maxHeartbeats 2000000 in
set_option maxRecDepth 100000 in
theorem rset_any (nm : ByteArray) (m : Nat) (s : Dst) (F : List Nat) (bv : Value) (bs : List Int) (su : Nat) (w : World) (h : RDk w m nm s F) (hb : Bs w bv bs) (hbv : bs.length = 0 ∨ ∀ k, bv.ownBlock = some k → k ∉ [m])
    (hby : ∀ c ∈ bs, byt c) (hsu : su ≤ bs.length) (hl : bs.length ≤ 4611686018427387904) :
    Calls Tryd.prog 59 #[.pointer (some ⟨m, 0, none⟩), .string nm, bv, .int .i64 su] w fun e w' => e = .returned (.int .i64 (setR s bs su).2) ∧ RTo w F m nm (setR s bs su).1 w' := by
  have AT := Lib.hid (rat_any nm m s F w h)
  have BU := Lib.hid (rburn_any nm m s F w h)
  have H := Lib.hid h
  have HB := Lib.hid hb
  have HV := Lib.hid hbv
  have BY := Lib.hid hby
  obtain ⟨A, c, rfl, hc, -⟩ := id hb
  have hL : ∃ L ln cp, Blk w m 68 (rm s (.slice L ln cp)) ∧ (s.file = none → ln = 0) ∧ ln ≤ 1 := by
    rcases h.ex with ⟨_, h, _⟩ | ⟨_, _, _, _, _, _, hf, h, _⟩
    · exact ⟨_, _, _, h, fun _ => rfl, by omega⟩
    · exact ⟨_, _, _, h, (by rw [hf]; exact ⟨fun e => (by cases e), by omega⟩)⟩
  obtain ⟨L, ln, cp, hk, hln, hln1⟩ := hL
  have c0 := hk.cell 0
  simp only [rm, List.getElem?_toArray, List.getElem?_cons_zero] at c0
  clear hk
  obtain ⟨ix, hix⟩ : ∃ ix : Int, (if s.file = none then (-1 : Int) else 0) = ix := ⟨_, rfl⟩
  have hl1 : ln = 0 ∨ ¬ s.file = none := by
    by_cases hf : s.file = none
    · exact .inl (hln hf)
    · exact .inr hf
  have hix2 : (ix = -1 ∧ ln = 0 ∧ s.file = none) ∨ (ix = 0 ∧ ¬ s.file = none) := by
    by_cases hf : s.file = none
    · rw [if_pos hf] at hix; exact .inl ⟨hix.symm, hln hf, hf⟩
    · rw [if_neg hf] at hix; exact .inr ⟨hix.symm, hf⟩
  rw [hix] at AT
  by_cases hbig : 1048576 < bs.length
  · have hb1 : (1048576 : Int) < (bs.length : Int) := by omega
    have E := Lib.hid (show setR s bs su = (s, 3) from by unfold setR; rw [if_pos hbig])
    rw [E.out]
    clear h hb hbv hby hsu hbig hln hix hix2 hl1
    go_enter Tryd.func59, Tryd.ntmps59
    go_wp2_with fail
    refine AT.out.mono ?_
    rintro e w1 ⟨rfl, rfl⟩
    go_wp2
    go_ret
    exact ⟨rfl, H.out.to H.out (Kp.refl _ _)⟩
  have hb1 : ¬ (1048576 : Int) < (bs.length : Int) := by omega
  by_cases hfu : s.fuse = 0
  · have E := Lib.hid (show setR s bs su = ({ s with dead := true }, 17) from by unfold setR; rw [if_neg hbig, if_pos hfu])
    have E1 := Lib.hid (show (burnS s).1 = { s with dead := true } from by unfold burnS; rw [if_pos hfu])
    rw [E.out]
    rw [E1.out, show decide (s.fuse ≠ 0) = false from by rw [hfu]; rfl] at BU
    clear h hb hbv hby hsu hbig E1 hfu hln hix hl1
    rcases hix2 with ⟨rfl, rfl, -⟩ | ⟨rfl, -⟩
    all_goals
      go_enter Tryd.func59, Tryd.ntmps59
      go_wp2_with fail
      refine AT.out.mono ?_
      rintro e w1 ⟨rfl, rfl⟩
      go_wp2_with fail
      refine BU.out.mono ?_
      rintro e w1 ⟨rfl, h1, k1⟩
      have T1 := Lib.hid (RDk.to H.out h1 k1)
      clear h1 k1
      go_wp2
      go_ret
      exact ⟨rfl, T1.out⟩
  have hburn : (burnS s).1.file = s.file := by
    unfold burnS
    split
    · rfl
    · split <;> rfl
  rw [show decide (s.fuse ≠ 0) = true from decide_eq_true hfu] at BU
  have E := Lib.hid (show setR s bs su = ({ (burnS s).1 with file := some (bs, su) }, 0) from by unfold setR; rw [if_neg hbig, if_neg hfu])
  rw [E.out]
  have HBI := Lib.hid hbig
  clear hb hbv hby hfu hix hl1 hbig
  rcases hix2 with ⟨rfl, rfl, hfn⟩ | ⟨rfl, hfn⟩
  · go_enter Tryd.func59, Tryd.ntmps59
    go_wp2_with fail
    refine AT.out.mono ?_
    rintro e w1 ⟨rfl, rfl⟩
    go_wp2_with fail
    refine BU.out.mono ?_
    rintro e w1 ⟨rfl, h1, k1⟩
    have H1 := Lib.hid h1
    have K1 := Lib.hid k1
    have HB1 := Lib.hid (show Bs w1 (.slice A bs.length c) bs from k1.rd HB.out HV.out)
    clear h1 k1
    go_upto_region 7 with (at_builtin; refine wpList_bf_bytes rfl _ _ 25 rfl Tryd.underlying25 rfl (Bf.start_ w1) HB1.out rfl (by have := HBI.out; simp; omega) ?_; intro v2 w2 hB2; obtain ⟨A2, n2, c2, rfl⟩ := hB2.own.sl; have HB2 := Lib.hid hB2; clear hB2)
    have hB2 := HB2.out
    rw [List.nil_append] at hB2
    obtain ⟨t, ht⟩ : ∃ t, t = w2.heap.size := ⟨_, rfl⟩
    have kt := Blk.new w2 129 #[.string nm, .slice A2 n2 c2, .int .i64 (su : Int)]
    have b3 : Below w1.heap.size w1 (w2.alloc (.cells #[.string nm, .slice A2 n2 c2, .int .i64 (su : Int)] 129)) := hB2.bel.trans ((below_alloc_ w2 _).mono hB2.le)
    have o3 := hB2.own.below (below_alloc_ w2 (.cells #[.string nm, .slice A2 n2 c2, .int .i64 (su : Int)] 129))
    rw [← ht] at kt ⊢
    obtain ⟨w3, hw3⟩ : ∃ w3, w3 = w2.alloc (.cells #[.string nm, .slice A2 n2 c2, .int .i64 (su : Int)] 129) := ⟨_, rfl⟩
    rw [← hw3] at kt b3 o3 ⊢
    have S1 := Lib.hid K1.out.size
    rcases H1.out.ex with ⟨hf, hk, hF⟩ | ⟨xs, su0, r, cc, cur, v, hf, -⟩
    rotate_left
    · rw [hburn, hfn] at hf; cases hf
    have hk3 := hk.below b3 hk.lt
    have d0 := hk3.cell 0
    have d1 := hk3.free 0
    have g0 := kt.cell 0
    have g1 := kt.cell 1
    have g2 := kt.cell 2
    simp [rm] at d0 g0 g1 g2
    have KM := Lib.hid hk3
    have KT := Lib.hid kt
    have B3 := Lib.hid b3
    have O3 := Lib.hid o3
    have HF := Lib.hid hF
    clear hB2 kt b3 o3 hw3 ht hk hk3 hf hF hburn hfn h
    go_wp2_with fail
    go_loopg [11] 1 (fun g c11 wr => wr = w3 ∧ c11 = .int .i64 0)
    case atStart => exact ⟨rfl, rfl⟩
    case round =>
      obtain ⟨rfl, rfl⟩ := hrel
      go_upto_region 15 with fail
      go_upto_region 16 with (at_builtin; go_must (refine wpList_ow rfl _ _ 66 129 (.agg #[.string ⟨#[]⟩, .slice none 0 0, .int .i64 0]) 3 48 rfl Tryd.underlying66 rf_info rfl (by decide) rfl #[.string nm, .slice A2 n2 c2, .int .i64 (su : Int)] (B := wr.heap.size) (n := 0) (xs := []) (.inl ⟨rfl, rfl, rfl⟩) (Nat.le_refl _) rfl (by simp [Value.oneCell']) rfl (by omega) (by unfold maxLen; omega) ?_); intro v4 w4 ho4 hg4; have b4 := Lib.hid (below_of_grown_ hg4.1); have O4 := Lib.hid ho4; clear ho4 hg4)
      rcases O4.out with ⟨-, h, -⟩ | ⟨g, c4, cur, rfl, hBg, hg, hc4, hl4, hs4, ht4⟩
      · omega
      have km4 := KM.out.below b4.out KM.out.lt
      have d0 := km4.cell 0
      have d1 := km4.free 0
      simp [rm] at d0
      have hc4' : (1 : Int) ≤ (c4 : Int) := by omega
      have M4 := Lib.hid km4
      have G4 := Lib.hid hg
      have R4 := Lib.hid (And.intro hBg (And.intro hc4 (And.intro hs4 ht4)))
      clear km4 hg hBg hs4 ht4 hl4
      go_wp2
      go_ret
      obtain ⟨hBg, hc5, hs4, ht4⟩ := R4.out
      have hgm : g ≠ m := G4.out.ne_ M4.out (by decide)
      have q : ∀ i, i < 3 → cur[i]? = ([Value.string nm, .slice A2 n2 c2, .int .i64 (su : Int)] : List Value)[i]? := fun i hi => by
        have h := congrArg (fun l : List Value => l[i]?) ht4
        simp only [List.getElem?_take] at h
        rw [if_pos (by omega)] at h
        simpa using h
      have hmF : m ∈ F := by rw [HF.out]; simp
      refine ⟨rfl, ⟨m :: g :: (Value.slice A2 n2 c2).ownBlock.toList, ?_, ?_⟩, ?_⟩
      · refine ⟨H1.out.lo, H1.out.hi, .inr ⟨bs, su, g, c4, cur, .slice A2 n2 c2, rfl, ?_, G4.out.far hgm _, hc5, q 0 (by omega), q 1 (by omega), q 2 (by omega), ?_, BY.out, hsu, by have := HBI.out; omega, rfl⟩⟩
        · have := M4.out.set_ 0 (.slice (some ⟨g, 0, none⟩) 1 c4)
          simpa [rm] using this
        · exact Bo.le ((Ow.below O3.out b4.out).aside M4.out (by decide) 0 _) (Nat.zero_le _)
      · intro k hk
        rw [HF.out]
        simp at hk ⊢
        rcases hk with rfl | rfl | hk
        · exact .inl rfl
        · exact .inr (Nat.le_trans (Nat.le_trans S1.out B3.out.size) hBg)
        · exact .inr (Nat.le_trans S1.out (O3.out.blk_lt k hk))
      · exact (((K1.out.mono (G := F) (by rw [HF.out]; simp)).below B3.out).below b4.out).setCell (.inl hmF) _
  · go_enter Tryd.func59, Tryd.ntmps59
    go_wp2_with fail
    refine AT.out.mono ?_
    rintro e w1 ⟨rfl, rfl⟩
    go_wp2_with fail
    refine BU.out.mono ?_
    rintro e w1 ⟨rfl, h1, k1⟩
    have H1 := Lib.hid h1
    have K1 := Lib.hid k1
    have HB1 := Lib.hid (show Bs w1 (.slice A bs.length c) bs from k1.rd HB.out HV.out)
    clear h1 k1
    go_upto_region 7 with (at_builtin; refine wpList_bf_bytes rfl _ _ 25 rfl Tryd.underlying25 rfl (Bf.start_ w1) HB1.out rfl (by have := HBI.out; simp; omega) ?_; intro v2 w2 hB2; obtain ⟨A2, n2, c2, rfl⟩ := hB2.own.sl; have HB2 := Lib.hid hB2; clear hB2)
    have hB2 := HB2.out
    rw [List.nil_append] at hB2
    obtain ⟨t, ht⟩ : ∃ t, t = w2.heap.size := ⟨_, rfl⟩
    have kt := Blk.new w2 129 #[.string nm, .slice A2 n2 c2, .int .i64 (su : Int)]
    have b3 : Below w1.heap.size w1 (w2.alloc (.cells #[.string nm, .slice A2 n2 c2, .int .i64 (su : Int)] 129)) := hB2.bel.trans ((below_alloc_ w2 _).mono hB2.le)
    have o3 := hB2.own.below (below_alloc_ w2 (.cells #[.string nm, .slice A2 n2 c2, .int .i64 (su : Int)] 129))
    rw [← ht] at kt ⊢
    obtain ⟨w3, hw3⟩ : ∃ w3, w3 = w2.alloc (.cells #[.string nm, .slice A2 n2 c2, .int .i64 (su : Int)] 129) := ⟨_, rfl⟩
    rw [← hw3] at kt b3 o3 ⊢
    have S1 := Lib.hid K1.out.size
    rcases H1.out.ex with ⟨hf, -⟩ | ⟨xs, su0, r, cc, cur, v, hf, hk, hr, hcc, h0, h1, h2, -, -, -, -, hF⟩
    · exact absurd (hburn.symm.trans hf) hfn
    have hk3 := (hk.below b3 hk.lt).drew
    have hr3 := (hr.below b3 hr.lt).drew
    have kt3 := kt.drew
    have d0 := hk3.cell 0
    have e0 := hr3.cell 0
    have e1 := hr3.cell 1
    have e2 := hr3.cell 2
    have f0 := hr3.free 0
    have f1 := hr3.free 1
    have f2 := hr3.free 2
    have g0 := kt3.cell 0
    have g1 := kt3.cell 1
    have g2 := kt3.cell 2
    rw [h0] at e0
    rw [h1] at e1
    rw [h2] at e2
    simp [rm] at d0 g0 g1 g2
    have e0x : w3.cell? ⟨r, 0, none⟩ = some (.string nm) := e0
    have e1x : w3.cell? ⟨r, 1, none⟩ = some v := e1
    have e2x : w3.cell? ⟨r, 2, none⟩ = some (.int .i64 (su0 : Int)) := e2
    have f0x : w3.frozen? ⟨r, 0, none⟩ = false := f0
    have f1x : w3.frozen? ⟨r, 1, none⟩ = false := f1
    have f2x : w3.frozen? ⟨r, 2, none⟩ = false := f2
    have KM := Lib.hid hk3
    have KR := Lib.hid hr3
    have B3 := Lib.hid b3
    have O3 := Lib.hid o3
    have HF := Lib.hid hF
    have HC := Lib.hid (And.intro hcc (And.intro h0 (And.intro h1 h2)))
    have HBU := Lib.hid hburn
    clear hB2 kt b3 o3 hw3 ht hk hr hk3 hr3 kt3 h0 h1 h2 hf hF hburn hfn h
    go_wp2_with fail
    go_region
    all_goals
      go_wp2
      go_ret
      refine ⟨rfl, ⟨m :: r :: (Value.slice A2 n2 c2).ownBlock.toList, ?_, ?_⟩, ?_⟩
    · obtain ⟨hcc, h0, h1, h2⟩ := HC.out
      have hs : 2 < cur.size := by
        rcases Nat.lt_or_ge 2 cur.size with h | h
        · exact h
        · rw [Array.getElem?_eq_none h] at h2; cases h2
      have s0 : 0 < cur.size := by omega
      have s1 : 1 < cur.size := by omega
      have hrm : m ≠ r := KM.out.ne_ KR.out (by decide)
      refine ⟨H1.out.lo, H1.out.hi, .inr ⟨bs, su, r, cc, _, _, rfl, ((KM.out.far hrm _).far hrm _).far hrm _, ((KR.out.set_ 0 _).set_ 1 _).set_ 2 _, hcc, ?_, ?_, ?_, ?_, BY.out, hsu, by have := HBI.out; omega, rfl⟩⟩
      · simp [Array.getElem?_setIfInBounds, s0, s1, hs]
      · simp [Array.getElem?_setIfInBounds, s0, s1, hs]
      · simp [Array.getElem?_setIfInBounds, s0, s1, hs]
      · exact Bo.le (((Ow.aside (show Bo w1.heap.size w3.drew _ bs from O3.out) KR.out (by decide) 0 _).aside (KR.out.set_ 0 _) (by decide) 1 _).aside ((KR.out.set_ 0 _).set_ 1 _) (by decide) 2 _) (Nat.zero_le _)
    · intro k hk
      rw [HF.out]
      simp at hk ⊢
      rcases hk with rfl | rfl | hk
      · exact .inl (.inl rfl)
      · exact .inl (.inr (.inl rfl))
      · exact .inr (Nat.le_trans S1.out (O3.out.blk_lt k hk))
    · have hrF : r ∈ F := by rw [HF.out]; simp
      have k3 : Kp w F w3.drew := ((K1.out.mono (G := F) (by rw [HF.out]; simp)).below B3.out).below (Below.refl _ _).drew
      exact ((k3.setCell (.inl hrF) _).setCell (.inl hrF) _).setCell (.inl hrF) _
end Go.Proofs.YtnegondlkfeleaaDoor

/- The document's disk: Put. -/
namespace Go.Proofs.YtnegondlkfeleaaDoor
open Go.RowKit

theorem setR_does (s : Dst) (bs : List Int) (hd : s.dead = false) : setR s bs bs.length = doesS s bs.length true (fun _ => some (bs, bs.length)) := by
  unfold setR doesS
  rw [if_neg (show ¬ s.dead = true by rw [hd]; simp), if_neg (show ¬ (s.file = none ∧ true = false) by simp)]
  by_cases h : 1048576 < bs.length
  · rw [if_pos h, if_pos (show (1048576 : Int) < (bs.length : Int) by omega)]
  · rw [if_neg h, if_neg (show ¬ (1048576 : Int) < (bs.length : Int) by omega)]

set_option maxHeartbeats 1000000 in
set_option maxRecDepth 100000 in
theorem rput_any (nm : ByteArray) (hn : 1 ≤ nm.size ∧ nm.size ≤ 16) (m : Nat) (s : Dst) (F : List Nat) (bv : Value) (bs : List Int) (w : World) (h : RDk w m nm s F) (hb : Bs w bv bs) (hbv : bs.length = 0 ∨ ∀ k, bv.ownBlock = some k → k ∉ [m])
    (hby : ∀ c ∈ bs, byt c) (hl : bs.length ≤ 4611686018427387904) :
    Calls Tryd.prog 28 #[.pointer (some ⟨m, 0, none⟩), .string nm, bv] w fun e w' => e = .returned (.int .i64 (doesS s bs.length true (fun _ => some (bs, bs.length))).2) ∧
      RTo w F m nm (doesS s bs.length true (fun _ => some (bs, bs.length))).1 w' := by
  have AS := Lib.hid (rasked_any nm hn m s F w h)
  have ST := Lib.hid (rset_any nm m s F bv bs bs.length w h hb hbv hby (Nat.le_refl _) hl)
  have H := Lib.hid h
  obtain ⟨A, c, rfl, hc, -⟩ := id hb
  cases hd : s.dead with
  | true =>
    rw [if_pos hd] at AS
    have R := Lib.hid (show doesS s bs.length true (fun _ => some (bs, bs.length)) = (s, 17) from by unfold doesS; rw [if_pos hd])
    rw [R.out]
    clear h hd hn hb hbv hby
    go_enter Tryd.func28, Tryd.ntmps28
    go_wp2_with fail
    refine AS.out.mono ?_
    rintro e w1 ⟨rfl, rfl⟩
    go_wp2
    go_ret
    exact ⟨rfl, H.out.to H.out (Kp.refl _ _)⟩
  | false =>
    rw [if_neg (by rw [hd]; simp)] at AS
    rw [← setR_does s bs hd]
    clear h hd hn hb hbv hby
    go_enter Tryd.func28, Tryd.ntmps28
    go_wp2_with fail
    refine AS.out.mono ?_
    rintro e w1 ⟨rfl, rfl⟩
    go_wp2_with fail
    refine ST.out.mono ?_
    rintro e w1 ⟨rfl, h1⟩
    have H1 := Lib.hid h1
    clear h1
    go_wp2
    go_ret
    exact ⟨rfl, H1.out⟩
end Go.Proofs.YtnegondlkfeleaaDoor
