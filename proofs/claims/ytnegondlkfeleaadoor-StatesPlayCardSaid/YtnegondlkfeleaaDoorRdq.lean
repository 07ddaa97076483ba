/- The document's disk: Lift of a disk with a file. -/
import Derived.Test.YtnegondlkfeleaaDoorRdp
import Derived.Test.YtnegondlkfeleaaDoorMmc
import Derived.Deep.RegionLaw
namespace Go.Proofs.YtnegondlkfeleaaDoor
open Go.RowKit

set_option maxHeartbeats 4000000 in
set_option maxRecDepth 100000 in
theorem rlift_file (nm : ByteArray) (m : Nat) (s : Dst) (F : List Nat) (lv : Value) (ls : List Int) (xs : List Int) (su : Nat) (w : World) (h : RDk w m nm s F) (hlv : Rd w 1 lv ls.length (lossC ls)) (hls : ∀ x ∈ ls, -9223372036854775808 ≤ x ∧ x ≤ 9223372036854775807) (hf : s.file = some (xs, su)) :
    Calls Tryd.prog 26 #[.pointer (some ⟨m, 0, none⟩), lv] w fun e w' => e = .returned (.tuple #[]) ∧ RTo w F m nm (liftS s ls) w' := by
  have H := Lib.hid h
  rcases h.ex with ⟨hf2, -⟩ | ⟨xs', su', r, c, cur, v, hf2, hk, hr, hc, h0, h1, h2, hb, hy, hsu, hxl, hF⟩
  · rw [hf] at hf2; cases hf2
  rw [hf] at hf2
  injection hf2 with hf2
  injection hf2 with e1 e2
  subst e1
  subst e2
  obtain ⟨A, cc, rfl, hcc0, -⟩ := Bo.clip (id hb)
  obtain ⟨n, hn⟩ : ∃ n, n = xs.length := ⟨_, rfl⟩
  rw [← hn] at h1 hb hF hcc0
  obtain ⟨N, hN⟩ : ∃ N, N = liftN ls (xs, su) := ⟨_, rfl⟩
  have E := Lib.hid (show liftS s ls = ⟨some (xs.take N, N), -1, false⟩ from by unfold liftS; rw [hf, hN]; rfl)
  rw [E.out]
  have c0 := hk.cell 0
  have d1 := hk.cell 1
  have d2 := hk.cell 2
  have d3 := hk.cell 3
  have f1 := hk.free 1
  have f2 := hk.free 2
  have f3 := hk.free 3
  have e0 := hr.cell 0
  have e1 := hr.cell 1
  have e2 := hr.cell 2
  have g1 := hr.free 1
  have g2 := hr.free 2
  simp only [rm, List.getElem?_toArray, List.getElem?_cons_zero, List.getElem?_cons_succ] at c0 d1 d2 d3
  rw [h0] at e0
  rw [h1] at e1
  rw [h2] at e2
  have HB := Lib.hid hb
  have KM := Lib.hid hk
  have KR := Lib.hid hr
  have HH := Lib.hid (And.intro hc (And.intro h0 (And.intro h1 h2)))
  have BY := Lib.hid hy
  have HF := Lib.hid hF
  have NN := Lib.hid hn
  have hNn : N ≤ n := by rw [hN, hn]; simp only [liftN]; omega
  have hsN : su ≤ N := by rw [hN]; simp only [liftN]; omega
  have HN := Lib.hid hN
  have hcc : n ≤ cc := hcc0
  have SU := Lib.hid (And.intro hsu hxl)
  have hsun : su ≤ n := by omega
  have hn64 : n ≤ 1048576 := by omega
  obtain ⟨AL, cl, hlv', hlc, hll, hlh⟩ := id hlv
  subst hlv'
  obtain ⟨ll, hll⟩ : ∃ ll, ll = ls.length := ⟨_, rfl⟩
  rw [← hll] at hlv hlc hlh ⊢
  have LL := Lib.hid hll
  clear hll
  have HLH := Lib.hid hlh
  have BT := Lib.hid (show Bs w (.slice A N cc) (xs.take N) from by
    have := hb.bs
    exact this.takes N cc (by omega) (by omega))
  clear hb hk hr hy hF hn hN h h0 h1 h2 hsu hxl hlh hll hf
  go_enter Tryd.func26, Tryd.ntmps26
  go_wp2
  go_loopg [4, 5, 6] 1 (fun g c4 c5 c6 wr => (g = 1 ∧ c4 = .int .i64 0 ∧ wr = w) ∨ (g = 0 ∧ c4 = .int .i64 1 ∧ ∃ F', RDk wr m nm ⟨some (xs.take N, N), s.fuse, s.dead⟩ F' ∧ (∀ k ∈ F', k ∈ F ∨ w.heap.size ≤ k) ∧ Kp w F wr))
  case atStart => exact .inl ⟨rfl, rfl, rfl⟩
  case round =>
    rcases hrel with ⟨rfl, rfl, rfl⟩ | ⟨rfl, rfl, F', h', hF', k'⟩
    · have ws1 : IntKind.i64.wrap ((n : Int) - (su : Int)) = ((n - su : Nat) : Int) := (IntWalk.i64_in _ (by omega)).trans (by omega)
      have HLS := Lib.hid hls
      have HRD := Lib.hid hlv
      clear hls hlv
      have KM2 := Lib.hid (show Blk wr.drew m 68 (rm s (.slice (some ⟨r, 0, none⟩) 1 c)) from KM.out)
      have KR2 := Lib.hid (show Blk wr.drew r 129 cur from KR.out)
      have BT2 := Lib.hid (show Bs wr.drew (.slice A N cc) (xs.take N) from BT.out)
      have LT := Lib.hid (show (xs.take N).length = N ∧ N ≤ 1048576 from by have := NN.out; simp; omega)
      have hrm : m ≠ r := KM.out.ne_ KR.out (by decide)
      have hrm2 : ¬ r = m := fun e => hrm e.symm
      have nc1 : (N : Int) ≤ (cc : Int) := by omega
      have nc0 : (0 : Int) ≤ (N : Int) := by omega
      have NL := HN.out
      cases ls with
      | nil =>
        have hN0 : N = su := by rw [NL]; simp [liftN, lossAt]
        have e : (su : Int) = (N : Int) := by omega
        have hl2 : ¬ (0 : Int) < (ll : Int) := by have := LL.out; simp at this; omega
        rw [e] at e2
        clear NL hN0 e ws1
        go_upto_region 9 with fail
        go_region_law (refine step_bf_bytes rfl _ _ 25 rfl Tryd.underlying25 rfl (Bf.start_ wr.drew) BT2.out rfl (by have := LT.out; simp only [List.length_nil]; omega) ?_; intro v2 w2 hB2 hK2; rw [List.nil_append] at hB2; obtain ⟨A2, n2, c2, rfl⟩ := hB2.own.sl; have k2m := KM2.out.below hB2.bel KM2.out.lt; have k2r := KR2.out.below hB2.bel KR2.out.lt; have c0' : w2.cell? ⟨m, 0, none⟩ = some (.slice (some ⟨r, 0, none⟩) 1 c) := (k2m.cell 0).trans rfl; have c1' : w2.cell? ⟨r, 1, none⟩ = some (.slice A n cc) := (k2r.cell 1).trans HH.out.2.2.1; have c2' : w2.cell? ⟨r, 2, none⟩ = some (.int .i64 (su : Nat)) := (k2r.cell 2).trans HH.out.2.2.2; have f1' := k2r.free 1; have f2' := k2r.free 2; have M2 := Lib.hid k2m; have R2 := Lib.hid k2r; have B2 := Lib.hid hB2; clear k2m k2r hB2 hK2)
        all_goals
          go_wp2
          go_roundg 0
          case measure => omega
          case rel =>
            obtain ⟨hc, h0, h1, h2⟩ := HH.out
            have hs : 2 < cur.size := by
              rcases Nat.lt_or_ge 2 cur.size with h | h
              · exact h
              · rw [Array.getElem?_eq_none h] at h2; cases h2
            have s0 : 0 < cur.size := by omega
            have s1 : 1 < cur.size := by omega
            refine .inr ⟨rfl, by go_num, m :: r :: (Value.slice A2 n2 c2).ownBlock.toList, ?_, ?_, ?_⟩
            · refine ⟨H.out.lo, H.out.hi, .inr ⟨xs.take N, N, r, c, _, .slice A2 n2 c2, rfl, (M2.out.far hrm _).far hrm _, (R2.out.set_ 1 _).set_ 2 _, hc, ?_, ?_, ?_, ?_, fun c hc => BY.out c (List.mem_of_mem_take hc), by have := LT.out; omega, by have := LT.out; omega, rfl⟩⟩
              · simp [Array.getElem?_setIfInBounds, h0]
              · simp [Array.getElem?_setIfInBounds, s1]
              · simp [Array.getElem?_setIfInBounds, hs]
              · exact Bo.le ((Ow.aside B2.out.own R2.out (by decide) 1 _).aside (R2.out.set_ 1 _) (by decide) 2 _) (Nat.zero_le _)
            · intro k hk
              rw [HF.out]
              simp at hk ⊢
              rcases hk with rfl | rfl | hk
              · exact .inl (.inl rfl)
              · exact .inl (.inr (.inl rfl))
              · exact .inr (B2.out.own.blk_lt k hk)
            · have hrF : r ∈ F := by rw [HF.out]; simp
              exact ((Kp.of_below (show Below wr.heap.size wr w2 from (Below.refl _ _).drew.trans B2.out.bel) F).setCell (.inl hrF) _).setCell (.inl hrF) _
      | cons x xr =>
        have hx := HLS.out x (by simp)
        obtain ⟨g, o, rfl, hgl, hgc⟩ : ∃ g o, AL = some ⟨g, o, none⟩ ∧ g < wr.heap.size ∧ wr.cell? ⟨g, o, none⟩ = some (.int .i64 x) := by
          rcases HLH.out with h | ⟨g, o, h1, h2, h3⟩
          · have := LL.out; simp at this; omega
          · exact ⟨g, o, h1, h2, by have := h3 0 (.int .i64 x) rfl; rwa [Nat.add_zero] at this⟩
        have hl1 : 1 ≤ ll := by rw [LL.out]; simp
        have hl2 : (0 : Int) < (ll : Int) := by omega
        have NX : N = su + min (max 0 x).toNat (n - su) := by rw [NL, NN.out]; simp [liftN, lossAt]
        clear NL
        by_cases hx0 : x ≤ 0
        · have hx0' : ¬ 0 < x := by omega
          have e : (su : Int) = (N : Int) := by omega
          rw [e] at e2
          clear NX e ws1
          go_upto_region 9 with fail
          go_region_law (refine step_bf_bytes rfl _ _ 25 rfl Tryd.underlying25 rfl (Bf.start_ wr.drew) BT2.out rfl (by have := LT.out; simp only [List.length_nil]; omega) ?_; intro v2 w2 hB2 hK2; rw [List.nil_append] at hB2; obtain ⟨A2, n2, c2, rfl⟩ := hB2.own.sl; have k2m := KM2.out.below hB2.bel KM2.out.lt; have k2r := KR2.out.below hB2.bel KR2.out.lt; have c0' : w2.cell? ⟨m, 0, none⟩ = some (.slice (some ⟨r, 0, none⟩) 1 c) := (k2m.cell 0).trans rfl; have c1' : w2.cell? ⟨r, 1, none⟩ = some (.slice A n cc) := (k2r.cell 1).trans HH.out.2.2.1; have c2' : w2.cell? ⟨r, 2, none⟩ = some (.int .i64 (su : Nat)) := (k2r.cell 2).trans HH.out.2.2.2; have f1' := k2r.free 1; have f2' := k2r.free 2; have M2 := Lib.hid k2m; have R2 := Lib.hid k2r; have B2 := Lib.hid hB2; clear k2m k2r hB2 hK2)
          all_goals
            go_wp2
            go_roundg 0
            case measure => omega
            case rel =>
              obtain ⟨hc, h0, h1, h2⟩ := HH.out
              have hs : 2 < cur.size := by
                rcases Nat.lt_or_ge 2 cur.size with h | h
                · exact h
                · rw [Array.getElem?_eq_none h] at h2; cases h2
              have s0 : 0 < cur.size := by omega
              have s1 : 1 < cur.size := by omega
              refine .inr ⟨rfl, by go_num, m :: r :: (Value.slice A2 n2 c2).ownBlock.toList, ?_, ?_, ?_⟩
              · refine ⟨H.out.lo, H.out.hi, .inr ⟨xs.take N, N, r, c, _, .slice A2 n2 c2, rfl, (M2.out.far hrm _).far hrm _, (R2.out.set_ 1 _).set_ 2 _, hc, ?_, ?_, ?_, ?_, fun c hc => BY.out c (List.mem_of_mem_take hc), by have := LT.out; omega, by have := LT.out; omega, rfl⟩⟩
                · simp [Array.getElem?_setIfInBounds, h0]
                · simp [Array.getElem?_setIfInBounds, s1]
                · simp [Array.getElem?_setIfInBounds, hs]
                · exact Bo.le ((Ow.aside B2.out.own R2.out (by decide) 1 _).aside (R2.out.set_ 1 _) (by decide) 2 _) (Nat.zero_le _)
              · intro k hk
                rw [HF.out]
                simp at hk ⊢
                rcases hk with rfl | rfl | hk
                · exact .inl (.inl rfl)
                · exact .inl (.inr (.inl rfl))
                · exact .inr (B2.out.own.blk_lt k hk)
              · have hrF : r ∈ F := by rw [HF.out]; simp
                exact ((Kp.of_below (show Below wr.heap.size wr w2 from (Below.refl _ _).drew.trans B2.out.bel) F).setCell (.inl hrF) _).setCell (.inl hrF) _
        · have hx0' : 0 < x := by omega
          by_cases hxl : x < ((n - su : Nat) : Int)
          · have e : (su : Int) + x = (N : Int) := by omega
            have ws2 : IntKind.i64.wrap ((su : Int) + x) = (N : Int) := (IntWalk.i64_in _ (by omega)).trans e
            clear NX e
            go_upto_region 9 with fail
            go_region_law (refine step_bf_bytes rfl _ _ 25 rfl Tryd.underlying25 rfl (Bf.start_ wr.drew) BT2.out rfl (by have := LT.out; simp only [List.length_nil]; omega) ?_; intro v2 w2 hB2 hK2; rw [List.nil_append] at hB2; obtain ⟨A2, n2, c2, rfl⟩ := hB2.own.sl; have k2m := KM2.out.below hB2.bel KM2.out.lt; have k2r := KR2.out.below hB2.bel KR2.out.lt; have c0' : w2.cell? ⟨m, 0, none⟩ = some (.slice (some ⟨r, 0, none⟩) 1 c) := (k2m.cell 0).trans rfl; have c1' : w2.cell? ⟨r, 1, none⟩ = some (.slice A n cc) := (k2r.cell 1).trans HH.out.2.2.1; have c2' : w2.cell? ⟨r, 2, none⟩ = some (.int .i64 (su : Nat)) := (k2r.cell 2).trans HH.out.2.2.2; have f1' := k2r.free 1; have f2' := k2r.free 2; have M2 := Lib.hid k2m; have R2 := Lib.hid k2r; have B2 := Lib.hid hB2; clear k2m k2r hB2 hK2)
            all_goals
              go_wp2
              go_roundg 0
              case measure => omega
              case rel =>
                obtain ⟨hc, h0, h1, h2⟩ := HH.out
                have hs : 2 < cur.size := by
                  rcases Nat.lt_or_ge 2 cur.size with h | h
                  · exact h
                  · rw [Array.getElem?_eq_none h] at h2; cases h2
                have s0 : 0 < cur.size := by omega
                have s1 : 1 < cur.size := by omega
                refine .inr ⟨rfl, by go_num, m :: r :: (Value.slice A2 n2 c2).ownBlock.toList, ?_, ?_, ?_⟩
                · refine ⟨H.out.lo, H.out.hi, .inr ⟨xs.take N, N, r, c, _, .slice A2 n2 c2, rfl, (M2.out.far hrm _).far hrm _, (R2.out.set_ 1 _).set_ 2 _, hc, ?_, ?_, ?_, ?_, fun c hc => BY.out c (List.mem_of_mem_take hc), by have := LT.out; omega, by have := LT.out; omega, rfl⟩⟩
                  · simp [Array.getElem?_setIfInBounds, h0]
                  · simp [Array.getElem?_setIfInBounds, s1]
                  · simp [Array.getElem?_setIfInBounds, hs]
                  · exact Bo.le ((Ow.aside B2.out.own R2.out (by decide) 1 _).aside (R2.out.set_ 1 _) (by decide) 2 _) (Nat.zero_le _)
                · intro k hk
                  rw [HF.out]
                  simp at hk ⊢
                  rcases hk with rfl | rfl | hk
                  · exact .inl (.inl rfl)
                  · exact .inl (.inr (.inl rfl))
                  · exact .inr (B2.out.own.blk_lt k hk)
                · have hrF : r ∈ F := by rw [HF.out]; simp
                  exact ((Kp.of_below (show Below wr.heap.size wr w2 from (Below.refl _ _).drew.trans B2.out.bel) F).setCell (.inl hrF) _).setCell (.inl hrF) _
          · have e : (su : Int) + ((n - su : Nat) : Int) = (N : Int) := by omega
            have ws2 : IntKind.i64.wrap ((su : Int) + ((n - su : Nat) : Int)) = (N : Int) := (IntWalk.i64_in _ (by omega)).trans e
            clear NX e
            go_upto_region 9 with fail
            go_region_law (refine step_bf_bytes rfl _ _ 25 rfl Tryd.underlying25 rfl (Bf.start_ wr.drew) BT2.out rfl (by have := LT.out; simp only [List.length_nil]; omega) ?_; intro v2 w2 hB2 hK2; rw [List.nil_append] at hB2; obtain ⟨A2, n2, c2, rfl⟩ := hB2.own.sl; have k2m := KM2.out.below hB2.bel KM2.out.lt; have k2r := KR2.out.below hB2.bel KR2.out.lt; have c0' : w2.cell? ⟨m, 0, none⟩ = some (.slice (some ⟨r, 0, none⟩) 1 c) := (k2m.cell 0).trans rfl; have c1' : w2.cell? ⟨r, 1, none⟩ = some (.slice A n cc) := (k2r.cell 1).trans HH.out.2.2.1; have c2' : w2.cell? ⟨r, 2, none⟩ = some (.int .i64 (su : Nat)) := (k2r.cell 2).trans HH.out.2.2.2; have f1' := k2r.free 1; have f2' := k2r.free 2; have M2 := Lib.hid k2m; have R2 := Lib.hid k2r; have B2 := Lib.hid hB2; clear k2m k2r hB2 hK2)
            all_goals
              go_wp2
              go_roundg 0
              case measure => omega
              case rel =>
                obtain ⟨hc, h0, h1, h2⟩ := HH.out
                have hs : 2 < cur.size := by
                  rcases Nat.lt_or_ge 2 cur.size with h | h
                  · exact h
                  · rw [Array.getElem?_eq_none h] at h2; cases h2
                have s0 : 0 < cur.size := by omega
                have s1 : 1 < cur.size := by omega
                refine .inr ⟨rfl, by go_num, m :: r :: (Value.slice A2 n2 c2).ownBlock.toList, ?_, ?_, ?_⟩
                · refine ⟨H.out.lo, H.out.hi, .inr ⟨xs.take N, N, r, c, _, .slice A2 n2 c2, rfl, (M2.out.far hrm _).far hrm _, (R2.out.set_ 1 _).set_ 2 _, hc, ?_, ?_, ?_, ?_, fun c hc => BY.out c (List.mem_of_mem_take hc), by have := LT.out; omega, by have := LT.out; omega, rfl⟩⟩
                  · simp [Array.getElem?_setIfInBounds, h0]
                  · simp [Array.getElem?_setIfInBounds, s1]
                  · simp [Array.getElem?_setIfInBounds, hs]
                  · exact Bo.le ((Ow.aside B2.out.own R2.out (by decide) 1 _).aside (R2.out.set_ 1 _) (by decide) 2 _) (Nat.zero_le _)
                · intro k hk
                  rw [HF.out]
                  simp at hk ⊢
                  rcases hk with rfl | rfl | hk
                  · exact .inl (.inl rfl)
                  · exact .inl (.inr (.inl rfl))
                  · exact .inr (B2.out.own.blk_lt k hk)
                · have hrF : r ∈ F := by rw [HF.out]; simp
                  exact ((Kp.of_below (show Below wr.heap.size wr w2 from (Below.refl _ _).drew.trans B2.out.bel) F).setCell (.inl hrF) _).setCell (.inl hrF) _
    · rcases h'.ex with ⟨hf2, -⟩ | ⟨xs', su', r', c', cur', v', hf2, hk, -⟩
      · cases hf2
      have T := Lib.hid h'
      have TF := Lib.hid hF'
      have TK := Lib.hid k'
      have c0 := hk.cell 0
      have d1 := hk.cell 1
      have d2 := hk.cell 2
      have d3 := hk.cell 3
      have f1 := hk.free 1
      have f2 := hk.free 2
      have f3 := hk.free 3
      simp only [rm, List.getElem?_toArray, List.getElem?_cons_zero, List.getElem?_cons_succ] at c0 d1 d2 d3
      clear hk hf2 h' hF' k' hlv hls
      go_wp2
      refine bodyPost_end (results_none rfl _ _ _) rfl ?_
      refine ⟨rfl, ⟨F', T.out.turn ⟨some (xs.take N, N), -1, false⟩ rfl (by simp) (by simp) (fun L hL => ?_) ?_, TF.out⟩, ?_⟩
      · have := ((hL.set_ 3 (.bool false)).set_ 1 (.bool false)).set_ 2 (.int .i64 0)
        simpa [rm, rfu] using this
      · exact (((Kp.refl _ _).setCell (.inl (by simp)) _).setCell (.inl (by simp)) _).setCell (.inl (by simp)) _
      · have hmF : m ∈ F := by rw [HF.out]; simp
        exact ((TK.out.setCell (.inl hmF) _).setCell (.inl hmF) _).setCell (.inl hmF) _
end Go.Proofs.YtnegondlkfeleaaDoor
