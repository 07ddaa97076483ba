/- DisksSure: walk. -/
import Derived.Test.YtojafgijhbnjoaaDsw
import Derived.Deep.CutBlock
namespace Go.Proofs.Ytojafgijhbnjoaa
open Go.RowKit

theorem nm_f_ : Nm ⟨#[102]⟩ := ⟨by decide +kernel, by decide⟩
theorem on_dead_at_ {X : List (Nat × Obj)} {B : Nat} {W w : World} {d : Nat} {nm : ByteArray} {s : Dst} (b : Bool) (hb : s.dead = b) (h : On X B W w d nm s) :
    Calls Try.prog 10 #[.pointer (some ⟨d, 0, none⟩)] w fun e w' => e = .returned (.bool b) ∧ w = w' := by
  subst hb; exact on_dead h
theorem On.allocX {X : List (Nat × Obj)} {B : Nat} {W w : World} {d : Nat} {nm : ByteArray} {s : Dst} (h : On X B W w d nm s) (o : Obj) : On ((w.heap.size, o) :: X) B W (w.alloc o) d nm s := by
  obtain ⟨⟨F, hd, hF, hX⟩, hk, h1, h2⟩ := h
  have hb := below_alloc_ w o
  refine ⟨⟨F, hd.below hb, hF, fun p hp hf => ?_⟩, fun p hp => ?_, h1.trans (hb.mono h2), Nat.le_trans h2 hb.size⟩
  · rcases List.mem_cons.1 hp with rfl | hp
    · exact Nat.lt_irrefl _ (hd.lt _ hf)
    · exact hX p hp hf
  · rcases List.mem_cons.1 hp with rfl | hp
    · exact heap_alloc_new w o
    · exact (hb.block _ (lt_of_heap (hk p hp))).trans (hk p hp)
theorem str_take (A : List Int) (k : Nat) : (strOfNums A).extract 0 k = strOfNums (A.take k) := by
  apply ByteArray.ext
  apply Array.toList_inj.1
  simp [strOfNums, ByteArray.data_extract, List.map_take]
theorem str_len (A : List Int) : (strOfNums A).size = A.length := by simp [strOfNums, ByteArray.size]
theorem inv_small {s : Dst} {A S : List Int} {k : Nat} {eff : List Int × Nat → Option (List Int × Nat)} (h : Inv s A S) (he : (doesS s ((sizeS s : Nat) + (k : Nat) : Int) true eff).2 = 0) : A.length + k ≤ 1048576 := by
  have hz : sizeS s = A.length := by
    unfold Inv at h
    unfold sizeS
    cases hf : s.file with
    | none => rw [hf] at h; simp [h.1]
    | some q => rw [hf] at h; simp [h.1]
  rw [hz] at he
  unfold doesS at he
  split at he
  · simp at he
  · split at he
    · simp at he
    · split at he
      · simp at he
      · omega
/-- What a round leaves. -/
def Rnd (B : Nat) (W wx : World) (d : Nat) (c4 c5 : Value) : Prop := ∃ s A S, c4 = .string (strOfNums A) ∧ c5 = .string (strOfNums S) ∧ On [] B W wx d ⟨#[102]⟩ s ∧ Inv s A S

set_option maxHeartbeats 8000000 in
set_option maxRecDepth 100000 in
theorem dsure_walk (v : Value) (rs : List ActR) (w : World) (h : Acts w v rs) :
    Calls Try.prog 6 #[v] w fun e w' => e = .returned (.bool true) ∧ Below w.heap.size w w' := by
  have H := Lib.hid h
  have HS := Lib.hid h.shape
  obtain ⟨A, c, rfl, -⟩ := h.shape
  clear h
  go_enter Try.func6, Try.ntmps6
  go_wp2_with fail
  refine (great_any _ rs w H.out).mono ?_
  rintro e w1 ⟨⟨b, rfl, hlen⟩, m, rfl⟩
  have LE := Lib.hid hlen
  clear hlen
  cases b
  case true =>
    go_wp2_with fail
    refine (dlives _).mono ?_
    rintro e w2 ⟨rfl, hb⟩
    go_wp2
    go_ret
    exact ⟨rfl, (below_drewN_ _ _ m).trans hb⟩
  case false =>
    have BD := Lib.hid (below_drewN_ w.heap.size w m)
    have H1 := Lib.hid (H.out.below (below_drewN_ _ _ m))
    have WS := Lib.hid (show (w.drewN m).heap.size = w.heap.size from rfl)
    generalize w.drewN m = W at *
    go_wp2_with fail
    refine (on_new ⟨#[102]⟩ _).mono ?_
    rintro e w2 ⟨rfl, h2⟩
    have O2 := Lib.hid h2
    clear h2
    go_wp2
    obtain ⟨n, hn⟩ : ∃ n, n = rs.length := ⟨_, rfl⟩
    have N := Lib.hid hn
    rw [← hn]
    have hn150 : n ≤ 150 := by have := LE.out (by simp); omega
    clear hn
    go_loopg [4, 5, 6] n (fun g c4 c5 c6 wr => ∃ i : Nat, i ≤ n ∧ g = n - i ∧ c6 = .int .i64 i ∧ Rnd W.heap.size W wr (W.heap.size + 1) c4 c5)
    case atStart => exact ⟨0, by omega, rfl, rfl, _, [], [], rfl, rfl, O2.out, ⟨rfl, rfl⟩⟩
    case round =>
      obtain ⟨i, hi, hg, rfl, s, A0, S0, rfl, rfl, hO, hI⟩ := hrel
      have G := Lib.hid hg
      have O := Lib.hid hO
      have INV := Lib.hid hI
      clear hg hO hI
      obtain ⟨SA, hSA⟩ : ∃ SA, SA = strOfNums A0 := ⟨_, rfl⟩
      obtain ⟨SS, hSS⟩ : ∃ SS, SS = strOfNums S0 := ⟨_, rfl⟩
      rw [← hSA, ← hSS]
      have EA := Lib.hid hSA
      have ES := Lib.hid hSS
      clear hSA hSS
      by_cases hin : i < n
      · have hib : i < rs.length := by have := N.out; omega
        obtain ⟨g0, o0, rfl, -, c0, c1, c2, c3, c4⟩ := (show Acts _ (.slice A n c) rs from by have := H1.out.below (O.out.bel); rw [← N.out] at this; exact this).at_ i hib
        have OK := Lib.hid (H1.out.ok _ (List.getElem_mem hib))
        obtain ⟨r, hr⟩ : ∃ r, r = rs[i] := ⟨_, rfl⟩
        rw [← hr] at c0 c1 c2 c3 c4 OK
        clear hr
        obtain ⟨kd, nm, bv, bs, nn, lv, ls⟩ := r
        simp only at c0 c1 c2 c3 c4
        obtain ⟨AB, cB, hbv, -⟩ := id OK.out.bv
        obtain ⟨AL, cL, hlv, -⟩ := id OK.out.lv
        simp only at hbv hlv
        subst hbv hlv
        have hkd := OK.out.kd
        obtain ⟨k8, hk8⟩ : ∃ k8, kd.tmod 8 = k8 := ⟨_, rfl⟩
        have hkd := OK.out.kd
        obtain ⟨k8, hk8⟩ : ∃ k8, kd.tmod 8 = k8 := ⟨_, rfl⟩
        have hkd := OK.out.kd
        obtain ⟨k8, hk8⟩ : ∃ k8, kd.tmod 8 = k8 := ⟨_, rfl⟩
        have hkd := OK.out.kd
        obtain ⟨k8, hk8⟩ : ∃ k8, kd.tmod 8 = k8 := ⟨_, rfl⟩
        go_upto_block 2 with fail
        go_cut [4, 5] (fun s4 s5 wx => Rnd W.heap.size W wx (W.heap.size + 1) s4 s5)
        case first =>
          have OA := Lib.hid (O.out.allocX (.cells #[.int .u8 kd, .string nm, .slice AB bs.length cB, .int .i64 nn, .slice AL ls.length cL] 43))
          rcases (show k8 = 0 ∨ k8 = 1 ∨ k8 = 2 ∨ k8 = 3 ∨ k8 = 4 ∨ k8 = 5 ∨ k8 = 6 ∨ k8 = 7 by rw [Int.tmod_eq_emod_of_nonneg hkd.1] at hk8; omega) with rfl | rfl | rfl | rfl | rfl | rfl | rfl | rfl
          · -- 0
            go_wp2_with fail
            obtain ⟨s', r, hd⟩ : ∃ s' r, doesS s ((sizeS s : Nat) + (bs.length : Nat) : Int) true (fun q => some (q.1 ++ bs, q.2)) = (s', r) := ⟨_, _, rfl⟩
            refine (on_add s' r nm_f_ _ bs OK.out.by_ OK.out.len OA.out (OK.out.bv.below OA.out.bel) hd).mono ?_
            rintro e w3 ⟨rfl, h3⟩
            have H3 := Lib.hid h3
            clear h3
            have x2 := (show Blk w3 wr.heap.size 43 #[.int .u8 kd, .string nm, .slice AB bs.length cB, .int .i64 nn, .slice AL ls.length cL] from H3.out.keep (_, _) (List.mem_cons_self ..)).cell 2
            simp at x2
            have cv := run_convert_bs (P := Try.prog) (OK.out.bv.below H3.out.bel) 28 5 9 Try.underlying28 Try.underlying5 Try.underlying9
            by_cases hr : r = 0
            · subst hr
              have RES := Lib.hid hd
              clear hd
              have hsm := inv_small INV.out (show (doesS s ((sizeS s : Nat) + (bs.length : Nat) : Int) true (fun q => some (q.1 ++ bs, q.2))).2 = 0 from by rw [RES.out])
              have hsA : SA.size = A0.length := by rw [EA.out]; exact str_len A0
              obtain ⟨SB, hSB⟩ : ∃ SB, SB = strOfNums bs := ⟨_, rfl⟩
              have hsB : SB.size = bs.length := by rw [hSB]; exact str_len bs
              rw [← hSB] at cv
              have SBE := Lib.hid hSB
              have hsum : ¬ (9223372036854775807 < SA.size + SB.size) := by omega
              clear hsm hsA hsB hSB
              go_wp2
              go_meet
              exact ⟨s', A0 ++ bs, S0, by rw [EA.out, SBE.out, ← str_app], by rw [ES.out], H3.out.mono (by simp), inv_add INV.out (by have h := doesS_ok (show (doesS s ((sizeS s : Nat) + (bs.length : Nat) : Int) true (fun q => some (q.1 ++ bs, q.2))).2 = 0 from by rw [RES.out]); rw [RES.out] at h; exact h)⟩
            · have RES := Lib.hid (show s'.file = s.file from by have h := doesS_no (show ¬ (doesS s ((sizeS s : Nat) + (bs.length : Nat) : Int) true (fun q => some (q.1 ++ bs, q.2))).2 = 0 from by rw [hd]; exact hr); rw [hd] at h; exact h)
              clear hd
              go_wp2
              go_meet
              exact ⟨s', A0, S0, by rw [EA.out], by rw [ES.out], H3.out.mono (by simp), INV.out.same RES.out⟩
          · -- 1
            go_wp2_with fail
            obtain ⟨s', r, hd⟩ : ∃ s' r, doesS s ((sizeS s : Nat) + (bs.length : Nat) : Int) true (fun q => some (q.1 ++ bs, q.2)) = (s', r) := ⟨_, _, rfl⟩
            refine (on_add s' r nm_f_ _ bs OK.out.by_ OK.out.len OA.out (OK.out.bv.below OA.out.bel) hd).mono ?_
            rintro e w3 ⟨rfl, h3⟩
            have H3 := Lib.hid h3
            clear h3
            have x2 := (show Blk w3 wr.heap.size 43 #[.int .u8 kd, .string nm, .slice AB bs.length cB, .int .i64 nn, .slice AL ls.length cL] from H3.out.keep (_, _) (List.mem_cons_self ..)).cell 2
            simp at x2
            have cv := run_convert_bs (P := Try.prog) (OK.out.bv.below H3.out.bel) 28 5 9 Try.underlying28 Try.underlying5 Try.underlying9
            by_cases hr : r = 0
            · subst hr
              have RES := Lib.hid hd
              clear hd
              have hsm := inv_small INV.out (show (doesS s ((sizeS s : Nat) + (bs.length : Nat) : Int) true (fun q => some (q.1 ++ bs, q.2))).2 = 0 from by rw [RES.out])
              have hsA : SA.size = A0.length := by rw [EA.out]; exact str_len A0
              obtain ⟨SB, hSB⟩ : ∃ SB, SB = strOfNums bs := ⟨_, rfl⟩
              have hsB : SB.size = bs.length := by rw [hSB]; exact str_len bs
              rw [← hSB] at cv
              have SBE := Lib.hid hSB
              have hsum : ¬ (9223372036854775807 < SA.size + SB.size) := by omega
              clear hsm hsA hsB hSB
              go_wp2
              go_meet
              exact ⟨s', A0 ++ bs, S0, by rw [EA.out, SBE.out, ← str_app], by rw [ES.out], H3.out.mono (by simp), inv_add INV.out (by have h := doesS_ok (show (doesS s ((sizeS s : Nat) + (bs.length : Nat) : Int) true (fun q => some (q.1 ++ bs, q.2))).2 = 0 from by rw [RES.out]); rw [RES.out] at h; exact h)⟩
            · have RES := Lib.hid (show s'.file = s.file from by have h := doesS_no (show ¬ (doesS s ((sizeS s : Nat) + (bs.length : Nat) : Int) true (fun q => some (q.1 ++ bs, q.2))).2 = 0 from by rw [hd]; exact hr); rw [hd] at h; exact h)
              clear hd
              go_wp2
              go_meet
              exact ⟨s', A0, S0, by rw [EA.out], by rw [ES.out], H3.out.mono (by simp), INV.out.same RES.out⟩
          · -- 2
            go_wp2_with fail
            obtain ⟨s', r, hd⟩ : ∃ s' r, doesS s 0 false (fun q => some (q.1, q.1.length)) = (s', r) := ⟨_, _, rfl⟩
            refine (on_sure s' r nm_f_ OA.out hd).mono ?_
            rintro e w3 ⟨rfl, h3⟩
            have H3 := Lib.hid h3
            clear h3
            by_cases hr : r = 0
            · subst hr
              have RES := Lib.hid hd
              clear hd
              go_wp2
              go_meet
              exact ⟨s', A0, A0, by rw [EA.out], by rw [EA.out], H3.out.mono (by simp), inv_sure INV.out (by have h := doesS_ok (show (doesS s 0 false (fun q => some (q.1, q.1.length))).2 = 0 from by rw [RES.out]); rw [RES.out] at h; exact h)⟩
            · have RES := Lib.hid (show s'.file = s.file from by have h := doesS_no (show ¬ (doesS s 0 false (fun q => some (q.1, q.1.length))).2 = 0 from by rw [hd]; exact hr); rw [hd] at h; exact h)
              clear hd
              go_wp2
              go_meet
              exact ⟨s', A0, S0, by rw [EA.out], by rw [ES.out], H3.out.mono (by simp), INV.out.same RES.out⟩
          · -- 3
            go_wp2_with fail
            obtain ⟨s', r, hd⟩ : ∃ s' r, doesS s bs.length true (fun _ => some (bs, bs.length)) = (s', r) := ⟨_, _, rfl⟩
            refine (on_put s' r nm_f_ _ bs OK.out.by_ OK.out.len OA.out (OK.out.bv.below OA.out.bel) hd).mono ?_
            rintro e w3 ⟨rfl, h3⟩
            have H3 := Lib.hid h3
            clear h3
            have x2 := (show Blk w3 wr.heap.size 43 #[.int .u8 kd, .string nm, .slice AB bs.length cB, .int .i64 nn, .slice AL ls.length cL] from H3.out.keep (_, _) (List.mem_cons_self ..)).cell 2
            simp at x2
            have cv := run_convert_bs (P := Try.prog) (OK.out.bv.below H3.out.bel) 28 5 9 Try.underlying28 Try.underlying5 Try.underlying9
            by_cases hr : r = 0
            · subst hr
              have RES := Lib.hid hd
              clear hd
              go_wp2
              go_meet
              exact ⟨s', bs, bs, rfl, rfl, H3.out.mono (by simp), inv_put (by have h := doesS_ok (show (doesS s bs.length true (fun _ => some (bs, bs.length))).2 = 0 from by rw [RES.out]); rw [RES.out] at h; exact h)⟩
            · have RES := Lib.hid (show s'.file = s.file from by have h := doesS_no (show ¬ (doesS s bs.length true (fun _ => some (bs, bs.length))).2 = 0 from by rw [hd]; exact hr); rw [hd] at h; exact h)
              clear hd
              go_wp2
              go_meet
              exact ⟨s', A0, S0, by rw [EA.out], by rw [ES.out], H3.out.mono (by simp), INV.out.same RES.out⟩
          · -- 4
            go_wp2_with fail
            obtain ⟨s', r, hd⟩ : ∃ s' r, doesS s 0 false (fun _ => none) = (s', r) := ⟨_, _, rfl⟩
            refine (on_drop s' r nm_f_ OA.out hd).mono ?_
            rintro e w3 ⟨rfl, h3⟩
            have H3 := Lib.hid h3
            clear h3
            by_cases hr : r = 0
            · subst hr
              have RES := Lib.hid hd
              clear hd
              go_wp2
              go_meet
              exact ⟨s', [], [], rfl, rfl, H3.out.mono (by simp), inv_drop (by have h := doesS_ok (show (doesS s 0 false (fun _ => none)).2 = 0 from by rw [RES.out]); rw [RES.out] at h; exact h)⟩
            · have RES := Lib.hid (show s'.file = s.file from by have h := doesS_no (show ¬ (doesS s 0 false (fun _ => none)).2 = 0 from by rw [hd]; exact hr); rw [hd] at h; exact h)
              clear hd
              go_wp2
              go_meet
              exact ⟨s', A0, S0, by rw [EA.out], by rw [ES.out], H3.out.mono (by simp), INV.out.same RES.out⟩
          · -- 5
            go_wp2_with fail
            refine (on_fuse nn OK.out.n OA.out).mono ?_
            rintro e w3 ⟨rfl, h3⟩
            have H3 := Lib.hid h3
            clear h3
            go_wp2
            go_meet
            exact ⟨_, A0, S0, by rw [EA.out], by rw [ES.out], H3.out.mono (by simp), INV.out.same rfl⟩
          · -- 6
            go_wp2_with fail
            refine (on_lift (liftS s ls) _ ls OK.out.lby OA.out (OK.out.lv.below OA.out.bel) rfl).mono ?_
            rintro e w3 ⟨rfl, h3⟩
            have H3 := Lib.hid h3
            clear h3
            go_wp2_with fail
            obtain ⟨I1, l1, l2, tk, re⟩ := inv_lift (ls := ls) INV.out
            obtain ⟨A1, r1, hr1⟩ : ∃ A1 r1, readS (liftS s ls) = (A1, r1) := ⟨_, _, rfl⟩
            rw [hr1] at I1 l1 l2 tk re
            simp only at I1 l1 l2 tk re
            refine (on_read A1 r1 nm_f_ H3.out hr1).mono ?_
            rintro e w4 ⟨P4, Y4, rfl, y4, h4, -⟩
            have x := 0
            have eA := EA.out
            have eS := ES.out
            have hsA : SA.size = A0.length := by rw [eA]; exact str_len A0
            have hsS : SS.size = S0.length := by rw [eS]; exact str_len S0
            obtain ⟨SX, hSX⟩ : ∃ SX, SX = strOfNums A1 := ⟨_, rfl⟩
            have hex : SA.extract 0 A1.length = SX := by rw [eA, str_take, hSX]; congr 1; exact tk.symm
            have cv := fun q => run_convert_bs (P := Try.prog) ((h4.below (below_drewN_ _ _ q)).sl y4 (fun p hp => List.mem_append_left _ hp)) 28 5 9 Try.underlying28 Try.underlying5 Try.underlying9
            have cv0 := cv 0
            rw [← hSX] at cv cv0
            have SXE := Lib.hid hSX
            have H4 := Lib.hid (h4.mono (Y := []) (by simp))
            have I1H := Lib.hid I1
            have TK := Lib.hid tk
            clear hSX eA eS h4 y4 I1 tk x hr1
            have n1 : ¬ ((A1.length : Int) < (SS.size : Int)) := by omega
            have n2 : ¬ ((SA.size : Int) < (A1.length : Int)) := by omega
            have n3 : A1.length ≤ SA.size := by omega
            have n5 : ¬ A1.length < SS.size := by omega
            have n6 : ¬ SA.size < A1.length := by omega
            have d1 : decide (A1.length < SS.size) = false := decide_eq_false n5
            have d2 : decide (SA.size < A1.length) = false := decide_eq_false n6
            have d3 : decide ((A1.length : Int) < (SS.size : Int)) = false := decide_eq_false n1
            have d4 : decide ((SA.size : Int) < (A1.length : Int)) = false := decide_eq_false n2
            have n4 : (A1.length : Int) ≤ (SA.size : Int) := by omega
            rcases re with rfl | ⟨rfl, hS0⟩
            · clear hsA hsS l1 l2
              go_wp2_with fail
              go_quiet (fail)
              go_wp2
              go_meet
              exact ⟨_, A1, A1, by rw [SXE.out], by rw [SXE.out], H4.out.below (below_drewN_ _ _ nq), I1H.out⟩
            · have hs0 : SS.size = 0 := by rw [hsS, hS0]; rfl
              clear hsA hsS hS0 l1 l2
              go_wp2_with fail
              go_quiet (fail)
              go_wp2
              go_meet
              exact ⟨_, A1, A1, by rw [SXE.out], by rw [SXE.out], H4.out.below (below_drewN_ _ _ nq), I1H.out⟩
          · -- 7
            go_wp2_with fail
            refine (on_lift (liftS s ls) _ ls OK.out.lby OA.out (OK.out.lv.below OA.out.bel) rfl).mono ?_
            rintro e w3 ⟨rfl, h3⟩
            have H3 := Lib.hid h3
            clear h3
            go_wp2_with fail
            obtain ⟨I1, l1, l2, tk, re⟩ := inv_lift (ls := ls) INV.out
            obtain ⟨A1, r1, hr1⟩ : ∃ A1 r1, readS (liftS s ls) = (A1, r1) := ⟨_, _, rfl⟩
            rw [hr1] at I1 l1 l2 tk re
            simp only at I1 l1 l2 tk re
            refine (on_read A1 r1 nm_f_ H3.out hr1).mono ?_
            rintro e w4 ⟨P4, Y4, rfl, y4, h4, -⟩
            have x := 0
            have eA := EA.out
            have eS := ES.out
            have hsA : SA.size = A0.length := by rw [eA]; exact str_len A0
            have hsS : SS.size = S0.length := by rw [eS]; exact str_len S0
            obtain ⟨SX, hSX⟩ : ∃ SX, SX = strOfNums A1 := ⟨_, rfl⟩
            have hex : SA.extract 0 A1.length = SX := by rw [eA, str_take, hSX]; congr 1; exact tk.symm
            have cv := fun q => run_convert_bs (P := Try.prog) ((h4.below (below_drewN_ _ _ q)).sl y4 (fun p hp => List.mem_append_left _ hp)) 28 5 9 Try.underlying28 Try.underlying5 Try.underlying9
            have cv0 := cv 0
            rw [← hSX] at cv cv0
            have SXE := Lib.hid hSX
            have H4 := Lib.hid (h4.mono (Y := []) (by simp))
            have I1H := Lib.hid I1
            have TK := Lib.hid tk
            clear hSX eA eS h4 y4 I1 tk x hr1
            have n1 : ¬ ((A1.length : Int) < (SS.size : Int)) := by omega
            have n2 : ¬ ((SA.size : Int) < (A1.length : Int)) := by omega
            have n3 : A1.length ≤ SA.size := by omega
            have n5 : ¬ A1.length < SS.size := by omega
            have n6 : ¬ SA.size < A1.length := by omega
            have d1 : decide (A1.length < SS.size) = false := decide_eq_false n5
            have d2 : decide (SA.size < A1.length) = false := decide_eq_false n6
            have d3 : decide ((A1.length : Int) < (SS.size : Int)) = false := decide_eq_false n1
            have d4 : decide ((SA.size : Int) < (A1.length : Int)) = false := decide_eq_false n2
            have n4 : (A1.length : Int) ≤ (SA.size : Int) := by omega
            rcases re with rfl | ⟨rfl, hS0⟩
            · clear hsA hsS l1 l2
              go_wp2_with fail
              go_quiet (fail)
              go_wp2
              go_meet
              exact ⟨_, A1, A1, by rw [SXE.out], by rw [SXE.out], H4.out.below (below_drewN_ _ _ nq), I1H.out⟩
            · have hs0 : SS.size = 0 := by rw [hsS, hS0]; rfl
              clear hsA hsS hS0 l1 l2
              go_wp2_with fail
              go_quiet (fail)
              go_wp2
              go_meet
              exact ⟨_, A1, A1, by rw [SXE.out], by rw [SXE.out], H4.out.below (below_drewN_ _ _ nq), I1H.out⟩
        case rest =>
          obtain ⟨s', A1, S1, rfl, rfl, hO', hI'⟩ := hcut
          have O' := Lib.hid hO'
          have INV' := Lib.hid hI'
          clear hO' hI'
          obtain ⟨SA', hSA'⟩ : ∃ SA', SA' = strOfNums A1 := ⟨_, rfl⟩
          rw [← hSA']
          have SAE := Lib.hid hSA'
          clear hSA'
          by_cases hdd : s'.dead = true
          · go_wp2_with fail
            refine (on_dead_at_ true hdd O'.out).mono ?_
            rintro e w5 ⟨rfl, rfl⟩
            go_wp2
            go_roundg (n - (i + 1))
            case measure => have := G.out; omega
            case rel => exact ⟨i + 1, by omega, rfl, by go_num, s', A1, S1, by rw [SAE.out], rfl, O'.out, INV'.out⟩
          · have hdf : s'.dead = false := by simpa using hdd
            go_wp2_with fail
            refine (on_dead_at_ false hdf O'.out).mono ?_
            rintro e w5 ⟨rfl, rfl⟩
            go_wp2_with fail
            refine (on_read A1 (readS s').2 nm_f_ O'.out (by rw [← inv_read INV'.out hdf])).mono ?_
            rintro e w6 ⟨P6, Y6, rfl, y6, h6, -⟩
            have c6 := run_convert_bs (P := Try.prog) (h6.sl y6 (by simp)) 28 5 9 Try.underlying28 Try.underlying5 Try.underlying9
            rw [← SAE.out] at c6
            have H6 := Lib.hid (h6.mono (Y := []) (by simp))
            clear h6 y6
            go_wp2
            go_roundg (n - (i + 1))
            case measure => have := G.out; omega
            case rel => exact ⟨i + 1, by omega, rfl, by go_num, s', A1, S1, by rw [SAE.out], rfl, H6.out, INV'.out⟩
      · obtain rfl : i = n := by omega
        go_wp2_with fail
        refine (dlives _).mono ?_
        rintro e w3 ⟨rfl, hb⟩
        go_wp2
        go_ret
        exact ⟨rfl, BD.out.trans ((O.out.bel.trans (hb.mono O.out.le)).mono (by rw [WS.out]; exact Nat.le_refl _))⟩
end Go.Proofs.Ytojafgijhbnjoaa
