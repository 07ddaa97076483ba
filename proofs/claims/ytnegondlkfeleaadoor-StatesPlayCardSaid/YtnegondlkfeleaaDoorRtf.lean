/- Both disks side by side: Same. -/
import Derived.Test.YtnegondlkfeleaaDoorRte
import Derived.Test.YtnegondlkfeleaaDoorSmz
import Derived.RegionTactic
import Derived.BigRegion
namespace Go.Proofs.YtnegondlkfeleaaDoor
open Go.RowKit

theorem quiet_more_ {P : Program} {f : FuncId} {args : Array Value} {w : World} {n : Nat} {v : Value}
    (h : Calls P f args (w.drewN n) fun e w' => e = .returned v ∧ ∃ m, w' = (w.drewN n).drewN m) : Calls P f args (w.drewN n) fun e w'' => e = .returned v ∧ ∃ m, w'' = w.drewN m :=
  h.mono fun _ _ hh => ⟨hh.1, hh.2.elim fun m hm => ⟨n + m, by rw [hm, World.drewN_drewN]⟩⟩
theorem ddead_at (nm : ByteArray) (d : Nat) (s : Dst) (b : Bool) (hb : s.dead = b) (F : List Nat) (w : World) (h : Dk w d nm s F) : Calls Tryd.prog 65 #[.pointer (some ⟨d, 0, none⟩)] w fun e w' => e = .returned (.bool b) ∧ w = w' := by
  subst hb; exact ddead nm d s F w h

set_option maxHeartbeats 2000000 in
set_option maxRecDepth 100000 in
theorem same_any {X : List (Nat × Obj)} {B : Nat} {W w : World} {d m : Nat} {nm : ByteArray} {s : Dst} (h : Both X B W w d m nm s s) (hn : Nm nm) (hn2 : 1 ≤ nm.size ∧ nm.size ≤ 16) :
    Calls Tryd.prog 31 #[.pointer (some ⟨d, 0, none⟩), .pointer (some ⟨m, 0, none⟩)] w fun e w' => e = .returned (.bool true) ∧ Below w.heap.size w w' := by
  obtain ⟨R, hr, hx1, hx2, hx3, ho⟩ := h.rdk
  obtain ⟨F, hd, _⟩ := ho.ex
  have HD := Lib.hid hd
  have HR := Lib.hid hr
  obtain ⟨dd, hdd⟩ : ∃ dd, s.dead = dd := ⟨_, rfl⟩
  have DD := Lib.hid hdd
  clear h hx1 hx2 hx3
  rcases hr.ex with ⟨hf, hk, -⟩ | ⟨xs, su, r, c, cur, v, hf, hk, hrr, hc, h0, h1, h2, hb, hby, hsu, hxl, -⟩
  · have NM := Lib.hid (show Calls Tryd.prog 54 #[.pointer (some ⟨d, 0, none⟩)] w fun e w' => (∃ P, e = .returned (.slice P 0 0)) ∧ Below w.heap.size w w' from (dnames_at nm d s F [] (by unfold namC; rw [hf]) w hd).mono fun _ _ ⟨P, he, _, hb⟩ => ⟨⟨P, he⟩, hb⟩)
    have KM := Lib.hid hk
    clear hr hd hk hf
    go_enter Tryd.func31, Tryd.ntmps31
    go_wp2_with fail
    refine NM.out.mono ?_
    rintro e w1 ⟨⟨P, rfl⟩, b1⟩
    have B1 := Lib.hid b1
    have km := KM.out.below b1 KM.out.lt
    have HD1 := Lib.hid (HD.out.below b1)
    have c0 := km.cell 0
    have c3 := km.cell 3
    simp only [rm, List.getElem?_toArray, List.getElem?_cons_zero, List.getElem?_cons_succ] at c0 c3
    rw [hdd] at c3
    clear b1 km
    go_wp2_with fail
    go_quiet ((go_at_call 65; exact quiet_left_ (ddead_at nm d s dd DD.out _ _ (HD1.out.below (below_drewN_ _ _ _)))))
    go_wp2
    refine wp_loop_rounds 1 ?_
    rw [rounds_succ]
    go_wp2
    go_ret
    exact ⟨rfl, B1.out.trans (below_drewN_ _ _ _)⟩
  · obtain ⟨file, fu, dead⟩ := s
    simp only at hf hdd
    subst hf hdd
    have NM := Lib.hid (dname1 nm d (xs, su) fu dead F w hd)
    have KM := Lib.hid hk
    have KR := Lib.hid (And.intro hrr h0)
    have hnn : (nm != nm) = false := by
      have : (nm == nm) = true := (MapKept.bytes_beq nm nm).2 rfl
      simp [bne, this]
    obtain ⟨rx, re, hrs⟩ : ∃ rx re, readS ⟨some (xs, su), fu, dead⟩ = (rx, re) := ⟨_, _, rfl⟩
    have RS := Lib.hid hrs
    have RL := Lib.hid (show rx.length ≤ 1048576 from by
      unfold readS at hrs
      cases dead
      · simp at hrs; rw [← hrs.1]; exact hxl
      · simp at hrs; simp [hrs.1])
    clear hr hd hk hrr hb hby hxl h0 h1 h2 hsu hrs
    go_enter Tryd.func31, Tryd.ntmps31
    go_wp2_with fail
    refine NM.out.mono ?_
    rintro e w1 ⟨g, o, rfl, hcell, b1⟩
    have B1 := Lib.hid b1
    have km := KM.out.below b1 KM.out.lt
    have HD1 := Lib.hid (HD.out.below b1)
    have HR1 := Lib.hid (HR.out.below b1)
    have c0 := km.cell 0
    have c3 := km.cell 3
    simp only [rm, List.getElem?_toArray, List.getElem?_cons_zero, List.getElem?_cons_succ] at c0 c3
    have C1 := Lib.hid hcell
    have gl := block_lt_of_cell hcell
    have GL := Lib.hid gl
    clear b1 km hcell gl
    go_wp2_with fail
    go_quiet ((go_at_call 65; exact quiet_left_ (ddead_at nm d _ dead rfl _ _ (HD1.out.below (below_drewN_ _ _ _)))))
    have HD2 := Lib.hid (HD1.out.below (below_drewN_ _ _ nq))
    have HR2 := Lib.hid (HR1.out.below (below_drewN_ _ _ nq))
    have C2 := Lib.hid (show (w1.drewN nq).cell? ⟨g, o, none⟩ = some (.string nm) from C1.out)
    have B2 := Lib.hid (B1.out.trans (below_drewN_ _ _ nq))
    have GL2 := Lib.hid (show g < (w1.drewN nq).heap.size from GL.out)
    have KM2 := Lib.hid ((KM.out.below B1.out KM.out.lt).drewN nq)
    have KR2 := Lib.hid ((KR.out.1.below B1.out KR.out.1.lt).drewN nq)
    generalize w1.drewN nq = w2 at *
    have cs := C2.out
    clear c0 c3 NM
    go_wp2
    refine wp_loop_rounds 2 ?_
    rw [rounds_succ]
    have DR := dread nm hn d _ _ _ HD2.out
    rw [RS.out] at DR
    go_wp2_with fail
    refine DR.mono ?_
    rintro e w3 ⟨P3, rfl, o3, b3⟩
    have O3 := Lib.hid o3.bs
    have B3 := Lib.hid (B2.out.trans (b3.mono B2.out.size))
    have cs3 := (b3.cell GL2.out).trans C2.out
    have HR3 := Lib.hid (HR2.out.below b3)
    have KM3 := Lib.hid (KM2.out.below b3 KM2.out.lt)
    have KR3 := Lib.hid (KR2.out.below b3 KR2.out.lt)
    have GL3 := Lib.hid (Nat.lt_of_lt_of_le GL2.out b3.size)
    have CS3 := Lib.hid cs3
    clear DR o3 b3 cs
    have RR := rread_any nm hn2 m _ _ _ HR3.out
    rw [RS.out] at RR
    go_wp2_with fail
    refine RR.mono ?_
    rintro e w4 ⟨u4, rfl, o4, b4⟩
    obtain ⟨A4, c4, rfl, -⟩ := id o4.clip
    have O4 := Lib.hid o4.bs
    have O3' := Lib.hid (O3.out.below b4)
    have B4 := Lib.hid (B3.out.trans (b4.mono B3.out.size))
    have cs4 := (b4.cell GL3.out).trans CS3.out
    have km4 := KM3.out.below b4 KM3.out.lt
    have kr4 := KR3.out.below b4 KR3.out.lt
    have c0 := km4.cell 0
    have e0 := kr4.cell 0
    simp only [rm, List.getElem?_toArray, List.getElem?_cons_zero, List.getElem?_cons_succ] at c0
    rw [KR.out.2] at e0
    have SB := Lib.hid (fun q => sameb_any rx rx _ _ (w4.drewN q) (O3'.out.below (below_drewN_ _ _ q)) (O4.out.below (below_drewN_ _ _ q)) (by have := RL.out; omega))
    rw [show decide (rx = rx) = true from decide_eq_true rfl] at SB
    clear RR o4 b4 cs3 km4 kr4
    obtain ⟨L, hL⟩ : ∃ L, L = rx.length := ⟨_, rfl⟩
    rw [← hL] at SB ⊢
    clear hL
    go_upto_region 9 with fail
    go_quiet ((go_at_call 66; exact quiet_more_ (SB.out _)))
    go_wp2
    rw [rounds_succ]
    go_wp2
    go_ret
    exact ⟨rfl, B4.out.trans (below_drewN_ _ _ _)⟩
end Go.Proofs.YtnegondlkfeleaaDoor
