/- Both disks of any files side by side: Same. -/
import Derived.Test.YtenobcfgapolhaaRpx
import Derived.Test.YtenobcfgapolhaaRme
import Derived.Test.YtenobcfgapolhaaSmz
import Derived.RegionTactic
import Derived.BigRegion
namespace Go.Proofs.Ytenobcfgapolhaa
open Go.RowKit

theorem quiet_more_ {P : Program} {f : FuncId} {args : Array Value} {w : World} {n : Nat} {v : Value}
    (h : Calls P f args (w.drewN n) fun e w' => e = .returned v ∧ ∃ m, w' = (w.drewN n).drewN m) : Calls P f args (w.drewN n) fun e w'' => e = .returned v ∧ ∃ m, w'' = w.drewN m :=
  h.mono fun _ _ hh => ⟨hh.1, hh.2.elim fun m hm => ⟨n + m, by rw [hm, World.drewN_drewN]⟩⟩
theorem readM_len {w : World} {d : Nat} {s : Mst} {F : List Nat} (h : Md w d s F) (nm : ByteArray) : (readM s nm).1.length ≤ 1048576 := by
  have h1 := h.size_le (nm := nm)
  unfold sizeM at h1
  unfold readM
  split
  · simp
  · cases hg : getM s.fs nm with
    | none => simp
    | some q => rw [hg] at h1; simpa using h1
theorem mdead_at (d : Nat) (s : Mst) (F : List Nat) (b : Bool) (hb : s.dead = b) (w : World) (h : Md w d s F) : Calls Try.prog 15 #[.pointer (some ⟨d, 0, none⟩)] w fun e w' => e = .returned (.bool b) ∧ w = w' := by
  subst hb; exact mdead d s F w h

set_option maxHeartbeats 4000000 in
set_option maxRecDepth 100000 in
theorem same_mall {w : World} {d m : Nat} {a b : Mst} {F G : List Nat} (hd : Md w d a F) (hr : RMd w m b G) (ha : Al a b) :
    Calls Try.prog 8 #[.pointer (some ⟨d, 0, none⟩), .pointer (some ⟨m, 0, none⟩)] w fun e w' => e = .returned (.bool true) ∧ Below w.heap.size w w' := by
  have NM := Lib.hid (mnames d a F (b.fs.map fun q : ByteArray × List Int × Nat => q.1) w hd ha.names ha.so)
  have HD := Lib.hid hd
  have HR := Lib.hid hr
  have HA := Lib.hid ha
  obtain ⟨AR, cR, rs, hk, hcR, ho, -, hs, -, h16⟩ := hr.rows
  obtain ⟨dd, hdd⟩ : ∃ dd, b.dead = dd := ⟨_, rfl⟩
  have DD := Lib.hid (ha.dead.trans hdd)
  obtain ⟨n, hn⟩ : ∃ n, n = rs.length := ⟨_, rfl⟩
  have hNl : (b.fs.map (·.1)).length = n := by rw [hs, hn]; simp
  have hNg : ∀ i (hi : i < rs.length), ((b.fs.map (·.1)).map Value.string)[i]? = some (.string rs[i].nm) := fun i hi => by
    rw [hs, List.map_map, List.map_map, List.getElem?_map, List.getElem?_eq_getElem hi]
    rfl
  have NG := Lib.hid hNg
  rw [hNl] at NM
  have NN := Lib.hid hn
  have N16 := Lib.hid (show n ≤ 16 from by omega)
  have OO := Lib.hid ho
  rw [← hn] at hk hcR
  have KM := Lib.hid hk
  clear hd hr ha hs hNl hNg ho hn h16 hk
  go_enter Try.func8, Try.ntmps8
  go_wp2_with fail
  refine NM.out.mono ?_
  rintro e w1 ⟨P, rfl, hrd, b1, -⟩
  have B1 := Lib.hid b1
  have RD1 := Lib.hid hrd
  have km := KM.out.below b1 KM.out.lt
  have HD1 := Lib.hid (HD.out.below b1)
  have HR1 := Lib.hid (HR.out.below b1)
  have OO1 := Lib.hid (OO.out.below b1)
  have KM1 := Lib.hid km
  have c0 := km.cell 0
  have c3 := km.cell 3
  simp only [rmC, List.getElem?_toArray, List.getElem?_cons_zero, List.getElem?_cons_succ] at c0 c3
  rw [hdd] at c3
  clear b1 km hrd
  go_wp2_with fail
  go_quiet ((go_at_call 15; exact quiet_left_ (mdead_at d a F dd DD.out _ (HD1.out.below (below_drewN_ _ _ _)))))
  have HD2 := Lib.hid (HD1.out.below (below_drewN_ _ _ nq))
  have HR2 := Lib.hid (HR1.out.below (below_drewN_ _ _ nq))
  have RD2 := Lib.hid (RD1.out.below (below_drewN_ _ _ nq))
  have OO2 := Lib.hid (OO1.out.below (below_drewN_ _ _ nq))
  have B2 := Lib.hid (B1.out.trans (below_drewN_ _ _ nq))
  have KM2 := Lib.hid (KM1.out.drewN nq)
  generalize w1.drewN nq = w2 at *
  clear c0 c3 NM
  go_wp2
  go_loopg [6, 7, 8, 9, 10] n (fun q c6 c7 c8 c9 c10 wr => ∃ i : Nat, i ≤ n ∧ q = n - i ∧ c6 = .int .i64 i ∧ Below w2.heap.size w2 wr)
  case atStart => exact ⟨0, by omega, by omega, rfl, Below.refl _ _⟩
  case round =>
    obtain ⟨i, hi, hq, rfl, hb⟩ := hrel
    have BB := Lib.hid hb
    have GG := Lib.hid hq
    by_cases hin : i < n
    · have hin' : (i : Int) < (n : Int) := by omega
      have hi0 : (0 : Int) ≤ (i : Int) := by omega
      have hir : i < rs.length := by have := NN.out; omega
      obtain ⟨gR, rfl, ⟨cur, hgc, -⟩, e0, -, -⟩ := row_at OO2.out i hir
      obtain ⟨A', c', hv, -, -, h0 | ⟨g, o, rfl, hgl, hcl⟩⟩ := RD2.out
      · omega
      injection hv with hP h2 h3
      subst hP
      clear h2 h3
      have hcell := hcl i _ (NG.out i hir)
      obtain ⟨nm, hnm⟩ : ∃ nm, nm = rs[i].nm := ⟨_, rfl⟩
      rw [← hnm] at e0 hcell
      have gl := block_lt_of_cell hcell
      have C2 := Lib.hid (show ∀ u, Below w2.heap.size w2 u → u.cell? ⟨g, o + i, none⟩ = some (.string nm) from fun u hu => (hu.cell gl).trans hcell)
      have E2 := Lib.hid (show ∀ u, Below w2.heap.size w2 u → u.cell? ⟨gR, i * 3, none⟩ = some (.string nm) from fun u hu => (hu.cell (p := ⟨gR, i * 3, none⟩) hgc.lt).trans e0)
      have C0 := Lib.hid (show ∀ u, Below w2.heap.size w2 u → u.cell? ⟨m, 0, none⟩ = some (.slice (some ⟨gR, 0, none⟩) n cR) from fun u hu => (hu.cell (p := ⟨m, 0, none⟩) KM2.out.lt).trans (by rw [KM2.out.cell]; rfl))
      have hnn : (nm != nm) = false := by
        have : (nm == nm) = true := (MapKept.bytes_beq nm nm).2 rfl
        simp [bne, this]
      have HDr := Lib.hid (HD2.out.below hb)
      have HRr := Lib.hid (HR2.out.below hb)
      obtain ⟨rx, re, hrs⟩ : ∃ rx re, readM b nm = (rx, re) := ⟨_, _, rfl⟩
      have RA := Lib.hid ((HA.out.read nm).trans hrs)
      have RB := Lib.hid hrs
      have RL := Lib.hid (show rx.length ≤ 1048576 from by have := readM_len HDr.out nm; rw [RA.out] at this; exact this)
      have cs := C2.out _ hb
      have hw1 : IntKind.i64.wrap ((i : Int) + 1) = (i : Int) + 1 := IntWalk.i64_in _ (by have := N16.out; omega)
      clear hq hb hgc e0 hcl hcell gl hnm hgl hrs hir
      have DR := mread nm d _ _ _ HDr.out
      rw [RA.out] at DR
      go_wp2_with fail
      refine DR.mono ?_
      rintro e w3 ⟨P3, rfl, o3, b3⟩
      have O3 := Lib.hid o3.bs
      have B3 := Lib.hid (BB.out.trans (b3.mono BB.out.size))
      have HR3 := Lib.hid (HRr.out.below b3)
      have cs3 := C2.out _ B3.out
      clear DR o3 b3 cs
      have RR := mread_ref nm m _ _ _ HR3.out
      rw [RB.out] at RR
      go_wp2_with fail
      refine RR.mono ?_
      rintro e w4 ⟨u4, rfl, o4, b4⟩
      obtain ⟨A4, c4, rfl, -⟩ := id o4.clip
      have O4 := Lib.hid o4.bs
      have O3' := Lib.hid (O3.out.below b4)
      have B4 := Lib.hid (B3.out.trans (b4.mono B3.out.size))
      have cs4 := C2.out _ B4.out
      have e4 := E2.out _ B4.out
      have c4 := C0.out _ B4.out
      have SB := Lib.hid (fun q => sameb_any rx rx _ _ (w4.drewN q) (O3'.out.below (below_drewN_ _ _ q)) (O4.out.below (below_drewN_ _ _ q)) (by have := RL.out; omega))
      rw [show decide (rx = rx) = true from decide_eq_true rfl] at SB
      clear RR o4 b4 cs3
      obtain ⟨L, hL⟩ : ∃ L, L = rx.length := ⟨_, rfl⟩
      rw [← hL] at SB ⊢
      clear hL
      go_upto_region 9 with fail
      go_quiet ((go_at_call 26; exact quiet_more_ (SB.out _)))
      go_wp2
      go_roundg (n - (i + 1))
      case measure => have := GG.out; omega
      case rel => exact ⟨i + 1, by omega, rfl, by simp, B4.out.trans (below_drewN_ _ _ _)⟩
    · obtain rfl : i = n := by omega
      have hw1 : ¬ (i : Int) < (i : Int) := by omega
      clear hq hb
      go_wp2
      go_ret
      exact ⟨rfl, B2.out.trans (BB.out.mono B2.out.size)⟩
end Go.Proofs.Ytenobcfgapolhaa
