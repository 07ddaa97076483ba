import Derived.Test.YtoiclicechfmgaaGreatDoorMemB
import Derived.Test.YtoiclicechfmgaaGreatDoorRpz
import Derived.Test.YtoiclicechfmgaaGreatDoorRme
import Derived.RegionTactic
import Derived.BigRegion
import Derived.Test.YtoiclicechfmgaaGreatDoorDsz
/- Lists, one more of each. -/
namespace Go.Proofs.YtoiclicechfmgaaGreatDoor
open Go.RowKit

theorem take_snoc_same {α : Type} (xs ys : List α) (k : Nat) (hx : k < xs.length) (hy : k < ys.length) (h : xs.take k = ys.take k) (he : xs[k] = ys[k]) : xs.take (k + 1) = ys.take (k + 1) := by
  rw [List.take_succ_eq_append_getElem hx, List.take_succ_eq_append_getElem hy, h, he]
end Go.Proofs.YtoiclicechfmgaaGreatDoor

/- law01: whether two lists of bytes are the same. -/
namespace Go.Proofs.YtoiclicechfmgaaGreatDoor
open Go.RowKit

theorem Bs.old {w : World} {v : Value} {xs : List Int} (h : Bs w v xs) : ∃ A c, v = .slice A xs.length c ∧ xs.length ≤ c ∧ (xs = [] ∨ ∃ g o, A = some ⟨g, o, none⟩ ∧ ∀ j (h : j < xs.length), w.cell? ⟨g, o + j, none⟩ = some (.int .u8 xs[j])) := by
  obtain ⟨A, c, rfl, hc, hl, h0 | ⟨g, o, rfl, hg, hh⟩⟩ := h
  · exact ⟨A, c, rfl, hc, .inl (List.eq_nil_of_length_eq_zero h0)⟩
  · exact ⟨_, c, rfl, hc, .inr ⟨g, o, rfl, fun j hj => hh j _ (by simp [bc, hj])⟩⟩

set_option maxHeartbeats 2000000 in
theorem same_bytes (xs ys : List Int) (v u : Value) (w : World) (hv : Bs w v xs) (hu : Bs w u ys) (hb : xs.length ≤ 4611686018427387904) :
    Calls Tryz.prog 56 #[v, u] w fun e w' => e = .returned (.bool (decide (xs = ys))) ∧ ∃ m, w' = w.drewN m := by
  obtain ⟨A, c, rfl, hc, hA⟩ := hv.old
  obtain ⟨B, d, rfl, hd, hB⟩ := hu.old
  clear hv hu
  by_cases hl : xs.length = ys.length
  · by_cases h0 : xs = []
    · subst h0
      have hy : ys = [] := List.eq_nil_of_length_eq_zero (by simpa using hl.symm)
      subst hy
      clear hA hB
      go_enter Tryz.func56, Tryz.ntmps56
      go_wp2
      refine wp_loop_rounds 1 ?_
      rw [rounds_succ]
      go_wp2
      go_ret
      exact ⟨by simp, 0, rfl⟩
    · rcases hA with h | ⟨g, o, rfl, hcell⟩
      · exact absurd h h0
      rcases hB with rfl | ⟨g', o', rfl, hcell'⟩
      · exact absurd (List.eq_nil_of_length_eq_zero (by simpa using hl)) h0
      obtain ⟨n, hn⟩ : ∃ n, n = xs.length := ⟨_, rfl⟩
      have hn' : n = ys.length := hn.trans hl
      have HN := Lib.hid hn
      have HN' := Lib.hid hn'
      have hb' : (n : Int) ≤ 4611686018427387904 := by omega
      have HC := Lib.hid hcell
      have HC' := Lib.hid hcell'
      rw [← hn, ← hn']
      have hcn : n ≤ c := by omega
      have hdn : n ≤ d := by omega
      clear hcell hcell' hn hn' hl h0 hc hd hb
      go_enter Tryz.func56, Tryz.ntmps56
      go_wp2
      go_loopw [5] (fun i wr => ∃ k m : Nat, k ≤ n ∧ i = .int .i64 k ∧ wr = w.drewN m ∧ xs.take k = ys.take k) (fun i _ => n - (intOf i).toNat)
      case atStart => exact ⟨0, 0, Nat.zero_le _, rfl, rfl, rfl⟩
      case round =>
        obtain ⟨k, m, hk, rfl, rfl, ht⟩ := hrel
        have HT := Lib.hid ht
        clear ht
        by_cases hkn : k < n
        · have hx : k < xs.length := by have := HN.out; omega
          have hy : k < ys.length := by have := HN'.out; omega
          have c1 := HC.out k hx
          have d1 := HC'.out k hy
          obtain ⟨p, hp⟩ : ∃ p, p = xs[k] := ⟨_, rfl⟩
          obtain ⟨q, hq⟩ : ∃ q, q = ys[k] := ⟨_, rfl⟩
          rw [← hp] at c1
          rw [← hq] at d1
          have HP := Lib.hid hp
          have HQ := Lib.hid hq
          clear hp hq
          by_cases hpq : p = q
          · subst hpq
            go_wp2_with fail
            go_quiet (fail)
            go_wp2
            exact ⟨⟨k + 1, _, by omega, by go_num, rfl, take_snoc_same xs ys k hx hy HT.out (by rw [← HP.out, ← HQ.out])⟩, by simp [intOf]; omega⟩
          · have hne : (p != q) = true := by simpa using hpq
            go_wp2_with fail
            go_quiet (fail)
            go_wp2
            go_ret
            refine ⟨?_, _, World.drewN_drewN _ _ _⟩
            have : ¬ xs = ys := fun e => by
              have h1 : xs[k] = ys[k] := by subst e; rfl
              rw [← HP.out, ← HQ.out] at h1
              exact hpq h1
            rw [decide_eq_false this]; rfl
        · obtain rfl : k = n := by omega
          go_wp2
          go_ret
          refine ⟨?_, _, rfl⟩
          have : xs = ys := by
            have h1 := HT.out
            rw [List.take_of_length_le (by have := HN.out; omega), List.take_of_length_le (by have := HN'.out; omega)] at h1
            exact h1
          rw [decide_eq_true this]; rfl
  · have hl' : ¬ (xs.length : Int) = (ys.length : Int) := by omega
    have hne : ¬ xs = ys := fun e => hl (by rw [e])
    have D := Lib.hid (decide_eq_false hne)
    clear hA hB hne
    go_enter Tryz.func56, Tryz.ntmps56
    go_wp2
    go_ret
    exact ⟨by rw [D.out]; rfl, 0, rfl⟩
theorem sameb_any (xs ys : List Int) (v u : Value) (w : World) (hv : Bs w v xs) (hu : Bs w u ys) (hb : xs.length ≤ 4611686018427387904) :
    Calls Tryz.prog 23 #[v, u] w fun e w' => e = .returned (.bool (decide (xs = ys))) ∧ ∃ m, w' = w.drewN m := by
  have C := Lib.hid (same_bytes xs ys v u w hv hu hb)
  obtain ⟨t, ht⟩ : ∃ t, t = decide (xs = ys) := ⟨_, rfl⟩
  rw [← ht] at C ⊢
  have T := Lib.hid ht
  obtain ⟨A, c, rfl, -⟩ := id hv
  obtain ⟨B, d, rfl, -⟩ := id hu
  clear hv hu ht
  go_enter Tryz.func23, Tryz.ntmps23
  go_wp2_with fail
  refine C.out.mono ?_
  rintro e w1 ⟨rfl, m, rfl⟩
  go_wp2
  go_ret
  exact ⟨rfl, m, rfl⟩
end Go.Proofs.YtoiclicechfmgaaGreatDoor

/- Both disks of any files side by side: Same. -/
namespace Go.Proofs.YtoiclicechfmgaaGreatDoor
open Go.RowKit

theorem quiet_more_ {P : Program} {f : FuncId} {args : Array Value} {w : World} {n : Nat} {v : Value}
    (h : Calls P f args (w.drewN n) fun e w' => e = .returned v ∧ ∃ m, w' = (w.drewN n).drewN m) : Calls P f args (w.drewN n) fun e w'' => e = .returned v ∧ ∃ m, w'' = w.drewN m :=
  h.mono fun _ _ hh => ⟨hh.1, hh.2.elim fun m hm => ⟨n + m, by rw [hm, World.drewN_drewN]⟩⟩
theorem readM_len {w : World} {d : Nat} {s : Mst} {F : List Nat} (h : Md w d s F) (nm : ByteArray) : (readM s nm).1.length ≤ 1048576 := by
  have h1 := h.size_le (nm := nm)
  unfold sizeM at h1
  unfold readM
  split
  · simp
  · cases hg : getM s.fs nm with
    | none => simp
    | some q => rw [hg] at h1; simpa using h1
theorem mdead_at (d : Nat) (s : Mst) (F : List Nat) (b : Bool) (hb : s.dead = b) (w : World) (h : Md w d s F) : Calls Tryz.prog 45 #[.pointer (some ⟨d, 0, none⟩)] w fun e w' => e = .returned (.bool b) ∧ w = w' := by
  subst hb; exact mdead d s F w h

set_option maxHeartbeats 4000000 in
set_option maxRecDepth 100000 in
theorem same_mall {w : World} {d m : Nat} {a b : Mst} {F G : List Nat} (hd : Md w d a F) (hr : RMd w m b G) (ha : Al a b) :
    Calls Tryz.prog 17 #[.pointer (some ⟨d, 0, none⟩), .pointer (some ⟨m, 0, none⟩)] w fun e w' => e = .returned (.bool true) ∧ Below w.heap.size w w' := by
  have NM := Lib.hid (mnames d a F (b.fs.map fun q : ByteArray × List Int × Nat => q.1) w hd ha.names ha.so)
  have HD := Lib.hid hd
  have HR := Lib.hid hr
  have HA := Lib.hid ha
  obtain ⟨AR, cR, rs, hk, hcR, ho, -, hs, -, h16⟩ := hr.rows
  obtain ⟨dd, hdd⟩ : ∃ dd, b.dead = dd := ⟨_, rfl⟩
  have DD := Lib.hid (ha.dead.trans hdd)
  obtain ⟨n, hn⟩ : ∃ n, n = rs.length := ⟨_, rfl⟩
  have hNl : (b.fs.map (·.1)).length = n := by rw [hs, hn]; simp
  have hNg : ∀ i (hi : i < rs.length), ((b.fs.map (·.1)).map Value.string)[i]? = some (.string rs[i].nm) := fun i hi => by
    rw [hs, List.map_map, List.map_map, List.getElem?_map, List.getElem?_eq_getElem hi]
    rfl
  have NG := Lib.hid hNg
  rw [hNl] at NM
  have NN := Lib.hid hn
  have N16 := Lib.hid (show n ≤ 16 from by omega)
  have OO := Lib.hid ho
  rw [← hn] at hk hcR
  have KM := Lib.hid hk
  clear hd hr ha hs hNl hNg ho hn h16 hk
  go_enter Tryz.func17, Tryz.ntmps17
  go_wp2_with fail
  refine NM.out.mono ?_
  rintro e w1 ⟨P, rfl, hrd, b1, -⟩
  have B1 := Lib.hid b1
  have RD1 := Lib.hid hrd
  have km := KM.out.below b1 KM.out.lt
  have HD1 := Lib.hid (HD.out.below b1)
  have HR1 := Lib.hid (HR.out.below b1)
  have OO1 := Lib.hid (OO.out.below b1)
  have KM1 := Lib.hid km
  have c0 := km.cell 0
  have c3 := km.cell 3
  simp only [rmC, List.getElem?_toArray, List.getElem?_cons_zero, List.getElem?_cons_succ] at c0 c3
  rw [hdd] at c3
  clear b1 km hrd
  go_wp2_with fail
  go_quiet ((go_at_call 45; exact quiet_left_ (mdead_at d a F dd DD.out _ (HD1.out.below (below_drewN_ _ _ _)))))
  have HD2 := Lib.hid (HD1.out.below (below_drewN_ _ _ nq))
  have HR2 := Lib.hid (HR1.out.below (below_drewN_ _ _ nq))
  have RD2 := Lib.hid (RD1.out.below (below_drewN_ _ _ nq))
  have OO2 := Lib.hid (OO1.out.below (below_drewN_ _ _ nq))
  have B2 := Lib.hid (B1.out.trans (below_drewN_ _ _ nq))
  have KM2 := Lib.hid (KM1.out.drewN nq)
  generalize w1.drewN nq = w2 at *
  clear c0 c3 NM
  go_wp2
  go_loopg [6, 7, 8, 9, 10] n (fun q c6 c7 c8 c9 c10 wr => ∃ i : Nat, i ≤ n ∧ q = n - i ∧ c6 = .int .i64 i ∧ Below w2.heap.size w2 wr)
  case atStart => exact ⟨0, by omega, by omega, rfl, Below.refl _ _⟩
  case round =>
    obtain ⟨i, hi, hq, rfl, hb⟩ := hrel
    have BB := Lib.hid hb
    have GG := Lib.hid hq
    by_cases hin : i < n
    · have hin' : (i : Int) < (n : Int) := by omega
      have hi0 : (0 : Int) ≤ (i : Int) := by omega
      have hir : i < rs.length := by have := NN.out; omega
      obtain ⟨gR, rfl, ⟨cur, hgc, -⟩, e0, -, -⟩ := row_at OO2.out i hir
      obtain ⟨A', c', hv, -, -, h0 | ⟨g, o, rfl, hgl, hcl⟩⟩ := RD2.out
      · omega
      injection hv with hP h2 h3
      subst hP
      clear h2 h3
      have hcell := hcl i _ (NG.out i hir)
      obtain ⟨nm, hnm⟩ : ∃ nm, nm = rs[i].nm := ⟨_, rfl⟩
      rw [← hnm] at e0 hcell
      have gl := block_lt_of_cell hcell
      have C2 := Lib.hid (show ∀ u, Below w2.heap.size w2 u → u.cell? ⟨g, o + i, none⟩ = some (.string nm) from fun u hu => (hu.cell gl).trans hcell)
      have E2 := Lib.hid (show ∀ u, Below w2.heap.size w2 u → u.cell? ⟨gR, i * 3, none⟩ = some (.string nm) from fun u hu => (hu.cell (p := ⟨gR, i * 3, none⟩) hgc.lt).trans e0)
      have C0 := Lib.hid (show ∀ u, Below w2.heap.size w2 u → u.cell? ⟨m, 0, none⟩ = some (.slice (some ⟨gR, 0, none⟩) n cR) from fun u hu => (hu.cell (p := ⟨m, 0, none⟩) KM2.out.lt).trans (by rw [KM2.out.cell]; rfl))
      have hnn : (nm != nm) = false := by
        have : (nm == nm) = true := (MapKept.bytes_beq nm nm).2 rfl
        simp [bne, this]
      have HDr := Lib.hid (HD2.out.below hb)
      have HRr := Lib.hid (HR2.out.below hb)
      obtain ⟨rx, re, hrs⟩ : ∃ rx re, readM b nm = (rx, re) := ⟨_, _, rfl⟩
      have RA := Lib.hid ((HA.out.read nm).trans hrs)
      have RB := Lib.hid hrs
      have RL := Lib.hid (show rx.length ≤ 1048576 from by have := readM_len HDr.out nm; rw [RA.out] at this; exact this)
      have cs := C2.out _ hb
      have hw1 : IntKind.i64.wrap ((i : Int) + 1) = (i : Int) + 1 := IntWalk.i64_in _ (by have := N16.out; omega)
      clear hq hb hgc e0 hcl hcell gl hnm hgl hrs hir
      have DR := mread nm d _ _ _ HDr.out
      rw [RA.out] at DR
      go_wp2_with fail
      refine DR.mono ?_
      rintro e w3 ⟨P3, rfl, o3, b3⟩
      have O3 := Lib.hid o3.bs
      have B3 := Lib.hid (BB.out.trans (b3.mono BB.out.size))
      have HR3 := Lib.hid (HRr.out.below b3)
      have cs3 := C2.out _ B3.out
      clear DR o3 b3 cs
      have RR := mread_ref nm m _ _ _ HR3.out
      rw [RB.out] at RR
      go_wp2_with fail
      refine RR.mono ?_
      rintro e w4 ⟨u4, rfl, o4, b4⟩
      obtain ⟨A4, c4, rfl, -⟩ := id o4.clip
      have O4 := Lib.hid o4.bs
      have O3' := Lib.hid (O3.out.below b4)
      have B4 := Lib.hid (B3.out.trans (b4.mono B3.out.size))
      have cs4 := C2.out _ B4.out
      have e4 := E2.out _ B4.out
      have c4 := C0.out _ B4.out
      have SB := Lib.hid (fun q => sameb_any rx rx _ _ (w4.drewN q) (O3'.out.below (below_drewN_ _ _ q)) (O4.out.below (below_drewN_ _ _ q)) (by have := RL.out; omega))
      rw [show decide (rx = rx) = true from decide_eq_true rfl] at SB
      clear RR o4 b4 cs3
      obtain ⟨L, hL⟩ : ∃ L, L = rx.length := ⟨_, rfl⟩
      rw [← hL] at SB ⊢
      clear hL
      go_upto_region 9 with fail
      go_quiet ((go_at_call 23; exact quiet_more_ (SB.out _)))
      go_wp2
      go_roundg (n - (i + 1))
      case measure => have := GG.out; omega
      case rel => exact ⟨i + 1, by omega, rfl, by simp, B4.out.trans (below_drewN_ _ _ _)⟩
    · obtain rfl : i = n := by omega
      have hw1 : ¬ (i : Int) < (i : Int) := by omega
      clear hq hb
      go_wp2
      go_ret
      exact ⟨rfl, B2.out.trans (BB.out.mono B2.out.size)⟩
end Go.Proofs.YtoiclicechfmgaaGreatDoor

/- Any number of things side by side, each in blocks of its own. -/
namespace Go.Proofs.YtoiclicechfmgaaGreatDoor
open Go.RowKit

/-- A thing that lies in blocks, and stays while these do. -/
structure Ob where
  p : World → List Nat → Prop
  lt : ∀ {w F}, p w F → ∀ k ∈ F, k < w.heap.size
  kp : ∀ {w w' F G}, p w F → Kp w G w' → (∀ i ∈ F, i ∉ G) → p w' F
/-- These things, apart from each other, in the blocks of F. -/
def Obs (w : World) : List Ob → List Nat → Prop
  | [], F => F = []
  | o :: os, F => ∃ F1 F2, o.p w F1 ∧ Obs w os F2 ∧ (∀ k ∈ F1, k ∉ F2) ∧ F = F1 ++ F2
section
variable {w w' : World} {o o' : Ob} {os os' : List Ob} {F G : List Nat}
theorem Obs.lt : ∀ {os : List Ob} {F : List Nat}, Obs w os F → ∀ k ∈ F, k < w.heap.size
  | [], _, h => by unfold Obs at h; subst h; simp
  | o :: os, _, h => by
    obtain ⟨F1, F2, h1, h2, -, rfl⟩ := h
    intro k hk
    rcases List.mem_append.1 hk with hk | hk
    · exact o.lt h1 k hk
    · exact Obs.lt h2 k hk
theorem Obs.kp : ∀ {os : List Ob} {F : List Nat}, Obs w os F → Kp w G w' → (∀ i ∈ F, i ∉ G) → Obs w' os F
  | [], _, h, _, _ => h
  | o :: os, _, h, k, hG => by
    obtain ⟨F1, F2, h1, h2, h3, rfl⟩ := h
    exact ⟨F1, F2, o.kp h1 k fun i hi => hG i (by simp [hi]), Obs.kp h2 k fun i hi => hG i (by simp [hi]), h3, rfl⟩
theorem Obs.perm (hp : os.Perm os') : ∀ {F : List Nat}, Obs w os F → ∃ F', Obs w os' F' ∧ ∀ k, k ∈ F' ↔ k ∈ F := by
  induction hp with
  | nil => exact fun h => ⟨_, h, fun _ => Iff.rfl⟩
  | cons o hp ih =>
    rintro F ⟨F1, F2, h1, h2, h3, rfl⟩
    obtain ⟨F', h2', hF⟩ := ih h2
    exact ⟨F1 ++ F', ⟨F1, F', h1, h2', fun k hk hk' => h3 k hk ((hF k).1 hk'), rfl⟩, fun k => by simp [hF]⟩
  | swap a b l =>
    rintro F ⟨F1, F2, h1, ⟨F3, F4, h4, h5, h6, rfl⟩, h3, rfl⟩
    refine ⟨F3 ++ (F1 ++ F4), ⟨F3, F1 ++ F4, h4, ⟨F1, F4, h1, h5, fun k hk hk' => h3 k hk (by simp [hk']), rfl⟩, fun k hk hk' => ?_, rfl⟩, fun k => by simp; grind⟩
    rcases List.mem_append.1 hk' with hk' | hk'
    · exact h3 k hk' (by simp [hk])
    · exact h6 k hk hk'
  | trans _ _ ih1 ih2 =>
    intro F h
    obtain ⟨F1, h1, e1⟩ := ih1 h
    obtain ⟨F2, h2, e2⟩ := ih2 h1
    exact ⟨F2, h2, fun k => (e2 k).trans (e1 k)⟩
theorem Obs.get : ∀ {os : List Ob} {F : List Nat}, Obs w os F → o ∈ os → ∃ F1, o.p w F1 ∧ ∀ k ∈ F1, k ∈ F
  | _ :: os, _, h, hm => by
    obtain ⟨F1, F2, h1, h2, -, rfl⟩ := h
    rcases List.mem_cons.1 hm with rfl | hm
    · exact ⟨F1, h1, fun k hk => by simp [hk]⟩
    · obtain ⟨F3, h3, h4⟩ := Obs.get h2 hm
      exact ⟨F3, h3, fun k hk => by simp [h4 k hk]⟩
end

/-- What a doing of one thing does: it is another one then, in the same blocks or in new ones; nothing else has turned. -/
structure ObTo (w : World) (F : List Nat) (o : Ob) (w' : World) : Prop where
  ex : ∃ F', o.p w' F' ∧ ∀ k ∈ F', k ∈ F ∨ w.heap.size ≤ k
  kp : Kp w F w'
/-- All these things lie from B on; below B nothing has turned since W. -/
structure Sy (B : Nat) (W w : World) (os : List Ob) : Prop where
  ex : ∃ F, Obs w os F ∧ ∀ k ∈ F, B ≤ k
  bel : Below B W w
  le : B ≤ w.heap.size
section
variable {B : Nat} {W w w' : World} {o o' : Ob} {os os' : List Ob} {F : List Nat}
theorem Sy.start (w : World) : Sy w.heap.size w w [] := ⟨⟨[], rfl, by simp⟩, Below.refl _ _, Nat.le_refl _⟩
theorem Sy.below (h : Sy B W w os) (hb : Below w.heap.size w w') : Sy B W w' os := by
  obtain ⟨⟨F, h1, h2⟩, h3, h4⟩ := h
  exact ⟨⟨F, h1.kp (Kp.of_below hb []) (by simp), h2⟩, h3.trans (hb.mono h4), Nat.le_trans h4 hb.size⟩
theorem Sy.perm (h : Sy B W w os) (hp : os.Perm os') : Sy B W w os' := by
  obtain ⟨⟨F, h1, h2⟩, h3, h4⟩ := h
  obtain ⟨F', h1', hF⟩ := h1.perm hp
  exact ⟨⟨F', h1', fun k hk => h2 k ((hF k).1 hk)⟩, h3, h4⟩
theorem Sy.drop_ (h : Sy B W w (o :: os)) : Sy B W w os := by
  obtain ⟨⟨F, ⟨F1, F2, h1, h2, h5, rfl⟩, h6⟩, h3, h4⟩ := h
  exact ⟨⟨F2, h2, fun k hk => h6 k (by simp [hk])⟩, h3, h4⟩
theorem Sy.get (h : Sy B W w os) (hm : o ∈ os) : ∃ F, o.p w F ∧ ∀ k ∈ F, B ≤ k := by
  obtain ⟨⟨F, h1, h2⟩, h3, h4⟩ := h
  obtain ⟨F1, h5, h6⟩ := h1.get hm
  exact ⟨F1, h5, fun k hk => h2 k (h6 k hk)⟩
/-- The first thing does something. -/
theorem Sy.take_ (h : Sy B W w (o :: os)) : ∃ F, o.p w F ∧ (∀ k ∈ F, B ≤ k) ∧ ∀ {w' : World} {o' : Ob}, ObTo w F o' w' → Sy B W w' (o' :: os) := by
  obtain ⟨⟨F, ⟨F1, F2, h1, h2, h5, rfl⟩, h6⟩, h3, h4⟩ := h
  refine ⟨F1, h1, fun k hk => h6 k (by simp [hk]), ?_⟩
  rintro w' o' ⟨⟨F', h7, h8⟩, hk⟩
  have hin : ∀ k ∈ F', k ∉ F2 := fun k hk hk2 => by
    rcases h8 k hk with h | h
    · exact h5 k h hk2
    · have := h2.lt k hk2; omega
  refine ⟨⟨F' ++ F2, ⟨F', F2, h7, h2.kp hk (fun i hi hi' => h5 i hi' hi), hin, rfl⟩, fun k hk => ?_⟩, h3.trans (hk.to_below (fun k hk => h6 k (by simp [hk])) h4), Nat.le_trans h4 hk.size⟩
  rcases List.mem_append.1 hk with hk | hk
  · rcases h8 k hk with h | h
    · exact h6 k (by simp [h])
    · omega
  · exact h6 k (by simp [hk])
/-- A thing is laid beside. -/
theorem Sy.put (h : Sy B W w os) (hb : Below w.heap.size w w') (ho : o.p w' F) (hF : ∀ k ∈ F, w.heap.size ≤ k) : Sy B W w' (o :: os) := by
  have h' := h.below hb
  obtain ⟨⟨G, h1, h2⟩, h3, h4⟩ := h
  obtain ⟨⟨G', h1', h2'⟩, h3', h4'⟩ := h'
  have hG : Obs w' os G := h1.kp (Kp.of_below hb []) (by simp)
  refine ⟨⟨F ++ G, ⟨F, G, ho, hG, fun k hk hk' => ?_, rfl⟩, fun k hk => ?_⟩, h3', h4'⟩
  · have := hF k hk; have := h1.lt k hk'; omega
  · rcases List.mem_append.1 hk with hk | hk
    · have := hF k hk; omega
    · exact h2 k hk
/-- A doing of the first thing. -/
theorem Sy.doing {P : Program} {f : FuncId} {args : Array Value} {e0 : Value} (h : Sy B W w (o :: os))
    (hc : ∀ F, o.p w F → Calls P f args w fun e w' => e = .returned e0 ∧ ObTo w F o' w') : Calls P f args w fun e w' => e = .returned e0 ∧ Sy B W w' (o' :: os) ∧ w.heap.size ≤ w'.heap.size := by
  obtain ⟨F, h1, -, h2⟩ := h.take_
  exact (hc F h1).mono fun e w' ⟨he, t⟩ => ⟨he, h2 t, t.kp.size⟩
theorem Sy.rd (h : Sy B W w os) (hBW : B = W.heap.size) {n k : Nat} {v : Value} {xs : List Value} (hv : Rd W n v k xs) : Rd w n v k xs := hv.below (hBW ▸ h.bel)
end

/-- A block known whole. -/
def blO (g : Nat) (t : TypeId) (cs : Array Value) : Ob := ⟨fun w F => Blk w g t cs ∧ F = [g], fun h k hk => by obtain ⟨h, rfl⟩ := h; simp at hk; subst hk; exact h.lt, fun h k hG => ⟨k.blk h.1 (hG g (by rw [h.2]; simp)), h.2⟩⟩
/-- A slice in a block of its own. -/
def owO (e : TypeId) (size : Nat) (v : Value) (n : Nat) (xs : List Value) : Ob := ⟨fun w F => Ow 0 w e size v n xs ∧ F = v.ownBlock.toList, fun h k hk => by
  obtain ⟨h, rfl⟩ := h
  rcases h with ⟨rfl, _⟩ | ⟨g, c, cur, rfl, _, hg, _⟩
  · simp [Value.ownBlock] at hk
  · simp [Value.ownBlock] at hk; subst hk; exact hg.lt, fun h k hG => ⟨k.ow h.1 (fun i hi => hG i (by rw [h.2]; simp [hi])), h.2⟩⟩
section
variable {B : Nat} {W w w' : World} {os : List Ob}
theorem Sy.alloc (h : Sy B W w os) (t : TypeId) (cs : Array Value) : Sy B W (w.alloc (.cells cs t)) (blO w.heap.size t cs :: os) :=
  h.put (below_alloc_ _ _) ⟨Blk.new _ _ _, rfl⟩ (by simp)
theorem Sy.blk {g : Nat} {t : TypeId} {cs : Array Value} (h : Sy B W w os) (hm : blO g t cs ∈ os) : Blk w g t cs := by
  obtain ⟨F, h1, -⟩ := h.get hm; exact h1.1
theorem Sy.set_ {g : Nat} {t : TypeId} {cs : Array Value} (h : Sy B W w (blO g t cs :: os)) (i : Nat) (v : Value) : Sy B W (w.setCell ⟨g, i, none⟩ v) (blO g t (cs.setIfInBounds i v) :: os) := by
  obtain ⟨F, h1, -, h2⟩ := h.take_
  obtain ⟨hb, rfl⟩ := h1
  exact h2 ⟨⟨[g], ⟨hb.set_ i v, rfl⟩, fun k hk => .inl hk⟩, (Kp.refl _ _).setCell (.inl (by simp)) _⟩
theorem Sy.drewN (h : Sy B W w os) (n : Nat) : Sy B W (w.drewN n) os := h.below (below_drewN_ _ _ _)
theorem Sy.ow {e : TypeId} {size n : Nat} {v : Value} {xs : List Value} (h : Sy B W w os) (hm : owO e size v n xs ∈ os) : Ow 0 w e size v n xs := by
  obtain ⟨F, h1, -⟩ := h.get hm; exact h1.1
theorem Ow.at0 {e : TypeId} {B0 size n : Nat} {v : Value} {xs : List Value} (h : Ow B0 w e size v n xs) : Ow 0 w e size v n xs := h.le (Nat.zero_le _)
end
end Go.Proofs.YtoiclicechfmgaaGreatDoor

/- Disks and the document's disks among other things. -/
namespace Go.Proofs.YtoiclicechfmgaaGreatDoor
open Go.RowKit

def mdO (d : Nat) (s : Mst) : Ob := ⟨fun w F => Md w d s F, fun h => h.lt, fun h k hG => h.kp k hG⟩
def rmO (m : Nat) (s : Mst) : Ob := ⟨fun w F => RMd w m s F, fun h => h.lt, fun h k hG => h.kp k hG⟩
section
variable {B : Nat} {W w w' : World} {d m : Nat} {s a b : Mst} {F : List Nat} {o o1 o2 o3 : Ob} {os : List Ob}
theorem MdTo.ob (t : MdTo w F d s w') : ObTo w F (mdO d s) w' := ⟨t.ex, t.kp⟩
theorem RMTo.ob (t : RMTo w F m s w') : ObTo w F (rmO m s) w' := ⟨t.ex, t.kp⟩
theorem Sy.sw2 (h : Sy B W w (o :: o1 :: os)) : Sy B W w (o1 :: o :: os) := h.perm (List.Perm.swap _ _ _)
theorem Sy.sw3 (h : Sy B W w (o :: o1 :: o2 :: os)) : Sy B W w (o2 :: o :: o1 :: os) := h.perm (((List.Perm.swap _ _ _).cons _).trans (List.Perm.swap _ _ _))
theorem Sy.sw4 (h : Sy B W w (o :: o1 :: o2 :: o3 :: os)) : Sy B W w (o3 :: o :: o1 :: o2 :: os) := h.perm (((((List.Perm.swap _ _ _).cons _).trans (List.Perm.swap _ _ _)).cons _).trans (List.Perm.swap _ _ _))
theorem Sy.md (h : Sy B W w os) (hm : mdO d s ∈ os) : ∃ F, Md w d s F := by obtain ⟨F, h1, -⟩ := h.get hm; exact ⟨F, h1⟩
theorem Sy.rmd (h : Sy B W w os) (hm : rmO m s ∈ os) : ∃ F, RMd w m s F := by obtain ⟨F, h1, -⟩ := h.get hm; exact ⟨F, h1⟩

theorem doesM_alive {nm : ByteArray} {size : Int} {made : Bool} {eff : List Int × Nat → Option (List Int × Nat)} (h1 : s.fuse = -1) (h2 : s.dead = false) :
    (doesM s nm size made eff).1.fuse = -1 ∧ (doesM s nm size made eff).1.dead = false := by
  have hb : burnM s = (s, 0) := by unfold burnM; rw [h1]; rfl
  unfold doesM
  split
  · exact ⟨h1, h2⟩
  split
  · exact ⟨h1, h2⟩
  split
  · exact ⟨h1, h2⟩
  split
  · rename_i h; rw [h1] at h; cases h
  · rw [hb]; exact ⟨h1, h2⟩

/-- Add of both. -/
theorem sd_add (ha : Al a b) (nm : ByteArray) (bs : List Int) (hby : ∀ c ∈ bs, byt c) (hl : bs.length ≤ 1000000) (h1 : a.fuse = -1) (h2 : a.dead = false) : ∃ rr a' b', Al a' b' ∧ a'.fuse = -1 ∧ a'.dead = false ∧
    (∀ (B : Nat) (W u : World) (os : List Ob) (bv : Value), Sy B W u (mdO d a :: os) → Bs u bv bs → Calls Tryz.prog 14 #[.pointer (some ⟨d, 0, none⟩), .string nm, bv] u fun e w' => e = .returned (.int .i64 rr) ∧ Sy B W w' (mdO d a' :: os) ∧ u.heap.size ≤ w'.heap.size) ∧
    (∀ (B : Nat) (W u : World) (os : List Ob) (bv : Value), Sy B W u (rmO m b :: os) → Bs u bv bs → Calls Tryz.prog 15 #[.pointer (some ⟨m, 0, none⟩), .string nm, bv] u fun e w' => e = .returned (.int .i64 rr) ∧ Sy B W w' (rmO m b' :: os) ∧ u.heap.size ≤ w'.heap.size) := by
  obtain ⟨e1, e2⟩ := ha.does nm ((sizeM b nm : Nat) + (bs.length : Nat) : Int) true (fun q => some (q.1 ++ bs, q.2))
  obtain ⟨e3, e4⟩ := doesM_alive (nm := nm) (size := ((sizeM b nm : Nat) + (bs.length : Nat) : Int)) (made := true) (eff := fun q => some (q.1 ++ bs, q.2)) h1 h2
  refine ⟨(doesL b nm ((sizeM b nm : Nat) + (bs.length : Nat) : Int) true (fun q => some (q.1 ++ bs, q.2))).2, _, _, e2, e3, e4, fun B W u os bv h hb => ?_, fun B W u os bv h hb => ?_⟩
  · refine h.doing fun F hm => ?_
    rw [← e1, ← ha.size]
    exact (madd nm d a F bv bs hby (by omega) u hm hb).mono fun _ _ ⟨he, t⟩ => ⟨he, t.ob⟩
  · refine h.doing fun F hm => ?_
    exact (madd_ref nm m b F bv bs u hm hb hby (by omega)).mono fun _ _ ⟨he, t⟩ => ⟨he, t.ob⟩
/-- A lift without a loss. -/
theorem sd_lift (ha : Al a b) : ∃ a' b', Al a' b' ∧ a'.fuse = -1 ∧ a'.dead = false ∧
    (∀ (B : Nat) (W u : World) (os : List Ob), Sy B W u (mdO d a :: os) → Calls Tryz.prog 18 #[.pointer (some ⟨d, 0, none⟩), .slice none 0 0] u fun e w' => e = .returned (.tuple #[]) ∧ Sy B W w' (mdO d a' :: os) ∧ u.heap.size ≤ w'.heap.size) ∧
    (∀ (B : Nat) (W u : World) (os : List Ob), Sy B W u (rmO m b :: os) → Calls Tryz.prog 19 #[.pointer (some ⟨m, 0, none⟩), .slice none 0 0] u fun e w' => e = .returned (.tuple #[]) ∧ Sy B W w' (rmO m b' :: os) ∧ u.heap.size ≤ w'.heap.size) := by
  have hr : ∀ u : World, Rd u 1 (.slice none 0 0) ([] : List Int).length (losC []) := fun u => ⟨none, 0, rfl, Nat.le_refl _, by simp [losC], .inl rfl⟩
  refine ⟨_, _, ha.lift [], rfl, rfl, fun B W u os h => ?_, fun B W u os h => ?_⟩
  · refine h.doing fun F hm => ?_
    exact (mlift d a F (b.fs.map fun q : ByteArray × List Int × Nat => q.1) (.slice none 0 0) [] u hm ha.names ha.so (hr u) (by simp) (.inl rfl)).mono fun _ _ ⟨he, t⟩ => ⟨he, t.ob⟩
  · refine h.doing fun F hm => ?_
    exact (mlift_ref m b F (.slice none 0 0) [] u hm (hr u) (by simp) (.inl rfl)).mono fun _ _ ⟨he, t⟩ => ⟨he, t.ob⟩
end
end Go.Proofs.YtoiclicechfmgaaGreatDoor
