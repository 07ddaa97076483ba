/- A disk of one file at most: Lift. -/
import Derived.Test.YtoiclicechfmgaaGreatDoorZaz
import Derived.Test.YtoiclicechfmgaaGreatDoorDbz
import Derived.RegionTactic
import Derived.BigRegion
namespace Go.Proofs.YtoiclicechfmgaaGreatDoor
open Go.RowKit

def lossC (ls : List Int) : List Value := ls.map (.int .i64 ·)
/-- How much of the first file is left beyond what is sure. -/
def lossAt (ls : List Int) : Int := max 0 (ls.headD 0)
def liftN (ls : List Int) (q : List Int × Nat) : Nat := q.2 + min (lossAt ls).toNat (q.1.length - q.2)
def liftS (s : Dst) (ls : List Int) : Dst := { file := s.file.map fun q => (q.1.take (liftN ls q), liftN ls q), fuse := -1, dead := false }

theorem bc_take (xs : List Int) (k : Nat) : bc (xs.take k) = (bc xs).take k := by simp [bc, List.map_take]
/-- What is left when a buffer is cut. -/
theorem Bo.cut {w : World} {A : Option Addr} {n c : Nat} {xs : List Int} (h : Bo 0 w (.slice A n c) xs) (k : Nat) (hk : k ≤ n) : Bo 0 w (.slice A k k) (xs.take k) := by
  rcases h with ⟨hv, h0, hx⟩ | ⟨g, c', cur, hv, hB, hg, hc, hl, hs, ht⟩
  · injection hv with h1 h2 h3
    subst h1 h2
    obtain rfl : k = 0 := by omega
    exact .inl ⟨rfl, by simp, by simp [bc]⟩
  · injection hv with h1 h2 h3
    subst h1 h2 h3
    have hlt : (xs.take k).length = k := by simp; omega
    refine .inr ⟨g, k, cur, by rw [hlt], hB, hg, by omega, by rw [bc_len, hlt]; omega, by omega, ?_⟩
    rw [hlt, bc_take, ← ht, List.take_take]
    congr 1
    omega

theorem dthere (d m : Nat) (w : World) (c0 : w.cell? ⟨d, 0, none⟩ = some (.map (some m))) : Calls Tryz.prog 41 #[.pointer (some ⟨d, 0, none⟩)] w fun e w' => e = .returned (.bool true) ∧ w = w' := by
  have qm := fun (w : World) (r : Option Nat) => run_neq_map_nil (P := Tryz.prog) w _ _ _ r Tryz.underlying28
  go_enter Tryz.func41, Tryz.ntmps41
  go_wp2
  go_ret
  exact ⟨rfl, rfl⟩

/-- The disk goes again. -/
theorem dk_reset {W : World} {d m : Nat} {nm : ByteArray} {x y : Value} {file : Option (List Int × Nat)} {G : List Nat} (hd : Blk W d 30 #[.map (some m), x, y]) (hf : DkF W m nm file G) (hnd : ∀ k ∈ m :: G, k ≠ d) :
    Dk ((W.setCell ⟨d, 2, none⟩ (.bool false)).setCell ⟨d, 1, none⟩ (.int .i64 (-1))) d nm ⟨file, -1, false⟩ (d :: m :: G) ∧ Kp W [d] ((W.setCell ⟨d, 2, none⟩ (.bool false)).setCell ⟨d, 1, none⟩ (.int .i64 (-1))) := by
  have k : Kp W [d] ((W.setCell ⟨d, 2, none⟩ (.bool false)).setCell ⟨d, 1, none⟩ (.int .i64 (-1))) := ((Kp.refl _ _).setCell (.inl (by simp)) _).setCell (.inl (by simp)) _
  refine ⟨⟨⟨m, G, ?_, hf.kp k (by simpa using hnd m (by simp)) (fun i hi => by simpa using hnd i (by simp [hi])), rfl⟩, by simp, by simp⟩, k⟩
  have := (hd.set_ 2 (.bool false)).set_ 1 (.int .i64 (-1))
  simpa using this
theorem dnames_at (nm : ByteArray) (d : Nat) (s : Dst) (F : List Nat) (N : List Value) (hN : namC s nm = N) (w : World) (h : Dk w d nm s F) :
    Calls Tryz.prog 20 #[.pointer (some ⟨d, 0, none⟩)] w fun e w' => ∃ P, e = .returned (.slice P N.length N.length) ∧ Rd w' 1 (.slice P N.length N.length) N.length N ∧ Below w.heap.size w w' := by
  subst hN; exact dnames nm d s F w h
theorem dname1 (nm : ByteArray) (d : Nat) (q : List Int × Nat) (fu : Int) (dead : Bool) (F : List Nat) (w : World) (h : Dk w d nm ⟨some q, fu, dead⟩ F) :
    Calls Tryz.prog 20 #[.pointer (some ⟨d, 0, none⟩)] w fun e w' => ∃ g o, e = .returned (.slice (some ⟨g, o, none⟩) 1 1) ∧ w'.cell? ⟨g, o, none⟩ = some (.string nm) ∧ Below w.heap.size w w' := by
  refine (dnames_at nm d _ _ [.string nm] rfl _ h).mono ?_
  rintro e w' ⟨P, rfl, hr, hb⟩
  obtain ⟨A1, c1, hA1, -, -, h0 | ⟨g1, o1, rfl, hg1, hcell⟩⟩ := hr
  · simp at h0
  · injection hA1 with hA1 _ _
    subst hA1
    exact ⟨g1, o1, rfl, by have := hcell 0 _ rfl; rwa [Nat.add_zero] at this, hb⟩

set_option maxRecDepth 100000 in
set_option maxHeartbeats 4000000 in
theorem dlift_none (nm : ByteArray) (d : Nat) (fu : Int) (dead : Bool) (F : List Nat) (lv : Value) (ls : List Int) (w : World) (h : Dk w d nm ⟨none, fu, dead⟩ F) :
    Calls Tryz.prog 18 #[.pointer (some ⟨d, 0, none⟩), lv] w fun e w' => e = .returned (.tuple #[]) ∧ DkTo w F d nm (liftS ⟨none, fu, dead⟩ ls) w' := by
  have H := Lib.hid h
  have hnd := h.apart
  obtain ⟨⟨m, G, hd, hf, rfl⟩, hfu1, hfu2⟩ := h
  have c0 := hd.cell 0
  simp at c0
  have HD := Lib.hid hd
  have HF := Lib.hid hf
  have HN := Lib.hid hnd
  clear hd hf hnd
  go_enter Tryz.func18, Tryz.ntmps18
  go_wp2_with fail
  refine (dthere d m _ c0).mono ?_
  rintro e w1 ⟨rfl, rfl⟩
  go_wp2_with (go_at_call 20; refine (dnames_at nm d _ _ [] rfl _ H.out).mono ?_; rintro e w1 ⟨P1, rfl, -, hb⟩; have B1 := Lib.hid hb; have hk1 := HD.out.below hb HD.out.lt; have e1 := hk1.cell 1; have e2 := hk1.cell 2; have fz := hk1.free; have K1 := Lib.hid hk1; clear hk1 hb; simp at e1 e2)
  refine wp_loop_rounds 1 ?_
  rw [rounds_succ]
  go_wp2
  go_end0
  obtain ⟨hD, hK⟩ := dk_reset K1.out (HF.out.kp (Kp.of_below B1.out []) (by simp) (by simp)) HN.out
  exact ⟨rfl, ⟨_, hD, fun _ hk => .inl hk⟩, ((Kp.of_below B1.out []).mono (by simp)).trans (hK.mono (G := d :: m :: G) (by simp)) (fun _ hk => .inl hk)⟩

theorem lift_end {w w1 : World} {d m f born ck n c su k : Nat} {nm : ByteArray} {A : Option Addr} {x y : Value} {xs : List Int} (B1 : Below w.heap.size w w1) (K1 : Blk w1 d 30 #[.map (some m), x, y]) (KF : Blk w1 f 100 #[.slice A n c, .int .i64 su, .string nm])
    (hm1 : w1.heap[m]? = some (.map #[ent nm f born] ck)) (hb : born < ck) (O1 : Bo 0 w1 (.slice A n c) xs) (hby : ∀ c ∈ xs, byt c) (hn : n = xs.length) (hk : k ≤ n) (hlen : xs.length ≤ 1048576) (HN : ∀ j ∈ m :: f :: (Value.slice A n c).ownBlock.toList, j ≠ d) :
    DkTo w (d :: m :: f :: (Value.slice A n c).ownBlock.toList) d nm ⟨some (xs.take k, k), -1, false⟩ ((((w1.setCell ⟨f, 1, none⟩ (.int .i64 k)).setCell ⟨f, 0, none⟩ (.slice A k k)).setCell ⟨d, 2, none⟩ (.bool false)).setCell ⟨d, 1, none⟩ (.int .i64 (-1))).drew.drew := by
  have hown : (Value.slice A k k).ownBlock = (Value.slice A n c).ownBlock := by cases A <;> rfl
  have k1 : Kp w1 [f] ((w1.setCell ⟨f, 1, none⟩ (.int .i64 k)).setCell ⟨f, 0, none⟩ (.slice A k k)) := ((Kp.refl _ _).setCell (.inl (by simp)) _).setCell (.inl (by simp)) _
  have kf2 := KF.set_ 1 (.int .i64 k)
  have kf' := kf2.set_ 0 (.slice A k k)
  have o' := ((O1.cut k hk).aside KF (by decide) 1 (.int .i64 k)).aside kf2 (by decide) 0 (.slice A k k)
  have hmf : m ≠ f := fun e => by subst e; unfold Blk at KF; rw [KF] at hm1; cases hm1
  have hdf : d ≠ f := fun e => HN f (by simp) e.symm
  have hF : DkF ((w1.setCell ⟨f, 1, none⟩ (.int .i64 k)).setCell ⟨f, 0, none⟩ (.slice A k k)) m nm (some (xs.take k, k)) (f :: (Value.slice A n c).ownBlock.toList) :=
    ⟨f, born, ck, .slice A k k, (k1.block m (lt_of_heap hm1) (by simpa using hmf)).trans hm1, hb, by simpa using kf', o', fun c hc => hby c (List.mem_of_mem_take hc), by simp; omega, by simp; omega, by rw [hown]⟩
  obtain ⟨hD, hK⟩ := dk_reset (k1.blk K1 (by simpa using hdf)) hF HN
  refine DkTo.below (DkTo.below ⟨⟨_, hD, fun _ hj => .inl hj⟩, ?_⟩ (Below.refl _ _).drew) (Below.refl _ _).drew
  exact (((Kp.of_below B1 [f]).trans k1 (fun _ hj => .inl hj)).mono (by simp)).trans (hK.mono (G := d :: m :: f :: (Value.slice A n c).ownBlock.toList) (by simp)) (fun _ hj => .inl hj)

set_option maxRecDepth 100000 in
set_option maxHeartbeats 4000000 in
theorem dlift_sn (nm : ByteArray) (d : Nat) (xs : List Int) (su : Nat) (fu : Int) (dead : Bool) (m f born ck c : Nat) (g : Nat) (al : Option Addr) (cl : Nat) (w : World) 
    (h : Dk w d nm ⟨some (xs, su), fu, dead⟩ (d :: m :: f :: [g])) (hd : Blk w d 30 #[.map (some m), .int .i64 fu, .bool dead]) (hm : w.heap[m]? = some (.map #[ent nm f born] ck)) (hb : born < ck) (hff : Blk w f 100 #[(.slice (some ⟨g, 0, none⟩) xs.length c), .int .i64 su, .string nm]) (ho : Bo 0 w (.slice (some ⟨g, 0, none⟩) xs.length c) xs) (hby : ∀ c ∈ xs, byt c) (hsu : su ≤ xs.length) (hlen : xs.length ≤ 1048576) (hc : xs.length ≤ c) :
    Calls Tryz.prog 18 #[.pointer (some ⟨d, 0, none⟩), .slice al 0 cl] w fun e w' => e = .returned (.tuple #[]) ∧ DkTo w (d :: m :: f :: [g]) d nm ⟨some (xs.take su, su), -1, false⟩ w' := by
  have H := Lib.hid h
  have hnd := h.apart
  have c0 := hd.cell 0
  simp at c0
  have HD := Lib.hid hd
  have HM := Lib.hid hm
  have HF := Lib.hid hff
  have HO := Lib.hid ho
  have HB := Lib.hid hby
  have HN := Lib.hid hnd
  have HBC := Lib.hid hb
  obtain ⟨n, hn⟩ : ∃ n, n = xs.length := ⟨_, rfl⟩
  have N := Lib.hid hn
  rw [← hn] at HF HO hsu hlen hc
  obtain ⟨k, hk⟩ : ∃ k : Nat, k = su := ⟨_, rfl⟩
  have K := Lib.hid hk
  have KN := Lib.hid (show k ≤ n by omega)
  have hkc : (k : Int) ≤ (c : Int) := by omega
  have hk0 : (0 : Int) ≤ (k : Int) := by omega
  have hs1 : IntKind.i64.wrap ((n : Int) - (su : Int)) = (n : Int) - (su : Int) := IntWalk.i64_in _ (by omega)
  have hs2 : IntKind.i64.wrap ((su : Int) + 0) = (k : Int) := (IntWalk.i64_in _ (by omega)).trans (by omega)
  have hs3 : IntKind.i64.wrap (su : Int) = (k : Int) := (IntWalk.i64_in _ (by omega)).trans (by omega)
  have hmn : ¬ (n : Int) - (su : Int) < 0 := by omega
  have hmn2 : 0 ≤ (n : Int) - (su : Int) := by omega
  clear h hd hm hff ho hby hnd hn hk hb
  go_enter Tryz.func18, Tryz.ntmps18
  go_wp2_with fail
  refine (dthere d m _ c0).mono ?_
  rintro e w1 ⟨rfl, rfl⟩
  go_wp2_with fail
  refine (dname1 nm d _ _ _ _ _ H.out).mono ?_
  rintro e w1 ⟨g1, o1, rfl, hP, hb⟩
  have B1 := Lib.hid hb
  have k1 := HD.out.below hb HD.out.lt
  have kf := HF.out.below hb HF.out.lt
  have e0 := k1.cell 0
  have e1 := k1.cell 1
  have e2 := k1.cell 2
  have fz := k1.free
  have s0 := kf.cell 0
  have s1 := kf.cell 1
  have fzf := kf.free
  have hm1 := (hb.block m (lt_of_heap HM.out)).trans HM.out
  have hl := run_look_one (P := Tryz.prog) Tryz.underlying28 Tryz.underlying9 nm hm1
  simp at e0 e1 e2 s0 s1
  have hdf : ¬ f = d := fun e => (HD.out.ne_ HF.out (by decide)) e.symm
  have hdf2 : ¬ d = f := fun e => hdf e.symm
  have K1 := Lib.hid k1
  have KF := Lib.hid kf
  have HM1 := Lib.hid hm1
  have O1 := Lib.hid (HO.out.below hb)
  clear hb k1 kf hm1 c0
  go_wp2_with fail
  refine wp_loop_rounds 2 ?_
  rw [rounds_succ]
  go_wp2
  go_region
  all_goals go_wp2
  go_region
  all_goals go_wp2
  rw [rounds_succ]
  go_wp2
  go_end0
  have hfin := lift_end (k := k) B1.out K1.out KF.out HM1.out HBC.out O1.out HB.out N.out KN.out (by rw [← N.out]; exact hlen) HN.out
  rw [← K.out]
  exact ⟨rfl, hfin⟩

set_option maxRecDepth 100000 in
set_option maxHeartbeats 4000000 in
theorem dlift_sm (nm : ByteArray) (d : Nat) (xs : List Int) (su : Nat) (fu : Int) (dead : Bool) (m f born ck c : Nat) (g : Nat) (gl ol nl cl : Nat) (l0 : Int) (hnl : 0 < nl) (w : World) (hlc : w.cell? ⟨gl, ol, none⟩ = some (.int .i64 l0)) (hl1 : -9223372036854775808 ≤ l0) (hl2 : l0 ≤ 9223372036854775807) (hneg : ¬ 0 < l0) 
    (h : Dk w d nm ⟨some (xs, su), fu, dead⟩ (d :: m :: f :: [g])) (hd : Blk w d 30 #[.map (some m), .int .i64 fu, .bool dead]) (hm : w.heap[m]? = some (.map #[ent nm f born] ck)) (hb : born < ck) (hff : Blk w f 100 #[(.slice (some ⟨g, 0, none⟩) xs.length c), .int .i64 su, .string nm]) (ho : Bo 0 w (.slice (some ⟨g, 0, none⟩) xs.length c) xs) (hby : ∀ c ∈ xs, byt c) (hsu : su ≤ xs.length) (hlen : xs.length ≤ 1048576) (hc : xs.length ≤ c) :
    Calls Tryz.prog 18 #[.pointer (some ⟨d, 0, none⟩), .slice (some ⟨gl, ol, none⟩) nl cl] w fun e w' => e = .returned (.tuple #[]) ∧ DkTo w (d :: m :: f :: [g]) d nm ⟨some (xs.take su, su), -1, false⟩ w' := by
  have H := Lib.hid h
  have hnd := h.apart
  have c0 := hd.cell 0
  simp at c0
  have HD := Lib.hid hd
  have HM := Lib.hid hm
  have HF := Lib.hid hff
  have HO := Lib.hid ho
  have HB := Lib.hid hby
  have HN := Lib.hid hnd
  have HBC := Lib.hid hb
  obtain ⟨n, hn⟩ : ∃ n, n = xs.length := ⟨_, rfl⟩
  have N := Lib.hid hn
  rw [← hn] at HF HO hsu hlen hc
  obtain ⟨k, hk⟩ : ∃ k : Nat, k = su := ⟨_, rfl⟩
  have K := Lib.hid hk
  have KN := Lib.hid (show k ≤ n by omega)
  have hkc : (k : Int) ≤ (c : Int) := by omega
  have hk0 : (0 : Int) ≤ (k : Int) := by omega
  have hs1 : IntKind.i64.wrap ((n : Int) - (su : Int)) = (n : Int) - (su : Int) := IntWalk.i64_in _ (by omega)
  have hs2 : IntKind.i64.wrap ((su : Int) + 0) = (k : Int) := (IntWalk.i64_in _ (by omega)).trans (by omega)
  have hs3 : IntKind.i64.wrap (su : Int) = (k : Int) := (IntWalk.i64_in _ (by omega)).trans (by omega)
  have hmn : ¬ (n : Int) - (su : Int) < 0 := by omega
  have hmn2 : 0 ≤ (n : Int) - (su : Int) := by omega
  clear h hd hm hff ho hby hnd hn hk hb
  go_enter Tryz.func18, Tryz.ntmps18
  go_wp2_with fail
  refine (dthere d m _ c0).mono ?_
  rintro e w1 ⟨rfl, rfl⟩
  go_wp2_with fail
  refine (dname1 nm d _ _ _ _ _ H.out).mono ?_
  rintro e w1 ⟨g1, o1, rfl, hP, hb⟩
  have B1 := Lib.hid hb
  have k1 := HD.out.below hb HD.out.lt
  have kf := HF.out.below hb HF.out.lt
  have e0 := k1.cell 0
  have e1 := k1.cell 1
  have e2 := k1.cell 2
  have fz := k1.free
  have s0 := kf.cell 0
  have s1 := kf.cell 1
  have fzf := kf.free
  have hm1 := (hb.block m (lt_of_heap HM.out)).trans HM.out
  have hl := run_look_one (P := Tryz.prog) Tryz.underlying28 Tryz.underlying9 nm hm1
  have hlc1 := (hb.cell (p := ⟨gl, ol, none⟩) (block_lt_of_cell hlc)).trans hlc
  simp at e0 e1 e2 s0 s1
  have hdf : ¬ f = d := fun e => (HD.out.ne_ HF.out (by decide)) e.symm
  have hdf2 : ¬ d = f := fun e => hdf e.symm
  have K1 := Lib.hid k1
  have KF := Lib.hid kf
  have HM1 := Lib.hid hm1
  have O1 := Lib.hid (HO.out.below hb)
  clear hb k1 kf hm1 c0 hlc
  go_wp2_with fail
  refine wp_loop_rounds 2 ?_
  rw [rounds_succ]
  go_wp2
  go_region
  all_goals go_wp2
  go_region
  all_goals go_wp2
  rw [rounds_succ]
  go_wp2
  go_end0
  have hfin := lift_end (k := k) B1.out K1.out KF.out HM1.out HBC.out O1.out HB.out N.out KN.out (by rw [← N.out]; exact hlen) HN.out
  rw [← K.out]
  exact ⟨rfl, hfin⟩

set_option maxRecDepth 100000 in
set_option maxHeartbeats 4000000 in
theorem dlift_sl (nm : ByteArray) (d : Nat) (xs : List Int) (su : Nat) (fu : Int) (dead : Bool) (m f born ck c : Nat) (g : Nat) (gl ol nl cl : Nat) (l0 : Int) (hnl : 0 < nl) (w : World) (hlc : w.cell? ⟨gl, ol, none⟩ = some (.int .i64 l0)) (hl1 : -9223372036854775808 ≤ l0) (hl2 : l0 ≤ 9223372036854775807) (hpos : 0 < l0) (hlt : ¬ (xs.length : Int) - (su : Int) < l0) 
    (h : Dk w d nm ⟨some (xs, su), fu, dead⟩ (d :: m :: f :: [g])) (hd : Blk w d 30 #[.map (some m), .int .i64 fu, .bool dead]) (hm : w.heap[m]? = some (.map #[ent nm f born] ck)) (hb : born < ck) (hff : Blk w f 100 #[(.slice (some ⟨g, 0, none⟩) xs.length c), .int .i64 su, .string nm]) (ho : Bo 0 w (.slice (some ⟨g, 0, none⟩) xs.length c) xs) (hby : ∀ c ∈ xs, byt c) (hsu : su ≤ xs.length) (hlen : xs.length ≤ 1048576) (hc : xs.length ≤ c) :
    Calls Tryz.prog 18 #[.pointer (some ⟨d, 0, none⟩), .slice (some ⟨gl, ol, none⟩) nl cl] w fun e w' => e = .returned (.tuple #[]) ∧ DkTo w (d :: m :: f :: [g]) d nm ⟨some (xs.take (su + l0.toNat), (su + l0.toNat)), -1, false⟩ w' := by
  have H := Lib.hid h
  have hnd := h.apart
  have c0 := hd.cell 0
  simp at c0
  have HD := Lib.hid hd
  have HM := Lib.hid hm
  have HF := Lib.hid hff
  have HO := Lib.hid ho
  have HB := Lib.hid hby
  have HN := Lib.hid hnd
  have HBC := Lib.hid hb
  obtain ⟨n, hn⟩ : ∃ n, n = xs.length := ⟨_, rfl⟩
  have N := Lib.hid hn
  rw [← hn] at HF HO hsu hlen hc hlt
  obtain ⟨k, hk⟩ : ∃ k : Nat, k = su + l0.toNat := ⟨_, rfl⟩
  have K := Lib.hid hk
  have KN := Lib.hid (show k ≤ n by omega)
  have hkc : (k : Int) ≤ (c : Int) := by omega
  have hk0 : (0 : Int) ≤ (k : Int) := by omega
  have hs1 : IntKind.i64.wrap ((n : Int) - (su : Int)) = (n : Int) - (su : Int) := IntWalk.i64_in _ (by omega)
  have hs2 : IntKind.i64.wrap ((su : Int) + l0) = (k : Int) := (IntWalk.i64_in _ (by omega)).trans (by omega)
  have hmn : ¬ (n : Int) - (su : Int) < l0 := by omega
  have hmn2 : l0 ≤ (n : Int) - (su : Int) := by omega
  clear h hd hm hff ho hby hnd hn hk hb
  go_enter Tryz.func18, Tryz.ntmps18
  go_wp2_with fail
  refine (dthere d m _ c0).mono ?_
  rintro e w1 ⟨rfl, rfl⟩
  go_wp2_with fail
  refine (dname1 nm d _ _ _ _ _ H.out).mono ?_
  rintro e w1 ⟨g1, o1, rfl, hP, hb⟩
  have B1 := Lib.hid hb
  have k1 := HD.out.below hb HD.out.lt
  have kf := HF.out.below hb HF.out.lt
  have e0 := k1.cell 0
  have e1 := k1.cell 1
  have e2 := k1.cell 2
  have fz := k1.free
  have s0 := kf.cell 0
  have s1 := kf.cell 1
  have fzf := kf.free
  have hm1 := (hb.block m (lt_of_heap HM.out)).trans HM.out
  have hl := run_look_one (P := Tryz.prog) Tryz.underlying28 Tryz.underlying9 nm hm1
  have hlc1 := (hb.cell (p := ⟨gl, ol, none⟩) (block_lt_of_cell hlc)).trans hlc
  simp at e0 e1 e2 s0 s1
  have hdf : ¬ f = d := fun e => (HD.out.ne_ HF.out (by decide)) e.symm
  have hdf2 : ¬ d = f := fun e => hdf e.symm
  have K1 := Lib.hid k1
  have KF := Lib.hid kf
  have HM1 := Lib.hid hm1
  have O1 := Lib.hid (HO.out.below hb)
  clear hb k1 kf hm1 c0 hlc
  go_wp2_with fail
  refine wp_loop_rounds 2 ?_
  rw [rounds_succ]
  go_wp2
  go_region
  all_goals go_wp2
  go_region
  all_goals go_wp2
  rw [rounds_succ]
  go_wp2
  go_end0
  have hfin := lift_end (k := k) B1.out K1.out KF.out HM1.out HBC.out O1.out HB.out N.out KN.out (by rw [← N.out]; exact hlen) HN.out
  rw [← K.out]
  exact ⟨rfl, hfin⟩

set_option maxRecDepth 100000 in
set_option maxHeartbeats 4000000 in
theorem dlift_sg (nm : ByteArray) (d : Nat) (xs : List Int) (su : Nat) (fu : Int) (dead : Bool) (m f born ck c : Nat) (g : Nat) (gl ol nl cl : Nat) (l0 : Int) (hnl : 0 < nl) (w : World) (hlc : w.cell? ⟨gl, ol, none⟩ = some (.int .i64 l0)) (hl1 : -9223372036854775808 ≤ l0) (hl2 : l0 ≤ 9223372036854775807) (hpos : 0 < l0) (hge : (xs.length : Int) - (su : Int) < l0) 
    (h : Dk w d nm ⟨some (xs, su), fu, dead⟩ (d :: m :: f :: [g])) (hd : Blk w d 30 #[.map (some m), .int .i64 fu, .bool dead]) (hm : w.heap[m]? = some (.map #[ent nm f born] ck)) (hb : born < ck) (hff : Blk w f 100 #[(.slice (some ⟨g, 0, none⟩) xs.length c), .int .i64 su, .string nm]) (ho : Bo 0 w (.slice (some ⟨g, 0, none⟩) xs.length c) xs) (hby : ∀ c ∈ xs, byt c) (hsu : su ≤ xs.length) (hlen : xs.length ≤ 1048576) (hc : xs.length ≤ c) :
    Calls Tryz.prog 18 #[.pointer (some ⟨d, 0, none⟩), .slice (some ⟨gl, ol, none⟩) nl cl] w fun e w' => e = .returned (.tuple #[]) ∧ DkTo w (d :: m :: f :: [g]) d nm ⟨some (xs.take xs.length, xs.length), -1, false⟩ w' := by
  have H := Lib.hid h
  have hnd := h.apart
  have c0 := hd.cell 0
  simp at c0
  have HD := Lib.hid hd
  have HM := Lib.hid hm
  have HF := Lib.hid hff
  have HO := Lib.hid ho
  have HB := Lib.hid hby
  have HN := Lib.hid hnd
  have HBC := Lib.hid hb
  obtain ⟨n, hn⟩ : ∃ n, n = xs.length := ⟨_, rfl⟩
  have N := Lib.hid hn
  rw [← hn] at HF HO hsu hlen hc hge
  rw [← hn]
  obtain ⟨k, hk⟩ : ∃ k : Nat, k = n := ⟨_, rfl⟩
  have K := Lib.hid hk
  have KN := Lib.hid (show k ≤ n by omega)
  have hkc : (k : Int) ≤ (c : Int) := by omega
  have hk0 : (0 : Int) ≤ (k : Int) := by omega
  have hs1 : IntKind.i64.wrap ((n : Int) - (su : Int)) = (n : Int) - (su : Int) := IntWalk.i64_in _ (by omega)
  have hs2 : IntKind.i64.wrap ((su : Int) + ((n : Int) - (su : Int))) = (k : Int) := (IntWalk.i64_in _ (by omega)).trans (by omega)
  have hs3 : IntKind.i64.wrap (n : Int) = (k : Int) := (IntWalk.i64_in _ (by omega)).trans (by omega)
  have hmn2 : (n : Int) - (su : Int) ≤ l0 := by omega
  have hs4 : (su : Int) + ((n : Int) - (su : Int)) = (k : Int) := by omega
  clear h hd hm hff ho hby hnd hn hk hb
  go_enter Tryz.func18, Tryz.ntmps18
  go_wp2_with fail
  refine (dthere d m _ c0).mono ?_
  rintro e w1 ⟨rfl, rfl⟩
  go_wp2_with fail
  refine (dname1 nm d _ _ _ _ _ H.out).mono ?_
  rintro e w1 ⟨g1, o1, rfl, hP, hb⟩
  have B1 := Lib.hid hb
  have k1 := HD.out.below hb HD.out.lt
  have kf := HF.out.below hb HF.out.lt
  have e0 := k1.cell 0
  have e1 := k1.cell 1
  have e2 := k1.cell 2
  have fz := k1.free
  have s0 := kf.cell 0
  have s1 := kf.cell 1
  have fzf := kf.free
  have hm1 := (hb.block m (lt_of_heap HM.out)).trans HM.out
  have hl := run_look_one (P := Tryz.prog) Tryz.underlying28 Tryz.underlying9 nm hm1
  have hlc1 := (hb.cell (p := ⟨gl, ol, none⟩) (block_lt_of_cell hlc)).trans hlc
  simp at e0 e1 e2 s0 s1
  have hdf : ¬ f = d := fun e => (HD.out.ne_ HF.out (by decide)) e.symm
  have hdf2 : ¬ d = f := fun e => hdf e.symm
  have K1 := Lib.hid k1
  have KF := Lib.hid kf
  have HM1 := Lib.hid hm1
  have O1 := Lib.hid (HO.out.below hb)
  clear hb k1 kf hm1 c0 hlc
  go_wp2_with fail
  refine wp_loop_rounds 2 ?_
  rw [rounds_succ]
  go_wp2
  go_region
  all_goals go_wp2
  go_region
  all_goals go_wp2
  rw [rounds_succ]
  go_wp2
  go_end0
  have hfin := lift_end (k := k) B1.out K1.out KF.out HM1.out HBC.out O1.out HB.out N.out KN.out (by rw [← N.out]; exact hlen) HN.out
  rw [← K.out]
  exact ⟨rfl, hfin⟩

set_option maxRecDepth 100000 in
set_option maxHeartbeats 4000000 in
theorem dlift_nn (nm : ByteArray) (d : Nat) (xs : List Int) (su : Nat) (fu : Int) (dead : Bool) (m f born ck c : Nat) (al : Option Addr) (cl : Nat) (w : World) 
    (h : Dk w d nm ⟨some (xs, su), fu, dead⟩ (d :: m :: f :: [])) (hd : Blk w d 30 #[.map (some m), .int .i64 fu, .bool dead]) (hm : w.heap[m]? = some (.map #[ent nm f born] ck)) (hb : born < ck) (hff : Blk w f 100 #[(.slice none xs.length c), .int .i64 su, .string nm]) (ho : Bo 0 w (.slice none xs.length c) xs) (hby : ∀ c ∈ xs, byt c) (hsu : su ≤ xs.length) (hlen : xs.length ≤ 1048576) (hc : xs.length ≤ c) (hc0 : c = 0) :
    Calls Tryz.prog 18 #[.pointer (some ⟨d, 0, none⟩), .slice al 0 cl] w fun e w' => e = .returned (.tuple #[]) ∧ DkTo w (d :: m :: f :: []) d nm ⟨some (xs.take su, su), -1, false⟩ w' := by
  have H := Lib.hid h
  have hnd := h.apart
  have c0 := hd.cell 0
  simp at c0
  have HD := Lib.hid hd
  have HM := Lib.hid hm
  have HF := Lib.hid hff
  have HO := Lib.hid ho
  have HB := Lib.hid hby
  have HN := Lib.hid hnd
  have HBC := Lib.hid hb
  subst hc0
  have hx0 : xs.length = 0 := by omega
  have hs0 : su = 0 := by omega
  subst hs0
  have HX0 := Lib.hid hx0
  obtain ⟨n, hn⟩ : ∃ n, n = xs.length := ⟨_, rfl⟩
  have N := Lib.hid hn
  rw [hx0] at HF HO
  obtain ⟨k, hk⟩ : ∃ k : Nat, k = 0 := ⟨_, rfl⟩
  have K := Lib.hid hk
  clear h hd hm hff ho hby hnd hn hk hb hx0 hsu hlen hc
  go_enter Tryz.func18, Tryz.ntmps18
  go_wp2_with fail
  refine (dthere d m _ c0).mono ?_
  rintro e w1 ⟨rfl, rfl⟩
  go_wp2_with fail
  refine (dname1 nm d _ _ _ _ _ H.out).mono ?_
  rintro e w1 ⟨g1, o1, rfl, hP, hb⟩
  have B1 := Lib.hid hb
  have k1 := HD.out.below hb HD.out.lt
  have kf := HF.out.below hb HF.out.lt
  have e0 := k1.cell 0
  have e1 := k1.cell 1
  have e2 := k1.cell 2
  have fz := k1.free
  have s0 := kf.cell 0
  have s1 := kf.cell 1
  have fzf := kf.free
  have hm1 := (hb.block m (lt_of_heap HM.out)).trans HM.out
  have hl := run_look_one (P := Tryz.prog) Tryz.underlying28 Tryz.underlying9 nm hm1
  simp at e0 e1 e2 s0 s1
  have hdf : ¬ f = d := fun e => (HD.out.ne_ HF.out (by decide)) e.symm
  have hdf2 : ¬ d = f := fun e => hdf e.symm
  have K1 := Lib.hid k1
  have KF := Lib.hid kf
  have HM1 := Lib.hid hm1
  have O1 := Lib.hid (HO.out.below hb)
  clear hb k1 kf hm1 c0
  go_wp2_with fail
  refine wp_loop_rounds 2 ?_
  rw [rounds_succ]
  go_wp2
  go_region
  all_goals go_wp2
  go_region
  all_goals go_wp2
  rw [rounds_succ]
  go_wp2
  go_end0
  have hfin := lift_end (k := 0) B1.out K1.out KF.out HM1.out HBC.out O1.out HB.out HX0.out.symm (Nat.le_refl _) (by rw [HX0.out]; omega) HN.out
  exact ⟨rfl, hfin⟩

set_option maxRecDepth 100000 in
set_option maxHeartbeats 4000000 in
theorem dlift_nm (nm : ByteArray) (d : Nat) (xs : List Int) (su : Nat) (fu : Int) (dead : Bool) (m f born ck c : Nat) (gl ol nl cl : Nat) (l0 : Int) (hnl : 0 < nl) (w : World) (hlc : w.cell? ⟨gl, ol, none⟩ = some (.int .i64 l0)) (hl1 : -9223372036854775808 ≤ l0) (hl2 : l0 ≤ 9223372036854775807) (hneg : ¬ 0 < l0) 
    (h : Dk w d nm ⟨some (xs, su), fu, dead⟩ (d :: m :: f :: [])) (hd : Blk w d 30 #[.map (some m), .int .i64 fu, .bool dead]) (hm : w.heap[m]? = some (.map #[ent nm f born] ck)) (hb : born < ck) (hff : Blk w f 100 #[(.slice none xs.length c), .int .i64 su, .string nm]) (ho : Bo 0 w (.slice none xs.length c) xs) (hby : ∀ c ∈ xs, byt c) (hsu : su ≤ xs.length) (hlen : xs.length ≤ 1048576) (hc : xs.length ≤ c) (hc0 : c = 0) :
    Calls Tryz.prog 18 #[.pointer (some ⟨d, 0, none⟩), .slice (some ⟨gl, ol, none⟩) nl cl] w fun e w' => e = .returned (.tuple #[]) ∧ DkTo w (d :: m :: f :: []) d nm ⟨some (xs.take su, su), -1, false⟩ w' := by
  have H := Lib.hid h
  have hnd := h.apart
  have c0 := hd.cell 0
  simp at c0
  have HD := Lib.hid hd
  have HM := Lib.hid hm
  have HF := Lib.hid hff
  have HO := Lib.hid ho
  have HB := Lib.hid hby
  have HN := Lib.hid hnd
  have HBC := Lib.hid hb
  subst hc0
  have hx0 : xs.length = 0 := by omega
  have hs0 : su = 0 := by omega
  subst hs0
  have HX0 := Lib.hid hx0
  obtain ⟨n, hn⟩ : ∃ n, n = xs.length := ⟨_, rfl⟩
  have N := Lib.hid hn
  rw [hx0] at HF HO
  obtain ⟨k, hk⟩ : ∃ k : Nat, k = 0 := ⟨_, rfl⟩
  have K := Lib.hid hk
  clear h hd hm hff ho hby hnd hn hk hb hx0 hsu hlen hc
  go_enter Tryz.func18, Tryz.ntmps18
  go_wp2_with fail
  refine (dthere d m _ c0).mono ?_
  rintro e w1 ⟨rfl, rfl⟩
  go_wp2_with fail
  refine (dname1 nm d _ _ _ _ _ H.out).mono ?_
  rintro e w1 ⟨g1, o1, rfl, hP, hb⟩
  have B1 := Lib.hid hb
  have k1 := HD.out.below hb HD.out.lt
  have kf := HF.out.below hb HF.out.lt
  have e0 := k1.cell 0
  have e1 := k1.cell 1
  have e2 := k1.cell 2
  have fz := k1.free
  have s0 := kf.cell 0
  have s1 := kf.cell 1
  have fzf := kf.free
  have hm1 := (hb.block m (lt_of_heap HM.out)).trans HM.out
  have hl := run_look_one (P := Tryz.prog) Tryz.underlying28 Tryz.underlying9 nm hm1
  have hlc1 := (hb.cell (p := ⟨gl, ol, none⟩) (block_lt_of_cell hlc)).trans hlc
  simp at e0 e1 e2 s0 s1
  have hdf : ¬ f = d := fun e => (HD.out.ne_ HF.out (by decide)) e.symm
  have hdf2 : ¬ d = f := fun e => hdf e.symm
  have K1 := Lib.hid k1
  have KF := Lib.hid kf
  have HM1 := Lib.hid hm1
  have O1 := Lib.hid (HO.out.below hb)
  clear hb k1 kf hm1 c0 hlc
  go_wp2_with fail
  refine wp_loop_rounds 2 ?_
  rw [rounds_succ]
  go_wp2
  go_region
  all_goals go_wp2
  go_region
  all_goals go_wp2
  rw [rounds_succ]
  go_wp2
  go_end0
  have hfin := lift_end (k := 0) B1.out K1.out KF.out HM1.out HBC.out O1.out HB.out HX0.out.symm (Nat.le_refl _) (by rw [HX0.out]; omega) HN.out
  exact ⟨rfl, hfin⟩

set_option maxRecDepth 100000 in
set_option maxHeartbeats 4000000 in
theorem dlift_ng (nm : ByteArray) (d : Nat) (xs : List Int) (su : Nat) (fu : Int) (dead : Bool) (m f born ck c : Nat) (gl ol nl cl : Nat) (l0 : Int) (hnl : 0 < nl) (w : World) (hlc : w.cell? ⟨gl, ol, none⟩ = some (.int .i64 l0)) (_hl1 : -9223372036854775808 ≤ l0) (_hl2 : l0 ≤ 9223372036854775807) (hpos : 0 < l0) (hge : (xs.length : Int) - (su : Int) < l0) 
    (h : Dk w d nm ⟨some (xs, su), fu, dead⟩ (d :: m :: f :: [])) (hd : Blk w d 30 #[.map (some m), .int .i64 fu, .bool dead]) (hm : w.heap[m]? = some (.map #[ent nm f born] ck)) (hb : born < ck) (hff : Blk w f 100 #[(.slice none xs.length c), .int .i64 su, .string nm]) (ho : Bo 0 w (.slice none xs.length c) xs) (hby : ∀ c ∈ xs, byt c) (hsu : su ≤ xs.length) (hlen : xs.length ≤ 1048576) (hc : xs.length ≤ c) (hc0 : c = 0) :
    Calls Tryz.prog 18 #[.pointer (some ⟨d, 0, none⟩), .slice (some ⟨gl, ol, none⟩) nl cl] w fun e w' => e = .returned (.tuple #[]) ∧ DkTo w (d :: m :: f :: []) d nm ⟨some (xs.take xs.length, xs.length), -1, false⟩ w' := by
  have H := Lib.hid h
  have hnd := h.apart
  have c0 := hd.cell 0
  simp at c0
  have HD := Lib.hid hd
  have HM := Lib.hid hm
  have HF := Lib.hid hff
  have HO := Lib.hid ho
  have HB := Lib.hid hby
  have HN := Lib.hid hnd
  have HBC := Lib.hid hb
  subst hc0
  have hx0 : xs.length = 0 := by omega
  have hs0 : su = 0 := by omega
  subst hs0
  have HX0 := Lib.hid hx0
  obtain ⟨n, hn⟩ : ∃ n, n = xs.length := ⟨_, rfl⟩
  have N := Lib.hid hn
  rw [hx0] at HF HO hge
  rw [hx0]
  obtain ⟨k, hk⟩ : ∃ k : Nat, k = 0 := ⟨_, rfl⟩
  have K := Lib.hid hk
  clear h hd hm hff ho hby hnd hn hk hb hx0 hsu hlen hc
  go_enter Tryz.func18, Tryz.ntmps18
  go_wp2_with fail
  refine (dthere d m _ c0).mono ?_
  rintro e w1 ⟨rfl, rfl⟩
  go_wp2_with fail
  refine (dname1 nm d _ _ _ _ _ H.out).mono ?_
  rintro e w1 ⟨g1, o1, rfl, hP, hb⟩
  have B1 := Lib.hid hb
  have k1 := HD.out.below hb HD.out.lt
  have kf := HF.out.below hb HF.out.lt
  have e0 := k1.cell 0
  have e1 := k1.cell 1
  have e2 := k1.cell 2
  have fz := k1.free
  have s0 := kf.cell 0
  have s1 := kf.cell 1
  have fzf := kf.free
  have hm1 := (hb.block m (lt_of_heap HM.out)).trans HM.out
  have hl := run_look_one (P := Tryz.prog) Tryz.underlying28 Tryz.underlying9 nm hm1
  have hlc1 := (hb.cell (p := ⟨gl, ol, none⟩) (block_lt_of_cell hlc)).trans hlc
  simp at e0 e1 e2 s0 s1
  have hdf : ¬ f = d := fun e => (HD.out.ne_ HF.out (by decide)) e.symm
  have hdf2 : ¬ d = f := fun e => hdf e.symm
  have K1 := Lib.hid k1
  have KF := Lib.hid kf
  have HM1 := Lib.hid hm1
  have O1 := Lib.hid (HO.out.below hb)
  clear hb k1 kf hm1 c0 hlc
  go_wp2_with fail
  refine wp_loop_rounds 2 ?_
  rw [rounds_succ]
  go_wp2
  go_region
  all_goals go_wp2
  go_region
  all_goals go_wp2
  rw [rounds_succ]
  go_wp2
  go_end0
  have hfin := lift_end (k := 0) B1.out K1.out KF.out HM1.out HBC.out O1.out HB.out HX0.out.symm (Nat.le_refl _) (by rw [HX0.out]; omega) HN.out
  exact ⟨rfl, hfin⟩

theorem dlift (nm : ByteArray) (d : Nat) (s : Dst) (F : List Nat) (lv : Value) (ls : List Int) (hls : ∀ x ∈ ls, -9223372036854775808 ≤ x ∧ x ≤ 9223372036854775807) (w : World) (h : Dk w d nm s F) (hlv : Rd w 1 lv ls.length (lossC ls)) :
    Calls Tryz.prog 18 #[.pointer (some ⟨d, 0, none⟩), lv] w fun e w' => e = .returned (.tuple #[]) ∧ DkTo w F d nm (liftS s ls) w' := by
  obtain ⟨file, fu, dead⟩ := s
  cases file with
  | none => exact dlift_none nm d fu dead F lv ls w h
  | some q =>
    obtain ⟨xs, su⟩ := q
    obtain ⟨⟨m, G, hd, hf, rfl⟩, hfu⟩ := id h
    obtain ⟨f, born, ck, v, hm, hb, hff, ho, hby, hsu, hlen, rfl⟩ := hf
    have hv : (∃ g c, v = .slice (some ⟨g, 0, none⟩) xs.length c ∧ xs.length ≤ c) ∨ (v = .slice none xs.length 0 ∧ xs.length = 0) := by
      rcases ho with ⟨rfl, h0, -⟩ | ⟨g, c, cur, rfl, -, -, hc, -⟩
      · exact .inr ⟨by rw [h0], h0⟩
      · exact .inl ⟨g, c, rfl, hc⟩
    cases ls with
    | nil =>
      obtain ⟨al, cl, rfl, -⟩ := hlv
      have hN : liftN [] (xs, su) = su := by simp [liftN, lossAt]
      simp only [liftS, Option.map_some, hN]
      rcases hv with ⟨g, c, rfl, hc⟩ | ⟨rfl, h0⟩
      · exact dlift_sn nm d xs su fu dead m f born ck c g al cl w h hd hm hb hff ho hby hsu hlen hc
      · exact dlift_nn nm d xs su fu dead m f born ck 0 al cl w h hd hm hb hff ho hby hsu hlen (by omega) rfl
    | cons l0 lt =>
      obtain ⟨al, cl, rfl, -, -, h0 | ⟨gl, ol, rfl, -, hcell⟩⟩ := hlv
      · simp at h0
      · have hlc := hcell 0 (.int .i64 l0) rfl
        rw [Nat.add_zero] at hlc
        obtain ⟨hl1, hl2⟩ := hls l0 (by simp)
        have hnl : 0 < (l0 :: lt).length := by simp
        by_cases h0 : 0 < l0
        · have hla : (lossAt (l0 :: lt)).toNat = l0.toNat := by simp [lossAt]; omega
          by_cases hge : (xs.length : Int) - (su : Int) < l0
          · have hN : liftN (l0 :: lt) (xs, su) = xs.length := by simp only [liftN, hla]; omega
            simp only [liftS, Option.map_some, hN]
            rcases hv with ⟨g, c, rfl, hc⟩ | ⟨rfl, h00⟩
            · exact dlift_sg nm d xs su fu dead m f born ck c g gl ol _ cl l0 hnl w hlc hl1 hl2 h0 hge h hd hm hb hff ho hby hsu hlen hc
            · exact dlift_ng nm d xs su fu dead m f born ck 0 gl ol _ cl l0 hnl w hlc hl1 hl2 h0 hge h hd hm hb hff ho hby hsu hlen (by omega) rfl
          · have hN : liftN (l0 :: lt) (xs, su) = su + l0.toNat := by simp only [liftN, hla]; omega
            simp only [liftS, Option.map_some, hN]
            rcases hv with ⟨g, c, rfl, hc⟩ | ⟨rfl, h00⟩
            · exact dlift_sl nm d xs su fu dead m f born ck c g gl ol _ cl l0 hnl w hlc hl1 hl2 h0 hge h hd hm hb hff ho hby hsu hlen hc
            · omega
        · have hN : liftN (l0 :: lt) (xs, su) = su := by simp only [liftN, lossAt, List.headD_cons]; omega
          simp only [liftS, Option.map_some, hN]
          rcases hv with ⟨g, c, rfl, hc⟩ | ⟨rfl, h00⟩
          · exact dlift_sm nm d xs su fu dead m f born ck c g gl ol _ cl l0 hnl w hlc hl1 hl2 h0 h hd hm hb hff ho hby hsu hlen hc
          · exact dlift_nm nm d xs su fu dead m f born ck 0 gl ol _ cl l0 hnl w hlc hl1 hl2 h0 h hd hm hb hff ho hby hsu hlen (by omega) rfl
end Go.Proofs.YtoiclicechfmgaaGreatDoor
