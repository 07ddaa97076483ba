import Derived.Test.YtnegondlkfeleaaDoorDskO
import Derived.Test.YtnegondlkfeleaaDoorRnm
/- The document's disk with one file at most: at, asked, burn, SetFuse. -/
namespace Go.Proofs.YtnegondlkfeleaaDoor
open Go.RowKit

def rfu (z : Int) : Int := if 0 ≤ z then z else 0
/-- The disk's cells. -/
def rm (s : Dst) (L : Value) : Array Value := #[L, .bool (decide (0 ≤ s.fuse)), .int .i64 (rfu s.fuse), .bool s.dead]
/-- The document's disk in block m; F: the blocks that it lies in. -/
structure RDk (w : World) (m : Nat) (nm : ByteArray) (s : Dst) (F : List Nat) : Prop where
  lo : -1 ≤ s.fuse
  hi : s.fuse ≤ 9223372036854775807
  ex : (s.file = none ∧ Blk w m 68 (rm s (.slice none 0 0)) ∧ F = [m]) ∨
    ∃ xs su r c cur v, s.file = some (xs, su) ∧ Blk w m 68 (rm s (.slice (some ⟨r, 0, none⟩) 1 c)) ∧ Blk w r 129 cur ∧ 1 ≤ c ∧ cur[0]? = some (.string nm) ∧ cur[1]? = some v ∧ cur[2]? = some (.int .i64 (su : Nat)) ∧
      Bo 0 w v xs ∧ (∀ c ∈ xs, byt c) ∧ su ≤ xs.length ∧ xs.length ≤ 1048576 ∧ F = m :: r :: v.ownBlock.toList
theorem RDk.blk {w : World} {m : Nat} {nm : ByteArray} {s : Dst} {F : List Nat} (h : RDk w m nm s F) : ∃ L, Blk w m 68 (rm s L) := by
  rcases h.ex with ⟨_, h, _⟩ | ⟨_, _, _, _, _, _, _, h, _⟩
  · exact ⟨_, h⟩
  · exact ⟨_, h⟩

theorem rat_any (nm : ByteArray) (m : Nat) (s : Dst) (F : List Nat) (w : World) (h : RDk w m nm s F) :
    Calls Tryd.prog 83 #[.pointer (some ⟨m, 0, none⟩), .string nm] w fun e w' => e = .returned (.int .i64 (if s.file = none then -1 else 0)) ∧ w = w' := by
  rcases h.ex with ⟨hf, hk, -⟩ | ⟨xs, su, r, c, cur, v, hf, hk, hr, hc, h0, -⟩
  · have c0 := hk.cell 0
    simp only [rm, List.getElem?_toArray, List.getElem?_cons_zero] at c0
    rw [if_pos hf]
    clear hk h hf
    go_enter Tryd.func83, Tryd.ntmps83
    go_wp2
    go_loopg [5] 1 (fun g c5 wr => wr = w ∧ c5 = .int .i64 0)
    case atStart => exact ⟨rfl, rfl⟩
    case round =>
      obtain ⟨rfl, rfl⟩ := hrel
      go_wp2
      go_ret
      exact ⟨rfl, rfl⟩
  · have c0 := hk.cell 0
    have c1 := hr.cell 0
    simp only [rm, List.getElem?_toArray, List.getElem?_cons_zero] at c0
    rw [h0] at c1
    rw [if_neg (by rw [hf]; simp)]
    clear hk hr h hf h0
    go_enter Tryd.func83, Tryd.ntmps83
    go_wp2
    go_loopg [5] 1 (fun g c5 wr => wr = w ∧ c5 = .int .i64 0)
    case atStart => exact ⟨rfl, rfl⟩
    case round =>
      obtain ⟨rfl, rfl⟩ := hrel
      go_wp2
      go_ret
      exact ⟨rfl, rfl⟩

theorem rasked_any (nm : ByteArray) (hn : 1 ≤ nm.size ∧ nm.size ≤ 16) (m : Nat) (s : Dst) (F : List Nat) (w : World) (h : RDk w m nm s F) :
    Calls Tryd.prog 58 #[.pointer (some ⟨m, 0, none⟩), .string nm] w fun e w' => e = .returned (.int .i64 (if s.dead = true then 17 else 0)) ∧ w = w' := by
  obtain ⟨L, hk⟩ := h.blk
  have c3 := hk.cell 3
  simp only [rm, List.getElem?_toArray, List.getElem?_cons_zero, List.getElem?_cons_succ] at c3
  have n1 : ¬ (nm.size : Int) < 1 := by omega
  have n2 : ¬ (16 : Int) < (nm.size : Int) := by omega
  clear hk h hn
  cases hd : s.dead with
  | true =>
    rw [hd] at c3
    go_enter Tryd.func58, Tryd.ntmps58
    go_wp2
    go_ret
    exact ⟨rfl, rfl⟩
  | false =>
    rw [hd] at c3
    go_enter Tryd.func58, Tryd.ntmps58
    go_wp2
    go_ret
    exact ⟨rfl, rfl⟩

theorem RDk.turn {w w' : World} {m : Nat} {nm : ByteArray} {s : Dst} {F : List Nat} (h : RDk w m nm s F) (s' : Dst) (hf : s'.file = s.file) (lo : -1 ≤ s'.fuse) (hi : s'.fuse ≤ 9223372036854775807)
    (hm : ∀ L, Blk w m 68 (rm s L) → Blk w' m 68 (rm s' L)) (kp : Kp w [m] w') : RDk w' m nm s' F := by
  refine ⟨lo, hi, ?_⟩
  rcases h.ex with ⟨h1, hk, hF⟩ | ⟨xs, su, r, c, cur, v, h1, hk, hr, hc, h0, h2, h3, hb, hr2⟩
  · exact .inl ⟨hf.trans h1, hm _ hk, hF⟩
  · refine .inr ⟨xs, su, r, c, cur, v, hf.trans h1, hm _ hk, kp.blk hr ?_, hc, h0, h2, h3, kp.ow hb ?_, hr2⟩
    · simp; exact hr.ne_ hk (by decide)
    · intro k hv
      rcases hb with ⟨rfl, _⟩ | ⟨g, _, _, rfl, _, hg, _⟩
      · simp [Value.ownBlock] at hv
      · simp [Value.ownBlock] at hv
        subst hv
        simp
        exact hg.ne_ hk (by decide)

theorem rburn_any (nm : ByteArray) (m : Nat) (s : Dst) (F : List Nat) (w : World) (h : RDk w m nm s F) :
    Calls Tryd.prog 89 #[.pointer (some ⟨m, 0, none⟩)] w fun e w' => e = .returned (.bool (decide (s.fuse ≠ 0))) ∧ RDk w' m nm (burnS s).1 F ∧ Kp w [m] w' := by
  have H := Lib.hid h
  obtain ⟨L, hk⟩ := h.blk
  have c1 := hk.cell 1
  have c2 := hk.cell 2
  have c3 := hk.cell 3
  have f2 := hk.free 2
  have f3 := hk.free 3
  simp only [rm, List.getElem?_toArray, List.getElem?_cons_zero, List.getElem?_cons_succ] at c1 c2 c3
  obtain ⟨lo, hi, -⟩ := id h
  clear h hk
  obtain ⟨file, fu, dead⟩ := s
  simp only at c1 c2 c3 lo hi
  by_cases hm : fu < 0
  · have hd : decide (0 ≤ fu) = false := decide_eq_false (by omega)
    rw [hd] at c1
    have E := Lib.hid (show (burnS ⟨file, fu, dead⟩).1 = ⟨file, fu, dead⟩ from by unfold burnS; rw [if_neg (show ¬ fu = 0 by omega), if_neg (show ¬ 0 < fu by omega)])
    have E2 := Lib.hid (show decide (fu ≠ 0) = true from decide_eq_true (by omega))
    rw [E.out, E2.out]
    clear hd
    go_enter Tryd.func89, Tryd.ntmps89
    go_wp2
    go_ret
    exact ⟨rfl, H.out, Kp.refl _ _⟩
  have hd : decide (0 ≤ fu) = true := decide_eq_true (by omega)
  rw [hd] at c1
  have hr : rfu fu = fu := if_pos (by omega)
  rw [hr] at c2
  by_cases h0 : fu = 0
  · subst h0
    have E := Lib.hid (show (burnS ⟨file, 0, dead⟩).1 = ⟨file, 0, true⟩ from rfl)
    rw [E.out]
    clear hd hr
    go_enter Tryd.func89, Tryd.ntmps89
    go_wp2
    go_ret
    refine ⟨rfl, H.out.turn _ rfl (by simp) (by simp) (fun L hL => ?_) ((Kp.refl _ _).setCell (.inl (by simp)) _), (Kp.refl _ _).setCell (.inl (by simp)) _⟩
    have := hL.set_ 3 (.bool true)
    simpa [rm] using this
  · have h0' : (fu == 0) = false := beq_eq_false_iff_ne.2 h0
    have hp : 0 < fu := by omega
    have E := Lib.hid (show (burnS ⟨file, fu, dead⟩).1 = ⟨file, fu - 1, dead⟩ from by unfold burnS; rw [if_neg (show ¬ fu = 0 from h0), if_pos (show 0 < fu from hp)])
    have E2 := Lib.hid (show decide (fu ≠ 0) = true from decide_eq_true h0)
    rw [E.out, E2.out]
    have wr1 : IntKind.i64.wrap (fu - 1) = fu - 1 := IntWalk.i64_in _ (by omega)
    clear hd hr h0
    go_enter Tryd.func89, Tryd.ntmps89
    go_wp2
    go_ret
    refine ⟨rfl, H.out.turn _ rfl (by simp only; omega) (by simp only; omega) (fun L hL => ?_) ((Kp.refl _ _).setCell (.inl (by simp)) _), (Kp.refl _ _).setCell (.inl (by simp)) _⟩
    have := hL.set_ 2 (.int .i64 (fu - 1))
    simpa [rm, rfu, show 0 ≤ fu from by omega, show 0 ≤ fu - 1 from by omega, show 1 ≤ fu from by omega] using this

theorem rfuse_any (nm : ByteArray) (m : Nat) (s : Dst) (F : List Nat) (n : Int) (w : World) (h : RDk w m nm s F) (hn : n ≤ 9223372036854775807) :
    Calls Tryd.prog 24 #[.pointer (some ⟨m, 0, none⟩), .int .i64 n] w fun e w' => e = .returned (.tuple #[]) ∧ RDk w' m nm { s with fuse := max 0 n } F ∧ Kp w [m] w' := by
  have H := Lib.hid h
  obtain ⟨L, hk⟩ := h.blk
  have c1 := hk.cell 1
  have c2 := hk.cell 2
  have f1 := hk.free 1
  have f2 := hk.free 2
  simp only [rm, List.getElem?_toArray, List.getElem?_cons_zero, List.getElem?_cons_succ] at c1 c2
  clear h hk
  by_cases hm : n < 0
  · have e1 : max 0 n = 0 := by omega
    rw [e1]
    go_enter Tryd.func24, Tryd.ntmps24
    go_wp2
    refine bodyPost_end (results_none rfl _ _ _) rfl ?_
    refine ⟨rfl, H.out.turn _ rfl (by simp) (by simp) (fun L hL => ?_) ?_, ?_⟩
    · have := ((hL.set_ 1 (.bool true)).set_ 2 (.int .i64 n)).set_ 2 (.int .i64 0)
      simpa [rm, rfu] using this
    · exact (((Kp.refl _ _).setCell (.inl (by simp)) _).setCell (.inl (by simp)) _).setCell (.inl (by simp)) _
    · exact (((Kp.refl _ _).setCell (.inl (by simp)) _).setCell (.inl (by simp)) _).setCell (.inl (by simp)) _
  · have e1 : max 0 n = n := by omega
    rw [e1]
    go_enter Tryd.func24, Tryd.ntmps24
    go_wp2
    refine bodyPost_end (results_none rfl _ _ _) rfl ?_
    refine ⟨rfl, H.out.turn _ rfl (by simp only; omega) (by simp only; omega) (fun L hL => ?_) ?_, ?_⟩
    · have := (hL.set_ 1 (.bool true)).set_ 2 (.int .i64 n)
      simpa [rm, rfu, show 0 ≤ n from by omega] using this
    · exact ((Kp.refl _ _).setCell (.inl (by simp)) _).setCell (.inl (by simp)) _
    · exact ((Kp.refl _ _).setCell (.inl (by simp)) _).setCell (.inl (by simp)) _
end Go.Proofs.YtnegondlkfeleaaDoor

/- The document's disk: Read. -/
namespace Go.Proofs.YtnegondlkfeleaaDoor
open Go.RowKit

set_option maxHeartbeats 1000000 in
set_option maxRecDepth 100000 in
theorem rread_any (nm : ByteArray) (hn : 1 ≤ nm.size ∧ nm.size ≤ 16) (m : Nat) (s : Dst) (F : List Nat) (w : World) (h : RDk w m nm s F) :
    Calls Tryd.prog 49 #[.pointer (some ⟨m, 0, none⟩), .string nm] w fun e w' => ∃ u, e = .returned (.tuple #[u, .int .i64 (readS s).2]) ∧ Bo w.heap.size w' u (readS s).1 ∧ Below w.heap.size w w' := by
  have AS := Lib.hid (rasked_any nm hn m s F w h)
  have AT := Lib.hid (rat_any nm m s F w h)
  cases hd : s.dead with
  | true =>
    rw [if_pos hd] at AS
    have R := Lib.hid (show readS s = ([], 17) from by unfold readS; rw [if_pos hd])
    rw [R.out]
    clear h hd hn
    go_enter Tryd.func49, Tryd.ntmps49
    go_wp2_with fail
    refine AS.out.mono ?_
    rintro e w1 ⟨rfl, rfl⟩
    go_wp2
    go_ret2
    exact ⟨_, rfl, Bo.nil_ _ _, Below.refl _ _⟩
  | false =>
    rw [if_neg (by rw [hd]; simp)] at AS
    rcases h.ex with ⟨hf, hk, -⟩ | ⟨xs, su, r, c, cur, v, hf, hk, hr, hc, -, h1, -, hb, -, -, hx, -⟩
    · rw [if_pos hf] at AT
      have R := Lib.hid (show readS s = ([], 7) from by unfold readS; rw [if_neg (by rw [hd]; simp), hf])
      rw [R.out]
      clear h hd hn hk hf
      go_enter Tryd.func49, Tryd.ntmps49
      go_wp2_with fail
      refine AS.out.mono ?_
      rintro e w1 ⟨rfl, rfl⟩
      go_wp2_with fail
      refine AT.out.mono ?_
      rintro e w1 ⟨rfl, rfl⟩
      go_wp2
      go_ret2
      exact ⟨_, rfl, Bo.nil_ _ _, Below.refl _ _⟩
    · rw [if_neg (by rw [hf]; simp)] at AT
      have R := Lib.hid (show readS s = (xs, 0) from by unfold readS; rw [if_neg (by rw [hd]; simp), hf])
      rw [R.out]
      have c0 := hk.cell 0
      have c1 := hr.cell 1
      simp only [rm, List.getElem?_toArray, List.getElem?_cons_zero] at c0
      rw [h1] at c1
      have HB := Lib.hid hb.bs
      have HX := Lib.hid hx
      clear h hd hn hk hf hr hb hx h1
      go_enter Tryd.func49, Tryd.ntmps49
      go_wp2_with fail
      refine AS.out.mono ?_
      rintro e w1 ⟨rfl, rfl⟩
      go_wp2_with fail
      refine AT.out.mono ?_
      rintro e w1 ⟨rfl, rfl⟩
      go_wp2_with (at_builtin; refine wpList_bf_bytes rfl _ _ 25 rfl Tryd.underlying25 rfl (Bf.start_ w) HB.out rfl (by have := HX.out; simp; omega) ?_; intro v2 w2 hB2)
      go_ret2
      exact ⟨_, rfl, by have := hB2.own; rwa [List.nil_append] at this, hB2.bel⟩
end Go.Proofs.YtnegondlkfeleaaDoor
