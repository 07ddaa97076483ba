import Derived.Test.YtoiclicechfmgaaGreatDoorDsz
import Derived.Test.YtoiclicechfmgaaGreatDoorMem
import Derived.Sort.Defs
import Derived.Sort.Statements
import Derived.Sort.LotA
import Derived.Lib.Strings
import Derived.OrdersHeld
/- A disk of one file at most: its names. -/
namespace Go.Proofs.YtoiclicechfmgaaGreatDoor
open Go.RowKit

section
variable {P : Program} {W : World} {it m since c0 ck born f : Nat} {nm : ByteArray}
theorem run_next_none_ (ty : TypeId) (hi : W.heap[it]? = some (.mapIter (some m) since #[] c0)) (hm : W.heap[m]? = some (.map #[] ck)) :
    (Instr.next (.pointer (some ⟨it, 0, none⟩)) false ty).run P W = .ok (.tuple #[.bool false]) W := by
  simp [Instr.next, getObj, Sem.run, hi, hm, Result.andThen, choose, Question.forced]
theorem run_next_first_ (ty : TypeId) (hi : W.heap[it]? = some (.mapIter (some m) since #[] c0)) (hm : W.heap[m]? = some (.map #[ent nm f born] ck)) (hb : born < since) :
    (Instr.next (.pointer (some ⟨it, 0, none⟩)) false ty).run P W = .ok (.tuple #[.bool true, .string nm, .pointer (some ⟨f, 0, none⟩)]) (setH W it (.mapIter (some m) since #[born] ck)) := by
  have h1 : ¬ since ≤ born := by omega
  simp [Instr.next, getObj, setObj, Sem.run, hi, hm, Result.andThen, choose, Question.forced, ent, hb, h1, setH]
theorem run_next_end_ (ty : TypeId) (hi : W.heap[it]? = some (.mapIter (some m) since #[born] c0)) (hm : W.heap[m]? = some (.map #[ent nm f born] ck)) (hb : born < c0) :
    (Instr.next (.pointer (some ⟨it, 0, none⟩)) false ty).run P W = .ok (.tuple #[.bool false]) W := by
  have h1 : ¬ c0 ≤ born := by omega
  simp [Instr.next, getObj, Sem.run, hi, hm, Result.andThen, choose, Question.forced, ent, h1]
theorem run_entry_ (hi : W.heap[it]? = some (.mapIter (some m) since #[born] ck)) (hm : W.heap[m]? = some (.map #[ent nm f born] ck)) :
    (Instr.entry (.pointer (some ⟨it, 0, none⟩))).run P W = .ok (.tuple #[.string nm, .pointer (some ⟨f, 0, none⟩)]) W := by
  simp [Instr.entry, getObj, Sem.run, hi, hm, Result.andThen, ent]
end

theorem str_info : (Tryz.prog.info? 9).map (fun i => (i.zero, i.size, i.bytes)) = some (some (.string ⟨#[]⟩), 1, 16) := by kernel_rfl

theorem sclip_any (A : Option Addr) (n c : Nat) (w : World) (hc : n ≤ c) (hn : n ≤ 4611686018427387904) :
    Calls Tryz.prog 53 #[.slice A n c] w fun e w' => e = .returned (.slice A n n) ∧ w = w' := by
  have h1 : (n : Int) ≤ (c : Int) := by omega
  have h2 : (n : Int) ≤ 4611686018427387904 := by omega
  have h3 : ¬ (c : Int) < (n : Int) := by omega
  go_enter Tryz.func53, Tryz.ntmps53
  go_wp2
  go_ret
  exact ⟨by cases A <;> simp, rfl⟩

set_option maxRecDepth 1000000 in
set_option maxHeartbeats 4000000 in
theorem len64_small (x : Int) (w : World) (h0 : 0 ≤ x) (h1 : x ≤ 12) : Calls Tryz.prog 108 #[.int .u64 x] w fun e w' => (∃ y, e = .returned (.int .i64 y)) ∧ w = w' := by
  go_enter Tryz.func108, Tryz.ntmps108
  go_wp2
  go_ret
  exact ⟨⟨_, rfl⟩, rfl⟩
theorem len_small (x : Int) (w : World) (h0 : 0 ≤ x) (h1 : x ≤ 12) : Calls Tryz.prog 75 #[.int .u64 x] w fun e w' => (∃ y, e = .returned (.int .i64 y)) ∧ w = w' := by
  go_enter Tryz.func75, Tryz.ntmps75
  go_wp2_with (go_at_call 108; refine (len64_small _ _ h0 h1).mono ?_; rintro e w' ⟨⟨y, rfl⟩, rfl⟩)
  go_ret
  exact ⟨⟨_, rfl⟩, rfl⟩

theorem sins_small (A : Option Addr) (n c : Nat) (w : World) (hn : n ≤ 1) : Calls Tryz.prog 98 #[.slice A n c, .int .i64 0, .int .i64 n] w fun e w' => e = .returned (.tuple #[]) ∧ w = w' := by
  have h1 : ¬ (1 : Int) < (n : Int) := by omega
  go_enter Tryz.func98, Tryz.ntmps98
  go_wp2
  refine wp_loop_rounds 1 ?_
  rw [rounds_succ]
  go_wp2
  go_end0
  exact ⟨rfl, rfl⟩

set_option maxRecDepth 100000 in
set_option maxHeartbeats 1000000 in
theorem spdq_small (A : Option Addr) (n c : Nat) (y : Int) (w : World) (hn : n ≤ 1) : Calls Tryz.prog 74 #[.slice A n c, .int .i64 0, .int .i64 n, .int .i64 y] w fun e w' => e = .returned (.tuple #[]) ∧ w = w' := by
  have h1 : (n : Int) ≤ 12 := by omega
  go_enter Tryz.func74, Tryz.ntmps74
  go_wp2
  refine wp_loop_rounds 1 ?_
  rw [rounds_succ]
  go_wp2_with (go_at_call 98; refine (sins_small A n c _ hn).mono ?_; rintro e w' ⟨rfl, rfl⟩)
  refine bodyPost_ret (results_none rfl _ _ _) rfl ?_
  exact ⟨rfl, rfl⟩

theorem ssort_small (A : Option Addr) (n c : Nat) (w : World) (hn : n ≤ 1) : Calls Tryz.prog 52 #[.slice A n c] w fun e w' => e = .returned (.tuple #[]) ∧ w = w' := by
  go_enter Tryz.func52, Tryz.ntmps52
  go_wp2_with (first | (go_at_call 75; refine (len_small _ _ (by omega) (by omega)).mono ?_; rintro e w' ⟨⟨y, rfl⟩, rfl⟩) | (go_at_call 74; refine (spdq_small A n c _ _ hn).mono ?_; rintro e w' ⟨rfl, rfl⟩))
  go_end0
  exact ⟨rfl, rfl⟩

/-- The names' cells. -/
def namC (s : Dst) (nm : ByteArray) : List Value := match s.file with
  | none => []
  | some _ => [.string nm]

set_option maxRecDepth 100000 in
set_option maxHeartbeats 1000000 in
theorem dnames (nm : ByteArray) (d : Nat) (s : Dst) (F : List Nat) (w : World) (h : Dk w d nm s F) :
    Calls Tryz.prog 20 #[.pointer (some ⟨d, 0, none⟩)] w fun e w' => ∃ P, e = .returned (.slice P (namC s nm).length (namC s nm).length) ∧ Rd w' 1 (.slice P (namC s nm).length (namC s nm).length) (namC s nm).length (namC s nm) ∧ Below w.heap.size w w' := by
  obtain ⟨m, G, hd, hf, rfl⟩ := h.ex
  have c0 := hd.cell 0
  simp at c0
  obtain ⟨file, fu, dead⟩ := s
  have qm := fun (w : World) (r : Option Nat) => run_neq_map_nil (P := Tryz.prog) w _ _ _ r Tryz.underlying28
  cases file with
  | none =>
    obtain ⟨ck, hm, rfl⟩ := hf
    have E := Lib.hid (show namC ⟨none, fu, dead⟩ nm = [] from rfl)
    have hr := run_range_map (P := Tryz.prog) w 28 _ _ m #[] ck Tryz.underlying28 hm
    have hm' : (w.alloc (.mapIter (some m) ck #[] ck)).heap[m]? = some (.map #[] ck) := (heap_alloc_old _ _ (lt_of_heap hm)).trans hm
    have hx := fun ty => run_next_none_ (P := Tryz.prog) ty (heap_alloc_new w (.mapIter (some m) ck #[] ck)) hm'
    have B := Lib.hid (below_alloc_ w (.mapIter (some m) ck #[] ck))
    clear hd hm hm' h
    rw [E.out]
    go_enter Tryz.func20, Tryz.ntmps20
    go_wp2
    refine wp_loop_rounds 1 ?_
    rw [rounds_succ]
    go_wp2_with (first | (go_at_call 52; refine (ssort_small _ _ _ _ (by omega)).mono ?_; rintro e w' ⟨rfl, rfl⟩) | (go_at_call 53; refine (sclip_any _ _ _ _ (by omega) (by omega)).mono ?_; rintro e w' ⟨rfl, rfl⟩))
    go_ret
    exact ⟨none, rfl, ⟨none, 0, rfl, Nat.le_refl _, rfl, .inl rfl⟩, B.out⟩
  | some q =>
    obtain ⟨xs, su⟩ := q
    obtain ⟨f, born, ck, v, hm, hb, hff, ho, hby, hsu, hlen, rfl⟩ := hf
    have E := Lib.hid (show namC ⟨some (xs, su), fu, dead⟩ nm = [.string nm] from rfl)
    have hml := lt_of_heap hm
    have hr := run_range_map (P := Tryz.prog) w 28 _ _ m _ ck Tryz.underlying28 hm
    have hi0 := heap_alloc_new w (.mapIter (some m) ck #[] ck)
    have hm0 : (w.alloc (.mapIter (some m) ck #[] ck)).heap[m]? = some (.map #[ent nm f born] ck) := (heap_alloc_old _ _ hml).trans hm
    have hx := fun ty => run_next_first_ (P := Tryz.prog) ty hi0 hm0 hb
    have hset := MapKept.heap_set (o' := Obj.mapIter (some m) ck #[born] ck) hi0
    obtain ⟨W1, hW1⟩ : ∃ W1, W1 = setH (w.alloc (.mapIter (some m) ck #[] ck)) w.heap.size (.mapIter (some m) ck #[born] ck) := ⟨_, rfl⟩
    have hi1 : W1.heap[w.heap.size]? = some (.mapIter (some m) ck #[born] ck) := by rw [hW1]; exact hset.1
    have hm1 : W1.heap[m]? = some (.map #[ent nm f born] ck) := by rw [hW1]; exact (hset.2 m (by omega)).trans hm0
    have K1 := Lib.hid (show Kp w [] W1 by rw [hW1]; exact ((Kp.refl w []).alloc _).setH (.inr (Nat.le_refl _)) _)
    rw [← hW1] at hx
    have he := run_entry_ (P := Tryz.prog) hi1 hm1
    have HI1 := Lib.hid hi1
    have HM1 := Lib.hid hm1
    have ON := Lib.hid (show Ow W1.heap.size W1 9 1 (.slice none 0 0) 0 [] from .inl ⟨rfl, rfl, rfl⟩)
    have HBn := Lib.hid hb
    clear hd hm h hff ho hby hi0 hm0 hset hi1 hm1 hW1 hb
    rw [E.out]
    go_enter Tryz.func20, Tryz.ntmps20
    go_wp2
    refine wp_loop_rounds 2 ?_
    rw [rounds_succ]
    go_wp2_with (at_builtin; refine wpList_ow rfl _ _ 58 9 (.string ⟨#[]⟩) 1 16 rfl Tryz.underlying58 str_info rfl (by decide) rfl #[.string nm] ON.out (Nat.le_refl _) rfl (by simp [Value.oneCell']) rfl (by omega) (by simp [maxLen]) ?_; intro v3 w3 hO3' hg3; have hO3 : Ow W1.heap.size w3 9 1 v3 1 [.string nm] := (by simpa using hO3'); clear hO3'; obtain ⟨A3, c3, rfl, hc3, hcl⟩ := hO3.clip; have O3 := Lib.hid hcl; have HC3 := Lib.hid hc3; clear hcl hc3; have G3 := Lib.hid hg3; have hB3 : Below W1.heap.size W1 w3 := below_of_grown_ hg3.1; have hx2 := fun ty => run_next_end_ (P := Tryz.prog) ty ((hB3.block _ (lt_of_heap HI1.out)).trans HI1.out) ((hB3.block _ (lt_of_heap HM1.out)).trans HM1.out) HBn.out; have B3 := Lib.hid hB3; clear hg3 hB3)
    rw [rounds_succ]
    clear hx hr he hml hsu hlen qm c0
    go_wp2_with (first | (go_at_call 52; refine (ssort_small _ 1 _ _ (by omega)).mono ?_; rintro e w' ⟨rfl, rfl⟩) | (go_at_call 53; refine (sclip_any _ 1 _ _ HC3.out (by omega)).mono ?_; rintro e w' ⟨rfl, rfl⟩))
    go_ret
    exact ⟨A3, rfl, Ow.rd O3.out, (K1.out.below B3.out).to_below (by simp) (Nat.le_refl _)⟩
end Go.Proofs.YtoiclicechfmgaaGreatDoor

/- The library's sort at string: the row that is sorted; Less; reverseRange. -/
namespace Go.Proofs.YtoiclicechfmgaaGreatDoor
open Go.RowKit

/-- The order of strings: by their bytes. -/
def ltB (x y : ByteArray) : Bool := Go.Sort.ltStr x.data.toList y.data.toList
theorem swo_ltB : Go.Sort.SWO ltB := ⟨fun _x => Go.Sort.swo_ltStr.irrefl _, fun _x _y _z => Go.Sort.swo_ltStr.trans _ _ _, fun _x _y _z => Go.Sort.swo_ltStr.ntrans _ _ _⟩
theorem bytesLess_ltB : ∀ (x y : List UInt8), Op.bytesLess x y = decide (x < y)
  | [], [] => by simp [Op.bytesLess]
  | _ :: _, [] => by simp [Op.bytesLess]
  | [], _ :: _ => by simp [Op.bytesLess]
  | a :: x, b :: y => by
    rw [Op.bytesLess, bytesLess_ltB x y]
    simp only [List.cons_lt_cons_iff]
    by_cases h1 : a < b <;> by_cases h2 : a = b <;> by_cases h3 : x < y <;> simp [h1, h2, h3]
/-- Block g holds the strings d, then rest; but for it and what is new nothing has turned since W. -/
structure Sd (W w : World) (g : Nat) (d : Array ByteArray) (rest : List Value) : Prop where
  blk : Blk w g 9 ((d.toList.map fun x => Value.string x) ++ rest).toArray
  kp : W.grownBy w (some g)
theorem Sd.cell {W w : World} {g : Nat} {d : Array ByteArray} {rest : List Value} (h : Sd W w g d rest) (i : Nat) (hi : i < d.size) : w.cell? ⟨g, i, none⟩ = some (.string d[i]!) := by
  rw [h.blk.cell]
  have : d[i]! = d[i] := getElem!_pos d i hi
  rw [this, List.getElem?_toArray, List.getElem?_append_left (by simpa using hi)]
  simp [hi]
theorem Sd.drew {W w : World} {g : Nat} {d : Array ByteArray} {rest : List Value} (h : Sd W w g d rest) : Sd W w.drew g d rest :=
  ⟨h.blk.drew, ⟨h.kp.os, h.kp.tape, h.kp.output, h.kp.size, h.kp.block⟩⟩
theorem Sd.drewN {W w : World} {g : Nat} {d : Array ByteArray} {rest : List Value} (h : Sd W w g d rest) : ∀ k, Sd W (w.drewN k) g d rest := fun k =>
  ⟨by have := (below_drewN_ w.heap.size w k); exact h.blk.below this h.blk.lt, h.kp.trans (grown_below_ (below_drewN_ w.heap.size w k) _)⟩
theorem Sd.set {W w : World} {g : Nat} {d : Array ByteArray} {rest : List Value} (h : Sd W w g d rest) (i : Nat) (x : ByteArray) (hi : i < d.size) : Sd W (w.setCell ⟨g, i, none⟩ (.string x)) g (d.setIfInBounds i x) rest := by
  refine ⟨?_, h.kp.trans (grown_set_ w g i _)⟩
  have := h.blk.set_ i (.string x)
  have e : ((d.toList.map fun x => Value.string x) ++ rest).toArray.setIfInBounds i (.string x) = (((d.setIfInBounds i x).toList.map fun x => Value.string x) ++ rest).toArray := by
    simp [List.setIfInBounds_toArray, hi, List.map_set]
  rw [e] at this
  exact this
theorem Sd.swp {W w : World} {g : Nat} {d : Array ByteArray} {rest : List Value} (h : Sd W w g d rest) (i j : Nat) (hi : i < d.size) (hj : j < d.size) : Sd W ((w.setCell ⟨g, i, none⟩ (.string d[j]!)).setCell ⟨g, j, none⟩ (.string d[i]!)) g (Go.Sort.swp d i j) rest := by
  unfold Go.Sort.swp
  exact (h.set i _ hi).set j _ (by simpa using hj)
theorem nan_any (x : ByteArray) (w : World) : Calls Tryz.prog 131 #[.string x] w fun e w' => e = .returned (.bool false) ∧ w' = w := by
  go_enter Tryz.func131, Tryz.ntmps131
  go_wp2
  go_ret
  exact ⟨by simp, rfl⟩
theorem less_any (x y : ByteArray) (w : World) : Calls Tryz.prog 104 #[.string x, .string y] w fun e w' => e = .returned (.bool (ltB x y)) ∧ w' = w := by
  go_enter Tryz.func104, Tryz.ntmps104
  go_wp2_with fail
  refine (nan_any x w).mono ?_
  rintro e w1 ⟨rfl, rfl⟩
  go_wp2
  go_ret
  refine ⟨?_, rfl⟩
  rw [bytesLess_ltB, Lib.toList_data, Lib.toList_data]
  rfl
end Go.Proofs.YtoiclicechfmgaaGreatDoor

/- The library's sort at string: insertionSort. -/
namespace Go.Proofs.YtoiclicechfmgaaGreatDoor
open Go.RowKit

theorem insOuter_eq (a b i : Nat) (d : Array ByteArray) : Go.Sort.insOuter ltB a b i d = if i < b then Go.Sort.insOuter ltB a b (i + 1) (Go.Sort.insInner ltB a i d) else d := by rw [Go.Sort.insOuter]
set_option maxHeartbeats 4000000 in
set_option maxRecDepth 100000 in
theorem ins_any {W w : World} {g a b c : Nat} {d : Array ByteArray} {rest : List Value} (h : Sd W w g d rest) (hab : a ≤ b) (hb : b ≤ d.size) (hs : d.size ≤ 1000000) (_hc : d.size ≤ c) :
    Calls Tryz.prog 98 #[.slice (some ⟨g, 0, none⟩) d.size c, .int .i64 a, .int .i64 b] w fun e w' => e = .returned (.tuple #[]) ∧ Sd W w' g (Go.Sort.insertionSort ltB d a b) rest := by
  have H := Lib.hid h
  obtain ⟨n, hn⟩ : ∃ n, n = d.size := ⟨_, rfl⟩
  have N := Lib.hid hn
  rw [← hn] at hb hs _hc ⊢
  clear h hn
  go_enter Tryz.func98, Tryz.ntmps98
  go_wp2_with fail
  go_loopg [6, 7] (b - a) (fun q c6 c7 wr => ∃ (i : Nat) (dk : Array ByteArray), a + 1 ≤ i ∧ q = b - (i - 1) ∧ i ≤ b + 1 ∧ c6 = .int .i64 i ∧ dk.size = n ∧ Sd W wr g dk rest ∧ Go.Sort.insOuter ltB a b i dk = Go.Sort.insertionSort ltB d a b)
  case atStart => exact ⟨a + 1, d, Nat.le_refl _, by omega, by omega, by go_num, N.out.symm, H.out, rfl⟩
  case round =>
    obtain ⟨i, dk, hi1, hq, hi2, rfl, hdk, hS, hE⟩ := hrel
    have Q := Lib.hid hq
    have DK := Lib.hid hdk
    have S := Lib.hid hS
    have E := Lib.hid hE
    clear hq hdk hS hE
    by_cases hib : i < b
    · have hib' : (i : Int) < b := by omega
      have hwi : IntKind.i64.wrap ((i : Int) + 1) = (i : Int) + 1 := IntWalk.i64_in _ (by omega)
      go_wp2_with fail
      go_loopg [7] i (fun q c7 wr => ∃ (j : Nat) (dj : Array ByteArray), j ≤ i ∧ a ≤ j ∧ q = j ∧ c7 = .int .i64 j ∧ dj.size = n ∧ Sd W wr g dj rest ∧ Go.Sort.insInner ltB a j dj = Go.Sort.insInner ltB a i dk)
      case atStart => exact ⟨i, dk, Nat.le_refl _, by omega, rfl, rfl, DK.out, S.out, rfl⟩
      case round =>
        obtain ⟨j, dj, hj1, hj2, hq, rfl, hdj, hS, hE2⟩ := hrel
        have Q2 := Lib.hid hq
        have DJ := Lib.hid hdj
        have S2 := Lib.hid hS
        have E2 := Lib.hid hE2
        have hj0 : (0 : Int) ≤ j := by omega
        have hjn : (j : Int) < n := by omega
        clear hq hdj hS hE2
        by_cases haj : a < j
        · have haj' : (a : Int) < j := by omega
          obtain ⟨k, hk⟩ : ∃ k, j = k + 1 := ⟨j - 1, by omega⟩
          have hkj : (j : Int) - 1 = (k : Int) := by omega
          have hw1 : IntKind.i64.wrap (k : Int) = (k : Int) := IntWalk.i64_in _ (by omega)
          have hk0 : (0 : Int) ≤ k := by omega
          have hkn : (k : Int) < n := by omega
          have K := Lib.hid hk
          obtain ⟨x, hx⟩ : ∃ x, x = dj[j]! := ⟨_, rfl⟩
          obtain ⟨y, hy⟩ : ∃ y, y = dj[k]! := ⟨_, rfl⟩
          have HX := Lib.hid hx
          have HY := Lib.hid hy
          have c1 : wr.drew.cell? ⟨g, j, none⟩ = some (.string x) := by rw [hx]; exact S2.out.drew.cell j (by have := DJ.out; omega)
          have c0 : wr.drew.cell? ⟨g, k, none⟩ = some (.string y) := by rw [hy]; exact S2.out.drew.cell k (by have := DJ.out; omega)
          clear hk hx hy
          go_upto_region 4 with fail
          have S0 := Lib.hid (And.intro c1 c0)
          clear c1 c0
          go_region_held3 (fun w' => w'.cell? ⟨g, j, none⟩ = some (.string x) ∧ w'.cell? ⟨g, k, none⟩ = some (.string y)) (first
            | (with_reducible exact S0.out)
            | fail)
            (first
            | (go_at_call 104; refine (less_any x y _).mono ?_; rintro e u7 ⟨rfl, rfl⟩))
          by_cases hxy : ltB x y = true
          · simp only [hxy]
            have SD := Lib.hid S2.out.drew.drew
            have c1 : wr.cell? ⟨g, j, none⟩ = some (.string x) := S0.out.1
            have c0 : wr.cell? ⟨g, k, none⟩ = some (.string y) := S0.out.2
            have fl := S2.out.blk.free
            go_upto_region 6 with fail
            have SW := S2.out.swp j k (by have := DJ.out; omega) (by have := DJ.out; omega)
            rw [← HX.out, ← HY.out] at SW
            have SWH := Lib.hid SW
            have F := Lib.hid (show Go.Sort.insInner ltB a k (Go.Sort.swp dj j k) = Go.Sort.insInner ltB a i dk from by
              have h := E2.out
              have hc : (decide (k + 1 > a) && ltB dj[k + 1]! dj[k]!) = true := by
                rw [← K.out, ← HX.out, ← HY.out, hxy, decide_eq_true (by omega)]; rfl
              rw [K.out, Go.Sort.insInner, if_pos hc, ← K.out] at h
              exact h)
            clear SW
            go_region
            go_wp2
            go_roundg k
            case measure => have := Q2.out; omega
            case rel =>
              refine ⟨k, Go.Sort.swp dj j k, by omega, by omega, rfl, by go_num, by rw [Go.Sort.swp_size]; exact DJ.out, ?_, F.out⟩
              exact SWH.out.drew.drew
          · have hxf : ltB x y = false := by simpa using hxy
            simp only [hxf]
            have F := Lib.hid (show dj = Go.Sort.insInner ltB a i dk from by
              have := E2.out
              rw [K.out, Go.Sort.insInner, ← K.out, ← HX.out, ← HY.out, (by simpa using hxy : ltB x y = false), Bool.and_false] at this
              exact this)
            go_wp2
            go_roundg (b - i)
            case measure => have := Q.out; omega
            case rel =>
              refine ⟨i + 1, dj, by omega, by omega, by omega, by go_num, DJ.out, S2.out.drew, ?_⟩
              have h := E.out
              rw [insOuter_eq, if_pos hib, ← F.out] at h
              exact h
        · have haj' : ¬ (a : Int) < j := by omega
          have F := Lib.hid (show dj = Go.Sort.insInner ltB a i dk from by
            have := E2.out
            cases j with
            | zero => exact this
            | succ k =>
              rw [Go.Sort.insInner, decide_eq_false (by omega), Bool.false_and] at this
              exact this)
          go_upto_region 4 with fail
          go_quiet (fail)
          go_wp2
          go_roundg (b - i)
          case measure => have := Q.out; omega
          case rel =>
            refine ⟨i + 1, dj, by omega, by omega, by omega, by go_num, DJ.out, S2.out.drewN _, ?_⟩
            have h := E.out
            rw [insOuter_eq, if_pos hib, ← F.out] at h
            exact h
    · obtain hib' : ¬ (i : Int) < b := by omega
      have F := Lib.hid (show dk = Go.Sort.insertionSort ltB d a b from by have := E.out; rw [insOuter_eq, if_neg hib] at this; exact this)
      go_wp2
      refine bodyPost_end (results_none rfl _ _ _) rfl ⟨rfl, ?_⟩
      rw [← F.out]
      exact S.out
end Go.Proofs.YtoiclicechfmgaaGreatDoor

/- The library's sort at string: reverseRange. -/
namespace Go.Proofs.YtoiclicechfmgaaGreatDoor
open Go.RowKit

set_option maxHeartbeats 4000000 in
set_option maxRecDepth 100000 in
theorem rev_any {W w : World} {g a b c : Nat} {d : Array ByteArray} {rest : List Value} (h : Sd W w g d rest) (hab : a < b) (hb : b ≤ d.size) (hs : d.size ≤ 1000000) (_hc : d.size ≤ c) :
    Calls Tryz.prog 102 #[.slice (some ⟨g, 0, none⟩) d.size c, .int .i64 a, .int .i64 b] w fun e w' => e = .returned (.tuple #[]) ∧ Sd W w' g (Go.Sort.reverseRange d a b) rest := by
  have H := Lib.hid h
  obtain ⟨n, hn⟩ : ∃ n, n = d.size := ⟨_, rfl⟩
  have N := Lib.hid hn
  rw [← hn] at hb hs _hc ⊢
  have hb1 : (b : Int) - 1 = ((b - 1 : Nat) : Int) := by omega
  clear h hn
  go_enter Tryz.func102, Tryz.ntmps102
  go_wp2_with fail
  go_loopg [6, 7] (b - a) (fun q c6 c7 wr => ∃ (i j : Nat) (dk : Array ByteArray), q = j + 1 - i ∧ j < b ∧ i ≤ j + 2 ∧ c6 = .int .i64 i ∧ c7 = .int .i64 j ∧ dk.size = n ∧ Sd W wr g dk rest ∧ Go.Sort.reverseLoop i j dk = Go.Sort.reverseRange d a b)
  case atStart => exact ⟨a, b - 1, d, by omega, by omega, by omega, rfl, by go_num, N.out.symm, H.out, rfl⟩
  case round =>
    obtain ⟨i, j, dk, hq, hj, hi, rfl, rfl, hdk, hS, hE⟩ := hrel
    have Q := Lib.hid hq
    have DK := Lib.hid hdk
    have S := Lib.hid hS
    have E := Lib.hid hE
    clear hq hdk hS hE
    by_cases hij : i < j
    · have hij' : (i : Int) < j := by omega
      have hi0 : (0 : Int) ≤ i := by omega
      have hj0 : (0 : Int) ≤ j := by omega
      have hin : (i : Int) < n := by omega
      have hjn : (j : Int) < n := by omega
      obtain ⟨x, hx⟩ : ∃ x, x = dk[i]! := ⟨_, rfl⟩
      obtain ⟨y, hy⟩ : ∃ y, y = dk[j]! := ⟨_, rfl⟩
      have c0 : wr.cell? ⟨g, i, none⟩ = some (.string x) := by rw [hx]; exact S.out.cell i (by have := DK.out; omega)
      have c1 : wr.cell? ⟨g, j, none⟩ = some (.string y) := by rw [hy]; exact S.out.cell j (by have := DK.out; omega)
      have fl := S.out.blk.free
      have SW := S.out.swp i j (by have := DK.out; omega) (by have := DK.out; omega)
      rw [← hx, ← hy] at SW
      have SWH := Lib.hid SW
      have hwi : IntKind.i64.wrap ((i : Int) + 1) = (i : Int) + 1 := IntWalk.i64_in _ (by omega)
      have hwj : IntKind.i64.wrap ((j : Int) - 1) = (j : Int) - 1 := IntWalk.i64_in _ (by omega)
      clear hx hy SW
      go_upto_region 3 with fail
      go_region
      go_wp2
      go_roundg (j - 1 + 1 - (i + 1))
      case measure => have := Q.out; omega
      case rel =>
        refine ⟨i + 1, j - 1, Go.Sort.swp dk i j, rfl, by omega, by omega, by go_num, by go_num, by rw [Go.Sort.swp_size]; exact DK.out, SWH.out.drew, ?_⟩
        have h := E.out
        rw [Go.Sort.reverseLoop, if_pos hij] at h
        exact h
    · have hij' : ¬ (i : Int) < j := by omega
      have F := Lib.hid (show dk = Go.Sort.reverseRange d a b from by have h := E.out; rw [Go.Sort.reverseLoop, if_neg hij] at h; exact h)
      go_wp2
      refine bodyPost_end (results_none rfl _ _ _) rfl ⟨rfl, ?_⟩
      rw [← F.out]
      exact S.out
end Go.Proofs.YtoiclicechfmgaaGreatDoor

/- The library's sort at string: siftDown. -/
namespace Go.Proofs.YtoiclicechfmgaaGreatDoor
open Go.RowKit

set_option maxHeartbeats 4000000 in
set_option maxRecDepth 100000 in
theorem sift_any {W w : World} {g lo hi first c : Nat} {d : Array ByteArray} {rest : List Value} (h : Sd W w g d rest) (hf : first + hi ≤ d.size) (hlo : lo ≤ hi) (hs : d.size ≤ 1000000) (_hc : d.size ≤ c) :
    Calls Tryz.prog 126 #[.slice (some ⟨g, 0, none⟩) d.size c, .int .i64 lo, .int .i64 hi, .int .i64 first] w fun e w' => e = .returned (.tuple #[]) ∧ Sd W w' g (Go.Sort.siftDown ltB hi first lo d) rest := by
  have H := Lib.hid h
  obtain ⟨n, hn⟩ : ∃ n, n = d.size := ⟨_, rfl⟩
  have N := Lib.hid hn
  rw [← hn] at hf hs _hc ⊢
  clear h hn
  go_enter Tryz.func126, Tryz.ntmps126
  go_wp2_with fail
  go_loopg [8, 9] (hi - lo) (fun q c8 c9 wr => ∃ (root : Nat) (dk : Array ByteArray), q = hi - root ∧ root ≤ hi ∧ c8 = .int .i64 root ∧ dk.size = n ∧ Sd W wr g dk rest ∧ Go.Sort.siftDown ltB hi first root dk = Go.Sort.siftDown ltB hi first lo d)
  case atStart => exact ⟨lo, d, rfl, hlo, rfl, N.out.symm, H.out, rfl⟩
  case round =>
    obtain ⟨root, dk, hq, hr, rfl, hdk, hS, hE⟩ := hrel
    have Q := Lib.hid hq
    have DK := Lib.hid hdk
    have S := Lib.hid hS
    have E := Lib.hid hE
    have hw2 : IntKind.i64.wrap (2 * (root : Int)) = 2 * (root : Int) := IntWalk.i64_in _ (by omega)
    have hw3 : IntKind.i64.wrap (2 * (root : Int) + 1) = 2 * (root : Int) + 1 := IntWalk.i64_in _ (by omega)
    obtain ⟨ch, hch⟩ : ∃ ch, ch = 2 * root + 1 := ⟨_, rfl⟩
    have hch' : 2 * (root : Int) + 1 = (ch : Int) := by omega
    have CH := Lib.hid hch
    clear hq hdk hS hE
    by_cases h1 : hi ≤ ch
    · have h1' : (hi : Int) ≤ ch := by omega
      have F := Lib.hid (show dk = Go.Sort.siftDown ltB hi first lo d from by have h := E.out; rw [Go.Sort.siftDown, dif_pos (by omega)] at h; exact h)
      clear hch
      go_wp2
      refine bodyPost_end (results_none rfl _ _ _) rfl ⟨rfl, ?_⟩
      rw [← F.out]
      exact S.out
    · have h1' : ¬ (hi : Int) ≤ ch := by omega
      have CH1 := Lib.hid hch
      obtain ⟨fr, hfr0⟩ : ∃ z, z = first + root := ⟨_, rfl⟩
      obtain ⟨fc, hfc0⟩ : ∃ z, z = first + ch := ⟨_, rfl⟩
      obtain ⟨fd, hfd0⟩ : ∃ z, z = first + ch + 1 := ⟨_, rfl⟩
      obtain ⟨cd, hcd0⟩ : ∃ z, z = ch + 1 := ⟨_, rfl⟩
      have FR := Lib.hid hfr0
      have FC := Lib.hid hfc0
      have FD := Lib.hid hfd0
      have CD := Lib.hid hcd0
      have hfr : (first : Int) + (root : Int) = (fr : Int) := by omega
      have hfc : (first : Int) + (ch : Int) = (fc : Int) := by omega
      have hfc1 : (fc : Int) + 1 = (fd : Int) := by omega
      have hw4 : ∀ z : Nat, z ≤ 3000000 → IntKind.i64.wrap (z : Int) = (z : Int) := fun z _ => IntWalk.i64_in _ (by omega)
      have hwa := hw4 fr (by omega)
      have hwb := hw4 fc (by omega)
      have hwc := hw4 fd (by omega)
      have hc1 : (ch : Int) + 1 = (cd : Int) := by omega
      have hwd := hw4 cd (by omega)
      have hfe : (first : Int) + (cd : Int) = (fd : Int) := by omega
      have n0 : (0 : Int) ≤ (fr : Int) := by omega
      have n1 : (0 : Int) ≤ (fc : Int) := by omega
      have m0 : (fr : Int) < n := by omega
      have m1 : (fc : Int) < n := by omega
      have hrt : root < hi := by omega
      have hcd : ch < hi := by omega
      clear hw4 hch hfr0 hfc0 hfd0 hcd0
      by_cases h2 : cd < hi
      · have h2' : (cd : Int) < hi := by omega
        have n2 : (0 : Int) ≤ (fd : Int) := by omega
        have m2 : (fd : Int) < n := by have := FD.out; have := CD.out; omega
        obtain ⟨x, hx⟩ : ∃ x, x = dk[fc]! := ⟨_, rfl⟩
        obtain ⟨y, hy⟩ : ∃ y, y = dk[fd]! := ⟨_, rfl⟩
        have HX := Lib.hid hx
        have HY := Lib.hid hy
        have c0 : wr.drew.cell? ⟨g, fc, none⟩ = some (.string x) := by rw [hx]; exact S.out.drew.cell _ (by have := DK.out; have := FR.out; have := FC.out; have := FD.out; have := CD.out; omega)
        have c1 : wr.drew.cell? ⟨g, fd, none⟩ = some (.string y) := by rw [hy]; exact S.out.drew.cell _ (by have := DK.out; have := FR.out; have := FC.out; have := FD.out; have := CD.out; omega)
        clear hx hy
        go_upto_region 3 with fail
        have S0 := Lib.hid (And.intro c0 c1)
        clear c0 c1
        go_region_held3 (fun w' => w'.cell? ⟨g, fc, none⟩ = some (.string x) ∧ w'.cell? ⟨g, fd, none⟩ = some (.string y)) (first
          | (with_reducible exact S0.out)
          | fail)
          (first
          | (go_at_call 104; refine (less_any x y _).mono ?_; rintro e u7 ⟨rfl, rfl⟩))
        by_cases hxy : ltB x y = true
        · simp only [hxy]
          skip
          have SR := Lib.hid S.out.drew
          obtain ⟨p, hp⟩ : ∃ p, p = dk[fr]! := ⟨_, rfl⟩
          obtain ⟨v, hv⟩ : ∃ v, v = dk[fd]! := ⟨_, rfl⟩
          obtain ⟨t, ht⟩ : ∃ t : Bool, t = ltB p v := ⟨_, rfl⟩
          have T := Lib.hid ht
          have LT := Lib.hid (show ∀ u, Calls Tryz.prog 104 #[.string p, .string v] u fun e w' => e = .returned (.bool t) ∧ w' = u from fun u => by rw [ht]; exact less_any p v u)
          clear ht
          have HP := Lib.hid hp
          have HV := Lib.hid hv
          have r0 : wr.drew.drew.cell? ⟨g, fr, none⟩ = some (.string p) := by rw [hp]; exact S.out.drew.drew.cell _ (by have := DK.out; have := FR.out; have := FC.out; have := FD.out; have := CD.out; omega)
          have r1 : wr.drew.drew.cell? ⟨g, fd, none⟩ = some (.string v) := by rw [hv]; exact S.out.drew.drew.cell _ (by have := DK.out; have := FR.out; have := FC.out; have := FD.out; have := CD.out; omega)
          clear hp hv
          go_upto_region 5 with fail
          have S0 := Lib.hid (And.intro r0 r1)
          clear r0 r1
          go_region_held3 (fun w' => w'.cell? ⟨g, fr, none⟩ = some (.string p) ∧ w'.cell? ⟨g, fd, none⟩ = some (.string v)) (first
            | (with_reducible exact S0.out)
            | fail)
            (first
            | (go_at_call 104; refine (LT.out _).mono ?_; rintro e u7 ⟨rfl, rfl⟩))
          rcases Bool.eq_false_or_eq_true t with htt | htt <;> subst htt
          · have hpv : ltB p v = true := T.out.symm
            have c0 : wr.cell? ⟨g, fr, none⟩ = some (.string p) := S0.out.1
            have c1 : wr.cell? ⟨g, fd, none⟩ = some (.string v) := S0.out.2
            have fl := S.out.blk.free
            have SW := S.out.swp (fr) (fd) (by have := DK.out; have := FR.out; have := FC.out; have := FD.out; have := CD.out; omega) (by have := DK.out; have := FR.out; have := FC.out; have := FD.out; have := CD.out; omega)
            rw [← HP.out, ← HV.out] at SW
            have SWH := Lib.hid SW
            clear SW
            go_upto_region 6 with fail
            go_region
            go_wp2
            go_roundg (hi - cd)
            case measure => have := Q.out; omega
            case rel =>
              refine ⟨cd, Go.Sort.swp dk (fr) (fd), rfl, by omega, by go_num, by rw [Go.Sort.swp_size]; exact DK.out, SWH.out.drew.drew.drew, ?_⟩
              have h := E.out
              have hl : ltB dk[fr]! dk[fd]! = true := by rw [← HP.out, ← HV.out, hpv]
              have FD2 : fd = first + cd := by have := FD.out; have := CD.out; omega
              rw [Go.Sort.siftDown, dif_neg (by have := CH1.out; omega), if_pos (by rw [← CH1.out, ← FD.out, ← FC.out, ← HX.out, ← HY.out, hxy, decide_eq_true (by have := CD.out; omega)]; rfl), show 2 * root + 2 = cd by have := CH1.out; have := CD.out; omega, ← FD2, ← FR.out, hl] at h
              rw [Bool.not_true, if_neg Bool.false_ne_true, dif_pos h2] at h
              exact h
          · have hpv : ltB p v = false := T.out.symm
            have F := Lib.hid (show dk = Go.Sort.siftDown ltB hi first lo d from by
              have h := E.out
              have hl : ltB dk[fr]! dk[fd]! = false := by rw [← HP.out, ← HV.out, (by simpa using hpv : ltB p v = false)]
              have FD2 : fd = first + cd := by have := FD.out; have := CD.out; omega
              rw [Go.Sort.siftDown, dif_neg (by have := CH1.out; omega), if_pos (by rw [← CH1.out, ← FD.out, ← FC.out, ← HX.out, ← HY.out, hxy, decide_eq_true (by have := CD.out; omega)]; rfl), show 2 * root + 2 = cd by have := CH1.out; have := CD.out; omega, ← FD2, ← FR.out, hl] at h
              rw [Bool.not_false, if_pos rfl] at h
              exact h)
            go_wp2
            refine bodyPost_ret (results_none rfl _ _ _) rfl ⟨rfl, ?_⟩
            rw [← F.out]
            exact S.out.drew.drew
        · have hxf : ltB x y = false := by simpa using hxy
          simp only [hxf]
          skip
          have SR := Lib.hid S.out.drew
          obtain ⟨p, hp⟩ : ∃ p, p = dk[fr]! := ⟨_, rfl⟩
          obtain ⟨v, hv⟩ : ∃ v, v = dk[fc]! := ⟨_, rfl⟩
          obtain ⟨t, ht⟩ : ∃ t : Bool, t = ltB p v := ⟨_, rfl⟩
          have T := Lib.hid ht
          have LT := Lib.hid (show ∀ u, Calls Tryz.prog 104 #[.string p, .string v] u fun e w' => e = .returned (.bool t) ∧ w' = u from fun u => by rw [ht]; exact less_any p v u)
          clear ht
          have HP := Lib.hid hp
          have HV := Lib.hid hv
          have r0 : wr.drew.drew.cell? ⟨g, fr, none⟩ = some (.string p) := by rw [hp]; exact S.out.drew.drew.cell _ (by have := DK.out; have := FR.out; have := FC.out; have := FD.out; have := CD.out; omega)
          have r1 : wr.drew.drew.cell? ⟨g, fc, none⟩ = some (.string v) := by rw [hv]; exact S.out.drew.drew.cell _ (by have := DK.out; have := FR.out; have := FC.out; have := FD.out; have := CD.out; omega)
          clear hp hv
          go_upto_region 5 with fail
          have S0 := Lib.hid (And.intro r0 r1)
          clear r0 r1
          go_region_held3 (fun w' => w'.cell? ⟨g, fr, none⟩ = some (.string p) ∧ w'.cell? ⟨g, fc, none⟩ = some (.string v)) (first
            | (with_reducible exact S0.out)
            | fail)
            (first
            | (go_at_call 104; refine (LT.out _).mono ?_; rintro e u7 ⟨rfl, rfl⟩))
          rcases Bool.eq_false_or_eq_true t with htt | htt <;> subst htt
          · have hpv : ltB p v = true := T.out.symm
            have c0 : wr.cell? ⟨g, fr, none⟩ = some (.string p) := S0.out.1
            have c1 : wr.cell? ⟨g, fc, none⟩ = some (.string v) := S0.out.2
            have fl := S.out.blk.free
            have SW := S.out.swp (fr) (fc) (by have := DK.out; have := FR.out; have := FC.out; have := FD.out; have := CD.out; omega) (by have := DK.out; have := FR.out; have := FC.out; have := FD.out; have := CD.out; omega)
            rw [← HP.out, ← HV.out] at SW
            have SWH := Lib.hid SW
            clear SW
            go_upto_region 6 with fail
            go_region
            go_wp2
            go_roundg (hi - ch)
            case measure => have := Q.out; omega
            case rel =>
              refine ⟨ch, Go.Sort.swp dk (fr) (fc), rfl, by omega, by go_num, by rw [Go.Sort.swp_size]; exact DK.out, SWH.out.drew.drew.drew, ?_⟩
              have h := E.out
              have hl : ltB dk[fr]! dk[fc]! = true := by rw [← HP.out, ← HV.out, hpv]
              rw [Go.Sort.siftDown, dif_neg (by have := CH1.out; omega), if_neg (by rw [← CH1.out, ← FD.out, ← FC.out, ← HX.out, ← HY.out, (show ltB x y = false by simpa using hxy), Bool.and_false]; decide), ← CH1.out, ← FC.out, ← FR.out, hl] at h
              rw [Bool.not_true, if_neg Bool.false_ne_true] at h
              exact h
          · have hpv : ltB p v = false := T.out.symm
            have F := Lib.hid (show dk = Go.Sort.siftDown ltB hi first lo d from by
              have h := E.out
              have hl : ltB dk[fr]! dk[fc]! = false := by rw [← HP.out, ← HV.out, (by simpa using hpv : ltB p v = false)]
              rw [Go.Sort.siftDown, dif_neg (by have := CH1.out; omega), if_neg (by rw [← CH1.out, ← FD.out, ← FC.out, ← HX.out, ← HY.out, (show ltB x y = false by simpa using hxy), Bool.and_false]; decide), ← CH1.out, ← FC.out, ← FR.out, hl] at h
              rw [Bool.not_false, if_pos rfl] at h
              exact h)
            go_wp2
            refine bodyPost_ret (results_none rfl _ _ _) rfl ⟨rfl, ?_⟩
            rw [← F.out]
            exact S.out.drew.drew
      · have h2' : ¬ (cd : Int) < hi := by omega
        go_upto_region 3 with fail
        go_quiet (fail)
        have SR := Lib.hid S.out.drew
        obtain ⟨p, hp⟩ : ∃ p, p = dk[fr]! := ⟨_, rfl⟩
        obtain ⟨v, hv⟩ : ∃ v, v = dk[fc]! := ⟨_, rfl⟩
        obtain ⟨t, ht⟩ : ∃ t : Bool, t = ltB p v := ⟨_, rfl⟩
        have T := Lib.hid ht
        have LT := Lib.hid (show ∀ u, Calls Tryz.prog 104 #[.string p, .string v] u fun e w' => e = .returned (.bool t) ∧ w' = u from fun u => by rw [ht]; exact less_any p v u)
        clear ht
        have HP := Lib.hid hp
        have HV := Lib.hid hv
        have r0 : (wr.drewN nq).drew.cell? ⟨g, fr, none⟩ = some (.string p) := by rw [hp]; exact (S.out.drewN nq).drew.cell _ (by have := DK.out; have := FR.out; have := FC.out; have := FD.out; have := CD.out; omega)
        have r1 : (wr.drewN nq).drew.cell? ⟨g, fc, none⟩ = some (.string v) := by rw [hv]; exact (S.out.drewN nq).drew.cell _ (by have := DK.out; have := FR.out; have := FC.out; have := FD.out; have := CD.out; omega)
        clear hp hv
        go_upto_region 5 with fail
        have S0 := Lib.hid (And.intro r0 r1)
        clear r0 r1
        go_region_held3 (fun w' => w'.cell? ⟨g, fr, none⟩ = some (.string p) ∧ w'.cell? ⟨g, fc, none⟩ = some (.string v)) (first
          | (with_reducible exact S0.out)
            | exact S0.out
          | fail)
          (first
          | (go_at_call 104; refine (LT.out _).mono ?_; rintro e u7 ⟨rfl, rfl⟩))
        rcases Bool.eq_false_or_eq_true t with htt | htt <;> subst htt
        · have hpv : ltB p v = true := T.out.symm
          have c0 : wr.cell? ⟨g, fr, none⟩ = some (.string p) := S0.out.1
          have c1 : wr.cell? ⟨g, fc, none⟩ = some (.string v) := S0.out.2
          have fl := S.out.blk.free
          have SW := S.out.swp (fr) (fc) (by have := DK.out; have := FR.out; have := FC.out; have := FD.out; have := CD.out; omega) (by have := DK.out; have := FR.out; have := FC.out; have := FD.out; have := CD.out; omega)
          rw [← HP.out, ← HV.out] at SW
          have SWH := Lib.hid SW
          clear SW
          go_upto_region 6 with fail
          go_region
          go_wp2
          go_roundg (hi - ch)
          case measure => have := Q.out; omega
          case rel =>
            refine ⟨ch, Go.Sort.swp dk (fr) (fc), rfl, by omega, by go_num, by rw [Go.Sort.swp_size]; exact DK.out, (SWH.out.drewN nq).drew.drew, ?_⟩
            have h := E.out
            have hl : ltB dk[fr]! dk[fc]! = true := by rw [← HP.out, ← HV.out, hpv]
            rw [Go.Sort.siftDown, dif_neg (by have := CH1.out; omega), if_neg (by rw [← CH1.out, ← CD.out, decide_eq_false h2, Bool.false_and]; decide), ← CH1.out, ← FC.out, ← FR.out, hl] at h
            rw [Bool.not_true, if_neg Bool.false_ne_true] at h
            exact h
        · have hpv : ltB p v = false := T.out.symm
          have F := Lib.hid (show dk = Go.Sort.siftDown ltB hi first lo d from by
            have h := E.out
            have hl : ltB dk[fr]! dk[fc]! = false := by rw [← HP.out, ← HV.out, (by simpa using hpv : ltB p v = false)]
            rw [Go.Sort.siftDown, dif_neg (by have := CH1.out; omega), if_neg (by rw [← CH1.out, ← CD.out, decide_eq_false h2, Bool.false_and]; decide), ← CH1.out, ← FC.out, ← FR.out, hl] at h
            rw [Bool.not_false, if_pos rfl] at h
            exact h)
          go_wp2
          refine bodyPost_ret (results_none rfl _ _ _) rfl ⟨rfl, ?_⟩
          rw [← F.out]
          exact (S.out.drewN nq).drew
end Go.Proofs.YtoiclicechfmgaaGreatDoor
