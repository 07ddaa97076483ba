/- A disk of one file at most: its names. -/
import Derived.Test.YtenobcfgapolhaaDskA
namespace Go.Proofs.Ytenobcfgapolhaa
open Go.RowKit

section
variable {P : Program} {W : World} {it m since c0 ck born f : Nat} {nm : ByteArray}
theorem run_next_none_ (ty : TypeId) (hi : W.heap[it]? = some (.mapIter (some m) since #[] c0)) (hm : W.heap[m]? = some (.map #[] ck)) :
    (Instr.next (.pointer (some ⟨it, 0, none⟩)) false ty).run P W = .ok (.tuple #[.bool false]) W := by
  simp [Instr.next, getObj, Sem.run, hi, hm, Result.andThen, choose, Question.forced]
theorem run_next_first_ (ty : TypeId) (hi : W.heap[it]? = some (.mapIter (some m) since #[] c0)) (hm : W.heap[m]? = some (.map #[ent nm f born] ck)) (hb : born < since) :
    (Instr.next (.pointer (some ⟨it, 0, none⟩)) false ty).run P W = .ok (.tuple #[.bool true, .string nm, .pointer (some ⟨f, 0, none⟩)]) (setH W it (.mapIter (some m) since #[born] ck)) := by
  have h1 : ¬ since ≤ born := by omega
  simp [Instr.next, getObj, setObj, Sem.run, hi, hm, Result.andThen, choose, Question.forced, ent, hb, h1, setH]
theorem run_next_end_ (ty : TypeId) (hi : W.heap[it]? = some (.mapIter (some m) since #[born] c0)) (hm : W.heap[m]? = some (.map #[ent nm f born] ck)) (hb : born < c0) :
    (Instr.next (.pointer (some ⟨it, 0, none⟩)) false ty).run P W = .ok (.tuple #[.bool false]) W := by
  have h1 : ¬ c0 ≤ born := by omega
  simp [Instr.next, getObj, Sem.run, hi, hm, Result.andThen, choose, Question.forced, ent, h1]
theorem run_entry_ (hi : W.heap[it]? = some (.mapIter (some m) since #[born] ck)) (hm : W.heap[m]? = some (.map #[ent nm f born] ck)) :
    (Instr.entry (.pointer (some ⟨it, 0, none⟩))).run P W = .ok (.tuple #[.string nm, .pointer (some ⟨f, 0, none⟩)]) W := by
  simp [Instr.entry, getObj, Sem.run, hi, hm, Result.andThen, ent]
end

theorem str_info : (Try.prog.info? 9).map (fun i => (i.zero, i.size, i.bytes)) = some (some (.string ⟨#[]⟩), 1, 16) := by kernel_rfl

theorem sclip_any (A : Option Addr) (n c : Nat) (w : World) (hc : n ≤ c) (hn : n ≤ 4611686018427387904) :
    Calls Try.prog 49 #[.slice A n c] w fun e w' => e = .returned (.slice A n n) ∧ w = w' := by
  have h1 : (n : Int) ≤ (c : Int) := by omega
  have h2 : (n : Int) ≤ 4611686018427387904 := by omega
  have h3 : ¬ (c : Int) < (n : Int) := by omega
  go_enter Try.func49, Try.ntmps49
  go_wp2
  go_ret
  exact ⟨by cases A <;> simp, rfl⟩

set_option maxRecDepth 1000000 in
set_option maxHeartbeats 4000000 in
theorem len64_small (x : Int) (w : World) (h0 : 0 ≤ x) (h1 : x ≤ 12) : Calls Try.prog 63 #[.int .u64 x] w fun e w' => (∃ y, e = .returned (.int .i64 y)) ∧ w = w' := by
  go_enter Try.func63, Try.ntmps63
  go_wp2
  go_ret
  exact ⟨⟨_, rfl⟩, rfl⟩
theorem len_small (x : Int) (w : World) (h0 : 0 ≤ x) (h1 : x ≤ 12) : Calls Try.prog 52 #[.int .u64 x] w fun e w' => (∃ y, e = .returned (.int .i64 y)) ∧ w = w' := by
  go_enter Try.func52, Try.ntmps52
  go_wp2_with (go_at_call 63; refine (len64_small _ _ h0 h1).mono ?_; rintro e w' ⟨⟨y, rfl⟩, rfl⟩)
  go_ret
  exact ⟨⟨_, rfl⟩, rfl⟩

theorem sins_small (A : Option Addr) (n c : Nat) (w : World) (hn : n ≤ 1) : Calls Try.prog 53 #[.slice A n c, .int .i64 0, .int .i64 n] w fun e w' => e = .returned (.tuple #[]) ∧ w = w' := by
  have h1 : ¬ (1 : Int) < (n : Int) := by omega
  go_enter Try.func53, Try.ntmps53
  go_wp2
  refine wp_loop_rounds 1 ?_
  rw [rounds_succ]
  go_wp2
  go_end0
  exact ⟨rfl, rfl⟩

set_option maxRecDepth 100000 in
set_option maxHeartbeats 1000000 in
theorem spdq_small (A : Option Addr) (n c : Nat) (y : Int) (w : World) (hn : n ≤ 1) : Calls Try.prog 51 #[.slice A n c, .int .i64 0, .int .i64 n, .int .i64 y] w fun e w' => e = .returned (.tuple #[]) ∧ w = w' := by
  have h1 : (n : Int) ≤ 12 := by omega
  go_enter Try.func51, Try.ntmps51
  go_wp2
  refine wp_loop_rounds 1 ?_
  rw [rounds_succ]
  go_wp2_with (go_at_call 53; refine (sins_small A n c _ hn).mono ?_; rintro e w' ⟨rfl, rfl⟩)
  refine bodyPost_ret (results_none rfl _ _ _) rfl ?_
  exact ⟨rfl, rfl⟩

theorem ssort_small (A : Option Addr) (n c : Nat) (w : World) (hn : n ≤ 1) : Calls Try.prog 48 #[.slice A n c] w fun e w' => e = .returned (.tuple #[]) ∧ w = w' := by
  go_enter Try.func48, Try.ntmps48
  go_wp2_with (first | (go_at_call 52; refine (len_small _ _ (by omega) (by omega)).mono ?_; rintro e w' ⟨⟨y, rfl⟩, rfl⟩) | (go_at_call 51; refine (spdq_small A n c _ _ hn).mono ?_; rintro e w' ⟨rfl, rfl⟩))
  go_end0
  exact ⟨rfl, rfl⟩

/-- The names' cells. -/
def namC (s : Dst) (nm : ByteArray) : List Value := match s.file with
  | none => []
  | some _ => [.string nm]

set_option maxRecDepth 100000 in
set_option maxHeartbeats 1000000 in
theorem dnames (nm : ByteArray) (d : Nat) (s : Dst) (F : List Nat) (w : World) (h : Dk w d nm s F) :
    Calls Try.prog 29 #[.pointer (some ⟨d, 0, none⟩)] w fun e w' => ∃ P, e = .returned (.slice P (namC s nm).length (namC s nm).length) ∧ Rd w' 1 (.slice P (namC s nm).length (namC s nm).length) (namC s nm).length (namC s nm) ∧ Below w.heap.size w w' := by
  obtain ⟨m, G, hd, hf, rfl⟩ := h.ex
  have c0 := hd.cell 0
  simp at c0
  obtain ⟨file, fu, dead⟩ := s
  have qm := fun (w : World) (r : Option Nat) => run_neq_map_nil (P := Try.prog) w _ _ _ r Try.underlying44
  cases file with
  | none =>
    obtain ⟨ck, hm, rfl⟩ := hf
    have E := Lib.hid (show namC ⟨none, fu, dead⟩ nm = [] from rfl)
    have hr := run_range_map (P := Try.prog) w 44 _ _ m #[] ck Try.underlying44 hm
    have hm' : (w.alloc (.mapIter (some m) ck #[] ck)).heap[m]? = some (.map #[] ck) := (heap_alloc_old _ _ (lt_of_heap hm)).trans hm
    have hx := fun ty => run_next_none_ (P := Try.prog) ty (heap_alloc_new w (.mapIter (some m) ck #[] ck)) hm'
    have B := Lib.hid (below_alloc_ w (.mapIter (some m) ck #[] ck))
    clear hd hm hm' h
    rw [E.out]
    go_enter Try.func29, Try.ntmps29
    go_wp2
    refine wp_loop_rounds 1 ?_
    rw [rounds_succ]
    go_wp2_with (first | (go_at_call 48; refine (ssort_small _ _ _ _ (by omega)).mono ?_; rintro e w' ⟨rfl, rfl⟩) | (go_at_call 49; refine (sclip_any _ _ _ _ (by omega) (by omega)).mono ?_; rintro e w' ⟨rfl, rfl⟩))
    go_ret
    exact ⟨none, rfl, ⟨none, 0, rfl, Nat.le_refl _, rfl, .inl rfl⟩, B.out⟩
  | some q =>
    obtain ⟨xs, su⟩ := q
    obtain ⟨f, born, ck, v, hm, hb, hff, ho, hby, hsu, hlen, rfl⟩ := hf
    have E := Lib.hid (show namC ⟨some (xs, su), fu, dead⟩ nm = [.string nm] from rfl)
    have hml := lt_of_heap hm
    have hr := run_range_map (P := Try.prog) w 44 _ _ m _ ck Try.underlying44 hm
    have hi0 := heap_alloc_new w (.mapIter (some m) ck #[] ck)
    have hm0 : (w.alloc (.mapIter (some m) ck #[] ck)).heap[m]? = some (.map #[ent nm f born] ck) := (heap_alloc_old _ _ hml).trans hm
    have hx := fun ty => run_next_first_ (P := Try.prog) ty hi0 hm0 hb
    have hset := MapKept.heap_set (o' := Obj.mapIter (some m) ck #[born] ck) hi0
    obtain ⟨W1, hW1⟩ : ∃ W1, W1 = setH (w.alloc (.mapIter (some m) ck #[] ck)) w.heap.size (.mapIter (some m) ck #[born] ck) := ⟨_, rfl⟩
    have hi1 : W1.heap[w.heap.size]? = some (.mapIter (some m) ck #[born] ck) := by rw [hW1]; exact hset.1
    have hm1 : W1.heap[m]? = some (.map #[ent nm f born] ck) := by rw [hW1]; exact (hset.2 m (by omega)).trans hm0
    have K1 := Lib.hid (show Kp w [] W1 by rw [hW1]; exact ((Kp.refl w []).alloc _).setH (.inr (Nat.le_refl _)) _)
    rw [← hW1] at hx
    have he := run_entry_ (P := Try.prog) hi1 hm1
    have HI1 := Lib.hid hi1
    have HM1 := Lib.hid hm1
    have ON := Lib.hid (show Ow W1.heap.size W1 9 1 (.slice none 0 0) 0 [] from .inl ⟨rfl, rfl, rfl⟩)
    have HBn := Lib.hid hb
    clear hd hm h hff ho hby hi0 hm0 hset hi1 hm1 hW1 hb
    rw [E.out]
    go_enter Try.func29, Try.ntmps29
    go_wp2
    refine wp_loop_rounds 2 ?_
    rw [rounds_succ]
    go_wp2_with (at_builtin; refine wpList_ow rfl _ _ 53 9 (.string ⟨#[]⟩) 1 16 rfl Try.underlying53 str_info rfl (by decide) rfl #[.string nm] ON.out (Nat.le_refl _) rfl (by simp [Value.oneCell']) rfl (by omega) (by simp [maxLen]) ?_; intro v3 w3 hO3' hg3; have hO3 : Ow W1.heap.size w3 9 1 v3 1 [.string nm] := (by simpa using hO3'); clear hO3'; obtain ⟨A3, c3, rfl, hc3, hcl⟩ := hO3.clip; have O3 := Lib.hid hcl; have HC3 := Lib.hid hc3; clear hcl hc3; have G3 := Lib.hid hg3; have hB3 : Below W1.heap.size W1 w3 := below_of_grown_ hg3.1; have hx2 := fun ty => run_next_end_ (P := Try.prog) ty ((hB3.block _ (lt_of_heap HI1.out)).trans HI1.out) ((hB3.block _ (lt_of_heap HM1.out)).trans HM1.out) HBn.out; have B3 := Lib.hid hB3; clear hg3 hB3)
    rw [rounds_succ]
    clear hx hr he hml hsu hlen qm c0
    go_wp2_with (first | (go_at_call 48; refine (ssort_small _ 1 _ _ (by omega)).mono ?_; rintro e w' ⟨rfl, rfl⟩) | (go_at_call 49; refine (sclip_any _ 1 _ _ HC3.out (by omega)).mono ?_; rintro e w' ⟨rfl, rfl⟩))
    go_ret
    exact ⟨A3, rfl, Ow.rd O3.out, (K1.out.below B3.out).to_below (by simp) (Nat.le_refl _)⟩
end Go.Proofs.Ytenobcfgapolhaa
