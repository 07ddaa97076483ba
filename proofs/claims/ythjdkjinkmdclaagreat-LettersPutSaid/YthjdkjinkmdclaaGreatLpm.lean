/- Letters: the table of the kinds' parts. -/
import Derived.Test.YthjdkjinkmdclaaGreatLpl
import Derived.MapKept
import Derived.WideMake
import Derived.Maps.Own
namespace Go.Proofs.YthjdkjinkmdclaaGreat
open Go.RowKit

def pent (k : Int) (v : Value) (b : Nat) : MapEntry := { key := .int .u8 k, val := v, born := b }
/-- The world, a map laid anew. -/
def setM (w : World) (m : Nat) (o : Obj) : World := { w with heap := w.heap.setIfInBounds m o }
theorem setM_size (w : World) (m : Nat) (o : Obj) : (setM w m o).heap.size = w.heap.size := by simp [setM]
theorem setM_same {w : World} {m : Nat} (o : Obj) (h : m < w.heap.size) : (setM w m o).heap[m]? = some o := by simp [setM, Array.getElem?_setIfInBounds_self_of_lt h]
theorem setM_other {w : World} {m i : Nat} (o : Obj) (h : i ≠ m) : (setM w m o).heap[i]? = w.heap[i]? := by simp only [setM]; exact Array.getElem?_setIfInBounds_ne (fun e => h e.symm)
def ments : Nat → List (Int × List Nat) → List Value → List MapEntry
  | i, p :: L, v :: vs => pent p.1 v i :: ments (i + 1) L vs
  | _, [], _ => []
  | _, _ :: _, [] => []
theorem ments_snoc (p : Int × List Nat) (v : Value) : ∀ (i : Nat) (L : List (Int × List Nat)) (vs : List Value), vs.length = L.length → ments i (L ++ [p]) (vs ++ [v]) = ments i L vs ++ [pent p.1 v (i + L.length)]
  | i, [], [], _ => rfl
  | i, [], _ :: _, h => by simp at h
  | i, _ :: _, [], h => by simp at h
  | i, q :: L, u :: vs, h => by
    simp only [List.cons_append, ments]
    rw [ments_snoc p v (i + 1) L vs (by simpa using h)]
    simp only [List.length_cons]
    rw [show i + 1 + L.length = i + (L.length + 1) from by omega]
theorem find_none (k : Int) : ∀ (i j : Nat) (L : List (Int × List Nat)) (vs : List Value), (∀ p ∈ L, p.1 ≠ k) → Instr.findNow (.int .u8) (.int .u8 k) (ments i L vs) j = some none
  | _, _, [], _, _ => rfl
  | _, _, _ :: _, [], _ => rfl
  | i, j, p :: L, v :: vs, h => by
    have h1 : (k == p.1) = false := beq_eq_false_iff_ne.2 (fun e => h p (List.mem_cons_self ..) e.symm)
    have h2 : Instr.sameNow (.int .u8) (.int .u8 k) (pent p.1 v i).key = some false := by simp [Instr.sameNow, pent, h1]
    simp only [ments, Instr.findNow, h2]
    exact find_none k (i + 1) (j + 1) L vs (fun q hq => h q (List.mem_cons_of_mem _ hq))
theorem find_some (k : Int) : ∀ (i j : Nat) (L : List (Int × List Nat)) (vs : List Value) (n : Nat) (hn : n < L.length) (hv : n < vs.length), L[n].1 = k → (∀ m (h : m < L.length), m < n → L[m].1 ≠ k) → Instr.findNow (.int .u8) (.int .u8 k) (ments i L vs) j = some (some (j + n, vs[n]))
  | _, _, [], _, _, hn, _, _, _ => by simp at hn
  | _, _, _ :: _, [], _, _, hv, _, _ => by simp at hv
  | i, j, p :: L, v :: vs, 0, _, _, he, _ => by
    have h2 : Instr.sameNow (.int .u8) (.int .u8 k) (pent p.1 v i).key = some true := by simp [Instr.sameNow, pent]; exact he.symm
    simp only [ments, Instr.findNow, h2]
    rfl
  | i, j, p :: L, v :: vs, n + 1, hn, hv, he, hlt => by
    have h1 : (k == p.1) = false := beq_eq_false_iff_ne.2 (fun e => hlt 0 (by simp) (by omega) e.symm)
    have h2 : Instr.sameNow (.int .u8) (.int .u8 k) (pent p.1 v i).key = some false := by simp [Instr.sameNow, pent, h1]
    simp only [ments, Instr.findNow, h2]
    have := find_some k (i + 1) (j + 1) L vs n (by simpa using hn) (by simpa using hv) (by simpa using he) (fun m h h' => by have := hlt (m + 1) (by simp; omega) (by omega); simpa using this)
    rw [this, show j + 1 + n = j + (n + 1) from by omega]
    rfl
/-- A list of parts. -/
def fnV (f : Nat) : Value := .func (.func f) #[] #[]
def PVs (w : World) (v : Value) (fs : List Nat) : Prop := ∃ b, v = .slice (some ⟨b, 0, none⟩) fs.length fs.length ∧ Blk w b 124 (fs.map fnV).toArray
/-- A table under way, in block m. -/
structure Mi (w0 w : World) (m : Nat) (L : List (Int × List Nat)) : Prop where
  ex : ∃ vs, vs.length = L.length ∧ w.heap[m]? = some (.map (ments 0 L vs).toArray L.length) ∧ ∀ i (h : i < L.length) (h' : i < vs.length), PVs w vs[i] L[i].2
  bel : Below w0.heap.size w0 w
  m0 : w0.heap.size ≤ m
theorem Mi.start (w : World) : Mi w (w.alloc (.map #[] 0)) w.heap.size [] := ⟨⟨[], rfl, heap_alloc_new w _, fun i h => by simp at h⟩, below_alloc_ w _, Nat.le_refl _⟩
theorem Mi.ins {w0 w : World} {m : Nat} {L : List (Int × List Nat)} (h : Mi w0 w m L) (k : Int) (fs : List Nat) (hk : ∀ p ∈ L, p.1 ≠ k) :
    ∃ w', (Instr.mapUpdate 121 (.map (some m)) (.int .u8 k) (.slice (some ⟨w.heap.size, 0, none⟩) fs.length fs.length)).run Tryz.prog (w.alloc (.cells (fs.map fnV).toArray 124)) = .ok () w' ∧ Mi w0 w' m (L ++ [(k, fs)]) := by
  obtain ⟨⟨vs, hvl, hm, hv⟩, hb, hm0⟩ := h
  have hlt : m < w.heap.size := by
    rcases Nat.lt_or_ge m w.heap.size with h | h
    · exact h
    · rw [Array.getElem?_eq_none h] at hm; cases hm
  obtain ⟨wa, hwa⟩ : ∃ wa, wa = w.alloc (.cells (fs.map fnV).toArray 124) := ⟨_, rfl⟩
  have hsz : wa.heap.size = w.heap.size + 1 := by rw [hwa]; simp
  have hma : wa.heap[m]? = some (.map (ments 0 L vs).toArray L.length) := by rw [hwa]; exact (Below.heap_alloc w _ m hlt).trans hm
  have hka : Blk wa w.heap.size 124 (fs.map fnV).toArray := by rw [hwa]; exact Blk.new _ _ _
  have hva : ∀ i (h : i < L.length) (h' : i < vs.length), PVs wa vs[i] L[i].2 := fun i h h' => by
    obtain ⟨b, h1, h2⟩ := hv i h h'
    exact ⟨b, h1, by rw [hwa]; exact h2.alloc _⟩
  have hba : Below w0.heap.size w0 wa := by rw [hwa]; exact hb.alloc hb.size _
  have hf := find_none k 0 0 L vs hk
  have hc := MapKept.run_checkKey (P := Tryz.prog) (w := wa) (k := .int .u8 k) Tryz.underlying22 (by simp [MapKept.IsKey]) false 9999
  have hfk := MapKept.run_findKey (P := Tryz.prog) (w := wa) Tryz.underlying22 hf
  rw [← hwa]
  have keep : ∀ g t cs, Blk wa g t cs → Blk (setM wa m (.map ((ments 0 L vs).toArray.push (pent k (.slice (some ⟨w.heap.size, 0, none⟩) fs.length fs.length) L.length)) (L.length + 1))) g t cs := fun g t cs hg => by
    have hne : g ≠ m := by rintro rfl; unfold Blk at hg; rw [hma] at hg; cases hg
    exact (setM_other _ hne).trans hg
  refine ⟨setM wa m (.map ((ments 0 L vs).toArray.push (pent k (.slice (some ⟨w.heap.size, 0, none⟩) fs.length fs.length) L.length)) (L.length + 1)), ?_, ⟨vs ++ [.slice (some ⟨w.heap.size, 0, none⟩) fs.length fs.length], by simp [hvl], ?_, ?_⟩, ?_, hm0⟩
  · simp [Instr.mapUpdate, run_underlying Tryz.underlying121, MapKept.run_getObj_map hma, hc, hfk, MapKept.run_setObj_map _ hma, Result.andThen, setM, pent]
  · rw [setM_same _ (by omega), ments_snoc _ _ _ _ _ hvl]
    simp
  · intro i h h'
    rcases Nat.lt_or_ge i L.length with hi | hi
    · obtain ⟨b, h1, h2⟩ := hva i hi (by omega)
      rw [List.getElem_append_left (by omega), List.getElem_append_left hi]
      exact ⟨b, h1, keep _ _ _ h2⟩
    · have he : i = L.length := by simp at h; omega
      subst he
      rw [List.getElem_append_right (by omega), List.getElem_append_right (by omega)]
      simp only [hvl, Nat.sub_self, List.getElem_cons_zero]
      exact ⟨_, rfl, keep _ _ _ hka⟩
  · refine ⟨hba.os, hba.tape, hba.output, by rw [setM_size]; exact hba.size, fun i hi => ?_⟩
    exact (setM_other _ (by omega)).trans (hba.block i hi)
/-- A further entry, at the operation. -/
theorem wpList_ins {w0 w : World} {m : Nat} {L : List (Int × List Nat)} {ops : Array Oper} {rest : List Oper} {o : Oper} {a : Act} {Q : Exit → Act → World → Prop} (hg : o.guard = none) (x y z : Operand) (ho : o.op = Op.insert 121 x y z)
    (h : Mi w0 w m L) (k : Int) (fs : List Nat) (hk : ∀ p ∈ L, p.1 ≠ k) (hx : a.eval x = .map (some m)) (hy : a.eval y = .int .u8 k) (hz : a.eval z = .slice (some ⟨w.heap.size, 0, none⟩) fs.length fs.length)
    (hK : ∀ w', Mi w0 w' m (L ++ [(k, fs)]) → wpList Tryz.prog ops Q rest (a.put o.dst undef) w') : wpList Tryz.prog ops Q (o :: rest) a (w.alloc (.cells (fs.map fnV).toArray 124)) := by
  refine wpList_plain hg fun K' hK' => ?_
  obtain ⟨w', hrun, r1⟩ := h.ins k fs hk
  unfold Oper.wp
  simp [execOp, ho, hx, hy, hz, hrun, Result.andThen]
  exact hK' _ _ (hK w' r1)
/-- The empty table, at the operation. -/
theorem wpList_mk {w : World} {ops : Array Oper} {rest : List Oper} {o : Oper} {a : Act} {Q : Exit → Act → World → Prop} (hg : o.guard = none) (ho : o.op = Op.makeMap 121 none)
    (hK : ∀ w' m, Mi w w' m [] → wpList Tryz.prog ops Q rest (a.put o.dst (.map (some m))) w') : wpList Tryz.prog ops Q (o :: rest) a w := by
  refine wpList_plain hg fun K' hK' => ?_
  have hrun := @run_makeMap Tryz.prog 121 w
  unfold Oper.wp
  simp [execOp, ho, hrun, Result.andThen]
  exact hK' _ _ (hK _ _ (Mi.start w))
def table : List (Int × List Nat) :=
  [(1, [57, 58]), (2, [59, 57]), (3, [57, 58, 60, 61]), (4, [59, 57]), (5, [57, 58, 62]), (6, [63, 64, 65]), (7, [63, 64, 66, 57, 67])]

set_option maxHeartbeats 4000000 in
set_option maxRecDepth 100000 in
theorem parts_any (w : World) : Calls Tryz.prog 46 #[] w fun e w' => ∃ m, e = .returned (.map (some m)) ∧ Mi w w' m table := by
  go_enter Tryz.func46, Tryz.ntmps46
  go_wp2_with (first
    | (refine wpList_ins rfl _ _ _ rfl H6.out 7 [63, 64, 66, 57, 67] (by decide) rfl rfl rfl ?_; intro w7 h7; have H7 := Lib.hid h7; clear h7)
    | (refine wpList_ins rfl _ _ _ rfl H5.out 6 [63, 64, 65] (by decide) rfl rfl rfl ?_; intro w6 h6; have H6 := Lib.hid h6; clear h6)
    | (refine wpList_ins rfl _ _ _ rfl H4.out 5 [57, 58, 62] (by decide) rfl rfl rfl ?_; intro w5 h5; have H5 := Lib.hid h5; clear h5)
    | (refine wpList_ins rfl _ _ _ rfl H3.out 4 [59, 57] (by decide) rfl rfl rfl ?_; intro w4 h4; have H4 := Lib.hid h4; clear h4)
    | (refine wpList_ins rfl _ _ _ rfl H2.out 3 [57, 58, 60, 61] (by decide) rfl rfl rfl ?_; intro w3 h3; have H3 := Lib.hid h3; clear h3)
    | (refine wpList_ins rfl _ _ _ rfl H1.out 2 [59, 57] (by decide) rfl rfl rfl ?_; intro w2 h2; have H2 := Lib.hid h2; clear h2)
    | (refine wpList_ins rfl _ _ _ rfl H0.out 1 [57, 58] (by decide) rfl rfl rfl ?_; intro w1 h1; have H1 := Lib.hid h1; clear h1)
    | (refine wpList_mk rfl rfl ?_; intro w0 m h0; have H0 := Lib.hid h0; clear h0))
  go_ret
  exact ⟨m, rfl, H7.out⟩
end Go.Proofs.YthjdkjinkmdclaaGreat
