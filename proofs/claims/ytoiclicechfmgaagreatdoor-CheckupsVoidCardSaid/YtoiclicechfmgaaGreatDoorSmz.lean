import Derived.Test.YtoiclicechfmgaaGreatDoorMemB
import Derived.Laws.BytesArg
/- Bytes as a string. -/
namespace Go.Proofs.YtoiclicechfmgaaGreatDoor
open Go.RowKit

/-- Bytes as a string. -/
theorem str_inj {xs ys : List Int} (hx : ∀ c ∈ xs, byt c) (hy : ∀ c ∈ ys, byt c) (h : strOfNums xs = strOfNums ys) : xs = ys := by
  have h1 : (xs.map fun n => UInt8.ofNat n.toNat) = (ys.map fun n => UInt8.ofNat n.toNat) := by
    rw [← strOfNums_data, ← strOfNums_data, h]
  clear h
  induction xs generalizing ys with
  | nil => cases ys with
    | nil => rfl
    | cons y ys => simp at h1
  | cons x xs ih => cases ys with
    | nil => simp at h1
    | cons y ys =>
      simp only [List.map_cons, List.cons.injEq] at h1
      have e1 : x = y := by
        have h2 := congrArg UInt8.toNat h1.1
        have := hx x (by simp)
        have := hy y (by simp)
        simp only [byt] at *
        rw [UInt8.toNat_ofNat', UInt8.toNat_ofNat'] at h2
        omega
      rw [e1, ih (fun c hc => hx c (by simp [hc])) (fun c hc => hy c (by simp [hc])) h1.2]
theorem run_convert_bs {P : Program} {w : World} {v : Value} {xs : List Int} (h : Bs w v xs) (src e dst : TypeId) (hs : P.underlying src = some (.slice e)) (he : P.underlying e = some (.int .u8)) (hd : P.underlying dst = some .string) :
    (convert src dst v).run P w = .ok (.string (strOfNums xs)) w := by
  obtain ⟨A, c, rfl, hc, hl, hh⟩ := h
  cases A with
  | none =>
    rcases hh with h0 | ⟨g, o, hA, _⟩
    · rw [run_convert_bytes_nil w src e hs he _ _ dst hd]
      rw [List.eq_nil_of_length_eq_zero h0]; rfl
    · cases hA
  | some ad =>
    rcases hh with h0 | ⟨g, o, hA, hg, hcell⟩
    · obtain ⟨b, o, x⟩ := ad
      rw [run_convert_bytes_string w src dst e _ _ c hs he hd, run_bytesToString w _ _ c xs (by
        rw [List.eq_nil_of_length_eq_zero h0]
        exact run_loadCells_list (P := P) w ⟨b, o, x⟩ [] (fun j v hj => by simp at hj)), foldl_push_bytes]
      rw [List.eq_nil_of_length_eq_zero h0]; rfl
    · injection hA with hA
      subst hA
      exact run_convert_bytes_arg w src e hs he g o xs.length c xs rfl (fun i hi => by
        refine hcell i _ ?_
        simp [bc, List.getD, List.getElem?_eq_getElem hi]) dst hd
end Go.Proofs.YtoiclicechfmgaaGreatDoor

/- Small facts on bytes that the packs' laws share. -/
namespace Go.Proofs.YtoiclicechfmgaaGreatDoor
open Go.RowKit

/-- Bytes, written out. -/
theorem Bs.lits (w : World) (bs : List Int) : Bs (w.alloc (.cells (bc bs).toArray 5)) (.slice (some ⟨w.heap.size, 0, none⟩) bs.length bs.length) bs := by
  have hk := Blk.new w 5 (bc bs).toArray
  refine ⟨_, _, rfl, Nat.le_refl _, by simp, .inr ⟨w.heap.size, 0, rfl, by simp, fun j u hu => ?_⟩⟩
  rw [Nat.zero_add, hk.cell]
  simpa using hu
theorem Bs.nils (w : World) (A : Option Addr) (c : Nat) : Bs w (.slice A 0 c) [] := ⟨A, c, rfl, Nat.zero_le _, rfl, .inl rfl⟩
theorem Bf.begin_ (w : World) : Bf w.heap.size w w (.slice none 0 0) [] := ⟨Bo.nil_ _ _, Below.refl _ _, Nat.le_refl _⟩
/-- One byte at least. -/
theorem Bo.one {B : Nat} {w : World} {v : Value} {x : Int} {xs : List Int} (h : Bo B w v (x :: xs)) : ∃ g c, v = .slice (some ⟨g, 0, none⟩) (xs.length + 1) c ∧ xs.length + 1 ≤ c ∧ B ≤ g ∧ w.cell? ⟨g, 0, none⟩ = some (.int .u8 x) := by
  rcases h with ⟨_, h0, _⟩ | ⟨g, c, cur, rfl, hB, hg, hc, hl, hs, ht⟩
  · simp at h0
  · refine ⟨g, c, rfl, by simpa using hc, hB, ?_⟩
    rw [hg.cell]
    have h1 : (cur.toList.take ((x :: xs).length * 1))[0]? = some (.int .u8 x) := by rw [ht]; rfl
    rw [List.getElem?_take, if_pos (by simp)] at h1
    simpa using h1
/-- The first ones. -/
theorem Bs.takes {w : World} {A : Option Addr} {n c : Nat} {xs : List Int} (h : Bs w (.slice A n c) xs) (k c' : Nat) (hk : k ≤ n) (hc : k ≤ c') : Bs w (.slice A k c') (xs.take k) := by
  obtain ⟨A', c0, hv, hc0, hl, hh⟩ := h
  injection hv with h1 h2 h3
  subst h1; subst h2; subst h3
  have hkl : (xs.take k).length = k := by rw [List.length_take]; omega
  refine ⟨_, c', by rw [hkl], by omega, by simp, ?_⟩
  rcases hh with h0 | ⟨g, o, hA, hg, hcell⟩
  · left; omega
  · refine .inr ⟨g, o, hA, hg, fun j u hu => hcell j u ?_⟩
    rw [← hu]
    have hj : j < k := by
      rcases Nat.lt_or_ge j k with h | h
      · exact h
      · rw [List.getElem?_eq_none (by rw [bc_len]; omega)] at hu; cases hu
    simp [bc, hj]
theorem str_ne {xs ys : List Int} (hx : ∀ c ∈ xs, byt c) (hy : ∀ c ∈ ys, byt c) (h : xs ≠ ys) : strOfNums xs ≠ strOfNums ys := fun e => h (str_inj hx hy e)
theorem str_nbeq {S1 S2 : ByteArray} (h : S1 ≠ S2) : (S1.toList == S2.toList) = false := by
  rw [ByteArray.toList_eq, ByteArray.toList_eq]
  refine beq_eq_false_iff_ne.2 fun e => h ?_
  obtain ⟨d1⟩ := S1
  obtain ⟨d2⟩ := S2
  have e' : d1 = d2 := Array.toList_inj.1 e
  rw [e']
end Go.Proofs.YtoiclicechfmgaaGreatDoor
