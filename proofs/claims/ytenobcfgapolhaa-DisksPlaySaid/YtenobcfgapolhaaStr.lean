/- Bytes as a string. -/
import Derived.Test.YtenobcfgapolhaaMemB
import Derived.Laws.BytesArg
namespace Go.Proofs.Ytenobcfgapolhaa
open Go.RowKit

/-- Bytes as a string. -/
theorem str_inj {xs ys : List Int} (hx : ∀ c ∈ xs, byt c) (hy : ∀ c ∈ ys, byt c) (h : strOfNums xs = strOfNums ys) : xs = ys := by
  have h1 : (xs.map fun n => UInt8.ofNat n.toNat) = (ys.map fun n => UInt8.ofNat n.toNat) := by
    rw [← strOfNums_data, ← strOfNums_data, h]
  clear h
  induction xs generalizing ys with
  | nil => cases ys with
    | nil => rfl
    | cons y ys => simp at h1
  | cons x xs ih => cases ys with
    | nil => simp at h1
    | cons y ys =>
      simp only [List.map_cons, List.cons.injEq] at h1
      have e1 : x = y := by
        have h2 := congrArg UInt8.toNat h1.1
        have := hx x (by simp)
        have := hy y (by simp)
        simp only [byt] at *
        rw [UInt8.toNat_ofNat', UInt8.toNat_ofNat'] at h2
        omega
      rw [e1, ih (fun c hc => hx c (by simp [hc])) (fun c hc => hy c (by simp [hc])) h1.2]
theorem run_convert_bs {P : Program} {w : World} {v : Value} {xs : List Int} (h : Bs w v xs) (src e dst : TypeId) (hs : P.underlying src = some (.slice e)) (he : P.underlying e = some (.int .u8)) (hd : P.underlying dst = some .string) :
    (convert src dst v).run P w = .ok (.string (strOfNums xs)) w := by
  obtain ⟨A, c, rfl, hc, hl, hh⟩ := h
  cases A with
  | none =>
    rcases hh with h0 | ⟨g, o, hA, _⟩
    · rw [run_convert_bytes_nil w src e hs he _ _ dst hd]
      rw [List.eq_nil_of_length_eq_zero h0]; rfl
    · cases hA
  | some ad =>
    rcases hh with h0 | ⟨g, o, hA, hg, hcell⟩
    · obtain ⟨b, o, x⟩ := ad
      rw [run_convert_bytes_string w src dst e _ _ c hs he hd, run_bytesToString w _ _ c xs (by
        rw [List.eq_nil_of_length_eq_zero h0]
        exact run_loadCells_list (P := P) w ⟨b, o, x⟩ [] (fun j v hj => by simp at hj)), foldl_push_bytes]
      rw [List.eq_nil_of_length_eq_zero h0]; rfl
    · injection hA with hA
      subst hA
      exact run_convert_bytes_arg w src e hs he g o xs.length c xs rfl (fun i hi => by
        refine hcell i _ ?_
        simp [bc, List.getD, List.getElem?_eq_getElem hi]) dst hd
end Go.Proofs.Ytenobcfgapolhaa
