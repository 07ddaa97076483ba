/- Shots: the plain laws: what a shot's file is; what frames.Read reads. -/
import Derived.Test.YtnegondlkfeleaaDoorGetP
namespace Go.Proofs.YtnegondlkfeleaaDoor
open Go.RowKit

/-- Part i of data: of 4096 bytes at most. -/
def part (xs : List Int) (i : Nat) : List Int := (xs.drop (4096 * i)).take 4096
/-- How many parts there are. -/
def parts (xs : List Int) : Nat := (xs.length + 4095) / 4096
/-- A shot's file behind its head and k parts. -/
def fileK (T V : Nat) (xs : List Int) : Nat → List Int
  | 0 => frameB (nb T ++ nb V)
  | k + 1 => fileK T V xs k ++ frameB (part xs k)
def shotB (T V : Nat) (xs : List Int) : List Int := fileK T V xs (parts xs)
theorem part_len (xs : List Int) (i : Nat) : (part xs i).length = min 4096 (xs.length - 4096 * i) := by simp [part]
theorem part_byt {xs : List Int} (h : ∀ c ∈ xs, byt c) (i : Nat) : ∀ c ∈ part xs i, byt c := fun c hc => h c (List.mem_of_mem_drop (List.mem_of_mem_take hc))
theorem parts_lt {xs : List Int} {i : Nat} (h : i < parts xs) : 4096 * i < xs.length := by unfold parts at h; omega
theorem parts_ge {xs : List Int} {i : Nat} (h : ¬ i < parts xs) : xs.length ≤ 4096 * i := by unfold parts at h; omega
theorem parts_le {xs : List Int} {n : Nat} (h : xs.length ≤ 4096 * n) : parts xs ≤ n := by unfold parts; omega
theorem take_part (xs : List Int) (k : Nat) : xs.take (4096 * (k + 1)) = xs.take (4096 * k) ++ part xs k := by
  unfold part
  rw [show 4096 * (k + 1) = 4096 * k + 4096 by omega, List.take_add]
theorem head_len (T V : Nat) (hT : T < 18446744073709551616) (hV : V < 18446744073709551616) : (nb T ++ nb V).length ≤ 20 := by
  have := nb_ten hT
  have := nb_ten hV
  rw [List.length_append]; omega
theorem fileK_len (T V : Nat) (xs : List Int) (hT : T < 18446744073709551616) (hV : V < 18446744073709551616) : ∀ k, (fileK T V xs k).length ≤ 34 + 4110 * k
  | 0 => by
    have h := head_len T V hT hV
    have h2 := nb_ten (n := (nb T ++ nb V).length) (by omega)
    show (frameB (nb T ++ nb V)).length ≤ _
    rw [frameB_len]; omega
  | k + 1 => by
    have h := fileK_len T V xs hT hV k
    have h1 : (part xs k).length ≤ 4096 := by rw [part_len]; omega
    have h2 := nb_ten (n := (part xs k).length) (by omega)
    show (fileK T V xs k ++ frameB (part xs k)).length ≤ _
    rw [List.length_append, frameB_len]; omega
theorem fileK_byt (T V : Nat) {xs : List Int} (h : ∀ c ∈ xs, byt c) : ∀ k, ∀ c ∈ fileK T V xs k, byt c
  | 0 => frameB_byt (fun c hc => by rcases List.mem_append.1 hc with h | h <;> exact nb_byt _ c h)
  | k + 1 => fun c hc => by
    rcases List.mem_append.1 hc with h1 | h1
    · exact fileK_byt T V h k c h1
    · exact frameB_byt (part_byt h k) c h1

/-- What frames.Read reads: the bodies, how many bytes. -/
def rdGo : Nat → List Int → List (List Int) × Nat
  | 0, _ => ([], 0)
  | f + 1, xs => if (getF xs).2.2 = 0 then ((getF xs).1 :: (rdGo f (xs.drop (getF xs).2.1)).1, (getF xs).2.1 + (rdGo f (xs.drop (getF xs).2.1)).2) else ([], 0)
def rdF (xs : List Int) : List (List Int) × Nat := rdGo (xs.length + 1) xs
theorem getF_pos {xs : List Int} (h : (getF xs).2.2 = 0) : 5 ≤ (getF xs).2.1 ∧ (getF xs).2.1 ≤ xs.length := by
  refine ⟨?_, getF_len.2⟩
  revert h
  unfold getF
  split
  · intro h; exact absurd h (by assumption)
  · rename_i h0
    have h0' : (sizeF xs).2.2 = 0 := by simpa using h0
    have h1 := sizeF_ok h0'
    have h2 : (sizeF xs).2.1 = (tk xs).2.1 := by rw [h1.1]
    split
    · intro h; simp at h
    · split
      · intro h; simp at h
      · intro _; simp only; omega
theorem getF_bad {xs : List Int} (h : ¬ (getF xs).2.2 = 0) : (getF xs).2.1 = 0 := by
  revert h
  unfold getF
  split
  · intro _; rfl
  · split
    · intro _; rfl
    · split
      · intro _; rfl
      · intro h; exact absurd rfl h
theorem getF_none : (getF []).2.2 ≠ 0 := by decide
/-- The frames of bodies. -/
def framesB (ls : List (List Int)) : List Int := (ls.map frameB).flatten
theorem framesB_len (ls : List (List Int)) : ls.length ≤ (framesB ls).length := by
  induction ls with
  | nil => simp
  | cons a l ih =>
    show _ ≤ (frameB a ++ framesB l).length
    rw [List.length_append, frameB_len, List.length_cons]; omega
theorem rdGo_frames : ∀ (f : Nat) (ls : List (List Int)), ls.length < f → (∀ l ∈ ls, l.length ≤ 8192) → rdGo f (framesB ls) = (ls, (framesB ls).length)
  | 0, _, h, _ => by omega
  | f + 1, [], _, _ => by
    show (if (getF []).2.2 = 0 then _ else _) = _
    rw [if_neg getF_none]; rfl
  | f + 1, a :: ls, h, hl => by
    have e : getF (framesB (a :: ls)) = (a, (frameB a).length, 0) := getF_frame a (framesB ls) (hl a (List.mem_cons_self ..))
    have ih := rdGo_frames f ls (by simpa using h) (fun l h => hl l (List.mem_cons_of_mem _ h))
    have hd : (framesB (a :: ls)).drop (frameB a).length = framesB ls := List.drop_left' rfl
    show (if (getF (framesB (a :: ls))).2.2 = 0 then _ else _) = _
    rw [e]
    simp only
    rw [if_pos trivial, hd, ih]
    simp only
    show _ = (_, (frameB a ++ framesB ls).length)
    rw [List.length_append]
theorem rdF_frames (ls : List (List Int)) (hl : ∀ l ∈ ls, l.length ≤ 8192) : rdF (framesB ls) = (ls, (framesB ls).length) :=
  rdGo_frames _ ls (by have := framesB_len ls; omega) hl
theorem rdGo_fuel : ∀ (f g : Nat) (xs : List Int), xs.length < f → xs.length < g → rdGo f xs = rdGo g xs
  | 0, _, _, h, _ => by omega
  | _, 0, _, _, h => by omega
  | f + 1, g + 1, xs, hf, hg => by
    by_cases h : (getF xs).2.2 = 0
    · have hp := getF_pos h
      have hd : (xs.drop (getF xs).2.1).length < f ∧ (xs.drop (getF xs).2.1).length < g := by rw [List.length_drop]; omega
      have e := rdGo_fuel f g (xs.drop (getF xs).2.1) hd.1 hd.2
      show (if (getF xs).2.2 = 0 then _ else _) = (if (getF xs).2.2 = 0 then _ else _)
      rw [if_pos h, if_pos h, e]
    · show (if (getF xs).2.2 = 0 then _ else _) = (if (getF xs).2.2 = 0 then _ else _)
      rw [if_neg h, if_neg h]
theorem rdF_ok {xs : List Int} (h : (getF xs).2.2 = 0) : rdF xs = ((getF xs).1 :: (rdF (xs.drop (getF xs).2.1)).1, (getF xs).2.1 + (rdF (xs.drop (getF xs).2.1)).2) := by
  have hp := getF_pos h
  have e := rdGo_fuel xs.length ((xs.drop (getF xs).2.1).length + 1) (xs.drop (getF xs).2.1) (by rw [List.length_drop]; omega) (by omega)
  show (if (getF xs).2.2 = 0 then _ else _) = _
  rw [if_pos h, e]
  rfl
theorem rdF_bad {xs : List Int} (h : ¬ (getF xs).2.2 = 0) : rdF xs = ([], 0) := by
  show (if (getF xs).2.2 = 0 then _ else _) = _
  rw [if_neg h]
theorem rdF_le : ∀ (n : Nat) (xs : List Int), xs.length ≤ n → (rdF xs).2 ≤ xs.length ∧ (rdF xs).1.length ≤ xs.length ∧ (∀ l ∈ (rdF xs).1, l.length ≤ 8192) ∧ ((∀ c ∈ xs, byt c) → ∀ l ∈ (rdF xs).1, ∀ c ∈ l, byt c)
  | 0, xs, h => by
    obtain rfl : xs = [] := List.eq_nil_of_length_eq_zero (by omega)
    rw [rdF_bad getF_none]
    simp
  | n + 1, xs, h => by
    by_cases h0 : (getF xs).2.2 = 0
    · have hp := getF_pos h0
      have hd : (xs.drop (getF xs).2.1).length = xs.length - (getF xs).2.1 := List.length_drop
      obtain ⟨h1, h2, h3, h4⟩ := rdF_le n (xs.drop (getF xs).2.1) (by omega)
      rw [rdF_ok h0]
      refine ⟨by simp only; omega, by simp only [List.length_cons]; omega, ?_, ?_⟩
      · intro l hl
        rcases List.mem_cons.1 hl with rfl | hl
        · exact getF_len.1
        · exact h3 l hl
      · intro hb l hl
        rcases List.mem_cons.1 hl with rfl | hl
        · exact getF_byt hb
        · exact h4 (fun c hc => hb c (List.mem_of_mem_drop hc)) l hl
    · rw [rdF_bad h0]
      simp
/-- A shot's file is its frames'. -/
def shotL (T V : Nat) (xs : List Int) (k : Nat) : List (List Int) := (nb T ++ nb V) :: (List.range k).map (part xs)
theorem fileK_frames (T V : Nat) (xs : List Int) : ∀ k, fileK T V xs k = framesB (shotL T V xs k)
  | 0 => by show _ = frameB _ ++ []; rw [List.append_nil]; rfl
  | k + 1 => by
    have h := fileK_frames T V xs k
    show fileK T V xs k ++ _ = _
    rw [h]
    simp [framesB, shotL, List.range_succ]
end Go.Proofs.YtnegondlkfeleaaDoor
