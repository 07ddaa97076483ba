/- StatesOne: the plain laws: what a promise's file reads as; what a round of asks leaves. -/
import Derived.Test.YtnegondlkfeleaaDoorGetP
import Derived.Test.YtnegondlkfeleaaDoorOnz
namespace Go.Proofs.YtnegondlkfeleaaDoor
open Go.RowKit

/-- What a file's bytes promise; are they a promise? -/
def readV (xs : List Int) : Nat × Nat × Bool :=
  if (getF xs).2.2 ≠ 0 ∨ (getF xs).2.1 ≠ xs.length then (0, 0, false)
  else ((tk (getF xs).1).1, (tk ((getF xs).1.drop (tk (getF xs).1).2.1)).1 % 256,
    decide (0 < (tk (getF xs).1).2.1) && decide (0 < (tk ((getF xs).1.drop (tk (getF xs).1).2.1)).2.1) &&
      decide ((tk (getF xs).1).2.1 + (tk ((getF xs).1.drop (tk (getF xs).1).2.1)).2.1 = (getF xs).1.length) && decide ((tk ((getF xs).1.drop (tk (getF xs).1).2.1)).1 ≤ 255))
theorem readV_vow (T V : Nat) (hT : T < 18446744073709551616) (hV : V < 256) : readV (vowB T V) = (T, V, true) := by
  have h1 := nb_ten hT
  have h2 := nb_ten (show V < 18446744073709551616 by omega)
  have h3 : getF (vowB T V) = (nb T ++ nb V, (vowB T V).length, 0) := by
    have := getF_frame (nb T ++ nb V) [] (by rw [List.length_append]; omega)
    rw [List.append_nil] at this
    exact this
  have h4 : tk (nb T ++ nb V) = (T, (nb T).length, 0) := tk_nb hT _
  have h5 : (nb T ++ nb V).drop (nb T).length = nb V := List.drop_left' rfl
  have h6 : tk (nb V) = (V, (nb V).length, 0) := by
    have := tk_nb (n := V) (by omega) []
    rw [List.append_nil] at this
    exact this
  have p1 := nb_len_pos T
  have p2 := nb_len_pos V
  unfold readV
  rw [h3]
  simp only
  rw [if_neg (by simp), h4]
  simp only
  rw [h5, h6]
  simp only
  rw [Nat.mod_eq_of_lt hV, List.length_append]
  simp [p1, p2]
  omega

/-- What Open answers: the promise, if there is one; what is wrong. -/
def openS (s : Dst) : Nat × Nat × Int :=
  if (readS s).2 = 0 then (if (readV (readS s).1).2.2 = true then ((readV (readS s).1).1, (readV (readS s).1).2.1, 0) else (0, 0, 4)) else if (readS s).2 = 7 then (0, 0, 0) else (0, 0, (readS s).2)

/-- A live disk that has just this promise. -/
structure Good (s : Dst) (t v : Nat) : Prop where
  live : s.dead = false
  file : (s.file = none ∧ t = 0 ∧ v = 0) ∨ s.file = some (vowB t v, (vowB t v).length)
  ht : t < 18446744073709551616
  hv : v < 256
theorem Good.fuse {s : Dst} {t v : Nat} (h : Good s t v) (n : Int) : Good { s with fuse := n } t v := ⟨h.live, h.file, h.ht, h.hv⟩
theorem Good.opened {s : Dst} {t v : Nat} (h : Good s t v) : openS s = (t, v, 0) := by
  obtain ⟨h1, h2 | h2, h3, h4⟩ := h
  · obtain ⟨h2, rfl, rfl⟩ := h2
    unfold openS readS
    rw [if_neg (show ¬ s.dead = true by simp [h1]), h2]
    rfl
  · unfold openS readS
    rw [if_neg (show ¬ s.dead = true by simp [h1]), h2]
    simp only
    rw [readV_vow t v h3 h4]
    rfl
/-- A disk that failed, lifted. -/
theorem Good.lifted {s : Dst} {t v : Nat} (h : Good s t v) (ls : List Int) (s' : Dst) (hs : s'.file = s.file) : Good (liftS s' ls) t v := by
  obtain ⟨h1, h2, h3, h4⟩ := h
  refine ⟨rfl, ?_, h3, h4⟩
  unfold liftS
  simp only [hs]
  rcases h2 with ⟨h2, rfl, rfl⟩ | h2
  · left; simp [h2]
  · right
    simp [h2, liftN]
/-- What Set leaves of a promise that has its disk's. -/
theorem Good.set {s : Dst} {t v : Nat} (h : Good s t v) (T V : Nat) (hT : T < 18446744073709551616) (hV : V < 256) :
    (∃ s', setS t v false s T V = (0, (T : Int), (V : Int), false, s') ∧ Good s' T V ∧ mayB t v T V = true) ∨ setS t v false s T V = (1, (t : Int), (v : Int), false, s) ∨
      ∃ s', setS t v false s T V = (17, (t : Int), (v : Int), true, s') ∧ s'.file = s.file := by
  by_cases h1 : mayB t v T V = false
  · right; left
    unfold setS
    rw [if_neg (by simp), if_pos h1]
  · have h1' : mayB t v T V = true := by simpa using h1
    by_cases h2 : ((t : Int) = T ∧ (v : Int) = V)
    · left
      have e1 : t = T := by omega
      have e2 : v = V := by omega
      subst e1; subst e2
      refine ⟨s, ?_, h, h1'⟩
      unfold setS
      rw [if_neg (by simp), if_neg h1, if_pos ⟨rfl, rfl⟩]
    · have hl := vowB_len T V hT hV
      have hd := h.live
      by_cases hf : s.fuse = 0
      · right; right
        have e : doesS s (vowB T V).length true (fun _ => some (vowB T V, (vowB T V).length)) = ({ s with dead := true }, 17) := by
          unfold doesS
          rw [if_neg (by simp [hd]), if_neg (by simp), if_neg (by omega), if_pos hf]
        exact ⟨_, setS_bad h1' h2 e (by decide), rfl⟩
      · left
        have e : doesS s (vowB T V).length true (fun _ => some (vowB T V, (vowB T V).length)) = ({ (burnS s).1 with file := some (vowB T V, (vowB T V).length) }, 0) := by
          unfold doesS
          rw [if_neg (by simp [hd]), if_neg (by simp), if_neg (by omega), if_neg hf]
        refine ⟨_, setS_ok h1' h2 e, ⟨?_, .inr rfl, hT, hV⟩, h1'⟩
        show (burnS s).1.dead = false
        unfold burnS
        rw [if_neg hf]
        split <;> exact hd
theorem mayB_le {t v T V : Nat} (h : mayB t v T V = true) : t < T ∨ (T = t ∧ (V = v ∨ v = 0)) := by
  unfold mayB at h
  simp at h
  omega
end Go.Proofs.YtnegondlkfeleaaDoor
