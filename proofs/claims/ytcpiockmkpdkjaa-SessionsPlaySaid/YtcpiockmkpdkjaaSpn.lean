/- sessions: what a page's bytes are, plainly: oneP, oneB. -/
import Derived.Test.YtcpiockmkpdkjaaSpl
namespace Go.Proofs.Ytcpiockmkpdkjaa
open Go.RowKit

/-- One page off bytes: the client, the number, the reply, what stands behind it. -/
def oneP : List Int → Option (Int × Nat × (List Int × List (List Int)) × List Int)
  | [] => none
  | c :: r => match numP r with
    | .error _ => none
    | .ok (num, r1) => match numP r1 with
      | .error _ => none
      | .ok (long, r2) => if num = 0 ∨ r2.length < long then none else match allP (replyP (r2.take long)) with
        | .error _ => none
        | .ok rep => some (c, num, rep, r2.drop long)
theorem numP_bad {xs : List Int} {n s : Nat} {k : Int} (h : tk xs = (n, s, k)) (hk : ¬ k = 0) : numP xs = .error k := by
  unfold numP; rw [h]; exact if_neg hk
theorem numP_is {xs : List Int} {n s : Nat} (h : tk xs = (n, s, 0)) : numP xs = .ok (n, xs.drop s) := by
  unfold numP; rw [h]; exact if_pos rfl
/-- A page noted: the client, the book, what stands behind. -/
def oneB (B : Nat → Sp) (xs : List Int) : Option (Int × (Nat → Sp) × List Int) := match oneP xs with
  | some (c, num, ([E, A], gs), rest) => if noteE B c num gs.length = 0 then some (c, noteB B c num E A gs, rest) else none
  | _ => none
theorem oneB_none {B : Nat → Sp} {xs : List Int} (h : oneP xs = none) : oneB B xs = none := by unfold oneB; rw [h]
theorem oneP_bad1 {c : Int} {r : List Int} {k : Int} (h : numP r = .error k) : oneP (c :: r) = none := by simp only [oneP, h]
theorem oneP_bad2 {c : Int} {r r1 : List Int} {n : Nat} {k : Int} (h : numP r = .ok (n, r1)) (h2 : numP r1 = .error k) : oneP (c :: r) = none := by simp only [oneP, h, h2]
theorem oneP_bad3 {c : Int} {r r1 r2 : List Int} {n l : Nat} (h : numP r = .ok (n, r1)) (h2 : numP r1 = .ok (l, r2)) (h3 : n = 0 ∨ r2.length < l) : oneP (c :: r) = none := by simp only [oneP, h, h2]; exact if_pos h3
theorem oneP_bad4 {c : Int} {r r1 r2 : List Int} {n l : Nat} {k : Int} (h : numP r = .ok (n, r1)) (h2 : numP r1 = .ok (l, r2)) (h3 : ¬ (n = 0 ∨ r2.length < l)) (h4 : allP (replyP (r2.take l)) = .error k) : oneP (c :: r) = none := by
  simp only [oneP, h, h2]; rw [if_neg h3]; simp only [h4]
theorem oneP_ok {c : Int} {r r1 r2 : List Int} {n l : Nat} {a : List Int × List (List Int)} (h : numP r = .ok (n, r1)) (h2 : numP r1 = .ok (l, r2)) (h3 : ¬ (n = 0 ∨ r2.length < l)) (h4 : allP (replyP (r2.take l)) = .ok a) : oneP (c :: r) = some (c, n, a, r2.drop l) := by
  simp only [oneP, h, h2]; rw [if_neg h3]; simp only [h4]
end Go.Proofs.Ytcpiockmkpdkjaa
