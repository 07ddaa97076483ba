/- sessions: a book's bytes, plainly. -/
import Derived.Test.YtcpiockmkpdkjaaSbk
import Derived.Test.YtcpiockmkpdkjaaPqr
import Derived.Test.YtcpiockmkpdkjaaAll
namespace Go.Proofs.Ytcpiockmkpdkjaa
open Go.RowKit

def rB (p : Sp) : List Int := replyB ([p.e, p.a], p.gs)
/-- One page's bytes, behind the client's number. -/
def pB (p : Sp) : List Int := nb p.num.toNat ++ nb (rB p).length ++ rB p
def partB (B : Nat → Sp) (i : Nat) : List Int := if (B i).num = 0 then [] else ((i : Int) + 1) :: pB (B i)
def uptoB (B : Nat → Sp) (k : Nat) : List Int := (List.range k).flatMap (partB B)
def manyB (B : Nat → Sp) (k : Nat) : Nat := ((List.range k).filter fun i => (B i).num ≠ 0).length
def bookB (B : Nat → Sp) : List Int := (manyB B 8 : Int) :: uptoB B 8
theorem uptoB_succ (B : Nat → Sp) (k : Nat) : uptoB B (k + 1) = uptoB B k ++ partB B k := by
  unfold uptoB; rw [List.range_succ, List.flatMap_append]; simp
theorem manyB_succ (B : Nat → Sp) (k : Nat) : manyB B (k + 1) = manyB B k + (if (B k).num = 0 then 0 else 1) := by
  unfold manyB; rw [List.range_succ, List.filter_append, List.length_append]
  by_cases h : (B k).num = 0 <;> simp [h]
theorem manyB_le (B : Nat → Sp) (k : Nat) : manyB B k ≤ k := by
  unfold manyB; exact Nat.le_trans (List.length_filter_le _ _) (by simp)
theorem rB_R {p : Sp} (h : SpOk p) : replyR ([p.e, p.a], p.gs) = (rB p, 0) := by
  unfold replyR; rw [if_pos h.few]; rfl
theorem rB_ok {p : Sp} (h : SpOk p) : replyOk ([p.e, p.a], p.gs) := ⟨⟨h.e, h.a, rfl⟩, h.few, h.gs⟩
theorem rB_len {p : Sp} (h : SpOk p) : (rB p).length ≤ 100000 := replyLen h.e h.a h.few h.gs
theorem pB_len {p : Sp} (h : SpOk p) : (pB p).length ≤ 100020 := by
  unfold pB
  have := rB_len h
  have h1 := nb_ten (n := p.num.toNat) (by have := h.hi; omega)
  have h2 := nb_ten (n := (rB p).length) (by omega)
  simp only [List.length_append]; omega
theorem uptoB_len {B : Nat → Sp} (h : ∀ i, i < 8 → SpOk (B i)) : ∀ k, k ≤ 8 → (uptoB B k).length ≤ k * 100021
  | 0, _ => by simp [uptoB]
  | k + 1, hk => by
    rw [uptoB_succ, List.length_append]
    have := uptoB_len h k (by omega)
    have h2 : (partB B k).length ≤ 100021 := by
      unfold partB; split
      · simp
      · have := pB_len (h k (by omega)); simp only [List.length_cons]; omega
    omega
end Go.Proofs.Ytcpiockmkpdkjaa
