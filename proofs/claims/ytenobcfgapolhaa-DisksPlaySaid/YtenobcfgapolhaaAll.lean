/- All of some bytes: what a codec says of it. -/
import Derived.Test.YtenobcfgapolhaaPuz
namespace Go.Proofs.Ytenobcfgapolhaa
open Go.RowKit

theorem allP_ok {α : Type} {x : Res α} {a : α} (h : allP x = .ok a) : x = .ok (a, []) := by
  match x, h with
  | .ok (b, []), h => injection h with h; rw [h]
  | .ok (_, _ :: _), h => cases h
  | .error _, h => cases h
theorem allP_bad {α : Type} {put : α → List Int} {P : List Int → Res α} {ok : α → Prop} (c : Cod put P ok) {xs : List Int} {k : Int} (h : allP (P xs) = .error k) : k = 3 ∨ k = 4 ∨ k = 5 := by
  rcases hx : P xs with j | ⟨a, r⟩
  · rw [hx] at h; injection h with h; subst h; exact c.bad _ _ hx
  · rw [hx] at h
    cases r with
    | nil => cases h
    | cons y ys =>
      have h' : (.error 4 : Except Int α) = .error k := h
      injection h' with h'
      exact .inr (.inl h'.symm)
theorem cod_all {α : Type} {put : α → List Int} {P : List Int → Res α} {ok : α → Prop} (c : Cod put P ok) {xs : List Int} {a : α} (hb : ∀ c ∈ xs, byt c) (h : allP (P xs) = .ok a) : xs = put a ∧ ok a := by
  obtain ⟨h1, h2⟩ := c.back xs a [] hb (allP_ok h)
  exact ⟨by rw [h1, List.append_nil], h2⟩

theorem all_get {α : Type} {put : α → List Int} {P : List Int → Res α} {ok : α → Prop} (c : Cod put P ok) {a : α} (h : ok a) : allP (P (put a)) = .ok a := by
  have := c.get a [] h
  rw [List.append_nil] at this
  rw [this]; rfl
theorem all_cut {α : Type} {put : α → List Int} {P : List Int → Res α} {ok : α → Prop} (c : Cod put P ok) {a : α} (h : ok a) {k : Nat} (hk : k < (put a).length) : allP (P ((put a).take k)) = .error 5 := by
  rw [c.cut a k h hk]; rfl
theorem all_more {α : Type} {put : α → List Int} {P : List Int → Res α} {ok : α → Prop} (c : Cod put P ok) {a : α} (h : ok a) (x : Int) (xs : List Int) : allP (P (put a ++ x :: xs)) = .error 4 := by
  rw [c.get a (x :: xs) h]; rfl
/-- What reads elsewhere than in the block that turns. -/
theorem rd_grown_ {w w' : World} {size n : Nat} {v : Value} {xs : List Value} {r : Option Nat} (h : Rd w size v n xs) (hg : w.grownBy w' r) (hne : ∀ k, v.ownBlock = some k → some k ≠ r) : Rd w' size v n xs := by
  obtain ⟨A, c, rfl, hc, hl, hh⟩ := h
  refine ⟨A, c, rfl, hc, hl, ?_⟩
  rcases hh with h0 | ⟨g, o, rfl, hgl, hcell⟩
  · exact .inl h0
  · exact .inr ⟨g, o, rfl, Nat.lt_of_lt_of_le hgl hg.size, fun j u hu => (World.cell?_of_block (a := ⟨g, o + j, none⟩) (hg.block g hgl (hne g rfl))).trans (hcell j u hu)⟩
theorem rd_block_ {w : World} {size n : Nat} {v : Value} {xs : List Value} (h : Rd w size v n xs) : n = 0 ∨ ∀ k, v.ownBlock = some k → k < w.heap.size := by
  obtain ⟨A, c, rfl, hc, hl, h0 | ⟨g, o, rfl, hgl, -⟩⟩ := h
  · exact .inl h0
  · exact .inr fun k hk => by simp [Value.ownBlock] at hk; omega
theorem ow_grown_ {B size n : Nat} {w w' : World} {e : TypeId} {v : Value} {xs : List Value} {r : Option Nat} (h : Ow B w e size v n xs) (hg : w.grownBy w' r) (hr : ∀ k, r = some k → k < B) : Ow B w' e size v n xs := by
  rcases h with h | ⟨b, c, cur, rfl, hb, hk, h⟩
  · exact .inl h
  · exact .inr ⟨b, c, cur, rfl, hb, hk.grown hg (fun e => by have := hr b e.symm; omega), h⟩
theorem rd_grown2_ {w w' : World} {size n B : Nat} {v : Value} {xs : List Value} {r : Option Nat} (h : Rd w size v n xs) (hg : w.grownBy w' r) (hb : n = 0 ∨ ∀ k, v.ownBlock = some k → k < B) (hr : ∀ k, r = some k → B ≤ k) : Rd w' size v n xs := by
  rcases hb with rfl | hb
  · obtain ⟨A, c, rfl, hc, hl, -⟩ := h
    exact ⟨A, c, rfl, hc, hl, .inl rfl⟩
  · exact rd_grown_ h hg fun k hk e => by have := hb k hk; have := hr k e.symm; omega
/-- Nothing there: it reads everywhere. -/
theorem rd_nil_ {w w' : World} {size : Nat} {v : Value} {xs : List Value} (h : Rd w size v 0 xs) : Rd w' size v 0 xs := by
  obtain ⟨A, c, rfl, hc, hl, -⟩ := h
  exact ⟨A, c, rfl, hc, hl, .inl rfl⟩
end Go.Proofs.Ytenobcfgapolhaa
