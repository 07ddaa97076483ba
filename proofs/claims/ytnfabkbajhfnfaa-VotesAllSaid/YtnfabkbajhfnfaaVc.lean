/- Contracts of votes.New and votes.Poll.Say. -/
import Derived.Test.YtnfabkbajhfnfaaVb
namespace Go.Proofs.Ytnfabkbajhfnfaa
open Go.RowKit

def zeros7 : List Int := [0, 0, 0, 0, 0, 0, 0]

theorem new_any (n : Nat) (w : World) (h1 : 1 ≤ n) (h7 : n ≤ 7) :
    Calls Try.prog 9 #[.int .i64 n] w fun e w' => e = .returned (.pointer (some ⟨w.heap.size, 0, none⟩)) ∧ w.alloc (.cells #[.int .i64 n, .int .u8 0, .int .u8 0, .int .u8 0, .int .u8 0, .int .u8 0, .int .u8 0, .int .u8 0] 38) = w' := by
  go_enter Try.func9, Try.ntmps9
  go_wp2
  go_ret
  exact ⟨rfl, rfl⟩

theorem new_none (n : Int) (w : World) (h : n < 1 ∨ 7 < n) :
    Calls Try.prog 9 #[.int .i64 n] w fun e w' => e = .returned (.pointer none) ∧ w = w' := by
  rcases h with h | h
  · go_enter Try.func9, Try.ntmps9
    go_wp2
    go_ret
    exact ⟨rfl, rfl⟩
  · have h' : ¬ n < 1 := by omega
    go_enter Try.func9, Try.ntmps9
    go_wp2
    go_ret
    exact ⟨rfl, rfl⟩

theorem IsPoll.born (n : Nat) (w : World) (h1 : 1 ≤ n) (h7 : n ≤ 7) :
    IsPoll (w.alloc (.cells #[.int .i64 n, .int .u8 0, .int .u8 0, .int .u8 0, .int .u8 0, .int .u8 0, .int .u8 0, .int .u8 0] 38)) w.heap.size n zeros7 :=
  ⟨rfl, h1, h7, by rw [heap_alloc_new]; rfl⟩

/-- What a node says: not taken. -/
theorem say_off (b n : Nat) (S : List Int) (x : Int) (y : Bool) (w : World) (h : IsPoll w b n S) (hx0 : 0 ≤ x) (hx255 : x ≤ 255)
    (hx : x < 1 ∨ (n : Int) < x ∨ ∃ k : Nat, x = k + 1 ∧ k < n ∧ ¬ S[k]?.getD 0 = 0) :
    Calls Try.prog 10 #[.pointer (some ⟨b, 0, none⟩), .int .u8 x, .bool y] w fun e w' => e = .returned (.bool false) ∧ w = w' := by
  have hc0 := h.cell0
  have h1 : (1 : Int) ≤ (n : Int) := by have := h.2.1; omega
  have h7 : (n : Int) ≤ 7 := by have := h.2.2.1; omega
  have H := Lib.hid h
  clear h
  rcases hx with hx | hx | ⟨k, rfl, hk, hs⟩
  · go_enter Try.func10, Try.ntmps10
    go_wp2_with (go_at_call 15; refine (there_yes _ n _ hc0 (by omega)).mono ?_; rintro e w' ⟨rfl, rfl⟩)
    go_ret
    exact ⟨rfl, rfl⟩
  · have hx' : ¬ x < 1 := by omega
    go_enter Try.func10, Try.ntmps10
    go_wp2_with (go_at_call 15; refine (there_yes _ n _ hc0 (by omega)).mono ?_; rintro e w' ⟨rfl, rfl⟩)
    go_ret
    exact ⟨rfl, rfl⟩
  · have hc := H.out.cell k (by omega)
    have hx' : ¬ ((k : Int) + 1) < 1 := by omega
    have hx2 : ¬ (n : Int) < ((k : Int) + 1) := by omega
    obtain ⟨s, hsd⟩ : ∃ s, s = S[k]?.getD 0 := ⟨_, rfl⟩
    rw [← hsd] at hc hs
    clear hsd hx0 hx255
    have hs' : (s != 0) = true := by simpa using hs
    clear hs
    go_enter Try.func10, Try.ntmps10
    go_wp2_with (go_at_call 15; refine (there_yes _ n _ hc0 (by omega)).mono ?_; rintro e w' ⟨rfl, rfl⟩)
    go_ret
    exact ⟨rfl, rfl⟩

/-- What a node says: taken. -/
theorem say_on (b n : Nat) (S : List Int) (k : Nat) (y : Bool) (w : World) (h : IsPoll w b n S) (hk : k < n) (hs : S[k]?.getD 0 = 0) :
    Calls Try.prog 10 #[.pointer (some ⟨b, 0, none⟩), .int .u8 (k + 1), .bool y] w fun e w' =>
      e = .returned (.bool true) ∧ (if y then (w.setCell ⟨b, 1 + k, none⟩ (.int .u8 2)).setCell ⟨b, 1 + k, none⟩ (.int .u8 1) else w.setCell ⟨b, 1 + k, none⟩ (.int .u8 2)) = w' := by
  have hc0 := h.cell0
  have h1 : (1 : Int) ≤ (n : Int) := by have := h.2.1; omega
  have h7 : (n : Int) ≤ 7 := by have := h.2.2.1; omega
  have hc := h.cell k (by omega)
  have hf := h.free (1 + k)
  have H := Lib.hid h
  clear h
  have hx' : ¬ ((k : Int) + 1) < 1 := by omega
  have hx2 : ¬ (n : Int) < ((k : Int) + 1) := by omega
  have hs' : (S[k]?.getD 0 != 0) = false := by simpa using hs
  clear hs
  cases y
  · go_enter Try.func10, Try.ntmps10
    go_wp2_with (go_at_call 15; refine (there_yes _ n _ hc0 (by omega)).mono ?_; rintro e w' ⟨rfl, rfl⟩)
    go_ret
    exact ⟨rfl, rfl⟩
  · have hcc : (w.setCell ⟨b, 1 + k, none⟩ (.int .u8 2)).cell? ⟨b, 1 + k, none⟩ = some (.int .u8 2) := World.cell?_setCell_same' _ _ _ (by rw [hc]; rfl)
    go_enter Try.func10, Try.ntmps10
    go_wp2_with (go_at_call 15; refine (there_yes _ n _ hc0 (by omega)).mono ?_; rintro e w' ⟨rfl, rfl⟩)
    go_ret
    exact ⟨rfl, rfl⟩

/-- Behind what a node said, in one form: only block b has turned. -/
theorem say_on' (b n : Nat) (S : List Int) (k : Nat) (y : Bool) (w : World) (h : IsPoll w b n S) (hk : k < n) (hs : S[k]?.getD 0 = 0) :
    Calls Try.prog 10 #[.pointer (some ⟨b, 0, none⟩), .int .u8 (k + 1), .bool y] w fun e w' =>
      e = .returned (.bool true) ∧ IsPoll w' b n (S.set k (if y then 1 else 2)) ∧ w'.heap.size = w.heap.size ∧ w.grownBy w' (some b) := by
  refine (say_on b n S k y w h hk hs).mono ?_
  rintro e w' ⟨rfl, rfl⟩
  refine ⟨rfl, ?_⟩
  have g1 : ∀ v, w.grownBy (w.setCell ⟨b, 1 + k, none⟩ v) (some b) := fun v => ⟨rfl, rfl, rfl, by simp [World.setCell], fun i _ hne => Below.heap_setCell w _ v i (fun e => hne (by rw [e]))⟩
  cases y
  · exact ⟨h.set k 2, by simp [World.setCell], g1 _⟩
  · refine ⟨by have := (h.set k 2).set k 1; simpa [List.set_set] using this, by simp [World.setCell], ?_⟩
    exact ⟨rfl, rfl, rfl, by simp [World.setCell], fun i _ hne => (Below.heap_setCell _ _ _ i (fun e => hne (by rw [e]))).trans (Below.heap_setCell w _ _ i (fun e => hne (by rw [e])))⟩
end Go.Proofs.Ytnfabkbajhfnfaa
