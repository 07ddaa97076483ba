/- Contracts of the document's poll; Say in one form. -/
import Derived.Test.YtameheoiaajmkaaPollC
import Derived.Deep.OwnRows
namespace Go.Proofs.Ytameheoiaajmkaa
open Go.RowKit

def sayB (n : Nat) (S : List Int) (x : Int) : Bool := decide (1 ≤ x ∧ x ≤ n ∧ S[(x - 1).toNat]?.getD 0 = 0)
def sayS (n : Nat) (S : List Int) (x : Int) (y : Bool) : List Int := if sayB n S x then S.set (x - 1).toNat (if y then 1 else 2) else S

theorem grownBy_refl_ (w : World) (r : Option Nat) : w.grownBy w r := ⟨rfl, rfl, rfl, Nat.le_refl _, fun _ _ _ => rfl⟩

theorem say_cases (n : Nat) (S : List Int) (x : Int) : (sayB n S x = true ∧ ∃ k : Nat, x = k + 1 ∧ k < n ∧ S[k]?.getD 0 = 0) ∨
    (sayB n S x = false ∧ (x < 1 ∨ (n : Int) < x ∨ ∃ k : Nat, x = k + 1 ∧ k < n ∧ ¬ S[k]?.getD 0 = 0)) := by
  by_cases h1 : x < 1
  · exact .inr ⟨decide_eq_false (by omega), .inl h1⟩
  · by_cases h2 : (n : Int) < x
    · exact .inr ⟨decide_eq_false (by omega), .inr (.inl h2)⟩
    · by_cases h3 : S[(x - 1).toNat]?.getD 0 = 0
      · exact .inl ⟨decide_eq_true ⟨by omega, by omega, h3⟩, (x - 1).toNat, by omega, by omega, h3⟩
      · exact .inr ⟨decide_eq_false (fun h => h3 h.2.2), .inr (.inr ⟨(x - 1).toNat, by omega, by omega, h3⟩)⟩

theorem say_any (b n : Nat) (S : List Int) (x : Int) (y : Bool) (w : World) (h : IsPoll w b n S) (hx0 : 0 ≤ x) (hx255 : x ≤ 255) :
    Calls Try.prog 11 #[.pointer (some ⟨b, 0, none⟩), .int .u8 x, .bool y] w fun e w' =>
      e = .returned (.bool (sayB n S x)) ∧ IsPoll w' b n (sayS n S x y) ∧ w'.heap.size = w.heap.size ∧ w.grownBy w' (some b) := by
  rcases say_cases n S x with ⟨hb, k, hx, hk, hs⟩ | ⟨hb, hoff⟩
  · subst hx
    refine (say_on' b n S k y w h hk hs).mono ?_
    rintro e w' ⟨rfl, hp, hz, hg⟩
    refine ⟨by rw [hb], ?_, hz, hg⟩
    unfold sayS; rw [hb, if_pos rfl]
    have : ((k : Int) + 1 - 1).toNat = k := by omega
    rw [this]; exact hp
  · refine (say_off b n S x y w h hx0 hx255 hoff).mono ?_
    rintro e w' ⟨rfl, rfl⟩
    refine ⟨by rw [hb], ?_, rfl, grownBy_refl_ _ _⟩
    unfold sayS; rw [hb]; exact h

/-- Blocks pb and sb are the document's poll, of what S says. -/
def IsRef (w : World) (pb sb : Nat) (S : List Int) : Prop :=
  S.length ≤ 7 ∧ pb ≠ sb ∧ w.heap[pb]? = some (.cells #[.slice (some ⟨sb, 0, none⟩) S.length S.length] 47 (0, 0)) ∧ w.heap[sb]? = some (.cells (S.map (Value.int .i64)).toArray 3 (0, 0))

theorem IsRef.head {w : World} {pb sb : Nat} {S : List Int} (h : IsRef w pb sb S) : w.cell? ⟨pb, 0, none⟩ = some (.slice (some ⟨sb, 0, none⟩) S.length S.length) := by
  rw [cell_of_row w pb 0 _ _ _ h.2.2.1]; rfl
theorem IsRef.cell {w : World} {pb sb : Nat} {S : List Int} (h : IsRef w pb sb S) (k : Nat) (hk : k < S.length) : w.cell? ⟨sb, k, none⟩ = some (.int .i64 (S[k]?.getD 0)) := by
  rw [cell_of_row w sb _ _ _ _ h.2.2.2]
  simp [List.getElem?_eq_getElem hk]
theorem IsRef.free {w : World} {pb sb : Nat} {S : List Int} (h : IsRef w pb sb S) (k : Nat) : w.frozen? ⟨sb, k, none⟩ = false :=
  frozen_of_row w sb k _ _ h.2.2.2
theorem IsRef.lt1 {w : World} {pb sb : Nat} {S : List Int} (h : IsRef w pb sb S) : pb < w.heap.size := by
  rcases Nat.lt_or_ge pb w.heap.size with h' | h'
  · exact h'
  · have := h.2.2.1; rw [Array.getElem?_eq_none h'] at this; cases this
theorem IsRef.lt2 {w : World} {pb sb : Nat} {S : List Int} (h : IsRef w pb sb S) : sb < w.heap.size := by
  rcases Nat.lt_or_ge sb w.heap.size with h' | h'
  · exact h'
  · have := h.2.2.2; rw [Array.getElem?_eq_none h'] at this; cases this
theorem IsRef.set {w : World} {pb sb : Nat} {S : List Int} (h : IsRef w pb sb S) (k : Nat) (v : Int) : IsRef (w.setCell ⟨sb, k, none⟩ (.int .i64 v)) pb sb (S.set k v) := by
  refine ⟨by rw [List.length_set]; exact h.1, h.2.1, ?_, ?_⟩
  · rw [List.length_set, heap_setCell_other w _ _ _ (by exact h.2.1)]; exact h.2.2.1
  · rw [heap_setCell_same w sb k _ _ _ h.2.2.2]
    simp [List.map_set]
theorem IsRef.kept {w w' : World} {pb sb : Nat} {S : List Int} (h : IsRef w pb sb S) {b : Nat} (hg : w.grownBy w' (some b)) (h1 : pb ≠ b) (h2 : sb ≠ b) : IsRef w' pb sb S :=
  ⟨h.1, h.2.1, (hg.block _ h.lt1 (by simpa using h1)).trans h.2.2.1, (hg.block _ h.lt2 (by simpa using h2)).trans h.2.2.2⟩
theorem IsPoll.kept {w w' : World} {b n : Nat} {S : List Int} (h : IsPoll w b n S) {g : Nat} (hg : w.grownBy w' (some g)) (h1 : b ≠ g) : IsPoll w' b n S :=
  ⟨h.1, h.2.1, h.2.2.1, (hg.block _ h.lt (by simpa using h1)).trans h.2.2.2⟩
theorem IsRef.drewN {w : World} {pb sb : Nat} {S : List Int} (h : IsRef w pb sb S) (k : Nat) : IsRef (w.drewN k) pb sb S := h

theorem Try.info3 : (Try.prog.info? 3).map (fun i => (i.zero, i.size, i.bytes)) = some (some (.int .i64 0), 1, 8) := by kernel_rfl

theorem refnew_any (n : Nat) (w : World) (h7 : n ≤ 7) :
    Calls Try.prog 10 #[.int .i64 n] w fun e w' => e = .returned (.pointer (some ⟨w.heap.size + 1, 0, none⟩)) ∧ IsRef w' (w.heap.size + 1) w.heap.size (List.replicate n 0) ∧ Below w.heap.size w w' ∧ w'.heap.size = w.heap.size + 2 := by
  have hmk := run_make_row' (P := Try.prog) 45 3 (.int .i64 0) 8 Try.underlying45 Try.info3 rfl .i64 .i64 n (by omega) (by omega)
  go_enter Try.func10, Try.ntmps10
  go_wp2
  go_ret
  refine ⟨rfl, ⟨by simp; omega, by omega, ?_, ?_⟩, ((Below.refl _ _).alloc (Nat.le_refl _) _).alloc (by simp) _, by simp⟩
  · have := heap_alloc_new (w.alloc (.cells (madeCells #[.int .i64 0] n) 3)) (.cells #[.slice (some ⟨w.heap.size, 0, none⟩) n n] 47)
    rw [World.size_alloc] at this
    simpa using this
  · rw [heap_alloc2_old]
    congr 2
    have := toList_madeCells_one (.int .i64 0) n
    rw [List.map_replicate, ← this]

theorem refsay_any (pb sb n : Nat) (S : List Int) (x : Int) (y : Bool) (w : World) (h : IsRef w pb sb (S.take n)) (hl : n ≤ S.length) (hx0 : 0 ≤ x) (hx255 : x ≤ 255) :
    Calls Try.prog 12 #[.pointer (some ⟨pb, 0, none⟩), .int .u8 x, .bool y] w fun e w' =>
      e = .returned (.bool (sayB n S x)) ∧ IsRef w' pb sb ((sayS n S x y).take n) ∧ w'.heap.size = w.heap.size ∧ w.grownBy w' (some sb) := by
  have hlen : (S.take n).length = n := by simp; omega
  have hhd := h.head
  rw [hlen] at hhd
  have h7 : (n : Int) ≤ 7 := by have := h.1; omega
  rcases say_cases n S x with ⟨hb, k, hx, hk, hs⟩ | ⟨hb, hoff⟩
  · subst hx
    have hget : (S.take n)[k]?.getD 0 = S[k]?.getD 0 := by rw [List.getElem?_take, if_pos hk]
    have hc := h.cell k (by omega)
    have hf := h.free k
    rw [hget, hs] at hc
    have hcc : (w.setCell ⟨sb, k, none⟩ (.int .i64 2)).cell? ⟨sb, k, none⟩ = some (.int .i64 2) := World.cell?_setCell_same' _ _ _ (by rw [hc]; rfl)
    have hne := h.2.1
    have hhd2 : (w.setCell ⟨sb, k, none⟩ (.int .i64 2)).cell? ⟨pb, 0, none⟩ = some (.slice (some ⟨sb, 0, none⟩) n n) := by rw [World.cell?_setCell_other _ _ _ _ (fun e => hne (congrArg Addr.block e).symm)]; exact hhd
    have hS : sayS n S ((k : Int) + 1) y = S.set k (if y then 1 else 2) := by
      unfold sayS; rw [hb, if_pos rfl]
      have : ((k : Int) + 1 - 1).toNat = k := by omega
      rw [this]
    have HB := Lib.hid hb
    have HS := Lib.hid hS
    have H := Lib.hid h
    have G1 : ∀ v, w.grownBy (w.setCell ⟨sb, k, none⟩ v) (some sb) := fun v => ⟨rfl, rfl, rfl, by simp [World.setCell], fun i _ hne => Below.heap_setCell w _ v i (fun e => hne (by rw [e]))⟩
    have HG := Lib.hid G1
    clear hb hS h hs hget hlen G1
    have hx1 : ¬ (k : Int) < 0 := by omega
    have hx2 : ¬ (n : Int) ≤ (k : Int) := by omega
    cases y
    · go_enter Try.func12, Try.ntmps12
      go_wp2
      go_ret
      refine ⟨by rw [HB.out]; rfl, ?_, by simp [World.setCell], HG.out _⟩
      rw [HS.out, List.take_set]
      exact H.out.set k 2
    · go_enter Try.func12, Try.ntmps12
      go_wp2
      go_ret
      refine ⟨by rw [HB.out]; rfl, ?_, by simp [World.setCell], ?_⟩
      · rw [HS.out, List.take_set]
        have := (H.out.set k 2).set k 1
        rw [List.set_set] at this
        exact this
      · exact ⟨rfl, rfl, rfl, by simp [World.setCell], fun i _ hne => (Below.heap_setCell _ _ _ i (fun e => hne (by rw [e]))).trans (Below.heap_setCell w _ _ i (fun e => hne (by rw [e])))⟩
  · have hS : sayS n S x y = S := by unfold sayS; rw [hb]; rfl
    have HB := Lib.hid hb
    have HS := Lib.hid hS
    rcases hoff with hx | hx | ⟨k, hx, hk, hs⟩
    · have H := Lib.hid h
      have hx1 : x - 1 < 0 := by omega
      clear hb hS h hlen
      go_enter Try.func12, Try.ntmps12
      go_wp2
      go_ret
      exact ⟨by rw [HB.out]; rfl, by rw [HS.out]; exact H.out, rfl, grownBy_refl_ _ _⟩
    · have H := Lib.hid h
      have hx1 : ¬ x - 1 < 0 := by omega
      have hx2 : (n : Int) ≤ x - 1 := by omega
      clear hb hS h hlen
      go_enter Try.func12, Try.ntmps12
      go_wp2
      go_ret
      exact ⟨by rw [HB.out]; rfl, by rw [HS.out]; exact H.out, rfl, grownBy_refl_ _ _⟩
    · subst hx
      have hget : (S.take n)[k]?.getD 0 = S[k]?.getD 0 := by rw [List.getElem?_take, if_pos hk]
      have hc := h.cell k (by omega)
      rw [hget] at hc
      obtain ⟨s, hsd⟩ : ∃ s, s = S[k]?.getD 0 := ⟨_, rfl⟩
      rw [← hsd] at hc hs
      have hs' : (s != 0) = true := by simpa using hs
      have H := Lib.hid h
      have hx1 : ¬ (k : Int) < 0 := by omega
      have hx2 : ¬ (n : Int) ≤ (k : Int) := by omega
      clear hb hS h hlen hx0 hx255 hget hsd hs
      go_enter Try.func12, Try.ntmps12
      go_wp2
      go_ret
      exact ⟨by rw [HB.out]; rfl, by rw [HS.out]; exact H.out, rfl, grownBy_refl_ _ _⟩

theorem cnt_take_le (v : Int) (S : List Int) (k : Nat) : 0 ≤ cnt v (S.take k) ∧ cnt v (S.take k) ≤ k := by
  have := cnt_bd v (S.take k)
  have h2 := List.length_take_le k S
  omega

set_option maxHeartbeats 400000 in
theorem refmany_any (pb sb : Nat) (S : List Int) (v : Int) (w : World) (h : IsRef w pb sb S) :
    Calls Try.prog 14 #[.pointer (some ⟨pb, 0, none⟩), .int .i64 v] w fun e w' => e = .returned (.int .i64 (cnt v S)) ∧ w = w' := by
  have hhd := h.head
  have h7 : (S.length : Int) ≤ 7 := by have := h.1; omega
  have hall : cnt v (S.take S.length) = cnt v S := by rw [List.take_length]
  have HA := Lib.hid hall
  have H := Lib.hid h
  obtain ⟨n, hn⟩ : ∃ n, n = S.length := ⟨_, rfl⟩
  rw [← hn] at hhd h7 hall
  have HN := Lib.hid hn
  clear h hall hn
  go_enter Try.func14, Try.ntmps14
  go_wp2
  go_loop [5, 6] (fun c i => ∃ k : Nat, k ≤ n ∧ i = .int .i64 k ∧ c = .int .i64 (cnt v (S.take k))) (fun _ i => n - (intOf i).toNat)
  case atStart => exact ⟨0, Nat.zero_le _, rfl, rfl⟩
  case round =>
    obtain ⟨k, hk, rfl, rfl⟩ := hrel
    have hbd := cnt_take_le v S k
    by_cases hkn : k < n
    · have hcell : w.cell? ⟨sb, k, none⟩ = some (.int .i64 (S[k]?.getD 0)) := H.out.cell k (by have := HN.out; omega)
      have hs := Lib.hid (cnt_snoc v S k (by have := HN.out; omega))
      obtain ⟨s, hsd⟩ : ∃ s, s = S[k]?.getD 0 := ⟨_, rfl⟩
      rw [← hsd] at hcell
      have HSD := Lib.hid hsd
      clear hsd
      by_cases hv : s = v
      · have hv' : (s == v) = true := by simpa using hv
        have HV := Lib.hid hv
        clear hv
        go_wp2
        go_round
        case rel => exact ⟨k + 1, by omega, by go_num, by rw [hs.out, ← HSD.out, if_pos HV.out]⟩
        case measure => simp [intOf]; omega
      · have hv' : (s == v) = false := by simpa using hv
        have HV := Lib.hid hv
        clear hv
        go_wp2
        go_round
        case rel => exact ⟨k + 1, by omega, by go_num, by rw [hs.out, ← HSD.out, if_neg HV.out]; simp⟩
        case measure => simp [intOf]; omega
    · obtain rfl : k = n := by omega
      go_wp2
      go_ret
      exact ⟨by rw [← HA.out, ← HN.out]; rfl, rfl⟩
end Go.Proofs.Ytameheoiaajmkaa
