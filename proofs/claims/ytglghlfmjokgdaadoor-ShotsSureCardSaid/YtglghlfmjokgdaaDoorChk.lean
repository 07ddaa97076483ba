/- slices.Chunk of bytes: its parts. -/
import Derived.Test.YtglghlfmjokgdaaDoorShp
import Derived.Test.YtglghlfmjokgdaaDoorRng
namespace Go.Proofs.YtglghlfmjokgdaaDoor
open Go.RowKit Go.Shelf
attribute [local go_sem] Oper.semAt_some

theorem grown_drew_ (w : World) : w.grownBy w.drew none := grown_below_ ((Below.refl _ w).drew) none
theorem lt_of_heap_ {w : World} {i : Nat} {o : Obj} (h : w.heap[i]? = some o) : i < w.heap.size := (Array.getElem?_eq_some_iff.1 h).1
theorem abides_drew_ {β : Type} {B : Nat} {J : β → World → Prop} (h : AbidesFrom B J) {s : β} {W : World} (hs : J s W) : J s W.drew := h s W _ none hs (grown_drew_ W) (fun r e => by cases e)

/-- All cells but block rb's stay. -/
def KpC (rb : Nat) (A B : World) : Prop := A.heap.size ≤ B.heap.size ∧ ∀ i o, i ≠ rb → A.heap[i]? = some o → o.isCells = true → B.heap[i]? = some o
theorem KpC.refl (rb : Nat) (A : World) : KpC rb A A := ⟨Nat.le_refl _, fun _ _ _ h _ => h⟩
theorem KpC.trans {rb : Nat} {A B C : World} (h : KpC rb A B) (k : KpC rb B C) : KpC rb A C := ⟨Nat.le_trans h.1 k.1, fun i o hn ho hc => k.2 i o hn (h.2 i o hn ho hc) hc⟩
theorem KpC.drew {rb : Nat} {A B : World} (h : KpC rb A B) : KpC rb A B.drew := h
theorem KpC.blk {rb g t : Nat} {A B : World} {cs : Array Value} (h : KpC rb A B) (hk : Blk A g t cs) (hne : g ≠ rb) : Blk B g t cs := h.2 g _ hne hk rfl
theorem KpC.of_grown {rb : Nat} {A B : World} (h : A.grownBy B (some rb)) : KpC rb A B := ⟨h.size, fun i o hn ho _ => (h.block i (lt_of_heap_ ho) (fun e => hn (by cases e; rfl))).trans ho⟩
theorem KpC.put {rb : Nat} (W : World) (l : Nat) (o o' : Obj) (h : W.heap[l]? = some o) (hc : o.isCells = false) : KpC rb W (W.putObj l o') := by
  have hlt : l < W.heap.size := (Array.getElem?_eq_some_iff.1 h).1
  refine ⟨by simp [World.putObj], fun i u _ hu huc => ?_⟩
  have hne : l ≠ i := fun e => by subst e; rw [h] at hu; cases hu; rw [hc] at huc; cases huc
  exact (World.putObj_heap_other hne.symm).trans hu

theorem chunk_any (A : Option Addr) (n c : Nat) (w : World) :
    Calls Tryd.prog 80 #[.slice A n c, .int .i64 4096] w fun e w' => e = .returned (.func (.func 107) #[] #[.pointer (some ⟨w.heap.size, 0, none⟩), .pointer (some ⟨w.heap.size + 1, 0, none⟩)]) ∧
      (w.alloc (.cells #[.slice A n c] 23)).alloc (.cells #[.int .i64 4096] 3) = w' := by
  go_enter Tryd.func80, Tryd.ntmps80
  go_wp2
  go_ret
  exact ⟨by simp, rfl⟩

/-- Part i of a slice, as yield is given it. -/
def prV (g o : Nat) (xs : List Int) (i : Nat) : Array Value := #[.slice (some ⟨g, o + 4096 * i, none⟩) (part xs i).length (part xs i).length]

set_option maxRecDepth 100000 in
set_option maxHeartbeats 2000000 in
theorem chunk1_in (n : Nat) (hn : 1 ≤ n) (l Bs Bn rb g o c : Nat) (A : Option Addr) (xs : List Int) (hl : xs.length ≤ 70368744177664) (hcx : xs.length ≤ c) (hA : 0 < xs.length → A = some ⟨g, o, none⟩) (J Jx : List Nat → World → Prop) (W : World) (hJ : AbidesFrom W.heap.size J)
    (hY : ∀ pre x W1, J pre W1 → pre.length < parts xs → YieldAt Fence.wide (n - 1) Tryd.prog l (prV g o xs x) W1 fun e W' =>
      (e = .returned (.bool true) ∧ J (pre ++ [x]) W' ∧ KpC rb W1 W') ∨ (e = .returned (.bool false) ∧ Jx (pre ++ [x]) W'))
    (hBs : Blk W Bs 23 #[.slice A xs.length c]) (hBn : Blk W Bn 3 #[.int .i64 4096]) (hb : Bs ≠ rb) (hbn : Bn ≠ rb) (h0 : J [] W) :
    CallsIn Fence.wide n Tryd.prog 107 #[.func (.yield l) #[] #[], .pointer (some ⟨Bs, 0, none⟩), .pointer (some ⟨Bn, 0, none⟩)] W fun e W' => (∃ v, e = .returned v) ∧
      ((∃ ys, ys = List.range (parts xs) ∧ J ys W') ∨ (∃ pre, True ∧ Jx pre W')) := by
  have hmix : Tryd.prog.follows .mixedOrders = true := by kernel_rfl
  obtain ⟨L, hL⟩ : ∃ L, L = xs.length := ⟨_, rfl⟩
  rw [← hL] at hBs
  have KS := Lib.hid hBs
  have KN := Lib.hid hBn
  clear hBs hBn
  have LL := Lib.hid hL
  have HA := Lib.hid hA
  have HY := Lib.hid hY
  have HJ := Lib.hid hJ
  clear hY hA hJ
  refine callsIn_of_wp Tryd.func107 rfl trivial ?_ rfl
  simp only [Tryd.ntmps107, List.size_toArray, List.length_cons, List.length_nil, Nat.reduceAdd, Nat.reduceSub, Array.replicate_succ, Array.replicate_zero, List.push_toArray, List.append_toArray, List.nil_append, List.cons_append]
  gi_wp2
  gi_loopw [4] (fun i wr => ∃ k : Nat, k ≤ parts xs ∧ i = .int .i64 ((4096 * k : Nat) : Int) ∧ J (List.range k) wr ∧ KpC rb W wr)
    (fun i _ => L + 4096 - (intOf i).toNat)
  case atStart => exact ⟨0, Nat.zero_le _, rfl, h0, KpC.refl _ _⟩
  case round =>
    obtain ⟨k, hk, rfl, hJs, hnx⟩ := hrel
    have cs : wr.cell? ⟨Bs, 0, none⟩ = some (.slice A L c) := (by have := (hnx.blk KS.out hb).cell 0; simpa using this)
    have cn : wr.cell? ⟨Bn, 0, none⟩ = some (.int .i64 4096) := (by have := (hnx.blk KN.out hbn).cell 0; simpa using this)
    by_cases hlt : 4096 * k < L
    · have hkp : k < parts xs := by
        rcases Nat.lt_or_ge k (parts xs) with h | h
        · exact h
        · have := parts_ge (xs := xs) (i := k) (by omega); omega
      obtain rfl := HA.out (by omega)
      obtain ⟨m, hm⟩ : ∃ m, m = (part xs k).length := ⟨_, rfl⟩
      have hm2 : m = min 4096 (L - 4096 * k) := by rw [hm, part_len, hL]
      have hm4 : 4096 * k + m ≤ L := by omega
      obtain ⟨K, hK⟩ : ∃ K, K = 4096 * k := ⟨_, rfl⟩
      have hKL : K < L := by omega
      have hKL' : (K : Int) < (L : Int) := by omega
      have hl' : L ≤ 70368744177664 := by omega
      have hcL : L ≤ c := by omega
      rw [← hK]
      have YY := Lib.hid (HY.out (List.range k) k)
      have MM := Lib.hid hm
      have KK := Lib.hid hK
      have hch : (m = 4096 ∧ 4096 ≤ L - K) ∨ (m = L - K ∧ L - K < 4096) := by omega
      clear hm hK hm2 hm4 hL hlt hcx hl
      rcases hch with ⟨rfl, hd⟩ | ⟨rfl, hd⟩
      · have d1 : ¬ (L : Int) - (K : Int) < 4096 := by omega
        have d2 : ¬ ((L - K : Nat) : Int) < 4096 := by omega
        have d3 : ¬ L - K < 4096 := by omega
        gi_wp2_with fail
        gi_region_o
        have JD : J (List.range k) wr.drew := abides_drew_ HJ.out hJs
        obtain ⟨fn, tmps, assign, body, hy, hR⟩ := YY.out _ JD (by rw [List.length_range]; exact hkp)
        unfold prV at hy
        rw [← MM.out, ← KK.out] at hy
        gi_wp2
        refine hR.mono ?_
        rintro e W3 (⟨rfl, hJ3, hk3⟩ | ⟨rfl, hJx3⟩)
        · have cn3 : W3.cell? ⟨Bn, 0, none⟩ = some (.int .i64 4096) := (by have := (hk3.blk (hnx.drew.blk KN.out hbn) hbn).cell 0; simpa using this)
          gi_wp2
          go_roundw
          case rel => exact ⟨k + 1, by omega, by have := KK.out; go_num, by rw [List.range_succ]; exact hJ3, hnx.drew.trans hk3⟩
          case measure => have := KK.out; simp [intOf]; omega
        · gi_wp2
          refine bodyPost_ret (results_none rfl _ _ _) rfl ?_
          exact ⟨⟨_, rfl⟩, .inr ⟨_, trivial, hJx3⟩⟩
      · have d1 : (L : Int) - (K : Int) < 4096 := by omega
        have d2 : ((L - K : Nat) : Int) < 4096 := by omega
        gi_wp2_with fail
        gi_region_o
        have JD : J (List.range k) wr.drew := abides_drew_ HJ.out hJs
        obtain ⟨fn, tmps, assign, body, hy, hR⟩ := YY.out _ JD (by rw [List.length_range]; exact hkp)
        unfold prV at hy
        rw [← MM.out, ← KK.out] at hy
        gi_wp2
        refine hR.mono ?_
        rintro e W3 (⟨rfl, hJ3, hk3⟩ | ⟨rfl, hJx3⟩)
        · have cn3 : W3.cell? ⟨Bn, 0, none⟩ = some (.int .i64 4096) := (by have := (hk3.blk (hnx.drew.blk KN.out hbn) hbn).cell 0; simpa using this)
          gi_wp2
          go_roundw
          case rel => exact ⟨k + 1, by omega, by have := KK.out; go_num, by rw [List.range_succ]; exact hJ3, hnx.drew.trans hk3⟩
          case measure => have := KK.out; simp [intOf]; omega
        · gi_wp2
          refine bodyPost_ret (results_none rfl _ _ _) rfl ?_
          exact ⟨⟨_, rfl⟩, .inr ⟨_, trivial, hJx3⟩⟩
    · obtain rfl : k = parts xs := by
        rcases Nat.lt_or_ge k (parts xs) with h | h
        · exact absurd (parts_lt h) (by omega)
        · omega
      obtain ⟨K, hK⟩ : ∃ K, K = 4096 * parts xs := ⟨_, rfl⟩
      have hKL : ¬ K < L := by omega
      have hKL' : ¬ (K : Int) < (L : Int) := by omega
      have hl' : L ≤ 70368744177664 := by omega
      rw [← hK]
      clear hL hK hlt
      gi_wp2
      go_end0
      exact ⟨⟨_, rfl⟩, .inl hJs⟩
end Go.Proofs.YtglghlfmjokgdaaDoor
