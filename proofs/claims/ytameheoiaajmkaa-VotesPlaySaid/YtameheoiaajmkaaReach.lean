/- votes.Reached: the element of the sorted numbers that most of them reach; lives: the chapter's examples. -/
import Derived.Test.YtameheoiaajmkaaSeqA
import Derived.Test.YtameheoiaajmkaaPollC
import Derived.Deep.AppendLies
namespace Go.Proofs.Ytameheoiaajmkaa
open Go.RowKit Go.Shelf Go.Sort

theorem values_any (a : Option Addr) (n c : Nat) (w : World) :
    Calls Try.prog 23 #[.slice a n c] w fun e w' => e = .returned (.func (.func 26) #[] #[.pointer (some ⟨w.heap.size, 0, none⟩)]) ∧ w.alloc (.cells #[.slice a n c] 34) = w' := by
  go_enter Try.func23, Try.ntmps23
  go_wp2
  go_ret
  exact ⟨rfl, rfl⟩

theorem appendSeq_any (Bs : Nat) (sv : Value) (zs : List Int) (hlen : zs.length * 8 ≤ 140737488351232) (w : World) (hBs : Bs < w.heap.size)
    (hc : w.cell? ⟨Bs, 0, none⟩ = some sv) (hI : Nums w.heap.size w sv zs) :
    Calls Try.prog 27 #[.slice none 0 0, .func (.func 26) #[] #[.pointer (some ⟨Bs, 0, none⟩)]] w fun e W' =>
      ∃ v, e = .returned v ∧ W'.ownsRow w.heap.size 35 1 v zs.length (zs.map (Value.int .u64)) ∧ Below w.heap.size w W' :=
  (callsIn_wide (n := 3)).1 (appendSeq_in Fence.wide 3 trivial trivial rfl (by omega) Bs sv zs hlen w hBs hc hI)

theorem collect_any (Bs : Nat) (sv : Value) (zs : List Int) (hlen : zs.length * 8 ≤ 140737488351232) (w : World) (hBs : Bs < w.heap.size)
    (hc : w.cell? ⟨Bs, 0, none⟩ = some sv) (hI : Nums w.heap.size w sv zs) :
    Calls Try.prog 24 #[.func (.func 26) #[] #[.pointer (some ⟨Bs, 0, none⟩)]] w fun e W' =>
      ∃ v, e = .returned v ∧ W'.ownsRow w.heap.size 35 1 v zs.length (zs.map (Value.int .u64)) ∧ Below w.heap.size w W' := by
  have HI := Lib.hid hI
  have HC := Lib.hid hc
  clear hI hc
  go_enter Try.func24, Try.ntmps24
  go_wp2_with (go_at_call 27; refine (appendSeq_any _ sv zs hlen _ hBs HC.out HI.out).mono ?_; rintro e w' ⟨v, rfl, ho, hb⟩)
  go_ret
  exact ⟨v, rfl, ho, hb⟩

/-- What the sort of these numbers leaves. -/
def Sorts (zs : List Int) (P : Array Int → Prop) : Prop := ∀ (blk cap : Nat) (w : World), Holds encU w blk 0 zs.toArray → blk < w.heap.size →
  Calls Try.prog 25 #[.slice (some ⟨blk, 0, none⟩) zs.length cap] w fun e w' => e = .returned (.tuple #[]) ∧ ∃ ds : Array Int, ds.size = zs.length ∧ P ds ∧ Holds encU w' blk 0 ds ∧ w.grownBy w' (some blk)

theorem holds_own {w : World} {base g cap : Nat} {zs : List Int} (h : w.ownsRow base 35 1 (.slice (some ⟨g, 0, none⟩) zs.length cap) zs.length (zs.map (Value.int .u64))) : Holds encU w g 0 zs.toArray := fun j hj => by
  have hj' : j < zs.length := by simpa using hj
  refine ⟨?_, ?_⟩
  · rw [Nat.zero_add, h.cellAt j (by omega)]
    simp [hj', encU]
  · exact h.frozenAt (0 + j)

set_option maxHeartbeats 1000000 in
theorem sorted_any (Bs : Nat) (sv : Value) (zs : List Int) (P : Array Int → Prop) (hs : Sorts zs P) (h0 : 0 < zs.length) (hlen : zs.length * 8 ≤ 140737488351232) (w : World) (hBs : Bs < w.heap.size)
    (hc : w.cell? ⟨Bs, 0, none⟩ = some sv) (hI : Nums w.heap.size w sv zs) :
    Calls Try.prog 22 #[.func (.func 26) #[] #[.pointer (some ⟨Bs, 0, none⟩)]] w fun e W' =>
      ∃ g cap, ∃ ds : Array Int, e = .returned (.slice (some ⟨g, 0, none⟩) zs.length cap) ∧ ds.size = zs.length ∧ P ds ∧ w.heap.size ≤ g ∧ Holds encU W' g 0 ds ∧ Below w.heap.size w W' := by
  have HI := Lib.hid hI
  have HC := Lib.hid hc
  have HS := Lib.hid hs
  clear hI hc hs
  go_enter Try.func22, Try.ntmps22
  go_wp2_with fail
  refine (collect_any _ sv zs hlen _ hBs HC.out HI.out).mono ?_
  rintro e w1 ⟨v, rfl, ho, hb⟩
  obtain ⟨g, cap, rfl, hg, hlt⟩ := ho.form h0
  have HO := Lib.hid (holds_own ho)
  clear ho
  go_wp2_with fail
  refine (HS.out g cap w1 HO.out hlt).mono ?_
  rintro e w2 ⟨rfl, ds, hds, hP, hH, hgr⟩
  have HH := Lib.hid hH
  have HD := Lib.hid hds
  clear hH hds
  go_wp2
  go_ret
  exact ⟨g, cap, ds, rfl, HD.out, hP, hg, HH.out, hb.grown hgr hb.size (fun k e => by cases e; exact hg)⟩

set_option maxHeartbeats 1000000 in
theorem reached_any (b off cap : Nat) (zs : List Int) (P : Array Int → Prop) (hs : Sorts zs P) (h0 : 0 < zs.length) (hlen : zs.length ≤ 1000000) (w : World) (hb : b < w.heap.size)
    (hc : ∀ j, j < zs.length → w.cell? ⟨b, off + j, none⟩ = some (.int .u64 (zs[j]?.getD 0))) :
    Calls Try.prog 17 #[.slice (some ⟨b, off, none⟩) zs.length cap] w fun e W' =>
      ∃ ds : Array Int, ds.size = zs.length ∧ P ds ∧ e = .returned (.int .u64 ds[zs.length - (zs.length / 2 + 1)]!) ∧ Below w.heap.size w W' := by
  have hI : Nums (w.heap.size + 1) (w.alloc (.cells #[.slice (some ⟨b, off, none⟩) zs.length cap] 34)) (.slice (some ⟨b, off, none⟩) zs.length cap) zs :=
    ⟨b, off, cap, rfl, Nat.lt_succ_of_lt hb, fun j hj => (World.cell?_alloc_lt _ _ _ hb).trans (hc j hj)⟩
  have HI := Lib.hid hI
  have HC := Lib.hid (show (w.alloc (.cells #[.slice (some ⟨b, off, none⟩) zs.length cap] 34)).cell? ⟨w.heap.size, 0, none⟩ = some (.slice (some ⟨b, off, none⟩) zs.length cap) from (Boxed.new w 34 _).cell)
  have HS := Lib.hid hs
  have hne : ((zs.length : Int) == 0) = false := beq_eq_false_iff_ne.2 (by omega)
  clear hI hc hs
  go_enter Try.func17, Try.ntmps17
  go_wp2_with (go_at_call 23; refine (values_any _ _ _ _).mono ?_; rintro e w' ⟨rfl, rfl⟩)
  refine (sorted_any w.heap.size _ zs P HS.out h0 (by omega) _ (by simp) HC.out (by simpa using HI.out)).mono ?_
  rintro e w1 ⟨g, cap', ds, rfl, hds, hP, hg, hH, hbl⟩
  obtain ⟨k, hk⟩ : ∃ k : Nat, k = zs.length - (zs.length / 2 + 1) := ⟨_, rfl⟩
  have hkl : k < zs.length := by omega
  have hcell := (hH k (by omega)).1
  rw [Nat.zero_add] at hcell
  have HK := Lib.hid hk
  have e1 : (zs.length : Int) - ((zs.length : Int) / 2 + 1) = (k : Int) := by omega
  clear hk hH
  have HD := Lib.hid hds
  clear hds
  go_wp2_with (go_at_call 19; refine (most_any _ _ (by omega) (by omega)).mono ?_; rintro e w' ⟨rfl, rfl⟩)
  go_ret
  refine ⟨ds, HD.out, hP, by rw [← HK.out]; rfl, ((Below.refl w.heap.size w).alloc (Nat.le_refl _) _).trans (hbl.mono (by simp))⟩
end Go.Proofs.Ytameheoiaajmkaa
