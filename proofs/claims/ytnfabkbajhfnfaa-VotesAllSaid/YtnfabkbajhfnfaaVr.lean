/- votes.Reached: the element of the sorted numbers that most of them reach. -/
import Derived.Test.YtnfabkbajhfnfaaVs
import Derived.Test.YtnfabkbajhfnfaaVc
import Derived.Test.YtnfabkbajhfnfaaQl
import Derived.Deep.AppendLies
namespace Go.Proofs.Ytnfabkbajhfnfaa
open Go.RowKit Go.Shelf

theorem values_any (a : Option Addr) (n c : Nat) (w : World) :
    Calls Try.prog 14 #[.slice a n c] w fun e w' => e = .returned (.func (.func 20) #[] #[.pointer (some ⟨w.heap.size, 0, none⟩)]) ∧ w.alloc (.cells #[.slice a n c] 22) = w' := by
  go_enter Try.func14, Try.ntmps14
  go_wp2
  go_ret
  exact ⟨rfl, rfl⟩

theorem appendSeq_any (Bs : Nat) (sv : Value) (zs : List Int) (hlen : zs.length * 8 ≤ 140737488351232) (w : World) (hBs : Bs < w.heap.size)
    (hc : w.cell? ⟨Bs, 0, none⟩ = some sv) (hI : Nums w.heap.size w sv zs) :
    Calls Try.prog 21 #[.slice none 0 0, .func (.func 20) #[] #[.pointer (some ⟨Bs, 0, none⟩)]] w fun e W' =>
      ∃ v, e = .returned v ∧ W'.ownsRow w.heap.size 24 1 v zs.length (zs.map (Value.int .u64)) ∧ Below w.heap.size w W' :=
  (callsIn_wide (n := 3)).1 (appendSeq_in Fence.wide 3 trivial trivial rfl (by omega) Bs sv zs hlen w hBs hc hI)

theorem collect_any (Bs : Nat) (sv : Value) (zs : List Int) (hlen : zs.length * 8 ≤ 140737488351232) (w : World) (hBs : Bs < w.heap.size)
    (hc : w.cell? ⟨Bs, 0, none⟩ = some sv) (hI : Nums w.heap.size w sv zs) :
    Calls Try.prog 18 #[.func (.func 20) #[] #[.pointer (some ⟨Bs, 0, none⟩)]] w fun e W' =>
      ∃ v, e = .returned v ∧ W'.ownsRow w.heap.size 24 1 v zs.length (zs.map (Value.int .u64)) ∧ Below w.heap.size w W' := by
  have HI := Lib.hid hI
  have HC := Lib.hid hc
  clear hI hc
  go_enter Try.func18, Try.ntmps18
  go_wp2_with (go_at_call 21; refine (appendSeq_any _ sv zs hlen _ hBs HC.out HI.out).mono ?_; rintro e w' ⟨v, rfl, ho, hb⟩)
  go_ret
  exact ⟨v, rfl, ho, hb⟩

/-- The same numbers, none less than an earlier one. -/
def SrtOf (zs : List Int) (ds : Array Int) : Prop := ds.toList.Perm zs ∧ ds.toList.Pairwise (· ≤ ·)
theorem srtOf {zs : List Int} {ds : Array Int} (h : Go.Sort.PermIn 0 zs.length zs.toArray ds) (ho : Go.Sort.SortedIn Go.Sort.ltInt 0 zs.length ds) : SrtOf zs ds := by
  have hs : ds.size = zs.length := by have := h.1; simpa using this
  refine ⟨?_, ?_⟩
  · have := h.2.2
    rw [← hs, Array.extract_size] at this
    simpa [hs] using this
  · rw [List.pairwise_iff_getElem]
    intro i j hi hj hij
    have hj' : j < ds.size := by simpa using hj
    have hi' : i < ds.size := by simpa using hi
    have := ho i j (Nat.zero_le _) hij (by omega)
    rw [getElem!_pos ds i hi', getElem!_pos ds j hj', Go.Sort.ltInt, decide_eq_false_iff_not] at this
    simp only [Array.getElem_toList]
    omega
theorem own_sd {w : World} {base g cap : Nat} {zs : List Int} (h : w.ownsRow base 24 1 (.slice (some ⟨g, 0, none⟩) zs.length cap) zs.length (zs.map (Value.int .u64))) : ∃ rest, Sd w w g zs.toArray rest ∧ zs.length ≤ cap := by
  rcases Ow.of_own h with ⟨h, _⟩ | ⟨g', c, cur, hv, hB, hg, hc, hl, hs, ht⟩
  · cases h
  · cases hv
    refine ⟨cur.toList.drop zs.length, ⟨?_, grown_refl_ _ _⟩, hc⟩
    have : ((zs.toArray.toList.map fun x => Value.int .u64 x) ++ cur.toList.drop zs.length).toArray = cur := by
      have e : zs.map (fun x => Value.int .u64 x) = cur.toList.take zs.length := by rw [← ht, Nat.mul_one]
      show (zs.map (fun x => Value.int .u64 x) ++ cur.toList.drop zs.length).toArray = cur
      rw [e, List.take_append_drop]
    rw [this]
    exact hg
/-- What Sort leaves. -/
def SortsX (w : World) (g : Nat) (zs : List Int) (rest : List Value) (e : Ending) (w' : World) : Prop :=
  ∃ ds : Array Int, e = .returned (.tuple #[]) ∧ ds.size = zs.length ∧ SrtOf zs ds ∧ Sd w w' g ds rest
theorem bitLen_lim (n : Nat) (h : n ≤ 1000000) : Lib.bitLen n ≤ 100 := by have := Lib.bitLen_le n 20 (by omega) (by omega); omega
set_option maxHeartbeats 1000000 in
theorem sort_any {w : World} {g c : Nat} {zs : List Int} {rest : List Value} (h : Sd w w g zs.toArray rest) (hs : zs.length ≤ 1000000) (hc : zs.length ≤ c) :
    Calls Try.prog 19 #[.slice (some ⟨g, 0, none⟩) zs.length c] w (SortsX w g zs rest) := by
  obtain ⟨n, hn⟩ : ∃ n, n = zs.length := ⟨_, rfl⟩
  have N := Lib.hid hn
  have hl := bitLen_lim zs.length hs
  have PC := Lib.hid (show ∀ k : Nat, k ≤ 100 → Calls Try.prog 22 #[.slice (some ⟨g, 0, none⟩) n c, .int .i64 0, .int .i64 n, .int .i64 k] w (Srt w g zs.toArray rest 0 n) from fun k hk => by
    have := pdq_any c rest w g zs.length 0 zs.length k zs.toArray w (by omega) h (Nat.zero_le _) (by simp) (by simpa using hs) (by simpa using hc) hk (Or.inl rfl)
    simp only [List.size_toArray] at this
    rw [← hn] at this
    exact this)
  have LC := Lib.hid (show ∀ u, Calls Try.prog 23 #[.int .u64 (n : Int)] u fun e w' => e = .returned (.int .i64 (Lib.bitLen n : Nat)) ∧ w' = u from fun u => by
    have := len_any (n : Int) u (by omega) (by omega)
    rwa [Int.toNat_natCast] at this)
  rw [← hn] at hl hs hc ⊢
  obtain ⟨k, hk⟩ : ∃ k, k = Lib.bitLen n := ⟨_, rfl⟩
  rw [← hk] at hl LC
  clear h hn hk
  go_enter Try.func19, Try.ntmps19
  go_wp2_with fail
  refine (LC.out _).mono ?_
  rintro e w1 ⟨rfl, rfl⟩
  go_wp2_with fail
  refine (PC.out k hl).mono ?_
  rintro e w2 ⟨ds, rfl, hp, ho, h2⟩
  have H2 := Lib.hid h2
  have HP := Lib.hid hp
  have HO := Lib.hid ho
  clear h2 hp ho
  go_wp2
  refine bodyPost_end (results_none rfl _ _ _) rfl ?_
  refine ⟨ds, rfl, ?_, ?_, H2.out⟩
  · have := HP.out.1; simpa using this
  · have h1 := HP.out
    have h3 := HO.out
    rw [N.out] at h1 h3
    exact srtOf h1 h3

/-- A slice of its own that holds the numbers in order. -/
def SortedX (w : World) (zs : List Int) (e : Ending) (w' : World) : Prop :=
  ∃ g cap, ∃ ds : Array Int, ∃ rest W1, e = .returned (.slice (some ⟨g, 0, none⟩) zs.length cap) ∧ ds.size = zs.length ∧ SrtOf zs ds ∧ Sd W1 w' g ds rest ∧ Below w.heap.size w w'
set_option maxHeartbeats 1000000 in
theorem sorted_any (Bs : Nat) (sv : Value) (zs : List Int) (h0 : 0 < zs.length) (hlen : zs.length ≤ 1000000) (w : World) (hBs : Bs < w.heap.size)
    (hc : w.cell? ⟨Bs, 0, none⟩ = some sv) (hI : Nums w.heap.size w sv zs) :
    Calls Try.prog 13 #[.func (.func 20) #[] #[.pointer (some ⟨Bs, 0, none⟩)]] w (SortedX w zs) := by
  have HI := Lib.hid hI
  have HC := Lib.hid hc
  clear hI hc
  go_enter Try.func13, Try.ntmps13
  go_wp2_with fail
  refine (collect_any _ sv zs (by omega) _ hBs HC.out HI.out).mono ?_
  rintro e w1 ⟨v, rfl, ho, hb⟩
  obtain ⟨g, cap, rfl, hg, hlt⟩ := ho.form h0
  obtain ⟨rest, hsd, hcap⟩ := own_sd ho
  have HO := Lib.hid hsd
  have HB := Lib.hid hb
  clear ho hsd hb
  go_wp2_with fail
  refine (sort_any HO.out hlen hcap).mono ?_
  rintro e w2 ⟨ds, rfl, hds, hP, hH⟩
  have HH := Lib.hid hH
  have HD := Lib.hid hds
  have HP := Lib.hid hP
  clear hH hds hP
  go_wp2
  go_ret
  exact ⟨g, cap, ds, rest, w1, rfl, HD.out, HP.out, HH.out, HB.out.grown HH.out.kp HB.out.size (fun k e => by cases e; exact hg)⟩

/-- What most of the numbers reach. -/
def ReachX (w : World) (zs : List Int) (e : Ending) (w' : World) : Prop :=
  ∃ ds : Array Int, SrtOf zs ds ∧ e = .returned (.int .u64 ds[zs.length - (zs.length / 2 + 1)]!) ∧ Below w.heap.size w w'
set_option maxHeartbeats 1000000 in
theorem reached_any (b off cap : Nat) (zs : List Int) (h0 : 0 < zs.length) (hlen : zs.length ≤ 1000000) (w : World) (hb : b < w.heap.size)
    (hc : ∀ j, j < zs.length → w.cell? ⟨b, off + j, none⟩ = some (.int .u64 (zs[j]?.getD 0))) :
    Calls Try.prog 6 #[.slice (some ⟨b, off, none⟩) zs.length cap] w (ReachX w zs) := by
  have hI : Nums (w.heap.size + 1) (w.alloc (.cells #[.slice (some ⟨b, off, none⟩) zs.length cap] 22)) (.slice (some ⟨b, off, none⟩) zs.length cap) zs :=
    ⟨b, off, cap, rfl, Nat.lt_succ_of_lt hb, fun j hj => (World.cell?_alloc_lt _ _ _ hb).trans (hc j hj)⟩
  have HI := Lib.hid hI
  have HC := Lib.hid (show (w.alloc (.cells #[.slice (some ⟨b, off, none⟩) zs.length cap] 22)).cell? ⟨w.heap.size, 0, none⟩ = some (.slice (some ⟨b, off, none⟩) zs.length cap) from (Boxed.new w 22 _).cell)
  have hne : ((zs.length : Int) == 0) = false := beq_eq_false_iff_ne.2 (by omega)
  clear hI hc
  go_enter Try.func6, Try.ntmps6
  go_wp2_with (go_at_call 14; refine (values_any _ _ _ _).mono ?_; rintro e w' ⟨rfl, rfl⟩)
  refine (sorted_any w.heap.size _ zs h0 hlen _ (by simp) HC.out (by simpa using HI.out)).mono ?_
  rintro e w1 ⟨g, cap', ds, rest, W1, rfl, hds, hP, hS, hbl⟩
  obtain ⟨k, hk⟩ : ∃ k : Nat, k = zs.length - (zs.length / 2 + 1) := ⟨_, rfl⟩
  have hkl : k < zs.length := by omega
  have hcell := hS.cell k (by omega)
  have HK := Lib.hid hk
  have HP := Lib.hid hP
  have HB := Lib.hid hbl
  have e1 : (zs.length : Int) - ((zs.length : Int) / 2 + 1) = (k : Int) := by omega
  obtain ⟨x, hx⟩ : ∃ x, x = ds[k]! := ⟨_, rfl⟩
  rw [← hx] at hcell
  have HX := Lib.hid hx
  clear hk hS hP hbl hx hds
  go_wp2_with (go_at_call 8; refine (most_any _ _ (by omega) (by omega)).mono ?_; rintro e w' ⟨rfl, rfl⟩)
  go_ret
  refine ⟨ds, HP.out, by rw [← HK.out, ← HX.out]; rfl, ((Below.refl w.heap.size w).alloc (Nat.le_refl _) _).trans (HB.out.mono (by simp))⟩
theorem reached_none (A : Option Addr) (c : Nat) (w : World) : Calls Try.prog 6 #[.slice A 0 c] w fun e w' => e = .returned (.int .u64 0) ∧ w' = w := by
  go_enter Try.func6, Try.ntmps6
  go_wp2
  go_ret
  exact ⟨rfl, rfl⟩
end Go.Proofs.Ytnfabkbajhfnfaa
