/- The document's disk of any files: Put, Add, Sure, Read. -/
import Derived.Test.YtenobcfgapolhaaRmc
import Derived.Deep.RegionLaw
namespace Go.Proofs.Ytenobcfgapolhaa
open Go.RowKit

def stepL (fs : Pfs) (nm : ByteArray) : Option (List Int × Nat) → Pfs
  | some q => insL fs nm q
  | none => putM fs nm none
def doesL (s : Mst) (nm : ByteArray) (size : Int) (made : Bool) (eff : List Int × Nat → Option (List Int × Nat)) : Mst × Int :=
  if ¬ askM s nm = 0 then (s, askM s nm) else if getM s.fs nm = none ∧ made = false then (s, 7) else if 1048576 < size ∨ (getM s.fs nm = none ∧ 16 ≤ s.fs.length) then (s, 3) else
  if s.fuse = 0 then ({ s with dead := true }, 17) else ({ (burnM s).1 with fs := stepL s.fs nm (eff ((getM s.fs nm).getD ([], 0))) }, 0)
theorem doesL_ask {s : Mst} {nm : ByteArray} (h : ¬ askM s nm = 0) (size : Int) (made : Bool) (eff : List Int × Nat → Option (List Int × Nat)) : doesL s nm size made eff = (s, askM s nm) := by unfold doesL; rw [if_pos h]
theorem doesL_set {s : Mst} {nm : ByteArray} (h : askM s nm = 0) (size : Nat) (made : Bool) (eff : List Int × Nat → Option (List Int × Nat)) (bs : List Int) (su : Nat) (hm : made = true ∨ ¬ getM s.fs nm = none) (hs : size = bs.length ∨ (size ≤ 1048576 ∧ bs.length ≤ 1048576)) (he : eff ((getM s.fs nm).getD ([], 0)) = some (bs, su)) :
    doesL s nm size made eff = setL s nm bs su := by
  unfold doesL setL
  rw [if_neg (by simpa using h), if_neg (by rintro ⟨h1, h2⟩; rcases hm with h3 | h3; rw [h2] at h3; cases h3; exact h3 h1), he]
  have hc : (1048576 < (size : Int) ∨ (getM s.fs nm = none ∧ 16 ≤ s.fs.length)) ↔ (1048576 < bs.length ∨ (getM s.fs nm = none ∧ 16 ≤ s.fs.length)) := by
    constructor
    · rintro (h | h)
      · exact .inl (by omega)
      · exact .inr h
    · rintro (h | h)
      · exact .inl (by omega)
      · exact .inr h
  by_cases h1 : 1048576 < (size : Int) ∨ (getM s.fs nm = none ∧ 16 ≤ s.fs.length)
  · rw [if_pos h1, if_pos (hc.1 h1)]
  · rw [if_neg h1, if_neg (fun h => h1 (hc.2 h))]
    rfl
/-- The cells of a name's file. -/
theorem RMd.file {w : World} {m : Nat} {s : Mst} {F : List Nat} (h : RMd w m s F) {pre post : Pfs} {nm : ByteArray} {ys : List Int} {su : Nat} (hs : s.fs = pre ++ (nm, (ys, su)) :: post) :
    ∃ (g n c : Nat) (v : Value), Blk w m 30 (rmC s.fuse s.dead (.slice (some ⟨g, 0, none⟩) n c)) ∧ pre.length < n ∧ n ≤ c ∧ n ≤ 16 ∧ g < w.heap.size ∧ w.cell? ⟨g, pre.length * 3 + 1, none⟩ = some v ∧ w.cell? ⟨g, pre.length * 3 + 2, none⟩ = some (.int .i64 (su : Nat)) ∧
      Bo 0 w v ys ∧ (∀ c ∈ ys, byt c) ∧ su ≤ ys.length ∧ ys.length ≤ 1048576 := by
  obtain ⟨A, c, rs, hk, hc, ho, hr, hf, -, h16⟩ := h.rows
  have hl : pre.length < rs.length := by
    have := congrArg List.length hf
    rw [hs, List.length_map] at this
    simp at this
    omega
  obtain ⟨g, rfl, ⟨cur, hg, -⟩, -, e1, e2⟩ := row_at ho pre.length hl
  have hrow : rs[pre.length].pf = (nm, (ys, su)) := by
    have := congrArg (fun l : Pfs => l[pre.length]?) hf
    simp only [hs] at this
    rw [List.getElem?_append_right (Nat.le_refl _)] at this
    simp only [Nat.sub_self, List.getElem?_cons_zero, List.getElem?_map, List.getElem?_eq_getElem hl, Option.map_some, Option.some.injEq] at this
    exact this.symm
  have hok := hr _ (List.getElem_mem hl)
  have h1 : rs[pre.length].xs = ys := congrArg (fun q : ByteArray × List Int × Nat => q.2.1) hrow
  have h2 : rs[pre.length].su = su := congrArg (fun q : ByteArray × List Int × Nat => q.2.2) hrow
  rw [h2] at e2
  refine ⟨g, rs.length, c, _, hk, hl, hc, h16, hg.lt, e1, e2, ?_, ?_, ?_, ?_⟩
  · rw [← h1]; exact hok.own
  · rw [← h1]; exact hok.by_
  · rw [← h1, ← h2]; exact hok.su
  · rw [← h1]; exact hok.len

set_option maxHeartbeats 1000000 in
set_option maxRecDepth 100000 in
theorem mput_ref (nm : ByteArray) (m : Nat) (s : Mst) (F : List Nat) (bv : Value) (bs : List Int) (w : World) (h : RMd w m s F) (hb : Bs w bv bs) (hby : ∀ c ∈ bs, byt c) (hl : bs.length ≤ 4611686018427387904) :
    Calls Try.prog 19 #[.pointer (some ⟨m, 0, none⟩), .string nm, bv] w fun e w' => e = .returned (.int .i64 (doesL s nm bs.length true (fun _ => some (bs, bs.length))).2) ∧ RMTo w F m (doesL s nm bs.length true (fun _ => some (bs, bs.length))).1 w' := by
  have AS := Lib.hid (masked_ref nm m s F w h)
  have ST := Lib.hid (mset_ref nm m s F bv bs bs.length w h hb hby (Nat.le_refl _) hl)
  have H := Lib.hid h
  obtain ⟨A, c, rfl, hc, -⟩ := id hb
  by_cases hask : ¬ askM s nm = 0
  · rw [doesL_ask hask]
    obtain ⟨a, ha⟩ : ∃ a, a = askM s nm := ⟨_, rfl⟩
    rw [← ha] at AS hask ⊢
    have hne : (a != 0) = true := by simpa using hask
    clear h hb hby ha hask
    go_enter Try.func19, Try.ntmps19
    go_wp2_with fail
    refine AS.out.mono ?_
    rintro e w1 ⟨rfl, rfl⟩
    go_wp2
    go_ret
    exact ⟨rfl, H.out.to⟩
  · have hask0 : askM s nm = 0 := by simpa using hask
    rw [doesL_set hask0 bs.length true (fun _ => some (bs, bs.length)) bs bs.length (.inl rfl) (.inl rfl) rfl]
    rw [hask0] at AS
    clear h hb hby hask hask0
    go_enter Try.func19, Try.ntmps19
    go_wp2_with fail
    refine AS.out.mono ?_
    rintro e w1 ⟨rfl, rfl⟩
    go_wp2_with fail
    refine ST.out.mono ?_
    rintro e w1 ⟨rfl, h1⟩
    have H1 := Lib.hid h1
    clear h1
    go_wp2
    go_ret
    exact ⟨rfl, H1.out⟩

set_option maxHeartbeats 2000000 in
set_option maxRecDepth 100000 in
theorem msure_ref (nm : ByteArray) (m : Nat) (s : Mst) (F : List Nat) (w : World) (h : RMd w m s F) :
    Calls Try.prog 18 #[.pointer (some ⟨m, 0, none⟩), .string nm] w fun e w' => e = .returned (.int .i64 (doesL s nm 0 false (fun q => some (q.1, q.1.length))).2) ∧ RMTo w F m (doesL s nm 0 false (fun q => some (q.1, q.1.length))).1 w' := by
  have AS := Lib.hid (masked_ref nm m s F w h)
  have H := Lib.hid h
  by_cases hask : ¬ askM s nm = 0
  · rw [doesL_ask hask]
    obtain ⟨a, ha⟩ : ∃ a, a = askM s nm := ⟨_, rfl⟩
    rw [← ha] at AS hask ⊢
    have hne : (a != 0) = true := by simpa using hask
    clear h ha hask
    go_enter Try.func18, Try.ntmps18
    go_wp2_with fail
    refine AS.out.mono ?_
    rintro e w1 ⟨rfl, rfl⟩
    go_wp2
    go_ret
    exact ⟨rfl, H.out.to⟩
  · have hask0 : askM s nm = 0 := by simpa using hask
    rw [hask0] at AS
    rcases pfs_find s.fs nm h.sorted with ⟨hno, GN⟩ | ⟨pre, ⟨ys, su⟩, post, hsp, hpre, GY⟩
    · have AT := Lib.hid (mat_no h hno)
      rw [show doesL s nm 0 false (fun q => some (q.1, q.1.length)) = (s, 7) from by unfold doesL; rw [if_neg hask, if_pos ⟨GN, rfl⟩]]
      clear h hask hask0 hno GN
      go_enter Try.func18, Try.ntmps18
      go_wp2_with fail
      refine AS.out.mono ?_
      rintro e w1 ⟨rfl, rfl⟩
      go_wp2_with fail
      refine AT.out.mono ?_
      rintro e w1 ⟨rfl, rfl⟩
      go_wp2
      go_ret
      exact ⟨rfl, H.out.to⟩
    · have AT := Lib.hid (mat_yes h hsp hpre)
      obtain ⟨g, n, c, v, hk, hkn, hnc, h16, hgl, e1, e2, hbo, hby, hsu, hlen⟩ := h.file hsp
      have E := Lib.hid (show doesL s nm 0 false (fun q => some (q.1, q.1.length)) = setL s nm ys ys.length from doesL_set hask0 0 false (fun q => some (q.1, q.1.length)) ys ys.length (.inr (by rw [GY]; simp)) (.inr ⟨by omega, hlen⟩) (by rw [GY]; rfl))
      rw [E.out]
      have ST := Lib.hid (mset_ref nm m s F v ys ys.length w.drew (h.below (Below.refl _ _).drew) (show Bs w.drew v ys from hbo.bs) hby (Nat.le_refl _) (by omega))
      have UP := Lib.hid (show ∀ W', RMTo w.drew F m (setL s nm ys ys.length).1 W' → RMTo w F m (setL s nm ys ys.length).1 W' from fun W' t => RMTo.of_below (Below.refl _ w).drew t)
      obtain ⟨k, hkp⟩ : ∃ k, k = pre.length := ⟨_, rfl⟩
      rw [← hkp] at AT e1 e2 hkn
      obtain ⟨A, cv, rfl, -⟩ := id hbo.clip
      obtain ⟨l, hl⟩ : ∃ l, l = ys.length := ⟨_, rfl⟩
      rw [← hl] at ST e1
      have LE := Lib.hid hl
      have c0 := hk.cell 0
      simp only [rmC, List.getElem?_toArray, List.getElem?_cons_zero] at c0
      have c0' : w.drew.cell? ⟨m, 0, none⟩ = some (.slice (some ⟨g, 0, none⟩) n c) := c0
      have e1' : w.drew.cell? ⟨g, k * 3 + 1, none⟩ = some (.slice A l cv) := e1
      have hneg : ¬ (k : Int) < 0 := by omega
      have hk0 : (0 : Int) ≤ (k : Int) := by omega
      have hkl : (k : Int) < (n : Int) := by omega
      clear h hk hask hask0 hsp hpre GY hbo hby hsu hlen hkp e2 E hl
      go_enter Try.func18, Try.ntmps18
      go_wp2_with fail
      refine AS.out.mono ?_
      rintro e w1 ⟨rfl, rfl⟩
      go_wp2_with fail
      refine AT.out.mono ?_
      rintro e w1 ⟨rfl, rfl⟩
      go_wp2_with fail
      go_region_law ((go_simp; go_at_call 42; refine ST.out.mono ?_; rintro e w2 ⟨rfl, h2⟩; have H2 := Lib.hid h2; clear h2))
      all_goals
        go_wp2
        go_ret
        rw [LE.out]
        exact ⟨rfl, UP.out _ (by have := H2.out; rw [LE.out] at this; exact this)⟩
end Go.Proofs.Ytenobcfgapolhaa
