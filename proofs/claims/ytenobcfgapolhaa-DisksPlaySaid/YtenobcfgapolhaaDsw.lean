/- Acts on disks; DisksSure: the plain facts; Great. -/
import Derived.Test.YtenobcfgapolhaaDskD
import Derived.Test.YtenobcfgapolhaaDlv
namespace Go.Proofs.Ytenobcfgapolhaa
open Go.RowKit

/-- An act. -/
structure ActR where
  kd : Int
  nm : ByteArray
  bv : Value
  bs : List Int
  n : Int
  lv : Value
  ls : List Int
def actC (r : ActR) : List Value := [.int .u8 r.kd, .string r.nm, r.bv, .int .i64 r.n, r.lv]
theorem actC_len (r : ActR) : (actC r).length = 5 := rfl
structure ActOk (w : World) (r : ActR) : Prop where
  bv : Bs w r.bv r.bs
  by_ : ∀ c ∈ r.bs, byt c
  lv : Rd w 1 r.lv r.ls.length (lossC r.ls)
  lby : ∀ x ∈ r.ls, -9223372036854775808 ≤ x ∧ x ≤ 9223372036854775807
  kd : 0 ≤ r.kd ∧ r.kd ≤ 255
  n : r.n ≤ 9223372036854775807
  len : r.bs.length ≤ 4611686018427387904
theorem ActOk.below {w w' : World} {r : ActR} (h : ActOk w r) (hb : Below w.heap.size w w') : ActOk w' r := ⟨h.bv.below hb, h.by_, h.lv.below hb, h.lby, h.kd, h.n, h.len⟩
structure Acts (w : World) (v : Value) (rs : List ActR) : Prop where
  rd : Rd w 5 v rs.length (rs.flatMap actC)
  ok : ∀ r ∈ rs, ActOk w r
theorem Acts.below {w w' : World} {v : Value} {rs : List ActR} (h : Acts w v rs) (hb : Below w.heap.size w w') : Acts w' v rs := ⟨h.rd.below hb, fun r hr => (h.ok r hr).below hb⟩
theorem Acts.shape {w : World} {v : Value} {rs : List ActR} (h : Acts w v rs) : ∃ A c, v = .slice A rs.length c ∧ rs.length ≤ c := by
  obtain ⟨A, c, hv, hc, -⟩ := h.rd; exact ⟨A, c, hv, hc⟩
theorem Acts.at_ {w : World} {A : Option Addr} {n c : Nat} {rs : List ActR} (h : Acts w (.slice A n c) rs) (k : Nat) (hk : k < rs.length) :
    ∃ g o, A = some ⟨g, o, none⟩ ∧ g < w.heap.size ∧ w.cell? ⟨g, o + k * 5, none⟩ = some (.int .u8 rs[k].kd) ∧ w.cell? ⟨g, o + k * 5 + 1, none⟩ = some (.string rs[k].nm) ∧ w.cell? ⟨g, o + k * 5 + 2, none⟩ = some rs[k].bv ∧
      w.cell? ⟨g, o + k * 5 + 3, none⟩ = some (.int .i64 rs[k].n) ∧ w.cell? ⟨g, o + k * 5 + 4, none⟩ = some rs[k].lv := by
  obtain ⟨g, o, c', hv, hc, hg, hh⟩ := Rd.at_ actC_len h.rd (by omega)
  injection hv with h1 h2 h3
  exact ⟨g, o, h1, hg, hh k hk 0 _ (by omega) rfl, hh k hk 1 _ (by omega) rfl, hh k hk 2 _ (by omega) rfl, hh k hk 3 _ (by omega) rfl, hh k hk 4 _ (by omega) rfl⟩

/-- What the law's strings say of the disk. -/
def Inv (s : Dst) (A S : List Int) : Prop := match s.file with
  | none => A = [] ∧ S = []
  | some q => A = q.1 ∧ S = q.1.take q.2 ∧ q.2 ≤ q.1.length
theorem Inv.same {s s' : Dst} {A S : List Int} (h : Inv s A S) (he : s'.file = s.file) : Inv s' A S := by unfold Inv at *; rw [he]; exact h
theorem doesS_no {s : Dst} {n : Int} {m : Bool} {eff : List Int × Nat → Option (List Int × Nat)} (h : ¬ (doesS s n m eff).2 = 0) : (doesS s n m eff).1.file = s.file := by
  unfold doesS at *
  split
  · rfl
  · split
    · rfl
    · split
      · rfl
      · split
        · rfl
        · rename_i h1 h2 h3 h4; simp [h1, h2, h3, h4] at h
theorem doesS_ok {s : Dst} {n : Int} {m : Bool} {eff : List Int × Nat → Option (List Int × Nat)} (h : (doesS s n m eff).2 = 0) : (doesS s n m eff).1.file = eff (s.file.getD ([], 0)) := by
  unfold doesS at *
  split
  · rename_i h1; simp [h1] at h
  · split
    · rename_i h1 h2; simp [h1, h2] at h
    · split
      · rename_i h1 h2 h3; simp [h1, h2, h3] at h
      · split
        · rename_i h1 h2 h3 h4; simp [h1, h2, h3, h4] at h
        · rfl
theorem Inv.getD {s : Dst} {A S : List Int} (h : Inv s A S) : (s.file.getD ([], 0)).1 = A ∧ S = A.take (s.file.getD ([], 0)).2 ∧ (s.file.getD ([], 0)).2 ≤ A.length := by
  unfold Inv at h
  cases hf : s.file with
  | none => rw [hf] at h; obtain ⟨rfl, rfl⟩ := h; simp
  | some q => rw [hf] at h; obtain ⟨rfl, rfl, h⟩ := h; simpa using h
theorem inv_add {s s' : Dst} {A S bs : List Int} (h : Inv s A S) (he : s'.file = some ((s.file.getD ([], 0)).1 ++ bs, (s.file.getD ([], 0)).2)) : Inv s' (A ++ bs) S := by
  obtain ⟨h1, h2, h3⟩ := h.getD
  unfold Inv
  rw [he, h1]
  exact ⟨rfl, by rw [List.take_append_of_le_length h3]; exact h2, by simp; omega⟩
theorem inv_sure {s s' : Dst} {A S : List Int} (h : Inv s A S) (he : s'.file = some ((s.file.getD ([], 0)).1, (s.file.getD ([], 0)).1.length)) : Inv s' A A := by
  obtain ⟨h1, h2, h3⟩ := h.getD
  unfold Inv
  rw [he, h1]
  exact ⟨rfl, by simp, Nat.le_refl _⟩
theorem inv_put {s' : Dst} {bs : List Int} (he : s'.file = some (bs, bs.length)) : Inv s' bs bs := by
  unfold Inv; rw [he]; exact ⟨rfl, by simp, Nat.le_refl _⟩
theorem inv_drop {s' : Dst} (he : s'.file = none) : Inv s' [] [] := by unfold Inv; rw [he]; exact ⟨rfl, rfl⟩
theorem inv_read {s : Dst} {A S : List Int} (h : Inv s A S) (hd : s.dead = false) : (readS s).1 = A := by
  unfold Inv at h; unfold readS
  rw [hd]
  cases hf : s.file with
  | none => rw [hf] at h; simp [h.1]
  | some q => rw [hf] at h; simp [h.1]
/-- What a lift leaves. -/
theorem inv_lift {s : Dst} {A S ls : List Int} (h : Inv s A S) : Inv (liftS s ls) (readS (liftS s ls)).1 (readS (liftS s ls)).1 ∧ S.length ≤ (readS (liftS s ls)).1.length ∧ (readS (liftS s ls)).1.length ≤ A.length ∧
    (readS (liftS s ls)).1 = A.take (readS (liftS s ls)).1.length ∧ ((readS (liftS s ls)).2 = 0 ∨ ((readS (liftS s ls)).2 = 7 ∧ S = [])) := by
  unfold Inv at h
  cases hf : s.file with
  | none => rw [hf] at h; obtain ⟨rfl, rfl⟩ := h; simp [readS, liftS, hf, Inv]
  | some q =>
    rw [hf] at h
    obtain ⟨rfl, rfl, h3⟩ := h
    have h4 : liftN ls q ≤ q.1.length := by unfold liftN; omega
    have h5 : q.2 ≤ liftN ls q := by unfold liftN; omega
    have hl : (q.1.take (liftN ls q)).length = liftN ls q := by simp; omega
    have hr : readS (liftS s ls) = (q.1.take (liftN ls q), 0) := by simp [readS, liftS, hf]
    have hs : (liftS s ls).file = some (q.1.take (liftN ls q), liftN ls q) := by simp [liftS, hf]
    rw [hr]
    refine ⟨?_, by simp only [hl, List.length_take]; omega, by simp only [hl]; omega, by simp only [hl], .inl rfl⟩
    unfold Inv
    rw [hs]
    exact ⟨rfl, by simp only [List.take_take, Nat.min_self], by simp only [hl]; omega⟩
theorem str_app (A B : List Int) : strOfNums A ++ strOfNums B = strOfNums (A ++ B) := by
  apply ByteArray.ext
  apply Array.toList_inj.1
  simp [strOfNums, ByteArray.data_append]

set_option maxHeartbeats 2000000 in
set_option maxRecDepth 100000 in
theorem great_any (v : Value) (rs : List ActR) (w : World) (h : Acts w v rs) : Calls Try.prog 4 #[v] w fun e w' => (∃ b, e = .returned (.bool b) ∧ (b = false → rs.length ≤ 150)) ∧ ∃ m, w' = w.drewN m := by
  obtain ⟨A, c, rfl, hc⟩ := h.shape
  have H := Lib.hid h
  obtain ⟨n, hn⟩ : ∃ n, n = rs.length := ⟨_, rfl⟩
  have N := Lib.hid hn
  rw [← hn]
  clear h hc hn
  by_cases hl : 150 < n
  · have hl' : (150 : Int) < (n : Int) := by omega
    go_enter Try.func4, Try.ntmps4
    go_wp2
    go_ret
    exact ⟨⟨_, rfl, by simp⟩, 0, rfl⟩
  · have hl' : ¬ (150 : Int) < (n : Int) := by omega
    go_enter Try.func4, Try.ntmps4
    go_wp2
    go_loopw [3, 4] (fun c3 c4 wr => ∃ (k m : Nat) (z : Int), k ≤ n ∧ c4 = .int .i64 k ∧ c3 = .int .i64 z ∧ wr = w.drewN m) (fun _ c4 _ => n - (intOf c4).toNat)
    case atStart => exact ⟨0, 0, 0, by omega, rfl, rfl, rfl⟩
    case round =>
      obtain ⟨k, m, z, hk, rfl, rfl, rfl⟩ := hrel
      by_cases hkn : k < n
      · obtain ⟨g, o, rfl, -, c0, c1, c2, c3, c4⟩ := (show Acts w (.slice A n c) rs from by have := H.out; rw [← N.out] at this; exact this).at_ k (by have := N.out; omega)
        have hok := H.out.ok _ (List.getElem_mem (show k < rs.length by have := N.out; omega))
        obtain ⟨AB, cB, hbv, -⟩ := id hok.bv
        obtain ⟨AL, cL, hlv, -⟩ := id hok.lv
        rw [hbv] at c2
        rw [hlv] at c4
        clear hok hbv hlv c0 c3
        go_wp2_with fail
        go_quiet (fail)
        go_wp2
        exact ⟨⟨k + 1, _, _, by omega, by go_num, rfl, rfl⟩, by simp [intOf]; omega⟩
      · obtain rfl : k = n := by omega
        go_wp2
        go_ret
        exact ⟨⟨_, rfl, fun _ => by have := N.out; omega⟩, _, rfl⟩
end Go.Proofs.Ytenobcfgapolhaa
