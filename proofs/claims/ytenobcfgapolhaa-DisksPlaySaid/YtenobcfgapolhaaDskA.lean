/- A disk of one file at most: what is small. -/
import Derived.Test.YtenobcfgapolhaaDsk
import Derived.WalkSpells
import Derived.WalkLawsBesides
namespace Go.Proofs.Ytenobcfgapolhaa
open Go.RowKit

theorem dnew (nm : ByteArray) (w : World) : Calls Try.prog 6 #[] w fun e w' => e = .returned (.pointer (some ⟨w.heap.size + 1, 0, none⟩)) ∧ Dk w' (w.heap.size + 1) nm ⟨none, -1, false⟩ [w.heap.size + 1, w.heap.size] ∧ Below w.heap.size w w' := by
  have hmm := @run_makeMap Try.prog
  go_enter Try.func6, Try.ntmps6
  go_wp2
  go_ret
  refine ⟨rfl, ⟨⟨w.heap.size, [], ?_, ⟨0, ?_, rfl⟩, rfl⟩, by simp, by simp⟩, ?_⟩
  · have := Blk.new (w.alloc (.map #[] 0)) 46 #[.map (some w.heap.size), .int .i64 (-1), .bool false]
    simpa using this
  · exact (heap_alloc_old _ _ (by simp)).trans (heap_alloc_new _ _)
  · exact below_alloc2_ _ _ _

/-- What is asked of a name. -/
structure Nm (nm : ByteArray) : Prop where
  pos : ¬ nm.toList = []
  most : nm.size ≤ 16

theorem dasked (nm : ByteArray) (hn : Nm nm) (d : Nat) (s : Dst) (F : List Nat) (w : World) (h : Dk w d nm s F) :
    Calls Try.prog 35 #[.pointer (some ⟨d, 0, none⟩), .string nm] w fun e w' => e = .returned (.int .i64 (if s.dead then 17 else 0)) ∧ w = w' := by
  obtain ⟨m, G, hd, hf, rfl⟩ := h.ex
  have c0 := hd.cell 0
  have c2 := hd.cell 2
  simp at c0 c2
  have h16 : ¬ (16 : Int) < (nm.size : Int) := by have := hn.most; omega
  have hp := hn.pos
  have hp2 : nm.toList.isEmpty = false := by
    cases hl : nm.toList with
    | nil => exact absurd hl hp
    | cons _ _ => rfl
  obtain ⟨file, fu, dead⟩ := s
  simp only at c2
  have qm := fun (w : World) (r : Option Nat) => run_neq_map_nil (P := Try.prog) w _ _ _ r Try.underlying44
  clear hd hf h hn
  cases dead
  · go_enter Try.func35, Try.ntmps35
    go_wp2
    go_ret
    exact ⟨rfl, rfl⟩
  · go_enter Try.func35, Try.ntmps35
    go_wp2
    go_ret
    exact ⟨rfl, rfl⟩

theorem Dk.apart {nm : ByteArray} {d : Nat} {s : Dst} {F : List Nat} {w : World} (h : Dk w d nm s F) : ∀ k ∈ F.drop 1, k ≠ d := by
  obtain ⟨m, G, hd, hf, rfl⟩ := h.ex
  intro k hk
  obtain ⟨file, fu, dead⟩ := s
  cases file with
  | none => obtain ⟨ck, hb, rfl⟩ := hf; simp at hk; subst hk; exact fun e => (by subst e; unfold Blk at hd; rw [hd] at hb; cases hb)
  | some q =>
    obtain ⟨f, born, ck, v, hb, _, hff, ho, _, _, _, rfl⟩ := hf
    intro e
    subst e
    rcases List.mem_cons.1 hk with rfl | hk
    · unfold Blk at hd; rw [hd] at hb; cases hb
    · rcases List.mem_cons.1 hk with rfl | hk
      · exact (hff.ne_ hd (by decide)) rfl
      · rcases ho with ⟨rfl, _⟩ | ⟨g, c, cur, rfl, _, hg, _⟩
        · simp [Value.ownBlock] at hk
        · simp [Value.ownBlock] at hk; subst hk; exact (hg.ne_ hd (by decide)) rfl
def burnS (s : Dst) : Dst × Int := if s.fuse = 0 then ({ s with dead := true }, 17) else if 0 < s.fuse then ({ s with fuse := s.fuse - 1 }, 0) else (s, 0)

theorem dburns (nm : ByteArray) (d : Nat) (s : Dst) (F : List Nat) (w : World) (h : Dk w d nm s F) :
    Calls Try.prog 50 #[.pointer (some ⟨d, 0, none⟩)] w fun e w' => e = .returned (.int .i64 (burnS s).2) ∧ Dk w' d nm (burnS s).1 F ∧ Kp w [d] w' := by
  have H := Lib.hid h
  have hnd := h.apart
  obtain ⟨⟨m, G, hd, hf, rfl⟩, hfu1, hfu2⟩ := h
  have c1 := hd.cell 1
  have c2 := hd.cell 2
  have fz := hd.free
  simp at c1 c2
  have HD := Lib.hid hd
  have HF := Lib.hid hf
  have HN := Lib.hid hnd
  obtain ⟨file, fu, dead⟩ := s
  simp only at c1 c2 hfu1 hfu2
  clear hd hf hnd
  by_cases h0 : fu = 0
  · have hb : burnS ⟨file, fu, dead⟩ = (⟨file, fu, true⟩, 17) := by simp [burnS, h0]
    have HB := Lib.hid hb
    clear hb
    subst h0
    rw [HB.out]
    go_enter Try.func50, Try.ntmps50
    go_wp2
    go_ret
    have k : Kp w [d] (w.setCell ⟨d, 2, none⟩ (.bool true)) := (Kp.refl _ _).setCell (.inl (by simp)) _
    refine ⟨rfl, ⟨⟨m, G, ?_, HF.out.kp k (by simpa using HN.out m (by simp)) (fun i hi => by simpa using HN.out i (by simp [hi])), rfl⟩, by simp, by simp⟩, k⟩
    have := HD.out.set_ 2 (.bool true)
    simpa using this
  · by_cases h1 : 0 < fu
    · have hb : burnS ⟨file, fu, dead⟩ = (⟨file, fu - 1, dead⟩, 0) := by simp [burnS, h0, h1]
      have HB := Lib.hid hb
      clear hb
      rw [HB.out]
      go_enter Try.func50, Try.ntmps50
      go_wp2
      go_ret
      have k : Kp w [d] (w.setCell ⟨d, 1, none⟩ (.int .i64 (fu - 1))) := (Kp.refl _ _).setCell (.inl (by simp)) _
      refine ⟨rfl, ⟨⟨m, G, ?_, HF.out.kp k (by simpa using HN.out m (by simp)) (fun i hi => by simpa using HN.out i (by simp [hi])), rfl⟩, by simp; omega, by simp; omega⟩, k⟩
      have := HD.out.set_ 1 (.int .i64 (fu - 1))
      simpa using this
    · have hb : burnS ⟨file, fu, dead⟩ = (⟨file, fu, dead⟩, 0) := by simp [burnS, h0, h1]
      have HB := Lib.hid hb
      clear hb
      rw [HB.out]
      go_enter Try.func50, Try.ntmps50
      go_wp2
      go_ret
      exact ⟨rfl, H.out, Kp.refl _ _⟩

def sizeS (s : Dst) : Nat := (s.file.map fun q => q.1.length).getD 0

theorem dsize (nm : ByteArray) (d : Nat) (s : Dst) (F : List Nat) (w : World) (h : Dk w d nm s F) :
    Calls Try.prog 31 #[.pointer (some ⟨d, 0, none⟩), .string nm] w fun e w' => e = .returned (.int .i64 (sizeS s)) ∧ w = w' := by
  obtain ⟨m, G, hd, hf, rfl⟩ := h.ex
  have c0 := hd.cell 0
  simp at c0
  obtain ⟨file, fu, dead⟩ := s
  cases file with
  | none =>
    obtain ⟨ck, hb, rfl⟩ := hf
    have hl := run_look_none (P := Try.prog) Try.underlying44 Try.underlying9 hb nm (.pointer none) (by kernel_rfl)
    clear hd hb h
    have qm := fun (w : World) (r : Option Nat) => run_neq_map_nil (P := Try.prog) w _ _ _ r Try.underlying44
    go_enter Try.func31, Try.ntmps31
    go_wp2
    go_ret
    exact ⟨rfl, rfl⟩
  | some q =>
    obtain ⟨xs, su⟩ := q
    obtain ⟨f, born, ck, v, hb, h1, hff, ho, hby, hsu, hlen, rfl⟩ := hf
    have hl := run_look_one (P := Try.prog) Try.underlying44 Try.underlying9 nm hb
    obtain ⟨A, c, rfl, hc, -⟩ := ho.clip
    have d0 := hff.cell 0
    simp at d0
    clear hd hb h hff ho hby
    have qm := fun (w : World) (r : Option Nat) => run_neq_map_nil (P := Try.prog) w _ _ _ r Try.underlying44
    go_enter Try.func31, Try.ntmps31
    go_wp2
    go_ret
    exact ⟨rfl, rfl⟩

theorem dfuse (nm : ByteArray) (d : Nat) (s : Dst) (F : List Nat) (n : Int) (hn : n ≤ 9223372036854775807) (w : World) (h : Dk w d nm s F) :
    Calls Try.prog 13 #[.pointer (some ⟨d, 0, none⟩), .int .i64 n] w fun e w' => e = .returned (.tuple #[]) ∧ Dk w' d nm { s with fuse := max 0 n } F ∧ Kp w [d] w' := by
  have hnd := h.apart
  obtain ⟨⟨m, G, hd, hf, rfl⟩, hfu1, hfu2⟩ := h
  have c0 := hd.cell 0
  have c1 := hd.cell 1
  have fz := hd.free
  simp at c0 c1
  have HD := Lib.hid hd
  have HF := Lib.hid hf
  have HN := Lib.hid hnd
  obtain ⟨file, fu, dead⟩ := s
  simp only at c1 hfu1 hfu2
  clear hd hf hnd
  have qm := fun (w : World) (r : Option Nat) => run_neq_map_nil (P := Try.prog) w _ _ _ r Try.underlying44
  have k : ∀ v, Kp w [d] (w.setCell ⟨d, 1, none⟩ v) := fun v => (Kp.refl _ _).setCell (.inl (by simp)) _
  have K := Lib.hid k
  clear k
  by_cases h0 : 0 < n
  · have E := Lib.hid (show max 0 n = n by omega)
    rw [E.out]
    go_enter Try.func13, Try.ntmps13
    go_wp2
    all_goals
      go_end0
      refine ⟨rfl, ⟨⟨m, G, ?_, HF.out.kp (K.out _) (by simpa using HN.out m (by simp)) (fun i hi => by simpa using HN.out i (by simp [hi])), rfl⟩, by first | (simp; done) | (simp; omega), by first | (simp; done) | (simp; omega)⟩, K.out _⟩
      have := HD.out.set_ 1 (.int .i64 (n))
      simpa using this
  · have E := Lib.hid (show max 0 n = 0 by omega)
    rw [E.out]
    go_enter Try.func13, Try.ntmps13
    go_wp2
    all_goals
      go_end0
      refine ⟨rfl, ⟨⟨m, G, ?_, HF.out.kp (K.out _) (by simpa using HN.out m (by simp)) (fun i hi => by simpa using HN.out i (by simp [hi])), rfl⟩, by first | (simp; done) | (simp; omega), by first | (simp; done) | (simp; omega)⟩, K.out _⟩
      have := HD.out.set_ 1 (.int .i64 (0))
      simpa using this
theorem ddead (nm : ByteArray) (d : Nat) (s : Dst) (F : List Nat) (w : World) (h : Dk w d nm s F) :
    Calls Try.prog 15 #[.pointer (some ⟨d, 0, none⟩)] w fun e w' => e = .returned (.bool s.dead) ∧ w = w' := by
  obtain ⟨m, G, hd, hf, rfl⟩ := h.ex
  have c0 := hd.cell 0
  have c2 := hd.cell 2
  simp at c0 c2
  clear hd hf h
  have qm := fun (w : World) (r : Option Nat) => run_neq_map_nil (P := Try.prog) w _ _ _ r Try.underlying44
  go_enter Try.func15, Try.ntmps15
  go_wp2
  go_ret
  exact ⟨rfl, rfl⟩
end Go.Proofs.Ytenobcfgapolhaa
