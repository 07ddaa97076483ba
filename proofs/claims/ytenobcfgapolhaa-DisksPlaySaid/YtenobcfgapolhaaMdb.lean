/- A disk of any files: what is small. -/
import Derived.Test.YtenobcfgapolhaaMda
import Derived.Lib.Strings
namespace Go.Proofs.Ytenobcfgapolhaa
open Go.RowKit

theorem mnew (w : World) : Calls Try.prog 6 #[] w fun e w' => e = .returned (.pointer (some ⟨w.heap.size + 1, 0, none⟩)) ∧ Md w' (w.heap.size + 1) ⟨[], -1, false⟩ [w.heap.size + 1, w.heap.size] ∧ Below w.heap.size w w' := by
  have hmm := @run_makeMap Try.prog
  go_enter Try.func6, Try.ntmps6
  go_wp2
  go_ret
  refine ⟨rfl, ⟨⟨w.heap.size, 0, [], ?_, ⟨?_, by simp, by simp, by simp, by simp, by simp⟩, rfl, rfl⟩, by simp, by simp⟩, ?_⟩
  · have := Blk.new (w.alloc (.map #[] 0)) 46 #[.map (some w.heap.size), .int .i64 (-1), .bool false]
    simpa using this
  · exact (heap_alloc_old _ _ (by simp)).trans (heap_alloc_new _ _)
  · exact below_alloc2_ _ _ _

/-- What is wrong with a name, ahead of all else. -/
def askM (s : Mst) (nm : ByteArray) : Int := if s.dead = true then 17 else if nm.size < 1 ∨ 16 < nm.size then 1 else 0
theorem size_list (nm : ByteArray) : nm.toList.length = nm.size := by rw [ByteArray.size, ← Array.length_toList, Lib.toList_data]
theorem masked (nm : ByteArray) (d : Nat) (s : Mst) (F : List Nat) (w : World) (h : Md w d s F) :
    Calls Try.prog 35 #[.pointer (some ⟨d, 0, none⟩), .string nm] w fun e w' => e = .returned (.int .i64 (askM s nm)) ∧ w = w' := by
  obtain ⟨m, ck, rs, hd, hf, -, -⟩ := h.ex
  have c0 := hd.cell 0
  have c2 := hd.cell 2
  simp at c0 c2
  obtain ⟨fs, fu, dead⟩ := s
  simp only at c2
  have qm := fun (w : World) (r : Option Nat) => run_neq_map_nil (P := Try.prog) w _ _ _ r Try.underlying44
  have hl := size_list nm
  clear hd hf h
  cases dead
  · by_cases h1 : nm.size < 1
    · have E := Lib.hid (show askM ⟨fs, fu, false⟩ nm = 1 from by simp [askM, h1])
      rw [E.out]
      have h2 : nm.toList = [] := List.eq_nil_of_length_eq_zero (by omega)
      clear hl
      go_enter Try.func35, Try.ntmps35
      go_wp2
      go_ret
      exact ⟨rfl, rfl⟩
    · have h2 : ¬ nm.toList = [] := fun e => by rw [e] at hl; simp at hl; omega
      have h3 : nm.toList.isEmpty = false := by
        cases hh : nm.toList with
        | nil => exact absurd hh h2
        | cons _ _ => rfl
      clear hl
      by_cases h16 : 16 < nm.size
      · have E := Lib.hid (show askM ⟨fs, fu, false⟩ nm = 1 from by simp [askM, h16])
        rw [E.out]
        have h4 : (16 : Int) < (nm.size : Int) := by omega
        go_enter Try.func35, Try.ntmps35
        go_wp2
        go_ret
        exact ⟨rfl, rfl⟩
      · have E := Lib.hid (show askM ⟨fs, fu, false⟩ nm = 0 from by simp [askM, h16, h1])
        rw [E.out]
        have h4 : ¬ (16 : Int) < (nm.size : Int) := by omega
        go_enter Try.func35, Try.ntmps35
        go_wp2
        go_ret
        exact ⟨rfl, rfl⟩
  · have E := Lib.hid (show askM ⟨fs, fu, true⟩ nm = 17 from rfl)
    rw [E.out]
    go_enter Try.func35, Try.ntmps35
    go_wp2
    go_ret
    exact ⟨rfl, rfl⟩

def burnM (s : Mst) : Mst × Int := if s.fuse = 0 then ({ s with dead := true }, 17) else if 0 < s.fuse then ({ s with fuse := s.fuse - 1 }, 0) else (s, 0)
/-- The disk's own block turns. -/
theorem Md.own {w w' : World} {d : Nat} {s s' : Mst} {F : List Nat} (h : Md w d s F) (hfs : s'.fs = s.fs) (h1 : -1 ≤ s'.fuse ∧ s'.fuse ≤ 9223372036854775807) (k : Kp w [d] w')
    (hb : ∀ m, Blk w d 46 #[.map (some m), .int .i64 s.fuse, .bool s.dead] → Blk w' d 46 #[.map (some m), .int .i64 s'.fuse, .bool s'.dead]) : Md w' d s' F := by
  obtain ⟨⟨m, ck, rs, hd, hf, hs, rfl⟩, h2⟩ := h
  exact ⟨⟨m, ck, rs, hb m hd, hf.kp k (by simpa using (ne_disk_map hd hf.map_).symm) (fun i hi => by simpa using hf.ne_blk hd (by decide) (by decide) i hi), hfs.trans hs, rfl⟩, h1⟩
theorem Md.parts {w : World} {d : Nat} {s : Mst} {F : List Nat} (h : Md w d s F) : ∃ m, Blk w d 46 #[.map (some m), .int .i64 s.fuse, .bool s.dead] ∧ d ∈ F := by
  obtain ⟨m, ck, rs, hd, hf, hs, rfl⟩ := h.ex
  exact ⟨m, hd, by simp⟩
theorem mburns (d : Nat) (s : Mst) (F : List Nat) (w : World) (h : Md w d s F) :
    Calls Try.prog 50 #[.pointer (some ⟨d, 0, none⟩)] w fun e w' => e = .returned (.int .i64 (burnM s).2) ∧ Md w' d (burnM s).1 F ∧ Kp w [d] w' := by
  have H := Lib.hid h
  obtain ⟨m, hd, -⟩ := h.parts
  obtain ⟨hfu1, hfu2⟩ := h.fuse
  have c1 := hd.cell 1
  have c2 := hd.cell 2
  have fz := hd.free
  simp at c1 c2
  obtain ⟨fs, fu, dead⟩ := s
  simp only at c1 c2 hfu1 hfu2
  clear hd h
  by_cases h0 : fu = 0
  · have HB := Lib.hid (show burnM ⟨fs, fu, dead⟩ = (⟨fs, fu, true⟩, 17) by simp [burnM, h0])
    subst h0
    rw [HB.out]
    go_enter Try.func50, Try.ntmps50
    go_wp2
    go_ret
    have k : Kp w [d] (w.setCell ⟨d, 2, none⟩ (.bool true)) := (Kp.refl _ _).setCell (.inl (by simp)) _
    refine ⟨rfl, H.out.own rfl (by simp) k fun m hd => ?_, k⟩
    have := hd.set_ 2 (.bool true)
    simpa using this
  · by_cases h1 : 0 < fu
    · have HB := Lib.hid (show burnM ⟨fs, fu, dead⟩ = (⟨fs, fu - 1, dead⟩, 0) by simp [burnM, h0, h1])
      rw [HB.out]
      go_enter Try.func50, Try.ntmps50
      go_wp2
      go_ret
      have k : Kp w [d] (w.setCell ⟨d, 1, none⟩ (.int .i64 (fu - 1))) := (Kp.refl _ _).setCell (.inl (by simp)) _
      refine ⟨rfl, H.out.own rfl ⟨by simp; omega, by simp; omega⟩ k fun m hd => ?_, k⟩
      have := hd.set_ 1 (.int .i64 (fu - 1))
      simpa using this
    · have HB := Lib.hid (show burnM ⟨fs, fu, dead⟩ = (⟨fs, fu, dead⟩, 0) by simp [burnM, h0, h1])
      rw [HB.out]
      go_enter Try.func50, Try.ntmps50
      go_wp2
      go_ret
      exact ⟨rfl, H.out, Kp.refl _ _⟩
theorem mfuse (d : Nat) (s : Mst) (F : List Nat) (n : Int) (hn : n ≤ 9223372036854775807) (w : World) (h : Md w d s F) :
    Calls Try.prog 13 #[.pointer (some ⟨d, 0, none⟩), .int .i64 n] w fun e w' => e = .returned (.tuple #[]) ∧ MdTo w F d { s with fuse := max 0 n } w' := by
  have H := Lib.hid h
  obtain ⟨m, hd, hdF⟩ := h.parts
  have c0 := hd.cell 0
  have c1 := hd.cell 1
  have fz := hd.free
  simp at c0 c1
  have DF := Lib.hid hdF
  clear hd h hdF
  have qm := fun (w : World) (r : Option Nat) => run_neq_map_nil (P := Try.prog) w _ _ _ r Try.underlying44
  have K := Lib.hid (show ∀ v, Kp w [d] (w.setCell ⟨d, 1, none⟩ v) from fun v => (Kp.refl _ _).setCell (.inl (by simp)) _)
  have M := Lib.hid (show ∀ z : Int, z = max 0 n → MdTo w F d { s with fuse := max 0 n } (w.setCell ⟨d, 1, none⟩ (.int .i64 z)) from fun z hz => by
    subst hz
    refine ⟨⟨F, H.out.own rfl ⟨by simp only; omega, by simp only; omega⟩ (K.out _) fun m hd => ?_, fun _ hk => .inl hk⟩, (K.out _).mono (by simpa using DF.out)⟩
    have := hd.set_ 1 (.int .i64 (max 0 n))
    simpa using this)
  by_cases h0 : 0 < n
  · go_enter Try.func13, Try.ntmps13
    go_wp2
    all_goals
      go_end0
      exact ⟨rfl, M.out _ (by omega)⟩
  · go_enter Try.func13, Try.ntmps13
    go_wp2
    all_goals
      go_end0
      exact ⟨rfl, M.out _ (by omega)⟩
theorem mdead (d : Nat) (s : Mst) (F : List Nat) (w : World) (h : Md w d s F) :
    Calls Try.prog 15 #[.pointer (some ⟨d, 0, none⟩)] w fun e w' => e = .returned (.bool s.dead) ∧ w = w' := by
  obtain ⟨m, hd, -⟩ := h.parts
  have c0 := hd.cell 0
  have c2 := hd.cell 2
  simp at c0 c2
  clear hd h
  have qm := fun (w : World) (r : Option Nat) => run_neq_map_nil (P := Try.prog) w _ _ _ r Try.underlying44
  go_enter Try.func15, Try.ntmps15
  go_wp2
  go_ret
  exact ⟨rfl, rfl⟩

/-- The file of a name. -/
def getM (fs : List (ByteArray × List Int × Nat)) (nm : ByteArray) : Option (List Int × Nat) := (fs.find? (fun q => q.1 == nm)).map (·.2)
theorem bytes_ne {a b : ByteArray} (h : a ≠ b) : (a == b) = false := by
  rw [Bool.eq_false_iff]; intro h'; exact h ((MapKept.bytes_beq a b).1 h')
theorem getM_none {rs : List Fl} {nm : ByteArray} (h : ∀ r ∈ rs, r.nm ≠ nm) : getM (rs.map Fl.pf) nm = none := by
  unfold getM
  rw [List.find?_eq_none.2]
  · rfl
  · intro q hq
    obtain ⟨r, hr, rfl⟩ := List.mem_map.1 hq
    simpa [Fl.pf] using bytes_ne (h r hr)
theorem getM_at {pre post : List Fl} {r : Fl} (h : ∀ x ∈ pre, x.nm ≠ r.nm) : getM ((pre ++ r :: post).map Fl.pf) r.nm = some (r.xs, r.su) := by
  unfold getM
  rw [List.map_append, List.find?_append, List.find?_eq_none.2 (by
    intro q hq
    obtain ⟨x, hx, rfl⟩ := List.mem_map.1 hq
    simpa [Fl.pf] using bytes_ne (h x hx))]
  have hb : (r.nm == r.nm) = true := (MapKept.bytes_beq _ _).2 rfl
  simp [Fl.pf, hb]
/-- A name is there, or not. -/
theorem Fls.find {w : World} {m ck : Nat} {rs : List Fl} (h : Fls w m ck rs) (nm : ByteArray) :
    (∀ r ∈ rs, r.nm ≠ nm) ∨ ∃ pre r post, rs = pre ++ r :: post ∧ r.nm = nm ∧ (∀ x ∈ pre, x.nm ≠ nm) ∧ ∀ x ∈ post, x.nm ≠ nm := by
  by_cases hx : ∃ r ∈ rs, r.nm = nm
  · obtain ⟨r, hr, e⟩ := hx
    obtain ⟨pre, post, rfl⟩ := List.append_of_mem hr
    have hn := h.names
    rw [List.map_append, List.map_cons, List.nodup_append] at hn
    obtain ⟨_, h2, h3⟩ := hn
    rw [List.nodup_cons] at h2
    refine .inr ⟨pre, r, post, rfl, e, fun x hx hxe => ?_, fun x hx hxe => h2.1 ?_⟩
    · exact h3 x.nm (List.mem_map_of_mem hx) r.nm (by simp) (hxe.trans e.symm)
    · rw [e, ← hxe]; exact List.mem_map_of_mem hx
  · exact .inl fun r hr e => hx ⟨r, hr, e⟩
theorem keys_ne {rs : List Fl} {nm : ByteArray} (h : ∀ r ∈ rs, r.nm ≠ nm) : ∀ x ∈ rs.map Fl.en, ∃ q, x.key = .string q ∧ q ≠ nm := by
  intro x hx
  obtain ⟨r, hr, rfl⟩ := List.mem_map.1 hx
  exact ⟨r.nm, rfl, h r hr⟩
def sizeM (s : Mst) (nm : ByteArray) : Nat := ((getM s.fs nm).map fun q => q.1.length).getD 0
theorem msize (nm : ByteArray) (d : Nat) (s : Mst) (F : List Nat) (w : World) (h : Md w d s F) :
    Calls Try.prog 31 #[.pointer (some ⟨d, 0, none⟩), .string nm] w fun e w' => e = .returned (.int .i64 (sizeM s nm)) ∧ w = w' := by
  obtain ⟨m, ck, rs, hd, hf, hs, -⟩ := h.ex
  have c0 := hd.cell 0
  simp at c0
  have qm := fun (w : World) (r : Option Nat) => run_neq_map_nil (P := Try.prog) w _ _ _ r Try.underlying44
  rcases hf.find nm with hn | ⟨pre, r, post, rfl, rfl, hn, -⟩
  · have hl := run_mlook_none (P := Try.prog) Try.underlying44 Try.underlying9 hf.map_ nm (keys_ne hn) (.pointer none) (by kernel_rfl)
    have E := Lib.hid (show sizeM s nm = 0 from by unfold sizeM; rw [hs, getM_none hn]; rfl)
    rw [E.out]
    clear hd hf h hs hn
    go_enter Try.func31, Try.ntmps31
    go_wp2
    go_ret
    exact ⟨rfl, rfl⟩
  · have hm := hf.map_
    rw [List.map_append, List.map_cons] at hm
    have hl := run_mlook_at (P := Try.prog) Try.underlying44 Try.underlying9 r.nm (f := r.f) (born := r.born) hm (keys_ne hn)
    have E := Lib.hid (show sizeM s r.nm = r.xs.length from by unfold sizeM; rw [hs, getM_at hn]; rfl)
    rw [E.out]
    have ho := hf.ok r (by simp)
    obtain ⟨A, c, hv, hc, -⟩ := ho.own.clip
    have d0 := ho.blk.cell 0
    simp at d0
    rw [hv] at d0
    obtain ⟨nm, f, born, v, xs, su⟩ := r
    simp only at hl d0 hc ⊢
    clear hd hf h hs hn hm ho hv E
    go_enter Try.func31, Try.ntmps31
    go_wp2
    go_ret
    exact ⟨rfl, rfl⟩
end Go.Proofs.Ytenobcfgapolhaa
