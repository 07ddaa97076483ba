/- The document's Twin. -/
import Derived.Test.YtoiclicechfmgaaGreatDoorUjz
namespace Go.Proofs.YtoiclicechfmgaaGreatDoor
open Go.RowKit

theorem readM_sub (s : Mst) (nm : ByteArray) : (readM s nm).1 = [] ∨ ∃ x ∈ s.fs, (readM s nm).1 = x.2.1 := by
  unfold readM
  split
  · exact .inl rfl
  · cases hg : getM s.fs nm with
    | none => exact .inl rfl
    | some q =>
      unfold getM at hg
      cases hf : s.fs.find? (fun q => q.1 == nm) with
      | none => rw [hf] at hg; cases hg
      | some x =>
        rw [hf] at hg
        injection hg with hg
        exact .inr ⟨x, List.mem_of_find?_eq_some hf, by rw [← hg]⟩
theorem RMd.byt {w : World} {m : Nat} {s : Mst} {F : List Nat} (h : RMd w m s F) (nm : ByteArray) : ∀ c ∈ (readM s nm).1, byt c := by
  obtain ⟨L, rs, -, -, hr, hs, -⟩ := h.ex
  rcases readM_sub s nm with e | ⟨x, hx, e⟩
  · rw [e]; simp
  · rw [hs] at hx
    obtain ⟨r, hrr, rfl⟩ := List.mem_map.1 hx
    rw [e]; exact (hr r hrr).by_
theorem RMd.rlen {w : World} {m : Nat} {s : Mst} {F : List Nat} (h : RMd w m s F) (nm : ByteArray) : (readM s nm).1.length ≤ 1048576 := by
  obtain ⟨L, rs, -, -, hr, hs, -⟩ := h.ex
  rcases readM_sub s nm with e | ⟨x, hx, e⟩
  · rw [e]; simp
  · rw [hs] at hx
    obtain ⟨r, hrr, rfl⟩ := List.mem_map.1 hx
    rw [e]; exact (hr r hrr).len
theorem RMd.new (w : World) : RMd (w.alloc (.cells #[.slice none 0 0, .bool false, .int .i64 0, .bool false] 54)) w.heap.size ⟨[], -1, false⟩ [w.heap.size] :=
  ⟨by simp, by simp, ⟨.slice none 0 0, [], Blk.new _ _ _, .inl ⟨rfl, rfl, rfl⟩, by simp, rfl, rfl⟩, by simp, List.Pairwise.nil⟩

set_option maxHeartbeats 2000000 in
set_option maxRecDepth 100000 in
theorem rtwin_any (m : Nat) (s : Mst) (F : List Nat) (w : World) (h : RMd w m s F) :
    Calls Tryz.prog 16 #[.pointer (some ⟨m, 0, none⟩)] w fun e w' => ∃ t, e = .returned (.pointer (some ⟨t, 0, none⟩)) ∧ (∃ F', RMd w' t (rtS s s.fs.length) F' ∧ ∀ k ∈ F', w.heap.size ≤ k) ∧ Below w.heap.size w w' := by
  obtain ⟨A, c, rs, hk, hc, ho, hr, hs, -, h16⟩ := h.rows
  have HD := Lib.hid h
  have b1 := below_alloc_ w (.cells #[.slice none 0 0, .bool false, .int .i64 0, .bool false] 54)
  have T1 := Lib.hid (show ∃ F', RMd (w.alloc (.cells #[.slice none 0 0, .bool false, .int .i64 0, .bool false] 54)) w.heap.size (rtS s 0) F' ∧ ∀ k ∈ F', w.heap.size ≤ k from ⟨_, RMd.new w, by simp⟩)
  have B1 := Lib.hid b1
  obtain ⟨n, hn⟩ : ∃ n, n = rs.length := ⟨_, rfl⟩
  have NN := Lib.hid hn
  have SL := Lib.hid (show s.fs.length = n from by rw [hs, hn]; simp)
  have N16 := Lib.hid (show n ≤ 16 from by omega)
  have NG := Lib.hid (show ∀ i (hi : i < rs.length), (s.fs.map (·.1)).getD i ⟨#[]⟩ = rs[i].nm from fun i hi => by
    rw [hs, List.map_map, List.getD_eq_getElem?_getD, List.getElem?_map, List.getElem?_eq_getElem hi]
    rfl)
  have BY := Lib.hid (fun nm => h.byt nm)
  have LN := Lib.hid (fun nm => h.rlen nm)
  have hml := hk.lt
  rw [← hn] at hk hc
  have C0 := Lib.hid (show ∀ u, Below w.heap.size w u → u.cell? ⟨m, 0, none⟩ = some (.slice A n c) from fun u hu => (hu.cell (p := ⟨m, 0, none⟩) hml).trans (by rw [hk.cell]; rfl))
  have OO := Lib.hid ho
  have CC := Lib.hid hc
  clear h hk ho hr hs hn h16 b1 hml hc
  go_enter Tryz.func16, Tryz.ntmps16
  go_wp2
  generalize hw1 : w.alloc (.cells #[.slice none 0 0, .bool false, .int .i64 0, .bool false] 54) = w1
  rw [hw1] at T1 B1
  obtain ⟨t, ht⟩ : ∃ t, t = w.heap.size := ⟨_, rfl⟩
  have TT := Lib.hid ht
  rw [← ht] at T1
  simp only [← ht]
  clear hw1 ht
  go_loopg [4, 5, 6] n (fun q c4 c5 c6 wr => ∃ i : Nat, i ≤ n ∧ q = n - i ∧ c4 = .int .i64 i ∧ Below w.heap.size w wr ∧ ∃ F', RMd wr t (rtS s i) F' ∧ ∀ k ∈ F', w.heap.size ≤ k)
  case atStart =>
    refine ⟨0, by omega, by omega, rfl, B1.out, ?_⟩
    rw [TT.out]
    rw [TT.out] at T1
    exact T1.out
  case round =>
    obtain ⟨i, hi, hq, rfl, hb, F', hm, hF⟩ := hrel
    have BB := Lib.hid hb
    have GG := Lib.hid hq
    have MM := Lib.hid hm
    have FF := Lib.hid hF
    have c0 := C0.out _ hb
    by_cases hin : i < n
    · have hir : i < rs.length := by have := NN.out; omega
      obtain ⟨gR, rfl, ⟨cur, hgc, -⟩, e0, -, -⟩ := row_at (OO.out) i hir
      obtain ⟨nm, hnm⟩ : ∃ nm, nm = rs[i].nm := ⟨_, rfl⟩
      have SI := Lib.hid (show rtS s (i + 1) = (doesL (rtS s i) nm (readM s nm).1.length true (fun _ => some ((readM s nm).1, (readM s nm).1.length))).1 from by rw [rtS, NG.out i hir, ← hnm])
      rw [← hnm] at e0
      have E0 := Lib.hid (show ∀ u, Below w.heap.size w u → u.cell? ⟨gR, i * 3, none⟩ = some (.string nm) from fun u hu => (hu.cell (p := ⟨gR, i * 3, none⟩) hgc.lt).trans e0)
      have e0r := E0.out _ hb
      have hin' : (i : Int) < (n : Int) := by omega
      have hi0 : (0 : Int) ≤ (i : Int) := by omega
      have hnc : (n : Int) ≤ (c : Int) := by have := CC.out; omega
      have hw1 : IntKind.i64.wrap ((i : Int) + 1) = (i : Int) + 1 := IntWalk.i64_in _ (by have := N16.out; omega)
      have DR := mread_ref nm m s F wr (HD.out.below (BB.out))
      have IN := Lib.hid hin
      have by_ := BY.out nm
      have ln := LN.out nm
      obtain ⟨xs, hxs⟩ : ∃ xs, xs = (readM s nm).1 := ⟨_, rfl⟩
      rw [← hxs] at DR SI by_ ln
      obtain ⟨re, hre⟩ : ∃ re, re = (readM s nm).2 := ⟨_, rfl⟩
      rw [← hre] at DR
      have BYX := Lib.hid by_
      have LNX := Lib.hid ln
      clear hq hb hm hF hgc e0 hnm hin hir hxs hre by_ ln
      go_wp2_with fail
      refine DR.mono ?_
      rintro e w3 ⟨u3, rfl, o3, b3⟩
      obtain ⟨A3, c3, rfl, -⟩ := id o3.clip
      have O3 := Lib.hid o3.bs
      have M3 := Lib.hid (MM.out.below b3)
      have B3 := Lib.hid (BB.out.trans (b3.mono BB.out.size))
      have c03 := C0.out _ B3.out
      have e03 := E0.out _ B3.out
      clear DR o3 b3 c0 e0r
      obtain ⟨L, hL⟩ : ∃ L, L = xs.length := ⟨_, rfl⟩
      have PU := Lib.hid (mput_ref nm t (rtS s i) F' _ xs w3 M3.out O3.out BYX.out (by have := LNX.out; omega))
      rw [← hL] at PU SI ⊢
      clear hL
      go_wp2_with fail
      refine PU.out.mono ?_
      rintro e w4 ⟨rfl, t4⟩
      have T4 := Lib.hid t4
      clear t4
      go_wp2
      go_roundg (n - (i + 1))
      case measure => have := GG.out; have := IN.out; omega
      case rel =>
        obtain ⟨F4, hm4, hF4⟩ := T4.out.ex
        refine ⟨i + 1, by have := IN.out; omega, rfl, by simp, B3.out.trans (T4.out.kp.to_below FF.out B3.out.size), F4, ?_, fun k hk => ?_⟩
        · rw [SI.out]; exact hm4
        · rcases hF4 k hk with h | h
          · exact FF.out k h
          · exact Nat.le_trans B3.out.size h
    · obtain rfl : i = n := by omega
      have hw1 : ¬ (i : Int) < (i : Int) := by omega
      have NI := Lib.hid NN.out
      clear hq hb hm hF
      go_wp2
      go_ret
      refine ⟨t, rfl, ⟨F', ?_, FF.out⟩, BB.out⟩
      rw [SL.out]
      exact MM.out
end Go.Proofs.YtoiclicechfmgaaGreatDoor
