/- law01: a page more in a book. -/
import Derived.Test.YtenobcfgapolhaaBob
namespace Go.Proofs.Ytenobcfgapolhaa
open Go.RowKit

theorem page_info : (Try.prog.info? 72).map (fun i => (i.zero, i.size, i.bytes)) = some (some .nilIface, 1, 16) := by kernel_rfl
/-- A book in block kb, its pages in the value pv; below B nothing has turned since W. -/
structure Bks (ps : List Pg) (B : Nat) (W w : World) (kb : Nat) (pv : Value) : Prop where
  bk : Blk w kb 50 #[pv]
  ow : Ow B w 72 1 pv ps.length (ps.map Pg.ifc)
  kbB : B ≤ kb
  bel : Below B W w
  le : B ≤ w.heap.size
theorem Bks.new_ {B : Nat} {W w : World} (hb : Below B W w) (hB : B ≤ w.heap.size) : Bks [] B W (w.alloc (.cells #[.slice none 0 0] 50)) w.heap.size (.slice none 0 0) :=
  ⟨Blk.new _ _ _, .inl ⟨rfl, rfl, rfl⟩, hB, hb.alloc hB _, by simp; omega⟩
theorem number_any (n c kb : Nat) (A : Option Addr) (w : World) (hk : Blk w kb 50 #[.slice A n c]) (hn : n ≤ 1000) :
    Calls Try.prog 45 #[.pointer (some ⟨kb, 0, none⟩)] w fun e w' => e = .returned (.int .i64 (n + 1)) ∧ w = w' := by
  have c0 := hk.cell 0
  simp only [List.getElem?_toArray, List.getElem?_cons_zero] at c0
  have hn' : (n : Int) ≤ 1000 := by omega
  clear hk
  go_enter Try.func45, Try.ntmps45
  go_wp2
  go_ret
  exact ⟨by go_num, rfl⟩
set_option maxHeartbeats 2000000 in
set_option maxRecDepth 100000 in
theorem add_byte (ps : List Pg) (B : Nat) (W w : World) (kb : Nat) (pv : Value) (h : Bks ps B W w kb pv) (hn : ps.length ≤ 100) (lie : Option (Nat × Nat × Nat)) :
    Calls Try.prog 25 #[.pointer (some ⟨kb, 0, none⟩), slOf lie] w fun e w' => e = .returned (.tuple #[]) ∧ ∃ (pv' : Value) (m b : List Int), m.length = 1 ∧ b.length = 1 ∧ Bks (ps ++ [⟨0, lie, m, b⟩]) B W w' kb pv' ∧ ∀ g t cs, t ≠ 50 → t ≠ 72 → Blk w g t cs → Blk w' g t cs := by
  obtain ⟨A, c, rfl⟩ := h.ow.sl_
  have H := Lib.hid h
  have HK := Lib.hid h.bk
  have c0 := h.bk.cell 0
  simp only [List.getElem?_toArray, List.getElem?_cons_zero] at c0
  have hn' : (ps.length : Int) ≤ 100 := by omega
  obtain ⟨LA, LN, LC, hlie⟩ : ∃ A n c, slOf lie = .slice A n c := by cases lie <;> exact ⟨_, _, _, rfl⟩
  rw [hlie]
  have HLIE := Lib.hid hlie
  clear h hlie
  go_enter Try.func25, Try.ntmps25
  go_wp2_with fail
  refine (number_any ps.length c kb A w HK.out (by omega)).mono ?_
  rintro e w1 ⟨rfl, rfl⟩
  go_wp2_with (at_builtin; go_must (refine wpList_ow rfl _ _ 48 72 .nilIface 1 16 rfl Try.underlying48 page_info rfl (by decide) rfl _ H.out.ow H.out.le rfl (by simp [Value.oneCell']) rfl (by omega) (by unfold maxLen; omega) ?_); intro v2 w2 ho2 hg2; obtain ⟨A2, c2, rfl⟩ := ho2.sl_; have hk2 := Blk.grown HK.out hg2.1 (fun e => Ow.notat H.out.ow HK.out (by decide) e.symm); have f2 := hk2.free; have z2 := hk2.cell 0; simp only [List.getElem?_toArray, List.getElem?_cons_zero] at z2; have O2 := Lib.hid ho2; have G2 := Lib.hid hg2; have K2 := Lib.hid hk2; clear ho2 hg2 hk2)
  have hk3 := K2.out.set_ 0 (.slice A2 (ps.length + 1) c2)
  refine bodyPost_end (results_none rfl _ _ _) rfl ⟨rfl, .slice A2 (ps.length + 1) c2, [(ps.length : Int) + 1], rfl, [bits .xor .u8 ((ps.length : Int) + 1) 128], rfl, ⟨?_, ?_, H.out.kbB, ?_, ?_⟩, ?_⟩
  rotate_left
  · have := Ow.aside O2.out K2.out (by decide) 0 (.slice A2 (ps.length + 1) c2)
    rw [List.length_append, List.map_append]
    simp only [List.map_cons, List.map_nil, Pg.ifc, HLIE.out]
    exact this
  · exact (H.out.bel.grown G2.out.1 H.out.le (fun k hk => Ow.blk_lt H.out.ow k hk)).setCell H.out.kbB _
  · have := G2.out.1.size
    have := H.out.le
    simp
    omega
  · intro g t cs ht1 ht2 hk
    exact (hk.grown G2.out.1 (fun e => Ow.notat H.out.ow hk ht2 e.symm)).far (p := ⟨kb, 0, none⟩) (hk.ne_ HK.out ht1) _
  · simpa using hk3
end Go.Proofs.Ytenobcfgapolhaa
