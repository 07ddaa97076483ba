/- lives: the chapter's example of an album. -/
import Derived.Test.YtglghlfmjokgdaaDoorAls
import Derived.Test.YtglghlfmjokgdaaDoorStr
namespace Go.Proofs.YtglghlfmjokgdaaDoor
open Go.RowKit

section
variable {X : List (Nat × Obj)} {B : Nat} {W w : World} {p d t v : Nat} {xs : List Int} {lost : Bool} {s : Dst}
theorem Am.lt (h : Am X B W w p d t v xs lost s) : p < w.heap.size := by
  obtain ⟨dv, Y, -, -, -, -, h5⟩ := h
  exact lt_of_heap (h5.keep (p, _) (List.mem_cons_self ..))
theorem Am.allocX (h : Am X B W w p d t v xs lost s) (o : Obj) : Am ((w.heap.size, o) :: X) B W (w.alloc o) p d t v xs lost s := by
  have hlt := h.lt
  obtain ⟨dv, Y, h1, h2, h3, h4, h5⟩ := h
  refine ⟨dv, Y, h1, h2, h3, fun q hq => ?_, (h5.allocX o).mono fun q hq => ?_⟩
  · rcases List.mem_append.1 hq with hq | hq
    · exact h4 q (List.mem_append_left _ hq)
    · rcases List.mem_cons.1 hq with rfl | hq
      · show w.heap.size ≠ p; omega
      · exact h4 q (List.mem_append_right _ hq)
  · rcases List.mem_cons.1 hq with rfl | hq
    · exact List.mem_cons_of_mem _ (List.mem_cons_self ..)
    · rcases List.mem_append.1 hq with hq | hq
      · exact List.mem_cons_of_mem _ (List.mem_cons_of_mem _ (List.mem_append_left _ hq))
      · rcases List.mem_cons.1 hq with rfl | hq
        · exact List.mem_cons_self ..
        · exact List.mem_cons_of_mem _ (List.mem_cons_of_mem _ (List.mem_append_right _ hq))
theorem Am.keep (h : Am X B W w p d t v xs lost s) : ∀ q ∈ X, w.heap[q.1]? = some q.2 := by
  obtain ⟨dv, Y, h1, h2, h3, h4, h5⟩ := h
  exact fun q hq => h5.keep q (List.mem_cons_of_mem _ (List.mem_append_right _ hq))
theorem Am.mono {Z : List (Nat × Obj)} (h : Am X B W w p d t v xs lost s) (hZ : ∀ q ∈ Z, q ∈ X) : Am Z B W w p d t v xs lost s := by
  obtain ⟨dv, Y, h1, h2, h3, h4, h5⟩ := h
  refine ⟨dv, Y, h1, h2, h3, fun q hq => h4 q ?_, h5.mono fun q hq => ?_⟩
  · rcases List.mem_append.1 hq with hq | hq
    · exact List.mem_append_left _ hq
    · exact List.mem_append_right _ (hZ q hq)
  · rcases List.mem_cons.1 hq with rfl | hq
    · exact List.mem_cons_self ..
    · rcases List.mem_append.1 hq with hq | hq
      · exact List.mem_cons_of_mem _ (List.mem_append_left _ hq)
      · exact List.mem_cons_of_mem _ (List.mem_append_right _ (hZ q hq))
theorem ashot_any (h : Am X B W w p d t v xs lost s) :
    Calls Tryd.prog 9 #[.pointer (some ⟨p, 0, none⟩)] w fun e w' => ∃ P, e = .returned (.agg #[.int .u64 t, .int .u64 v, .slice P xs.length xs.length]) ∧ Bo w.heap.size w' (.slice P xs.length xs.length) xs ∧ Below w.heap.size w w' := by
  obtain ⟨dv, Y, h1, h2, h3, h4, h5⟩ := h
  exact shot_any p t v dv (.pointer (some ⟨d, 0, none⟩)) lost xs w (h5.keep (p, _) (List.mem_cons_self ..)) (h5.sl h1 (fun q hq => List.mem_cons_of_mem _ (List.mem_append_left _ hq))) (by omega)
/-- An album of a disk without the file. -/
theorem Am.fresh (h : On ((p, alO 0 0 (.slice none 0 0) d false) :: X) B W w d nmS s) (hB : B ≤ p) (hX : ∀ q ∈ X, q.1 ≠ p) : Am X B W w p d 0 0 [] false s :=
  ⟨_, [], fun w _ => (Bo.nil_ 0 w).bs, hB, by simp, by simpa using hX, by simpa using h⟩
end
theorem does_fresh (b : List Int × Nat) (n : Nat) (hn : n ≤ 1048576) : doesS ⟨none, -1, false⟩ n true (fun _ => some b) = (⟨some b, -1, false⟩, 0) := by
  have : ¬ (1048576 : Int) < n := by omega
  simp [doesS, burnS, this]

set_option maxHeartbeats 4000000 in
set_option maxRecDepth 100000 in
theorem alives (w : World) (T : Tab w) : Calls Tryd.prog 11 #[] w fun e w' => e = .returned (.bool true) ∧ Below w.heap.size w w' := by
  have TT := Lib.hid T
  have h0 := Lib.hid (block_lt_of_cell (T 0 (by decide)))
  clear T
  go_enter Tryd.func11, Tryd.ntmps11
  go_wp2_with fail
  refine (on_new nmS w).mono ?_
  rintro e w1 ⟨rfl, h1⟩
  have H1 := Lib.hid h1
  clear h1
  go_wp2_with fail
  refine (aopen_new H1.out rfl).mono ?_
  rintro e w2 ⟨p, rfl, h2, hp⟩
  have A2 := Lib.hid (Am.fresh h2 (Nat.le_trans H1.out.le hp) (by simp))
  clear h2 hp
  go_wp2_with fail
  refine (ashot_any A2.out).mono ?_
  rintro e w3 ⟨P3, rfl, -, b3⟩
  have A3 := Lib.hid (((A2.out.below b3).allocX (.cells #[.int .u64 0, .int .u64 0, .slice P3 0 0] 25)).allocX (.cells #[.int .u8 1] 5))
  have L1 := Lib.hid (show Sl (.slice (some ⟨w3.heap.size + 1, 0, none⟩) 1 1) [1] [(w3.heap.size + 1, .cells #[.int .u8 1] 5)] from fun w' hw => ⟨_, _, rfl, Nat.le_refl _, rfl, .inr ⟨w3.heap.size + 1, 0, rfl, lt_of_heap (hw _ (List.mem_cons_self ..)), fun j u hu => by
    have k : Blk w' (w3.heap.size + 1) 5 #[.int .u8 1] := hw _ (List.mem_cons_self ..)
    rw [Nat.zero_add, k.cell]
    simpa [bc] using hu⟩⟩)
  clear b3
  have hl := shotB_len (T := 5) (V := 2) (xs := [1]) (by omega) (by omega) (by simp)
  obtain ⟨s4, hs4⟩ : ∃ s4 : Dst, setA 0 0 [] false ⟨none, -1, false⟩ 5 2 [1] = (0, 5, 2, [1], false, s4) := by
    refine ⟨⟨some (shotB 5 2 [1], (shotB 5 2 [1]).length), -1, false⟩, ?_⟩
    unfold setA
    rw [if_neg (by simp), if_neg (by omega), if_neg (by simp), does_fresh _ _ (by have := fileK_len 5 2 [1] (by omega) (by omega) (parts [1]); have : parts [1] = 1 := rfl; unfold shotB; omega)]
    rfl
  have HS4 := Lib.hid hs4
  clear hl hs4
  go_wp2_with fail
  refine (aset_any 5 2 _ [1] HS4.out (A3.out.mono (Z := [(w3.heap.size + 1, .cells #[.int .u8 1] 5), (w3.heap.size, .cells #[.int .u64 0, .int .u64 0, .slice P3 0 0] 25)]) (by simp)) (fun w' hw => L1.out w' (fun q hq => hw q (by simp at hq; subst hq; simp))) (by simp [byt]) h0.out TT.out (by omega) (by omega) (by simp)).mono ?_
  rintro e w4 ⟨rfl, a4⟩
  have A4 := Lib.hid a4
  clear a4
  go_wp2_with fail
  refine (aset_any 5 3 (.slice none 0 0) [] (show setA 5 2 [1] false s4 5 3 [] = (1, 5, 2, [1], false, s4) from by unfold setA; rw [if_neg (by simp), if_pos (by omega)]) A4.out (fun w _ => (Bo.nil_ 0 w).bs) (by simp) h0.out TT.out (by omega) (by omega) (by simp)).mono ?_
  rintro e w5 ⟨rfl, a5⟩
  have A5 := Lib.hid a5
  clear a5
  go_wp2_with fail
  refine (ashot_any A5.out).mono ?_
  rintro e w6 ⟨P6, rfl, h6, b6⟩
  have A6 := Lib.hid ((A5.out.below b6).below (below_alloc_ w6 (.cells #[.int .u64 5, .int .u64 2, .slice P6 1 1] 25)))
  have k1 := (show Blk (w6.alloc (.cells #[.int .u64 5, .int .u64 2, .slice P6 1 1] 25)) w3.heap.size 25 #[.int .u64 0, .int .u64 0, .slice P3 0 0] from A6.out.keep (w3.heap.size, _) (by simp))
  have c0 := k1.cell 0
  have c1 := k1.cell 1
  simp at c0 c1
  have cv := run_convert_bs (P := Tryd.prog) ((show Bs w6 (.slice P6 1 1) [1] from h6.bs).below (below_alloc_ w6 (.cells #[.int .u64 5, .int .u64 2, .slice P6 1 1] 25))) 23 5 9 Tryd.underlying23 Tryd.underlying5 Tryd.underlying9
  have hcv : (convert 23 9 (.slice P6 1 1)).run Tryd.prog (w6.alloc (.cells #[.int .u64 5, .int .u64 2, .slice P6 1 1] 25)) = .ok (.string ⟨#[1]⟩) (w6.alloc (.cells #[.int .u64 5, .int .u64 2, .slice P6 1 1] 25)) := cv
  clear k1 h6 b6 cv
  go_wp2
  go_ret
  exact ⟨rfl, A6.out.bel⟩
end Go.Proofs.YtglghlfmjokgdaaDoor
