/- logs: Open of a fresh disk. -/
import Derived.Test.YtnegondlkfeleaaDoorLof
import Derived.Test.YtnegondlkfeleaaDoorRdz
namespace Go.Proofs.YtnegondlkfeleaaDoor
open Go.RowKit

theorem cont_size : (Tryd.prog.info? 34).map (·.size) = some 3 := by kernel_rfl
theorem results_cont {fn : Func} (h : fn.results = #[.cell 2 34, .tmp 3]) (tmps : Array Value) (w : World) (g : Nat) (a b c v3 : Value) (hk : Blk w g 34 #[a, b, c]) (h2 : tmps.getD 2 undef = .pointer (some ⟨g, 0, none⟩)) (h3 : tmps.getD 3 undef = v3) :
    (results fn tmps).run Tryd.prog w = .ok (.tuple #[.agg #[a, b, c], v3]) w := by
  have hr := run_loadVar_row (P := Tryd.prog) w g 34 34 #[a, b, c] (0, 0) _ hk Tryd.underlying34 rfl cont_size
  rw [results_cell_tmp h, h2, h3]
  simp [asAddr, hr, Result.andThen]

set_option maxHeartbeats 1000000 in
set_option maxRecDepth 100000 in
theorem lread_nil (A : Option Addr) (hA : A = none ∨ ∃ g o, A = some ⟨g, o, none⟩) (w : World) (T : Tab w) : Calls Tryd.prog 35 #[.slice A 0 0] w fun e w' => e = .returned (.tuple #[.agg #[.int .u64 0, .int .u64 0, .slice none 0 0], .bool false]) ∧ Below w.heap.size w w' := by
  have b0 := below_alloc_ w (.cells #[.int .u64 0, .int .u64 0, .slice none 0 0] 34)
  have k0 := Blk.new w 34 #[.int .u64 0, .int .u64 0, .slice none 0 0]
  have FR := Lib.hid (fread_any [] A 0 (w.alloc (.cells #[.int .u64 0, .int .u64 0, .slice none 0 0] 34)) (by simp) (by simp) (T.below b0) ⟨_, _, rfl, Nat.le_refl _, rfl, .inl rfl⟩ (fun _ => hA))
  rw [rdF_bad getF_none] at FR
  have K0 := Lib.hid k0
  have B0 := Lib.hid b0
  clear T b0 k0
  go_enter Tryd.func35, Tryd.ntmps35
  go_wp2_with fail
  refine FR.out.mono ?_
  rintro e w1 ⟨P, ys, rfl, -, hR, b1⟩
  have hy : ys = [] := List.eq_nil_of_length_eq_zero hR.len
  subst hy
  have K1 := Lib.hid (K0.out.below b1 K0.out.lt)
  have B1 := Lib.hid (bel2 B0.out b1)
  have a0 := K1.out.cell 0
  have a1 := K1.out.cell 1
  have a2 := K1.out.cell 2
  have f0 := K1.out.free 0
  have f1 := K1.out.free 1
  have f2 := K1.out.free 2
  simp at a0 a1 a2
  clear b1 hR
  go_wp2
  refine bodyPost_ret (results_cont rfl _ _ _ _ _ _ (.bool false) (((K1.out.set_ 0 _).set_ 1 _).set_ 2 _) rfl rfl) rfl ?_
  exact ⟨rfl, ((B1.out.setCell (p := ⟨w.heap.size, 0, none⟩) (Nat.le_refl _) _).setCell (p := ⟨w.heap.size, 1, none⟩) (Nat.le_refl _) _).setCell (p := ⟨w.heap.size, 2, none⟩) (Nat.le_refl _) _⟩
/-- Read, with the shape of what it gives. -/
theorem on_readP {X : List (Nat × Obj)} {B : Nat} {W w : World} {d : Nat} {nm : ByteArray} {s : Dst} (xs : List Int) (r : Int) (hn : Nm nm) (h : On X B W w d nm s) (he : readS s = (xs, r)) :
    Calls Tryd.prog 34 #[.pointer (some ⟨d, 0, none⟩), .string nm] w fun e w' => ∃ P Y, e = .returned (.tuple #[.slice P xs.length xs.length, .int .i64 r]) ∧
      Sl (.slice P xs.length xs.length) xs Y ∧ On (Y ++ X) B W w' d nm s ∧ Below w.heap.size w w' ∧ (P = none ∨ ∃ g o, P = some ⟨g, o, none⟩) := by
  obtain ⟨F, hd, hF, hX⟩ := h.ex
  have := dread nm hn d s F w hd
  rw [he] at this
  refine this.mono fun _ w' ⟨P, he, ho, hb⟩ => ?_
  have hP : P = none ∨ ∃ g o, P = some ⟨g, o, none⟩ := by
    rcases ho with ⟨e, -⟩ | ⟨g, _, _, e, -⟩
    · injection e with e; exact .inl e
    · injection e with e; exact .inr ⟨g, 0, e⟩
  obtain ⟨Y, hY, hs⟩ := ho.sl_
  have h' := h.below hb
  refine ⟨P, Y, he, hs, ⟨⟨F, hd.below hb, hF, fun p hp hf => ?_⟩, fun p hp => ?_, h'.bel, h'.le⟩, hb, hP⟩
  · rcases List.mem_append.1 hp with hp | hp
    · have := (hY p hp).1; have := hd.lt _ hf; omega
    · exact hX p hp hf
  · rcases List.mem_append.1 hp with hp | hp
    · exact (hY p hp).2
    · exact h'.keep p hp

set_option maxHeartbeats 1000000 in
set_option maxRecDepth 100000 in
theorem lopen_new {X : List (Nat × Obj)} {B : Nat} {W w : World} {d : Nat} {s s1 : Dst} (h : On X B W w d nmL s) (hs : readS s = ([], 7)) (hB0 : 0 < B) (T : Tab W)
    (hd : doesS s (logB 0 0 []).length true (fun _ => some (logB 0 0 [], (logB 0 0 []).length)) = (s1, 0)) :
    Calls Tryd.prog 8 #[.pointer (some ⟨d, 0, none⟩)] w fun e w' => ∃ p, e = .returned (.tuple #[.pointer (some ⟨p, 0, none⟩), .int .i64 0]) ∧ On ((p, lgO 0 0 (.slice none 0 0) d (logB 0 0 []).length false) :: X) B W w' d nmL s1 ∧ w.heap.size ≤ p := by
  have H := Lib.hid h
  have TT := Lib.hid T
  have HD := Lib.hid hd
  clear h T hd
  go_enter Tryd.func8, Tryd.ntmps8
  go_wp2_with fail
  refine (on_readP [] 7 nm_log H.out hs).mono ?_
  rintro e w1 ⟨P1, Y1, rfl, -, h1, b1, hP⟩
  have O1 := Lib.hid (h1.mono (Y := X) (by intro p hp; exact List.mem_append_right _ hp))
  have RN := Lib.hid (lread_nil P1 hP w1 (tab_at TT.out hB0 h1.bel))
  have S1 := Lib.hid b1.size
  clear h1 b1 hP hs
  go_wp2_with fail
  refine RN.out.mono ?_
  rintro e w2 ⟨rfl, b2⟩
  have O2 := Lib.hid (O1.out.below b2)
  have S2 := Lib.hid b2.size
  clear b2
  have O3 := (O2.out.alloc (.cells #[.int .u64 0, .int .u64 0, .slice none 0 0] 34)).allocX (lgO 0 0 (.slice none 0 0) d 0 false)
  simp only [World.size_alloc] at O3
  have hle := H.out.le
  have PU := Lib.hid (lput_any (Z := X) (p := w2.heap.size + 1) (bi' := 0) (bt' := 0) (ev' := .slice none 0 0) (es' := []) s1 0 O3 (by have := S1.out; have := S2.out; omega) (fun q hq => by have := lt_of_heap (O2.out.keep q hq); omega) (El.nil _) (fun j h => by simp at h) (by simp) (by simp) (by omega) (by omega) hB0 TT.out HD.out)
  rw [show ((0 : Nat) : Int) = 0 from rfl] at PU
  clear O3 hle
  go_wp2_with fail
  refine PU.out.mono ?_
  rintro e w3 (⟨-, rfl, o3⟩ | ⟨h0, -⟩)
  · have O4 := Lib.hid o3
    clear o3
    go_wp2
    go_ret2
    exact ⟨_, rfl, O4.out, by have := S1.out; have := S2.out; omega⟩
  · exact absurd rfl h0
end Go.Proofs.YtnegondlkfeleaaDoor
