import Derived.Test.YtoiclicechfmgaaGreatDoorUbz
import Derived.Test.YtoiclicechfmgaaGreatDoorDoz
import Derived.Test.YtoiclicechfmgaaGreatDoorRdz
/- Promise, album and log of a disk that has none of their files. -/
namespace Go.Proofs.YtoiclicechfmgaaGreatDoor
open Go.RowKit

abbrev nmSt : ByteArray := ⟨#[115, 116, 97, 116, 101]⟩
abbrev nmSh : ByteArray := ⟨#[115, 104, 111, 116]⟩
section
variable {B : Nat} {W w : World} {d : Nat} {s : Mst} {os : List Ob}

set_option maxHeartbeats 1000000 in
set_option maxRecDepth 100000 in
theorem sopen_md (h : Sy B W w (mdO d s :: os)) (hs : readM s nmSt = ([], 7)) :
    Calls Tryz.prog 25 #[.pointer (some ⟨d, 0, none⟩)] w fun e w' => ∃ p, e = .returned (.tuple #[.pointer (some ⟨p, 0, none⟩), .int .i64 0]) ∧ Sy B W w' (blO p 125 (prC 0 0 (.pointer (some ⟨d, 0, none⟩)) false) :: mdO d s :: os) ∧ w.heap.size ≤ w'.heap.size := by
  obtain ⟨F, hm⟩ := h.md (List.mem_cons_self ..)
  have DR := Lib.hid (mread nmSt d s F w hm)
  rw [hs] at DR
  have H := Lib.hid h
  clear h hm hs
  go_enter Tryz.func25, Tryz.ntmps25
  go_wp2_with fail
  refine DR.out.mono ?_
  rintro e w1 ⟨P1, rfl, -, b1⟩
  have O1 := Lib.hid ((H.out.below b1).alloc 125 (prC 0 0 (.pointer (some ⟨d, 0, none⟩)) false))
  have B1 := Lib.hid b1.size
  clear b1
  go_wp2_with fail
  go_ret2
  exact ⟨_, rfl, O1.out, by have := B1.out; simp; omega⟩

set_option maxHeartbeats 1000000 in
set_option maxRecDepth 100000 in
theorem aopen_md (h : Sy B W w (mdO d s :: os)) (hs : readM s nmSh = ([], 7)) :
    Calls Tryz.prog 28 #[.pointer (some ⟨d, 0, none⟩)] w fun e w' => ∃ p, e = .returned (.tuple #[.pointer (some ⟨p, 0, none⟩), .int .i64 0]) ∧ Sy B W w' (blO p 127 (alC 0 0 (.slice none 0 0) (.pointer (some ⟨d, 0, none⟩)) false) :: mdO d s :: os) ∧ w.heap.size ≤ w'.heap.size := by
  obtain ⟨F, hm⟩ := h.md (List.mem_cons_self ..)
  have DR := Lib.hid (mread nmSh d s F w hm)
  rw [hs] at DR
  have H := Lib.hid h
  clear h hm hs
  go_enter Tryz.func28, Tryz.ntmps28
  go_wp2_with fail
  refine DR.out.mono ?_
  rintro e w1 ⟨P1, rfl, -, b1⟩
  have O1 := Lib.hid ((H.out.below b1).alloc 127 (alC 0 0 (.slice none 0 0) (.pointer (some ⟨d, 0, none⟩)) false))
  have B1 := Lib.hid b1.size
  clear b1
  go_wp2_with fail
  go_ret2
  exact ⟨_, rfl, O1.out, by have := B1.out; simp; omega⟩

/-- The file of an empty log. -/
def logE : List Int := logB 0 0 []
set_option maxHeartbeats 2000000 in
set_option maxRecDepth 100000 in
theorem lput_md {p : Nat} {ev : Value} {size : Int} {bi bt : Nat} (s1 : Mst) (h : Sy B W w (blO p 138 (lgC bi bt ev d size false) :: mdO d s :: os)) (hB0 : 0 < B) (T : Tab W)
    (hd : doesM s nmL logE.length true (fun _ => some (logE, logE.length)) = (s1, 0)) :
    Calls Tryz.prog 64 #[.pointer (some ⟨p, 0, none⟩), .agg #[.int .u64 0, .int .u64 0, .slice none 0 0]] w fun e w' =>
      e = .returned (.int .i64 0) ∧ Sy B W w' (blO p 138 (lgC 0 0 (.slice none 0 0) d logE.length false) :: mdO d s1 :: os) ∧ w.heap.size ≤ w'.heap.size := by
  have b0 := below_alloc_ w (.cells #[.int .u64 0, .int .u64 0, .slice none 0 0] 134)
  have k0 := Blk.new w 134 #[.int .u64 0, .int .u64 0, .slice none 0 0]
  have CT : Ct (w.alloc (.cells #[.int .u64 0, .int .u64 0, .slice none 0 0] 134)) w.heap.size 0 0 (.slice none 0 0) := ⟨by rw [k0.cell]; rfl, by rw [k0.cell]; rfl, by rw [k0.cell]; rfl⟩
  have O0 := Lib.hid (h.alloc 134 #[.int .u64 0, .int .u64 0, .slice none 0 0])
  have FL := Lib.hid (lfile_any w.heap.size 0 0 _ [] _ CT ((El.nil []).ents (fun q hq => by cases hq)) (fun j h => by simp at h) (by simp) (by simp) (by omega) (by omega) (tab_at T hB0 (h.below b0).bel))
  obtain ⟨f, hf⟩ : ∃ f, f = logE := ⟨_, rfl⟩
  have BY := Lib.hid (show ∀ c ∈ logE, byt c from logB_byt 0 0 (by simp))
  have LN := Lib.hid (show logE.length ≤ 4611686018427387904 from by have := logB_len 0 0 (by omega) (by omega) [] (by simp); simp only [List.length_nil] at this; unfold logE; omega)
  rw [show logB 0 0 [] = logE from rfl] at FL
  rw [← hf] at FL BY LN hd ⊢
  have HD := Lib.hid hd
  have B0 := Lib.hid b0.size
  clear h hB0 T hd CT b0 k0 hf
  go_enter Tryz.func64, Tryz.ntmps64
  go_wp2_with fail
  refine FL.out.mono ?_
  rintro e w1 ⟨v1, rfl, h1, b1⟩
  have O1 := Lib.hid (O0.out.below b1)
  have H1 := Lib.hid h1
  have B1 := Lib.hid b1.size
  obtain ⟨A1, c1, rfl, -⟩ := h1.clip
  have kl := O1.out.blk (g := p) (List.mem_cons_of_mem _ (List.mem_cons_self ..))
  have a3 := kl.cell 3
  simp [lgC] at a3
  obtain ⟨L, hL⟩ : ∃ L, L = f.length := ⟨_, rfl⟩
  have PU := Lib.hid (O1.out.sw3.doing (o' := mdO d s1) fun F hm => by
    have := mput nmL d s F _ f BY.out LN.out w1 hm H1.out.bs
    rw [HD.out] at this
    exact this.mono fun _ _ ⟨he, t⟩ => ⟨he, t.ob⟩)
  have LL := Lib.hid hL
  rw [← hL] at PU ⊢
  clear h1 b1 kl hL
  go_wp2_with fail
  refine PU.out.mono ?_
  rintro e w2 ⟨rfl, o2, hz⟩
  have Z2 := Lib.hid hz
  have kl := o2.blk (g := p) (List.mem_cons_of_mem _ (List.mem_cons_of_mem _ (List.mem_cons_self ..)))
  have kc := o2.blk (g := w.heap.size) (List.mem_cons_of_mem _ (List.mem_cons_self ..))
  have OZ := Lib.hid o2.sw2.drop_.sw2
  have a0 := kl.cell 0
  have a1 := kl.cell 1
  have a2 := kl.cell 2
  have a4 := kl.cell 4
  have f0 := kl.free 0
  have f1 := kl.free 1
  have f2 := kl.free 2
  have f4 := kl.free 4
  have c0 := kc.cell 0
  have c1 := kc.cell 1
  have c2 := kc.cell 2
  simp [lgC] at a0 a1 a2 a4 c0 c1 c2
  clear a3 o2 kl kc hz
  go_wp2
  go_ret
  refine ⟨rfl, ?_, by have := Z2.out; have := B1.out; have := B0.out; simp; omega⟩
  have k4 := (((OZ.out.set_ 0 (.int .u64 0)).set_ 1 (.int .u64 0)).set_ 2 (.slice none 0 0)).set_ 4 (.int .i64 L)
  rw [LL.out] at k4 ⊢
  exact k4

set_option maxHeartbeats 1000000 in
set_option maxRecDepth 100000 in
theorem lopen_md (s1 : Mst) (h : Sy B W w (mdO d s :: os)) (hs : readM s nmL = ([], 7)) (hB0 : 0 < B) (T : Tab W) (hd : doesM s nmL logE.length true (fun _ => some (logE, logE.length)) = (s1, 0)) :
    Calls Tryz.prog 30 #[.pointer (some ⟨d, 0, none⟩)] w fun e w' => ∃ p, e = .returned (.tuple #[.pointer (some ⟨p, 0, none⟩), .int .i64 0]) ∧ Sy B W w' (blO p 138 (lgC 0 0 (.slice none 0 0) d logE.length false) :: mdO d s1 :: os) ∧ w.heap.size ≤ w'.heap.size := by
  obtain ⟨F, hm⟩ := h.md (List.mem_cons_self ..)
  have DR := Lib.hid (mread nmL d s F w hm)
  rw [hs] at DR
  have H := Lib.hid h
  have TT := Lib.hid T
  have HD := Lib.hid hd
  clear h hm hs T hd
  go_enter Tryz.func30, Tryz.ntmps30
  go_wp2_with fail
  refine DR.out.mono ?_
  rintro e w1 ⟨P1, rfl, ho, b1⟩
  have hP : P1 = none ∨ ∃ g o, P1 = some ⟨g, o, none⟩ := by
    rcases ho with ⟨e, -⟩ | ⟨g, _, _, e, -⟩
    · injection e with e; exact .inl e
    · injection e with e; exact .inr ⟨g, 0, e⟩
  have O1 := Lib.hid (H.out.below b1)
  have RN := Lib.hid (lread_nil P1 hP w1 (tab_at TT.out hB0 O1.out.bel))
  have S1 := Lib.hid b1.size
  clear ho b1 hP
  go_wp2_with fail
  refine RN.out.mono ?_
  rintro e w2 ⟨rfl, b2⟩
  have O2 := Lib.hid (O1.out.below b2)
  have S2 := Lib.hid b2.size
  clear b2
  have O3 := ((O2.out.alloc 134 #[.int .u64 0, .int .u64 0, .slice none 0 0]).drop_.alloc 138 (lgC 0 0 (.slice none 0 0) d 0 false))
  simp only [World.size_alloc] at O3
  have PU := Lib.hid (lput_md s1 O3 hB0 TT.out HD.out)
  clear O3
  go_wp2_with fail
  refine PU.out.mono ?_
  rintro e w3 ⟨rfl, o3, h3⟩
  have O4 := Lib.hid o3
  have Z4 := Lib.hid h3
  clear o3 h3
  go_wp2
  go_ret2
  exact ⟨_, rfl, O4.out, by have := S1.out; have := S2.out; have := Z4.out; simp at this; omega⟩
end
end Go.Proofs.YtoiclicechfmgaaGreatDoor

/- A server opens on a disk that has none of its files. -/
namespace Go.Proofs.YtoiclicechfmgaaGreatDoor
open Go.RowKit

theorem lnew_any (w : World) : Calls Tryz.prog 144 #[] w fun e w' => ∃ p, e = .returned (.pointer (some ⟨p, 0, none⟩)) ∧ Below w.heap.size w w' := by
  have hmm := @run_makeMap Tryz.prog
  go_enter Tryz.func144, Tryz.ntmps144
  go_wp2
  go_ret
  exact ⟨_, rfl, below_alloc2_ _ _ _⟩
theorem bnew_any (w : World) : Calls Tryz.prog 145 #[] w fun e w' => ∃ p, e = .returned (.pointer (some ⟨p, 0, none⟩)) ∧ Below w.heap.size w w' := by
  go_enter Tryz.func145, Tryz.ntmps145
  go_wp2
  go_ret
  exact ⟨_, rfl, below_alloc_ _ _⟩
theorem mcnew_any (w : World) : Calls Tryz.prog 123 #[] w fun e w' => ∃ p, e = .returned (.pointer (some ⟨p, 0, none⟩)) ∧ Below w.heap.size w w' := by
  go_enter Tryz.func123, Tryz.ntmps123
  go_wp2_with fail
  refine (lnew_any _).mono ?_
  rintro e w1 ⟨p1, rfl, b1⟩
  have B1 := Lib.hid b1
  clear b1
  go_wp2_with fail
  refine (bnew_any _).mono ?_
  rintro e w2 ⟨p2, rfl, b2⟩
  have B2 := Lib.hid (bel2 B1.out b2)
  clear b2
  go_wp2
  go_ret
  exact ⟨_, rfl, bel2 B2.out (below_alloc_ _ _)⟩
set_option maxRecDepth 100000 in
theorem ssnew_any (w : World) : Calls Tryz.prog 124 #[] w fun e w' => ∃ p, e = .returned (.pointer (some ⟨p, 0, none⟩)) ∧ Below w.heap.size w w' := by
  go_enter Tryz.func124, Tryz.ntmps124
  go_wp2
  go_ret
  exact ⟨_, rfl, below_alloc_ _ _⟩

section
variable {B : Nat} {W w : World} {d : Nat} {s : Mst} {os : List Ob}
/-- An album without a shot. -/
abbrev alE (d : Nat) : Array Value := alC 0 0 (.slice none 0 0) (.pointer (some ⟨d, 0, none⟩)) false
theorem shot_new {a : Nat} (h : Blk w a 127 (alE d)) : Calls Tryz.prog 29 #[.pointer (some ⟨a, 0, none⟩)] w fun e w' => ∃ P, e = .returned (.agg #[.int .u64 0, .int .u64 0, .slice P 0 0]) ∧ Below w.heap.size w w' :=
  (shot_any a 0 0 _ _ false [] w h ⟨none, 0, rfl, Nat.le_refl _, by simp [bc], .inl rfl⟩ (by simp)).mono fun e w' ⟨P, he, _, hb⟩ => ⟨P, he, hb⟩
set_option maxHeartbeats 1000000 in
set_option maxRecDepth 100000 in
theorem lTerm_new {p : Nat} {size : Int} (h : Blk w p 138 (lgC 0 0 (.slice none 0 0) d size false)) :
    Calls Tryz.prog 67 #[.pointer (some ⟨p, 0, none⟩), .int .u64 0] w fun e w' => e = .returned (.tuple #[.int .u64 0, .bool true]) ∧ Below w.heap.size w w' := by
  have TM := Lib.hid (lterm_any p 0 0 0 (.slice none 0 0) [] w h.ct ((El.nil []).ents (fun q hq => by cases hq)) (fun j h => by simp at h) (by simp) (by omega) (by simp))
  rw [show termP 0 0 [] 0 = (0, true) from rfl] at TM
  have a3 := h.cell 3
  simp [lgC] at a3
  clear h
  go_enter Tryz.func67, Tryz.ntmps67
  go_wp2_with fail
  refine TM.out.mono ?_
  rintro e w1 ⟨rfl, b1⟩
  have B1 := Lib.hid b1
  clear b1
  go_wp2
  go_ret2
  exact ⟨rfl, B1.out⟩

def nodeC (p a l : Value) : Array Value := #[.int .u8 1, .int .i64 1, p, a, l, .int .u64 0, .int .u8 0, .int .u8 0, .int .i64 0, .int .i64 13, .int .i64 0, .int .u64 0, .pointer none, .map none, .bool false]
abbrev ptr (n : Nat) : Value := .pointer (some ⟨n, 0, none⟩)

set_option maxHeartbeats 4000000 in
set_option maxRecDepth 100000 in
theorem begin_md (s1 : Mst) (h : Sy B W w (mdO d s :: os)) (h1 : readM s nmSt = ([], 7)) (h2 : readM s nmSh = ([], 7)) (h3 : readM s nmL = ([], 7)) (hB0 : 0 < B) (T : Tab W) (hd : doesM s nmL logE.length true (fun _ => some (logE, logE.length)) = (s1, 0)) :
    Calls Tryz.prog 122 #[.int .i64 1, .int .i64 1, .pointer (some ⟨d, 0, none⟩), .int .i64 13] w fun e w' => ∃ x a, e = .returned (.tuple #[.pointer (some ⟨x, 0, none⟩), .int .i64 0]) ∧ ∃ p l,
      Sy B W w' (blO x 242 (nodeC p (ptr a) l) :: blO a 127 (alE d) :: os) := by
  have H := Lib.hid h
  have H1 := Lib.hid h1
  have H2 := Lib.hid h2
  have H3 := Lib.hid h3
  have TT := Lib.hid T
  have HD := Lib.hid hd
  have HB0 := Lib.hid hB0
  clear h h1 h2 h3 T hd hB0
  have O1 := Lib.hid (H.out.alloc 242 (nodeC (.pointer none) (.pointer none) (.pointer none)))
  go_enter Tryz.func122, Tryz.ntmps122
  go_wp2_with fail
  refine (sopen_md O1.out.sw2 H1.out).mono ?_
  rintro e w2 ⟨p, rfl, o2, -⟩
  have O2 := Lib.hid (o2.sw3.set_ 2 (ptr p))
  have k2 := o2.sw3.blk (List.mem_cons_self ..)
  have f2 := k2.free 2
  have e2 := k2.cell 2
  simp [nodeC] at e2
  clear o2 k2
  go_wp2_with fail
  refine (aopen_md O2.out.sw3 H2.out).mono ?_
  rintro e w3 ⟨a, rfl, o3, -⟩
  have O3 := Lib.hid (o3.sw3.set_ 3 (ptr a))
  have k3 := o3.sw3.blk (List.mem_cons_self ..)
  have f3 := k3.free 3
  have e3 := k3.cell 3
  simp [nodeC] at e3
  clear o3 k3 f2
  go_wp2_with fail
  refine (lopen_md s1 O3.out.sw3 H3.out HB0.out TT.out HD.out).mono ?_
  rintro e w4 ⟨l, rfl, o4, -⟩
  have o5 := o4.sw3.set_ 4 (ptr l)
  have f4 := (o4.sw3.blk (List.mem_cons_self ..)).free 4
  have e4 := (o4.sw3.blk (List.mem_cons_self ..)).cell 4
  simp [nodeC] at e4
  have O5 := Lib.hid (show Sy B W (w4.setCell ⟨w.heap.size, 4, none⟩ (ptr l)) (blO w.heap.size 242 (nodeC (ptr p) (ptr a) (ptr l)) :: blO l 138 (lgC 0 0 (.slice none 0 0) d logE.length false) :: mdO d s1 :: blO a 127 (alE d) :: blO p 125 (prC 0 0 (.pointer (some ⟨d, 0, none⟩)) false) :: os) from o5)
  clear o4 o5 f3
  have kx := O5.out.blk (g := w.heap.size) (List.mem_cons_self ..)
  have x3 := kx.cell 3
  simp [nodeC] at x3
  go_wp2_with fail
  refine (shot_new (a := a) (d := d) (O5.out.blk (.tail _ (.tail _ (.tail _ (.head _)))))).mono ?_
  rintro e w6 ⟨P, rfl, b6⟩
  have O7 := Lib.hid ((O5.out.below b6).alloc 77 #[.int .u64 0, .int .u64 0, .slice P 0 0])
  have x4 := (O7.out.blk (g := w.heap.size) (.tail _ (.head _))).cell 4
  simp [nodeC] at x4
  clear b6 x3 kx f4 e4
  go_wp2_with fail
  refine (lbase_any l 0 0 d (.slice none 0 0) logE.length false _ (O7.out.blk (.tail _ (.tail _ (.head _))))).mono ?_
  rintro e w8 ⟨rfl, q, rfl⟩
  have O8 := Lib.hid (O7.out.drewN q)
  generalize (w6.alloc (Obj.cells #[.int .u64 0, .int .u64 0, .slice P 0 0] 77)).drewN q = w8 at *
  obtain ⟨g, hg⟩ : ∃ g, g = w6.heap.size := ⟨_, rfl⟩
  simp only [← hg] at O8 ⊢
  clear hg x4
  obtain ⟨x, hx⟩ : ∃ x, x = w.heap.size := ⟨_, rfl⟩
  simp only [← hx] at O8 ⊢
  clear hx
  have kx := O8.out.blk (g := x) (.tail _ (.head _))
  have x4 := kx.cell 4
  have x5 := kx.cell 5
  have y5 := kx.free 5
  have kg := O8.out.blk (g := g) (.head _)
  have g0 := kg.cell 0
  have g1 := kg.cell 1
  simp [nodeC] at x4 x5 g0 g1
  clear kx kg
  go_upto_region 18 with fail
  go_region_held3 (fun w' => w'.cell? ⟨x, 4, none⟩ = some (ptr l) ∧ w'.cell? ⟨g, 0, none⟩ = some (.int .u64 0)) (first
    | exact ⟨x4, g0⟩
    | exact ⟨(b9.cell (block_lt_of_cell x4)).trans x4, (b9.cell (block_lt_of_cell g0)).trans g0⟩
    | fail)
    (first
    | (go_at_call 67; refine (lTerm_new (p := l) (d := d) (size := logE.length) ((O8.out.drewN 1).blk (.tail _ (.tail _ (.head _))))).mono ?_; rintro e w9 ⟨rfl, b9⟩))
  have O9 := Lib.hid ((O8.out.drewN 1).below b9)
  have kx := O9.out.blk (g := x) (.tail _ (.head _))
  have x4 := kx.cell 4
  have x5 := kx.cell 5
  have y5 := kx.free 5
  have kg := O9.out.blk (g := g) (.head _)
  have g0 := kg.cell 0
  have g1 := kg.cell 1
  simp [nodeC] at x4 x5 g0 g1
  clear kx kg b9
  go_wp2
  go_ret2
  exact ⟨x, a, rfl, ptr p, ptr l, (O9.out.drop_.set_ 5 (.int .u64 0)).sw2.drop_.sw2.drop_.sw3.drop_⟩
end
end Go.Proofs.YtoiclicechfmgaaGreatDoor

/- A server opens on a disk that has none of its files: the server. -/
namespace Go.Proofs.YtoiclicechfmgaaGreatDoor
open Go.RowKit

section
variable {B : Nat} {W w : World} {d : Nat} {s : Mst} {os : List Ob}
set_option maxRecDepth 100000 in
theorem ropen_md (s1 : Mst) (h : Sy B W w (mdO d s :: os)) (h1 : readM s nmSt = ([], 7)) (h2 : readM s nmSh = ([], 7)) (h3 : readM s nmL = ([], 7)) (hB0 : 0 < B) (T : Tab W) (hd : doesM s nmL logE.length true (fun _ => some (logE, logE.length)) = (s1, 0)) :
    Calls Tryz.prog 94 #[.int .i64 1, .int .i64 1, .pointer (some ⟨d, 0, none⟩)] w fun e w' => ∃ x a, e = .returned (.tuple #[.pointer (some ⟨x, 0, none⟩), .int .i64 0]) ∧ ∃ p l,
      Sy B W w' (blO x 242 (nodeC p (ptr a) l) :: blO a 127 (alE d) :: os) := by
  have BG := Lib.hid (begin_md s1 h h1 h2 h3 hB0 T hd)
  clear h h1 h2 h3 hB0 T hd
  go_enter Tryz.func94, Tryz.ntmps94
  go_wp2_with fail
  refine BG.out.mono ?_
  rintro e w1 ⟨x, a, rfl, p, l, O⟩
  have O1 := Lib.hid O
  clear O
  go_wp2
  go_ret2
  exact ⟨x, a, rfl, p, l, O1.out⟩

set_option maxHeartbeats 1000000 in
set_option maxRecDepth 100000 in
theorem pict_md {x a : Nat} {p l : Value} (kx : Blk w x 242 (nodeC p (ptr a) l)) (ka : Blk w a 127 (alE d)) :
    Calls Tryz.prog 146 #[.pointer (some ⟨x, 0, none⟩)] w fun e w' => ∃ P, e = .returned (.agg #[.int .u64 0, .int .u64 0, .slice P 0 0]) ∧ Below w.heap.size w w' := by
  have b0 := below_alloc_ w (.cells #[.int .u64 0, .int .u64 0, .slice none 0 0] 77)
  have K0 := Lib.hid (Blk.new w 77 #[.int .u64 0, .int .u64 0, .slice none 0 0])
  have x3 := (kx.below b0 kx.lt).cell 3
  simp [nodeC] at x3
  have SH := Lib.hid (shot_new (ka.below b0 ka.lt))
  have B0 := Lib.hid b0
  clear kx ka b0
  go_enter Tryz.func146, Tryz.ntmps146
  go_wp2_with fail
  refine SH.out.mono ?_
  rintro e w1 ⟨P, rfl, b1⟩
  have B1 := Lib.hid (bel2 B0.out b1)
  have j := K0.out.below b1 K0.out.lt
  have J := Lib.hid j
  have j0 := j.cell 0
  have j1 := j.cell 1
  have j2 := j.cell 2
  have f0 := j.free 0
  have f1 := j.free 1
  have f2 := j.free 2
  simp at j0 j1 j2
  clear b1 j
  go_wp2
  refine bodyPost_ret (res_cell1 Tryz.results146 (((J.out.set_ 0 _).set_ 1 _).set_ 2 _) rfl Tryz.underlying77 infS) rfl ?_
  exact ⟨P, by simp, ((B1.out.setCell (p := ⟨w.heap.size, 0, none⟩) (Nat.le_refl _) _).setCell (p := ⟨w.heap.size, 1, none⟩) (Nat.le_refl _) _).setCell (p := ⟨w.heap.size, 2, none⟩) (Nat.le_refl _) _⟩

def servC (x m b : Value) : Array Value := #[.int .u8 1, x, m, b, .int .u64 0, .slice none 0 0, .bool false]
set_option maxHeartbeats 1000000 in
set_option maxRecDepth 100000 in
theorem load_md {x a v : Nat} {p l m b : Value} (kx : Blk w x 242 (nodeC p (ptr a) l)) (ka : Blk w a 127 (alE d)) (kv : Blk w v 212 (servC (ptr x) m b)) :
    Calls Tryz.prog 125 #[.pointer (some ⟨v, 0, none⟩)] w fun e w' => e = .returned (.int .i64 0) ∧ Below w.heap.size w w' := by
  have PI := Lib.hid (pict_md kx ka)
  have v1 := kv.cell 1
  simp [servC] at v1
  have KV := Lib.hid kv
  clear kx ka kv
  go_enter Tryz.func125, Tryz.ntmps125
  go_wp2_with fail
  refine PI.out.mono ?_
  rintro e w1 ⟨P, rfl, b1⟩
  have B1 := Lib.hid (bel2 b1 (below_alloc_ w1 (.cells #[.int .u64 0, .int .u64 0, .slice P 0 0] 77)))
  have v4 := (KV.out.below B1.out KV.out.lt).cell 4
  have kn := Blk.new w1 77 #[.int .u64 0, .int .u64 0, .slice P 0 0]
  have n0 := kn.cell 0
  simp [servC] at v4 n0
  clear b1 kn
  go_wp2_with fail
  go_quiet (fail)
  go_wp2
  go_ret
  exact ⟨rfl, B1.out.trans (below_drewN_ _ _ _)⟩

set_option maxHeartbeats 1000000 in
set_option maxRecDepth 100000 in
theorem serve_md {x a : Nat} {p l : Value} (h : Sy B W w (blO x 242 (nodeC p (ptr a) l) :: blO a 127 (alE d) :: os)) :
    Calls Tryz.prog 95 #[.int .i64 1, .pointer (some ⟨x, 0, none⟩), .int .i64 0] w fun e w' => ∃ v, e = .returned (.tuple #[.pointer (some ⟨v, 0, none⟩), .int .i64 0]) ∧ Sy B W w' os := by
  have H := Lib.hid h
  clear h
  go_enter Tryz.func95, Tryz.ntmps95
  go_wp2_with fail
  refine (mcnew_any _).mono ?_
  rintro e w1 ⟨m, rfl, b1⟩
  have H1 := Lib.hid (H.out.below b1)
  clear b1
  go_wp2_with fail
  refine (ssnew_any _).mono ?_
  rintro e w2 ⟨b, rfl, b2⟩
  have H2 := Lib.hid ((H1.out.below b2).alloc 212 (servC (ptr x) (ptr m) (ptr b)))
  clear b2
  go_wp2_with fail
  refine (load_md (x := x) (a := a) (d := d) (p := p) (l := l) (m := ptr m) (b := ptr b) (H2.out.blk (.tail _ (.head _))) (H2.out.blk (.tail _ (.tail _ (.head _)))) (H2.out.blk (.head _))).mono ?_
  rintro e w3 ⟨rfl, b3⟩
  have H3 := Lib.hid (H2.out.below b3).drop_.drop_.drop_
  clear b3
  go_wp2
  go_ret2
  exact ⟨_, rfl, H3.out⟩

set_option maxRecDepth 100000 in
theorem vopen_md (s1 : Mst) (h : Sy B W w (mdO d s :: os)) (h1 : readM s nmSt = ([], 7)) (h2 : readM s nmSh = ([], 7)) (h3 : readM s nmL = ([], 7)) (hB0 : 0 < B) (T : Tab W) (hd : doesM s nmL logE.length true (fun _ => some (logE, logE.length)) = (s1, 0)) :
    Calls Tryz.prog 68 #[.int .i64 1, .int .i64 1, .pointer (some ⟨d, 0, none⟩)] w fun e w' => ∃ v, e = .returned (.tuple #[.pointer (some ⟨v, 0, none⟩), .int .i64 0]) ∧ Sy B W w' os := by
  have RO := Lib.hid (ropen_md s1 h h1 h2 h3 hB0 T hd)
  clear h h1 h2 h3 hB0 T hd
  go_enter Tryz.func68, Tryz.ntmps68
  go_wp2_with fail
  refine RO.out.mono ?_
  rintro e w1 ⟨x, a, rfl, p, l, O⟩
  have SE := Lib.hid (serve_md O)
  clear O
  go_wp2_with fail
  refine SE.out.mono ?_
  rintro e w2 ⟨v, rfl, O⟩
  have O2 := Lib.hid O
  clear O
  go_wp2
  go_ret2
  exact ⟨v, rfl, O2.out⟩

set_option maxRecDepth 100000 in
theorem serves_md (s1 : Mst) (h : Sy B W w (mdO d s :: os)) (h1 : readM s nmSt = ([], 7)) (h2 : readM s nmSh = ([], 7)) (h3 : readM s nmL = ([], 7)) (hB0 : 0 < B) (T : Tab W) (hd : doesM s nmL logE.length true (fun _ => some (logE, logE.length)) = (s1, 0)) :
    Calls Tryz.prog 36 #[.pointer (some ⟨d, 0, none⟩)] w fun e w' => e = .returned (.bool true) ∧ Sy B W w' os := by
  have RO := Lib.hid (vopen_md s1 h h1 h2 h3 hB0 T hd)
  clear h h1 h2 h3 hB0 T hd
  go_enter Tryz.func36, Tryz.ntmps36
  go_wp2_with fail
  refine RO.out.mono ?_
  rintro e w1 ⟨v, rfl, O⟩
  have O1 := Lib.hid O
  clear O
  go_wp2
  go_ret
  exact ⟨rfl, O1.out⟩
end
end Go.Proofs.YtoiclicechfmgaaGreatDoor

/- What is wrong with a file that is none of a node's. -/
namespace Go.Proofs.YtoiclicechfmgaaGreatDoor
open Go.RowKit

def mE (s : ByteArray) (v : Value) (b : Nat) : MapEntry := { key := .string s, val := v, born := b }
section
variable {P : Program} {w : World} {t k e : TypeId} {m ck : Nat}
theorem run_mput_any (ht : P.underlying t = some (.map k e)) (hk : P.underlying k = some .string) {es : List MapEntry} (hb : w.heap[m]? = some (.map es.toArray ck)) (s : ByteArray) (hs : ∀ x ∈ es, ∃ q, x.key = .string q ∧ q ≠ s) (v : Value) :
    (Instr.mapUpdate t (.map (some m)) (.string s) v).run P w = .ok () (setH w m (.map (es ++ [mE s v ck]).toArray (ck + 1))) := by
  have hf := find_none_ s es 0 hs
  have hc := MapKept.run_checkKey (P := P) (w := w) (k := .string s) hk (by simp [MapKept.IsKey]) false 9999
  simp [Instr.mapUpdate, run_underlying ht, MapKept.run_getObj_map hb, hc, MapKept.run_findKey hk hf, MapKept.run_setObj_map _ hb, Result.andThen, setH, mE]
theorem run_mlook2_none (ht : P.underlying t = some (.map k e)) (hk : P.underlying k = some .string) {es : List MapEntry} (hb : w.heap[m]? = some (.map es.toArray ck)) (s : ByteArray) (hs : ∀ x ∈ es, ∃ q, x.key = .string q ∧ q ≠ s) (z : Value) (hz : (zeroValue e).run P w = .ok z w) :
    (Instr.lookup t (.map (some m)) (.string s) true).run P w = .ok (.tuple #[z, .bool false]) w := by
  have hf := find_none_ s es 0 hs
  have hc := fun b => MapKept.run_checkKey (P := P) (w := w) (k := .string s) hk (by simp [MapKept.IsKey]) b 9999
  simp [Instr.lookup, run_underlying ht, MapKept.run_getObj_map hb, hc, MapKept.run_findKey hk hf, hz, Result.andThen]
end
/-- The names of a node's files. -/
def Own3 (q : ByteArray) : Prop := q = nmL ∨ q = nmSh ∨ q = nmSt
theorem setH_at {w : World} {m : Nat} {o : Obj} (hm : m < w.heap.size) : (setH w m o).heap[m]? = some o := by
  simp [setH, hm]
set_option maxHeartbeats 1000000 in
set_option maxRecDepth 100000 in
theorem kinds_any (w : World) : Calls Tryz.prog 57 #[] w fun e w' => ∃ m, e = .returned (.map (some m)) ∧ Below w.heap.size w w' ∧ ∃ (es : List MapEntry) (ck : Nat), w'.heap[m]? = some (.map es.toArray ck) ∧ ∀ x ∈ es, ∃ q, x.key = .string q ∧ Own3 q := by
  have hmm := @run_makeMap Tryz.prog
  have h0 : (w.alloc (.map #[] 0)).heap[w.heap.size]? = some (.map ([] : List MapEntry).toArray 0) := heap_alloc_new _ _
  have hl : w.heap.size < (w.alloc (.map #[] 0)).heap.size := by simp
  have hp1 : ∀ v, (Instr.mapUpdate 113 (.map (some w.heap.size)) (.string nmL) v).run Tryz.prog (w.alloc (.map #[] 0)) = .ok () (setH (w.alloc (.map #[] 0)) w.heap.size (.map #[mE nmL v 0] 1)) :=
    fun v => run_mput_any (P := Tryz.prog) Tryz.underlying113 Tryz.underlying9 h0 nmL (by simp) v
  have hp2 : ∀ v v2, (Instr.mapUpdate 113 (.map (some w.heap.size)) (.string nmSh) v2).run Tryz.prog (setH (w.alloc (.map #[] 0)) w.heap.size (.map #[mE nmL v 0] 1)) =
      .ok () (setH (setH (w.alloc (.map #[] 0)) w.heap.size (.map #[mE nmL v 0] 1)) w.heap.size (.map #[mE nmL v 0, mE nmSh v2 1] 2)) :=
    fun v v2 => run_mput_any (P := Tryz.prog) Tryz.underlying113 Tryz.underlying9 (es := [mE nmL v 0]) (setH_at hl) nmSh (by intro x hx; obtain rfl := List.mem_singleton.1 hx; exact ⟨_, rfl, by decide⟩) v2
  have hl2 : ∀ o, w.heap.size < (setH (w.alloc (.map #[] 0)) w.heap.size o).heap.size := fun o => by simp [setH]
  have hp3 : ∀ v v2 v3, (Instr.mapUpdate 113 (.map (some w.heap.size)) (.string nmSt) v3).run Tryz.prog (setH (setH (w.alloc (.map #[] 0)) w.heap.size (.map #[mE nmL v 0] 1)) w.heap.size (.map #[mE nmL v 0, mE nmSh v2 1] 2)) =
      .ok () (setH (setH (setH (w.alloc (.map #[] 0)) w.heap.size (.map #[mE nmL v 0] 1)) w.heap.size (.map #[mE nmL v 0, mE nmSh v2 1] 2)) w.heap.size (.map #[mE nmL v 0, mE nmSh v2 1, mE nmSt v3 2] 3)) :=
    fun v v2 v3 => run_mput_any (P := Tryz.prog) Tryz.underlying113 Tryz.underlying9 (es := [mE nmL v 0, mE nmSh v2 1]) (setH_at (hl2 _)) nmSt (by
      intro x hx
      rcases List.mem_cons.1 hx with rfl | hx
      · exact ⟨_, rfl, by decide⟩
      · obtain rfl := List.mem_singleton.1 hx; exact ⟨_, rfl, by decide⟩) v3
  clear hl hl2 h0
  go_enter Tryz.func57, Tryz.ntmps57
  go_wp2
  go_ret
  refine ⟨_, rfl, Kp.to_below (F := []) ((((Kp.alloc (Kp.refl w []) _).setH (.inr (Nat.le_refl _)) _).setH (.inr (Nat.le_refl _)) _).setH (.inr (Nat.le_refl _)) _) (by simp) (Nat.le_refl _), [mE nmL _ 0, mE nmSh _ 1, mE nmSt _ 2], 3, setH_at (by simp [setH]), ?_⟩
  intro x hx
  rcases List.mem_cons.1 hx with rfl | hx
  · exact ⟨nmL, rfl, .inl rfl⟩
  · rcases List.mem_cons.1 hx with rfl | hx
    · exact ⟨nmSh, rfl, .inr (.inl rfl)⟩
    · obtain rfl := List.mem_singleton.1 hx
      exact ⟨nmSt, rfl, .inr (.inr rfl)⟩

theorem infFi : (Tryz.prog.info? 66).map (·.size) = some 3 := by kernel_rfl
set_option maxHeartbeats 1000000 in
set_option maxRecDepth 100000 in
theorem file_strange (nm : ByteArray) (bv : Value) (hn : ¬ Own3 nm) (w : World) : Calls Tryz.prog 24 #[.string nm, bv] w fun e w' => e = .returned (.agg #[.int .u8 1, .string nm, .int .i64 0]) ∧ Below w.heap.size w w' := by
  have b0 := below_alloc_ w (.cells #[.int .u8 0, .string ⟨#[]⟩, .int .i64 0] 66)
  have K0 := Lib.hid (Blk.new w 66 #[.int .u8 0, .string ⟨#[]⟩, .int .i64 0])
  have B0 := Lib.hid b0
  have HN := Lib.hid hn
  have KI := Lib.hid (kinds_any (w.alloc (.cells #[.int .u8 0, .string ⟨#[]⟩, .int .i64 0] 66)))
  clear b0 hn
  go_enter Tryz.func24, Tryz.ntmps24
  go_wp2_with fail
  refine KI.out.mono ?_
  rintro e w1 ⟨m, rfl, b1, es, ck, hm, hes⟩
  have hlk := run_mlook2_none (P := Tryz.prog) Tryz.underlying113 Tryz.underlying9 hm nm (fun x hx => by
    obtain ⟨q, hq, ho⟩ := hes x hx
    exact ⟨q, hq, fun e => HN.out (e ▸ ho)⟩) (.agg #[.nilFunc, .nilFunc]) (by kernel_rfl)
  have J := Lib.hid ((K0.out.below b1 K0.out.lt).alloc (.cells #[.nilFunc, .nilFunc] 111))
  have B1 := Lib.hid ((bel2 B0.out b1).trans ((below_alloc_ w1 (.cells #[.nilFunc, .nilFunc] 111)).mono (bel2 B0.out b1).size))
  have j0 := J.out.cell 0
  have j1 := J.out.cell 1
  have j2 := J.out.cell 2
  have f0 := J.out.free 0
  have f1 := J.out.free 1
  have f2 := J.out.free 2
  simp at j0 j1 j2
  have hst := fun (w : World) (a : Addr) (m : Mode) => run_store Tryz.prog w a .nilFunc m rfl
  clear b1 hm hes
  go_wp2
  refine bodyPost_ret (res_cell1 Tryz.results24 (((J.out.set_ 0 _).set_ 1 _).set_ 2 _) rfl Tryz.underlying66 infFi) rfl ?_
  exact ⟨by simp, ((B1.out.setCell (p := ⟨w.heap.size, 0, none⟩) (Nat.le_refl _) _).setCell (p := ⟨w.heap.size, 1, none⟩) (Nat.le_refl _) _).setCell (p := ⟨w.heap.size, 2, none⟩) (Nat.le_refl _) _⟩
end Go.Proofs.YtoiclicechfmgaaGreatDoor
