import Derived.Test.YtoiclicechfmgaaGreatDoorLdz
import Derived.Test.YtoiclicechfmgaaGreatDoorDoz
/- logs: the file is put anew. -/
namespace Go.Proofs.YtoiclicechfmgaaGreatDoor
open Go.RowKit

abbrev nmL : ByteArray := ⟨#[108, 111, 103]⟩
theorem nm_log : Nm nmL := ⟨by decide +kernel, by decide⟩
/-- A log's cells. -/
def lgC (bi bt : Nat) (ev : Value) (d : Nat) (size : Int) (lost : Bool) : Array Value := #[.int .u64 bi, .int .u64 bt, ev, .pointer (some ⟨d, 0, none⟩), .int .i64 size, .bool lost]
def lgO (bi bt : Nat) (ev : Value) (d : Nat) (size : Int) (lost : Bool) : Obj := .cells (lgC bi bt ev d size lost) 138
theorem logB_byt (bi bt : Nat) {es : List Ent} (h : ∀ e ∈ es, EOk e) : ∀ c ∈ logB bi bt es, byt c := by
  intro c hc
  rcases List.mem_append.1 hc with hc | hc
  · exact frameB_byt (fun c hc => by rcases List.mem_append.1 hc with h | h <;> exact nb_byt _ c h) c hc
  · obtain ⟨l, hl, hcl⟩ := List.mem_flatten.1 hc
    obtain ⟨e, he, rfl⟩ := List.mem_map.1 hl
    obtain ⟨_, _, _, _, -, -, -, -, -, -, -, -, hb⟩ := h e he
    exact frameB_byt hb c hcl
theorem On.has {X : List (Nat × Obj)} {B : Nat} {W w : World} {d : Nat} {nm : ByteArray} {s : Dst} (h : On X B W w d nm s) : Has w X := fun q hq => h.keep q hq

theorem tab_at {B : Nat} {W w : World} (h : Tab W) (h0 : 0 < B) (hb : Below B W w) : Tab w := fun i hi => (hb.cell h0).trans (h i hi)
set_option maxHeartbeats 2000000 in
set_option maxRecDepth 100000 in
theorem lput_any {Z : List (Nat × Obj)} {B : Nat} {W w : World} {p d bi bt bi' bt' : Nat} {ev ev' : Value} {size : Int} {s : Dst} {es' : List Ent} (s1 : Dst) (r : Int) (h : On ((p, lgO bi bt ev d size false) :: Z) B W w d nmL s) (hp : B ≤ p) (hZ : ∀ q ∈ Z, q.1 ≠ p) (hE : El ev' es' Z) (hw : Wf bi' es') (hok : ∀ e ∈ es', EOk e) (hl : es'.length ≤ 100000)
    (hi : bi' < 18446744073709551616) (ht : bt' < 18446744073709551616) (hB0 : 0 < B) (T : Tab W) (hd : doesS s (logB bi' bt' es').length true (fun _ => some (logB bi' bt' es', (logB bi' bt' es').length)) = (s1, r)) :
    Calls Tryz.prog 64 #[.pointer (some ⟨p, 0, none⟩), .agg #[.int .u64 bi', .int .u64 bt', ev']] w fun e w' =>
      (r = 0 ∧ e = .returned (.int .i64 0) ∧ On ((p, lgO bi' bt' ev' d (logB bi' bt' es').length false) :: Z) B W w' d nmL s1) ∨
      (r ≠ 0 ∧ e = .returned (.int .i64 17) ∧ On ((p, lgO bi bt ev d size true) :: Z) B W w' d nmL s1) := by
  have EV := hE.ents (w := w) (fun q hq => h.keep q (List.mem_cons_of_mem _ hq))
  obtain ⟨_, _, ⟨Av, cv, rfl, -⟩, -⟩ := id EV
  obtain ⟨m, hm⟩ : ∃ m, m = es'.length := ⟨_, rfl⟩
  have b0 := below_alloc_ w (.cells #[.int .u64 bi', .int .u64 bt', .slice Av es'.length cv] 134)
  have k0 := Blk.new w 134 #[.int .u64 bi', .int .u64 bt', .slice Av es'.length cv]
  have CT : Ct (w.alloc (.cells #[.int .u64 bi', .int .u64 bt', .slice Av es'.length cv] 134)) w.heap.size bi' bt' (.slice Av es'.length cv) := ⟨by rw [k0.cell]; rfl, by rw [k0.cell]; rfl, by rw [k0.cell]; rfl⟩
  have O0 := Lib.hid (h.allocX (.cells #[.int .u64 bi', .int .u64 bt', .slice Av es'.length cv] 134))
  have FL := Lib.hid (lfile_any w.heap.size bi' bt' _ es' _ CT (EV.below b0) hw hok hl hi ht (tab_at T hB0 (h.below b0).bel))
  obtain ⟨f, hf⟩ : ∃ f, f = logB bi' bt' es' := ⟨_, rfl⟩
  have BY := Lib.hid (logB_byt bi' bt' hok)
  have LN := Lib.hid (show (logB bi' bt' es').length ≤ 4611686018427387904 from by have := logB_len bi' bt' hi ht es' hok; omega)
  rw [← hf] at FL BY LN hd ⊢
  rw [← hm] at FL b0 k0 O0 ⊢
  have HD := Lib.hid hd
  have K0 := Lib.hid k0
  have HZ := Lib.hid hZ
  clear h hZ hE hw hok hl hi ht T hd EV b0 k0 CT hf hm
  go_enter Tryz.func64, Tryz.ntmps64
  go_wp2_with fail
  refine FL.out.mono ?_
  rintro e w1 ⟨v1, rfl, h1, b1⟩
  have O1 := Lib.hid (O0.out.below b1)
  have H1 := Lib.hid h1
  obtain ⟨A1, c1, rfl, -⟩ := h1.clip
  have kl := (show Blk w1 p 138 (lgC bi bt ev d size false) from O1.out.keep (p, _) (List.mem_cons_of_mem _ (List.mem_cons_self ..)))
  have a3 := kl.cell 3
  simp [lgC] at a3
  obtain ⟨L, hL⟩ : ∃ L, L = f.length := ⟨_, rfl⟩
  have PU := Lib.hid (on_put s1 r nm_log _ f BY.out LN.out O1.out H1.out.bs HD.out)
  have LL := Lib.hid hL
  rw [← hL] at PU ⊢
  clear h1 b1 kl hL
  go_wp2_with fail
  refine PU.out.mono ?_
  rintro e w2 ⟨rfl, o2⟩
  have O2 := Lib.hid o2
  have kl := (show Blk w2 p 138 (lgC bi bt ev d size false) from o2.keep (p, _) (List.mem_cons_of_mem _ (List.mem_cons_self ..)))
  have kc := (show Blk w2 w.heap.size 134 #[.int .u64 bi', .int .u64 bt', .slice Av m cv] from o2.keep (w.heap.size, _) (List.mem_cons_self ..))
  have KL := Lib.hid kl
  have OZ := Lib.hid (o2.mono (Y := (p, lgO bi bt ev d size false) :: Z) (fun q hq => List.mem_cons_of_mem _ hq))
  have a5 := kl.cell 5
  have a0 := kl.cell 0
  have a1 := kl.cell 1
  have a2 := kl.cell 2
  have a4 := kl.cell 4
  have f0 := kl.free 0
  have f1 := kl.free 1
  have f2 := kl.free 2
  have f4 := kl.free 4
  have f5 := kl.free 5
  have c0 := kc.cell 0
  have c1 := kc.cell 1
  have c2 := kc.cell 2
  simp [lgC] at a0 a1 a2 a4 a5 c0 c1 c2
  clear a3 o2 kl kc
  by_cases hr : r = 0
  · subst hr
    go_wp2
    go_ret
    refine ⟨rfl, OZ.out.turn _ (((((Kp.refl _ [p]).setCell (.inl (by simp)) _).setCell (.inl (by simp)) _).setCell (.inl (by simp)) _).setCell (.inl (by simp)) _) ?_ HZ.out hp⟩
    have k4 := (((KL.out.set_ 0 (.int .u64 bi')).set_ 1 (.int .u64 bt')).set_ 2 (.slice Av m cv)).set_ 4 (.int .i64 L)
    rw [← LL.out]
    exact k4
  · have hrb : (r != 0) = true := by simp [hr]
    go_wp2
    go_ret
    refine .inr ⟨hr, rfl, OZ.out.turn _ ((Kp.refl _ [p]).setCell (.inl (by simp)) _) ?_ HZ.out hp⟩
    exact KL.out.set_ 5 _
end Go.Proofs.YtoiclicechfmgaaGreatDoor

/- logs: asked, Base, End. -/
namespace Go.Proofs.YtoiclicechfmgaaGreatDoor
open Go.RowKit

theorem lasked_any (p bi bt d : Nat) (ev : Value) (size : Int) (lost : Bool) (w : World) (h : Blk w p 138 (lgC bi bt ev d size lost)) : Calls Tryz.prog 96 #[.pointer (some ⟨p, 0, none⟩)] w fun e w' => e = .returned (.int .i64 (if lost then 17 else 0)) ∧ w = w' := by
  have a3 := h.cell 3
  have a5 := h.cell 5
  simp [lgC] at a3 a5
  cases lost
  · go_enter Tryz.func96, Tryz.ntmps96
    go_wp2
    go_ret
    exact ⟨rfl, rfl⟩
  · go_enter Tryz.func96, Tryz.ntmps96
    go_wp2
    go_ret
    exact ⟨rfl, rfl⟩
theorem lasked_nil (w : World) : Calls Tryz.prog 96 #[.pointer none] w fun e w' => e = .returned (.int .i64 2) ∧ w = w' := by
  go_enter Tryz.func96, Tryz.ntmps96
  go_wp2
  go_ret
  exact ⟨rfl, rfl⟩
theorem lbase_any (p bi bt d : Nat) (ev : Value) (size : Int) (lost : Bool) (w : World) (h : Blk w p 138 (lgC bi bt ev d size lost)) : Calls Tryz.prog 31 #[.pointer (some ⟨p, 0, none⟩)] w fun e w' => e = .returned (.tuple #[.int .u64 bi, .int .u64 bt]) ∧ ∃ m, w' = w.drewN m := by
  have a0 := h.cell 0
  have a1 := h.cell 1
  simp [lgC] at a0 a1
  go_enter Tryz.func31, Tryz.ntmps31
  go_wp2_with fail
  go_quiet (fail)
  go_wp2
  go_ret2
  exact ⟨rfl, _, rfl⟩
theorem Blk.ct {w : World} {p bi bt d : Nat} {ev : Value} {size : Int} {lost : Bool} (h : Blk w p 138 (lgC bi bt ev d size lost)) : Ct w p bi bt ev := ⟨by rw [h.cell]; rfl, by rw [h.cell]; rfl, by rw [h.cell]; rfl⟩
set_option maxHeartbeats 1000000 in
theorem lEnd_any (p bi bt d : Nat) (ev : Value) (es : List Ent) (size : Int) (lost : Bool) (w : World) (h : Blk w p 138 (lgC bi bt ev d size lost)) (he : Ents w ev es) (hw : Wf bi es) (hl : es.length ≤ 1000000) :
    Calls Tryz.prog 32 #[.pointer (some ⟨p, 0, none⟩)] w fun e w' => e = .returned (.tuple #[.int .u64 ((bi + es.length : Nat) : Int), .int .u64 (endT bt es)]) ∧ Below w.heap.size w w' := by
  have LE := Lib.hid (lend_any p bi bt ev es w h.ct he hw hl)
  obtain ⟨E, hE⟩ : ∃ E, E = bi + es.length := ⟨_, rfl⟩
  rw [← hE] at LE ⊢
  clear h he hw hl hE
  go_enter Tryz.func32, Tryz.ntmps32
  go_wp2_with fail
  refine LE.out.mono ?_
  rintro e w1 ⟨rfl, b1⟩
  have B1 := Lib.hid (bel2 b1 (below_alloc_ w1 (.cells #[.int .u64 E, .int .u64 (endT bt es)] 131)))
  clear b1
  go_wp2_with fail
  go_quiet (fail)
  go_wp2
  go_ret2
  exact ⟨rfl, B1.out.trans (below_drewN_ _ _ _)⟩
end Go.Proofs.YtoiclicechfmgaaGreatDoor
