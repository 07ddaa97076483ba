/- LogsVoid: walk. -/
import Derived.Test.YtnegondlkfeleaaDoorLvg
import Derived.Test.YtnegondlkfeleaaDoorLvv
import Derived.Test.YtnegondlkfeleaaDoorLqg
namespace Go.Proofs.YtnegondlkfeleaaDoor
open Go.RowKit

set_option maxHeartbeats 8000000 in
set_option maxRecDepth 100000 in
theorem lvoid_walk (kd tO tm nn : Int) (nr : Bool) (A Al Ab : Option Addr) (nl cl nb cb c : Nat) (es : List Ent) (w : World) (hE : Ents w (.slice A es.length c) es) (hl : es.length ≤ 4611686018427387904) (hto : 0 ≤ tO) (T : Tab w) :
    Calls Tryd.prog 3 #[.agg #[.int .u8 kd, .slice A es.length c, .bool nr, .int .u64 tO, .int .u64 tm, .int .i64 nn, .slice Al nl cl, .slice Ab nb cb]] w fun e w' => e = .returned (.bool true) ∧ Below w.heap.size w w' := by
  have TT := Lib.hid T
  have HTO := Lib.hid hto
  obtain ⟨W, hW⟩ : ∃ W, W = (w.alloc (.cells #[.int .u8 kd, .slice A es.length c, .bool nr, .int .u64 tO, .int .u64 tm, .int .i64 nn, .slice Al nl cl, .slice Ab nb cb] 27)).alloc (.cells #[.int .u8 kd, .slice A es.length c, .bool nr, .int .u64 tO, .int .u64 tm, .int .i64 nn, .slice Al nl cl, .slice Ab nb cb] 27) := ⟨_, rfl⟩
  have b1 := below_alloc2_ w (.cells #[.int .u8 kd, .slice A es.length c, .bool nr, .int .u64 tO, .int .u64 tm, .int .i64 nn, .slice Al nl cl, .slice Ab nb cb] 27) (.cells #[.int .u8 kd, .slice A es.length c, .bool nr, .int .u64 tO, .int .u64 tm, .int .i64 nn, .slice Al nl cl, .slice Ab nb cb] 27)
  have k0 := (Blk.new w 27 #[.int .u8 kd, .slice A es.length c, .bool nr, .int .u64 tO, .int .u64 tm, .int .i64 nn, .slice Al nl cl, .slice Ab nb cb]).alloc (.cells #[.int .u8 kd, .slice A es.length c, .bool nr, .int .u64 tO, .int .u64 tm, .int .i64 nn, .slice Al nl cl, .slice Ab nb cb] 27)
  have k1 := Blk.new (w.alloc (.cells #[.int .u8 kd, .slice A es.length c, .bool nr, .int .u64 tO, .int .u64 tm, .int .i64 nn, .slice Al nl cl, .slice Ab nb cb] 27)) 27 #[.int .u8 kd, .slice A es.length c, .bool nr, .int .u64 tO, .int .u64 tm, .int .i64 nn, .slice Al nl cl, .slice Ab nb cb]
  rw [← hW] at b1 k0 k1
  simp only [World.size_alloc] at k1
  have GR := Lib.hid (lgreat_any (w.heap.size + 1) _ _ _ _ _ A Al Ab nl cl nb cb c es W k1 (hE.below b1) hl)
  have B1 := Lib.hid b1
  have K0 := Lib.hid k0
  have HWW := Lib.hid hW
  obtain ⟨n, hn⟩ : ∃ n, n = es.length := ⟨_, rfl⟩
  rw [← hn] at K0 HWW ⊢
  clear T hW b1 k0 k1 hE hl hto hn
  go_enter Tryd.func3, Tryd.ntmps3
  go_wp2_with fail
  rw [← HWW.out]
  refine GR.out.mono ?_
  rintro e w1 ⟨b, rfl, m, rfl⟩
  have B2 := Lib.hid (show Below w.heap.size w (W.drewN m) from B1.out.trans (below_drewN_ _ _ _))
  have K2 := Lib.hid (K0.out.drewN m)
  generalize W.drewN m = w2 at *
  rcases b with _ | _
  · obtain ⟨w3, hw3⟩ : ∃ w3, w3 = (w2.alloc (.cells vdC 37)).alloc (.cells #[.pointer none, .pointer (some ⟨w2.heap.size, 0, none⟩)] 38) := ⟨_, rfl⟩
    have kv := (Blk.new w2 37 vdC).alloc (.cells #[.pointer none, .pointer (some ⟨w2.heap.size, 0, none⟩)] 38)
    have kp := Blk.new (w2.alloc (.cells vdC 37)) 38 #[.pointer none, .pointer (some ⟨w2.heap.size, 0, none⟩)]
    have ka := (K2.out.alloc (.cells vdC 37)).alloc (.cells #[.pointer none, .pointer (some ⟨w2.heap.size, 0, none⟩)] 38)
    have b3 := below_alloc2_ w2 (.cells vdC 37) (.cells #[.pointer none, .pointer (some ⟨w2.heap.size, 0, none⟩)] 38)
    rw [← hw3] at kv kp ka b3
    have hsz : w3.heap.size = w2.heap.size + 2 := by rw [hw3]; simp
    simp only [World.size_alloc] at kp
    have B3 := Lib.hid (B2.out.trans (b3.mono B2.out.size))
    have KV := Lib.hid kv
    have KP := Lib.hid kp
    have KA := Lib.hid ka
    have HW3 := Lib.hid hw3.symm
    clear hw3 kv kp ka b3 hsz
    go_wp2_with fail
    refine (lopen_nil _).mono ?_
    rintro e w4 ⟨rfl, rfl⟩
    have hw := HW3.out
    simp only [vdC] at hw
    rw [hw]
    clear hw
    obtain ⟨v2, hv2⟩ : ∃ v2, v2 = w2.heap.size := ⟨_, rfl⟩
    rw [← hv2] at KV KP ⊢
    obtain ⟨ap, hap⟩ : ∃ ap, ap = v2 + 1 := ⟨_, rfl⟩
    rw [← hap] at KP ⊢
    clear hv2 hap
    go_wp2_with fail
    go_loopw [7] (fun s7 wr => ∃ i : Nat, s7 = .int .i64 (i : Int) ∧ i ≤ 2 ∧ Below w3.heap.size w3 wr) (fun s7 _ => 2 - (intOf s7).toNat)
    case atStart => exact ⟨0, rfl, by omega, Below.refl _ _⟩
    case round =>
    obtain ⟨i, rfl, hi, hb⟩ := hrel
    have BB := Lib.hid hb
    have P0 := Lib.hid (KP.out.below hb KP.out.lt)
    clear hb
    have q0' := P0.out.cell 0
    have q1' := P0.out.cell 1
    simp at q0' q1'
    have hi' : i = 0 ∨ i = 1 ∨ i = 2 := by omega
    rcases hi' with rfl | rfl | rfl
    · go_wp2_with fail
      refine (lbase_nil _).mono ?_
      rintro e w4 ⟨rfl, rfl⟩
      go_wp2_with fail
      refine (lEnd_nil _).mono ?_
      rintro e w5 ⟨rfl, hw5⟩
      subst hw5
      have B5 := Lib.hid BB.out
      go_wp2_with fail
      have P5 := Lib.hid (KP.out.below B5.out KP.out.lt)
      have V5 := Lib.hid (KV.out.below B5.out KV.out.lt)
      have A5 := Lib.hid (KA.out.below B5.out KA.out.lt)
      have q0 := P5.out.cell 0
      have r3 := A5.out.cell 3
      simp at q0 r3
      clear q0' q1'
      go_quiet ((go_at_call 11; exact quiet_left_ (lterm_nil _ _)))
      have B6 := Lib.hid (show Below w3.heap.size w3 (wr.drewN nq) from B5.out.trans (below_drewN_ _ _ _))
      have P6 := Lib.hid (P5.out.drewN nq)
      have V6 := Lib.hid (V5.out.drewN nq)
      have A6 := Lib.hid (A5.out.drewN nq)
      clear q0 r3
      generalize wr.drewN nq = w6 at *
      go_wp2_with fail
      obtain ⟨ι, F, f0, hf0, hF1, hF2⟩ := cls_new2 w6
      have q0 : ∀ n, (F n).cell? ⟨ap, 0, none⟩ = some (.pointer none) := fun n => ((P6.out.below (hF1 n) P6.out.lt).cell 0)
      have r1 : ∀ n', (F n').cell? ⟨w.heap.size, 1, none⟩ = some (.slice A n c) := fun n => ((A6.out.below (hF1 n) A6.out.lt).cell 1)
      have r3 : ∀ n, (F n).cell? ⟨w.heap.size, 3, none⟩ = some (.int .u64 tO) := fun n => ((A6.out.below (hF1 n) A6.out.lt).cell 3)
      have r4 : ∀ n, (F n).cell? ⟨w.heap.size, 4, none⟩ = some (.int .u64 tm) := fun n => ((A6.out.below (hF1 n) A6.out.lt).cell 4)
      have CA := Lib.hid (fun n' => (ladd_nil (.slice A n c) (F n') : Calls _ _ _ (F n') _).mono fun e w'' (hh : e = Ending.returned (.int .i64 2) ∧ F n' = w'') => (show e = Ending.returned (.int .i64 2) ∧ ∃ m, w'' = F m from ⟨hh.1, n', hh.2.symm⟩))
      have CD := Lib.hid (fun n' => (ldrop_nil tO (F n') : Calls _ _ _ (F n') _).mono fun e w'' (hh : e = Ending.returned (.int .i64 2) ∧ F n' = w'') => (show e = Ending.returned (.int .i64 2) ∧ ∃ m, w'' = F m from ⟨hh.1, n', hh.2.symm⟩))
      have CR := Lib.hid (fun n' => (lreset_nil tO tm (F n') : Calls _ _ _ (F n') _).mono fun e w'' (hh : e = Ending.returned (.int .i64 2) ∧ F n' = w'') => (show e = Ending.returned (.int .i64 2) ∧ ∃ m, w'' = F m from ⟨hh.1, n', hh.2.symm⟩))
      have CF := Lib.hid (fun n' => ((lfrom_nil tO 9 (F n')).mono fun e w'' hh => ⟨hh.1, hh.2 ▸ Below.refl _ _⟩ : Calls _ _ _ (F n') _).mono fun e w'' (hh : e = Ending.returned (.slice none 0 0) ∧ Below (F n').heap.size (F n') w'') => (show e = Ending.returned (.slice none 0 0) ∧ ∃ m, w'' = F m from ⟨hh.1, hF2 _ ((hF1 n').trans (hh.2.mono (hF1 n').size))⟩))
      have BF := Lib.hid (fun n => B6.out.trans ((hF1 n).mono B6.out.size))
      haveI : Nonempty ι := ⟨f0⟩
      clear hF1 hF2
      refine wp_region_quiet_cls2 F f0 hf0 (by kernel_rfl) (by kernel_rfl) ?_
      clear hf0
      repeat (go_big_quiet_step ((first | (go_at_call 12; exact CA.out _) | (go_at_call 13; exact CD.out _) | (go_at_call 14; exact CR.out _) | (go_at_call 15; exact CF.out _))))
      refine wpQuiet_nil ?_
      rintro _ ⟨nz, rfl⟩
      go_wp2
      go_roundw
      case rel => exact ⟨1, by go_num, by omega, BF.out _⟩
      case measure => simp [intOf]
    · have V4 := Lib.hid (KV.out.below BB.out KV.out.lt)
      go_wp2_with fail
      refine (lbase_void v2 _ V4.out).mono ?_
      rintro e w4 ⟨rfl, m4, rfl⟩
      have B4 := Lib.hid (show Below w3.heap.size w3 (wr.drewN m4) from BB.out.trans (below_drewN_ _ _ _))
      have V4' := Lib.hid (V4.out.drewN m4)
      replace q0' : (wr.drewN m4).cell? _ = _ := q0'
      replace q1' : (wr.drewN m4).cell? _ = _ := q1'
      clear BB V4 P0
      generalize wr.drewN m4 = wr at *
      go_wp2_with fail
      refine (lEnd_void v2 _ V4'.out).mono ?_
      rintro e w5 ⟨rfl, b5⟩
      have B5 := Lib.hid (show Below w3.heap.size w3 w5 from B4.out.trans (b5.mono B4.out.size))
      clear b5
      go_wp2_with fail
      have P5 := Lib.hid (KP.out.below B5.out KP.out.lt)
      have V5 := Lib.hid (KV.out.below B5.out KV.out.lt)
      have A5 := Lib.hid (KA.out.below B5.out KA.out.lt)
      have q1 := P5.out.cell 1
      have r3 := A5.out.cell 3
      simp at q1 r3
      clear q0' q1'
      go_quiet ((go_at_call 11; exact quiet_left_ (lterm_void v2 _ _ (V5.out.drewN _))))
      have B6 := Lib.hid (show Below w3.heap.size w3 (w5.drewN nq) from B5.out.trans (below_drewN_ _ _ _))
      have P6 := Lib.hid (P5.out.drewN nq)
      have V6 := Lib.hid (V5.out.drewN nq)
      have A6 := Lib.hid (A5.out.drewN nq)
      clear q1 r3
      generalize w5.drewN nq = w6 at *
      go_wp2_with fail
      obtain ⟨ι, F, f0, hf0, hF1, hF2⟩ := cls_new2 w6
      have q1 : ∀ n, (F n).cell? ⟨ap, 1, none⟩ = some (.pointer (some ⟨v2, 0, none⟩)) := fun n => ((P6.out.below (hF1 n) P6.out.lt).cell 1)
      have r1 : ∀ n', (F n').cell? ⟨w.heap.size, 1, none⟩ = some (.slice A n c) := fun n => ((A6.out.below (hF1 n) A6.out.lt).cell 1)
      have r3 : ∀ n, (F n).cell? ⟨w.heap.size, 3, none⟩ = some (.int .u64 tO) := fun n => ((A6.out.below (hF1 n) A6.out.lt).cell 3)
      have r4 : ∀ n, (F n).cell? ⟨w.heap.size, 4, none⟩ = some (.int .u64 tm) := fun n => ((A6.out.below (hF1 n) A6.out.lt).cell 4)
      have VF := Lib.hid (fun n => V6.out.below (hF1 n) V6.out.lt)
      have CA := Lib.hid (fun n' => (ladd_void v2 (.slice A n c) (F n') (VF.out n') : Calls _ _ _ (F n') _).mono fun e w'' (hh : e = Ending.returned (.int .i64 2) ∧ F n' = w'') => (show e = Ending.returned (.int .i64 2) ∧ ∃ m, w'' = F m from ⟨hh.1, n', hh.2.symm⟩))
      have CD := Lib.hid (fun n' => (ldrop_void v2 tO (F n') (VF.out n') : Calls _ _ _ (F n') _).mono fun e w'' (hh : e = Ending.returned (.int .i64 2) ∧ F n' = w'') => (show e = Ending.returned (.int .i64 2) ∧ ∃ m, w'' = F m from ⟨hh.1, n', hh.2.symm⟩))
      have CR := Lib.hid (fun n' => (lreset_void v2 tO tm (F n') (VF.out n') : Calls _ _ _ (F n') _).mono fun e w'' (hh : e = Ending.returned (.int .i64 2) ∧ F n' = w'') => (show e = Ending.returned (.int .i64 2) ∧ ∃ m, w'' = F m from ⟨hh.1, n', hh.2.symm⟩))
      have CF := Lib.hid (fun n' => (lFrom_void v2 tO 9 HTO.out (F n') (VF.out n') : Calls _ _ _ (F n') _).mono fun e w'' (hh : e = Ending.returned (.slice none 0 0) ∧ Below (F n').heap.size (F n') w'') => (show e = Ending.returned (.slice none 0 0) ∧ ∃ m, w'' = F m from ⟨hh.1, hF2 _ ((hF1 n').trans (hh.2.mono (hF1 n').size))⟩))
      have BF := Lib.hid (fun n => B6.out.trans ((hF1 n).mono B6.out.size))
      haveI : Nonempty ι := ⟨f0⟩
      clear hF1 hF2
      refine wp_region_quiet_cls2 F f0 hf0 (by kernel_rfl) (by kernel_rfl) ?_
      clear hf0
      repeat (go_big_quiet_step ((first | (go_at_call 12; exact CA.out _) | (go_at_call 13; exact CD.out _) | (go_at_call 14; exact CR.out _) | (go_at_call 15; exact CF.out _))))
      refine wpQuiet_nil ?_
      rintro _ ⟨nz, rfl⟩
      go_wp2
      go_roundw
      case rel => exact ⟨2, by go_num, by omega, BF.out _⟩
      case measure => simp [intOf]
    · go_wp2_with fail
      have bw := B3.out.trans (BB.out.mono B3.out.size)
      refine (llives _ (TT.out.below bw)).mono ?_
      rintro e w9 ⟨rfl, b9⟩
      have BW := Lib.hid (bw.trans (b9.mono bw.size))
      clear b9 bw
      go_wp2
      go_ret
      exact ⟨rfl, BW.out⟩
  · go_wp2_with fail
    refine (llives _ (TT.out.below B2.out)).mono ?_
    rintro e w3 ⟨rfl, b3⟩
    have B3 := Lib.hid (B2.out.trans (b3.mono B2.out.size))
    clear b3
    go_wp2
    go_ret
    exact ⟨rfl, B3.out⟩
end Go.Proofs.YtnegondlkfeleaaDoor
