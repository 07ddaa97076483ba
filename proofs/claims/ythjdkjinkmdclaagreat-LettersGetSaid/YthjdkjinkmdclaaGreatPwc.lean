/- api.Command: packs.get, GetCommand. -/
import Derived.Test.YthjdkjinkmdclaaGreatPdc
namespace Go.Proofs.YthjdkjinkmdclaaGreat
open Go.RowKit

theorem cmdQ_ex {a : List (List Int)} {B : Nat} {w : World} {v : Value} (h : cmdQ a B w v) : ∃ r0, ∃ A0 : Option Addr, a = r0 ∧ v = .agg #[.slice A0 r0.length r0.length] ∧ Ow B w 104 10 (.slice A0 r0.length r0.length) r0.length (r0.flatMap (fc stepK)) := by
  obtain ⟨A0, rfl, h0⟩ := h
  exact ⟨a, A0, rfl, rfl, h0⟩
theorem cmdQ_mk {r0 : List (List Int)} {A0 : Option Addr} {B : Nat} {w : World} (h0 : Ow B w 104 10 (.slice A0 r0.length r0.length) r0.length (r0.flatMap (fc stepK))) : cmdQ r0 B w (.agg #[.slice A0 r0.length r0.length]) := ⟨A0, rfl, h0⟩
set_option maxHeartbeats 8000000 in
set_option maxRecDepth 100000 in
theorem get_cmd_any (v : Value) (xs : List Int) (w : World) (h : Bs w v xs) (hby : ∀ c ∈ xs, byt c) (hl : xs.length ≤ 70368744177664) :
    Calls Tryz.prog 129 #[v, .func (.func 130) #[] #[]] w (GPost (cmdP xs) cmdQ (.agg #[.slice none 0 0]) w) := by
  have hmf : ∀ (fn : Fn) (first cap : Array Value) (w : World), (Instr.makeFunc fn first cap).run Tryz.prog w = .ok (.func fn first cap) w := fun _ _ _ _ => rfl
  have hown : xs.length = 0 ∨ ∀ k, v.ownBlock = some k → k < w.heap.size + 2 := by
    obtain ⟨A, c, rfl, hc, hl, h0 | ⟨g, o, rfl, hg, -⟩⟩ := h
    · exact .inl h0
    · exact .inr fun k hk => by simp [Value.ownBlock] at hk; omega
  have b3 := below_alloc3_ w (.cells #[.slice none 0 0] 28) (.cells #[.int .i64 0] 31) (.cells #[v] 198)
  have kp := ((Blk.new w 28 #[.slice none 0 0]).alloc (.cells #[.int .i64 0] 31)).alloc (.cells #[v] 198)
  have kq := (Blk.new (w.alloc (.cells #[.slice none 0 0] 28)) 31 #[.int .i64 0]).alloc (.cells #[v] 198)
  have kg := Blk.new ((w.alloc (.cells #[.slice none 0 0] 28)).alloc (.cells #[.int .i64 0] 31)) 198 #[v]
  simp only [World.size_alloc] at kq kg
  have HG := Lib.hid (show Gt (((w.alloc (.cells #[.slice none 0 0] 28)).alloc (.cells #[.int .i64 0] 31)).alloc (.cells #[v] 198)) (w.heap.size + 2) xs from ⟨⟨v, kg, h.below b3, hown⟩, hby, hl⟩)
  obtain ⟨A, c0, rfl, -⟩ := id h
  obtain ⟨m0, hm0⟩ : ∃ m, m = xs.length := ⟨_, rfl⟩
  rw [← hm0] at kp kq HG b3 ⊢
  have KP := Lib.hid kp
  have KQ := Lib.hid kq
  have B3 := Lib.hid b3
  have hne1 : ¬ w.heap.size = w.heap.size + 1 := by omega
  clear h hby hown b3 kp kq kg hm0
  go_enter_defers Tryz.func129, Tryz.ntmps129
  go_wp2_with fail
  refine (gcmd_any _ xs _ HG.out).mono ?_
  intro e w1 hp
  rcases hr : cmdP xs with k | ⟨r0, r⟩
  · unfold SPost at hp
    rw [hr] at hp
    obtain ⟨rfl, hgw⟩ := hp
    have KP1 := Lib.hid (KP.out.grown hgw (by simp))
    have KQ1 := Lib.hid (KQ.out.grown hgw (by simp))
    have BB := Lib.hid (below_grown_ B3.out hgw B3.out.size (by omega))
    clear hgw
    go_wp2
    refine leaves_cons (f := 136) (args := #[.pointer (some ⟨w.heap.size, 0, none⟩), .pointer (some ⟨w.heap.size + 1, 0, none⟩)]) (by simp) (by simp [go_sem]) ?_
    refine (catch_cmd_panicking w.heap.size (w.heap.size + 1) k (.slice none 0 0) (.int .i64 0) [] _ KP1.out KQ1.out hne1).mono ?_
    rintro e u' w2 ⟨rfl, rfl, hp2, hq2, ht⟩
    have d0 := hp2.cell 0
    have dq := hq2.cell 0
    simp at d0 dq
    simp [Leaves, settle, results, Tryz.results129, go_sem, d0, dq]
    exact ⟨rfl, BB.out.trans (ht.to_below (Nat.le_refl _) (fun k hk => by cases hk; omega) BB.out.size)⟩
  · unfold SPost at hp
    rw [hr] at hp
    obtain ⟨v1, rfl, hq, hG, hgw⟩ := hp
    obtain ⟨r9, A0, e9, rfl, ho0⟩ := cmdQ_ex hq
    subst e9
    have KP1 := Lib.hid (KP.out.grown hgw (by simp))
    have KQ1 := Lib.hid (KQ.out.grown hgw (by simp))
    have BB := Lib.hid (below_grown_ B3.out hgw B3.out.size (by omega))
    obtain ⟨⟨v2, kg2, hv2, -⟩, -, hl2⟩ := hG
    obtain ⟨A9, c9, rfl, -⟩ := id hv2
    obtain ⟨m9, hm9⟩ : ∃ m, m = r.length := ⟨_, rfl⟩
    rw [← hm9] at kg2 hl2
    have g0 := kg2.cell 0
    simp at g0
    have f1 := KP1.out.free
    have f2 := KQ1.out.free
    have z0 := KP1.out.cell 0
    have zq := KQ1.out.cell 0
    simp at z0 zq
    have hb1 := (KP1.out.set_ 0 (.slice A0 r0.length r0.length))
    rw [show ((#[.slice none 0 0] : Array Value).setIfInBounds 0 (.slice A0 r0.length r0.length)) = #[.slice A0 r0.length r0.length] from by simp] at hb1
    have hb2 := (KQ1.out.far (p := ⟨w.heap.size, 0, none⟩) (by simp) (.slice A0 r0.length r0.length))
    have M9 := Lib.hid hm9
    have HR := Lib.hid hr
    have ne1 : ¬ w.heap.size + 2 = w.heap.size := by omega
    have ne2 : ¬ w.heap.size + 1 = w.heap.size := by omega
    have HB1 := Lib.hid hb1
    have HB2 := Lib.hid hb2
    have KG := Lib.hid kg2
    clear hq hgw kg2 hv2 hm9 hr hb1 hb2
    have O0 := Lib.hid ho0
    clear ho0
    by_cases hr0 : m9 = 0
    · subst hr0
      go_wp2
      refine leaves_cons (f := 136) (args := #[.pointer (some ⟨w.heap.size, 0, none⟩), .pointer (some ⟨w.heap.size + 1, 0, none⟩)]) (by simp) (by simp [go_sem]) ?_
      refine (catch_cmd_idle _ _ _).mono ?_
      rintro e u' w2 ⟨rfl, rfl, rfl⟩
      have hb3 := ((HB1.out.set_ 0 (.slice A0 r0.length r0.length)).far (p := ⟨w.heap.size + 1, 0, none⟩) (by simp) (.int .i64 0))
      rw [show ((#[.slice A0 r0.length r0.length] : Array Value).setIfInBounds 0 (.slice A0 r0.length r0.length)) = #[.slice A0 r0.length r0.length] from by simp] at hb3
      have hb4 := ((HB2.out.far (p := ⟨w.heap.size, 0, none⟩) (by simp) (.slice A0 r0.length r0.length)).set_ 0 (.int .i64 0))
      have d0 := hb3.cell 0
      have dq := hb4.cell 0
      simp at d0 dq
      simp [Leaves, settle, results, Tryz.results129, go_sem, d0, dq]
      obtain rfl : r = [] := List.eq_nil_of_length_eq_zero M9.out.symm
      have hq1 : w.heap.size < (((w.alloc (.cells #[.slice none 0 0] 28)).alloc (.cells #[.int .i64 0] 31)).alloc (.cells #[.slice A m0 c0] 198)).heap.size := by simp <;> omega
      have hq2 : w.heap.size + 1 < (((w.alloc (.cells #[.slice none 0 0] 28)).alloc (.cells #[.int .i64 0] 31)).alloc (.cells #[.slice A m0 c0] 198)).heap.size := by simp <;> omega
      have hq3 : w.heap.size ≤ (((w.alloc (.cells #[.slice none 0 0] 28)).alloc (.cells #[.int .i64 0] 31)).alloc (.cells #[.slice A m0 c0] 198)).heap.size := by simp <;> omega
      have hw0 := (((O0.out.far (p := ⟨w.heap.size, 0, none⟩) hq1 (.slice A0 r0.length r0.length)).far (p := ⟨w.heap.size, 0, none⟩) hq1 (.slice A0 r0.length r0.length)).far (p := ⟨w.heap.size + 1, 0, none⟩) hq2 (.int .i64 0)).le hq3
      have hbel := ((BB.out.setCell (p := ⟨w.heap.size, 0, none⟩) (Nat.le_refl _) (.slice A0 r0.length r0.length)).setCell (p := ⟨w.heap.size, 0, none⟩) (Nat.le_refl _) (.slice A0 r0.length r0.length)).setCell (p := ⟨w.heap.size + 1, 0, none⟩) (Nat.le_succ _) (.int .i64 0)
      exact gpost_ok HR.out (cmdQ_mk hw0) hbel
    · have hr0' : 0 < (m9 : Int) := by omega
      have hbp := Lib.hid ((BB.out.setCell (p := ⟨w.heap.size, 0, none⟩) (Nat.le_refl _) (.slice A0 r0.length r0.length)))
      have hb9 := (KG.out.far (p := ⟨w.heap.size, 0, none⟩) (by simp) (.slice A0 r0.length r0.length))
      have HB9 := Lib.hid hb9
      clear hb9
      go_upto_region 4 with fail
      generalize (w1.setCell ⟨w.heap.size, 0, none⟩ (.slice A0 r0.length r0.length)) = W2 at HB1 HB2 HB9 hbp ⊢
      clear f1 f2 g0 z0 zq
      have g9 := HB9.out.cell 0
      simp at g9
      go_wp2
      refine leaves_cons (f := 136) (args := #[.pointer (some ⟨w.heap.size, 0, none⟩), .pointer (some ⟨w.heap.size + 1, 0, none⟩)]) (by simp) (by simp [go_sem]) ?_
      refine (catch_cmd_panicking w.heap.size (w.heap.size + 1) 4 (.slice A0 r0.length r0.length) (.int .i64 0) [] _ HB1.out HB2.out hne1).mono ?_
      rintro e u' w2 ⟨rfl, rfl, hp2, hq2, ht⟩
      have d0 := hp2.cell 0
      have dq := hq2.cell 0
      simp at d0 dq
      simp [Leaves, settle, results, Tryz.results129, go_sem, d0, dq]
      have hbel := Below.trans hbp.out (ht.to_below (Nat.le_refl _) (fun k hk => by cases hk; omega) (by have := hbp.out.size; omega))
      exact gpost_more HR.out (fun e => hr0 (M9.out.trans e)) hbel
set_option maxHeartbeats 4000000 in
set_option maxRecDepth 100000 in
theorem Get_cmd_any (v : Value) (xs : List Int) (w : World) (h : Bs w v xs) (hby : ∀ c ∈ xs, byt c) (hl : xs.length ≤ 70368744177664) :
    Calls Tryz.prog 123 #[v] w (GPost (cmdP xs) cmdQ (.agg #[.slice none 0 0]) w) := by
  have b1 := below_alloc_ w (.cells #[.slice none 0 0] 28)
  have KP := Lib.hid (Blk.new w 28 #[.slice none 0 0])
  have HB := Lib.hid (h.below b1)
  have HY := Lib.hid hby
  have B1 := Lib.hid b1
  obtain ⟨A, c0, rfl, -⟩ := id h
  clear h hby b1
  go_enter Tryz.func123, Tryz.ntmps123
  go_wp2_with fail
  refine (get_cmd_any _ xs _ HB.out HY.out hl).mono ?_
  intro e w1 hp
  unfold GPost at hp
  rcases hr : allP (cmdP xs) with k | r0
  · rw [hr] at hp
    obtain ⟨rfl, hb⟩ := hp
    have KP1 := Lib.hid (KP.out.below hb KP.out.lt)
    have BB := Lib.hid (B1.out.trans (hb.mono (by simp)))
    have HR := Lib.hid hr
    clear hb hr
    have f1 := KP1.out.free
    have z0 := KP1.out.cell 0
    simp at z0
    go_wp2
    have hb1 := (KP1.out.set_ 0 (.slice none 0 0))
    have d0 := hb1.cell 0
    simp at d0
    refine bodyPost_ret (v := .tuple #[.agg #[.slice none 0 0], .int .i64 k]) (by simp [results, Tryz.results123, go_sem, d0]) rfl ?_
    have hbel := (BB.out.setCell (p := ⟨w.heap.size, 0, none⟩) (Nat.le_refl _) (.slice none 0 0))
    exact gpost_allerr HR.out hbel
  · rw [hr] at hp
    obtain ⟨v1, rfl, hq, hb⟩ := hp
    obtain ⟨r9, A0, e9, rfl, ho0⟩ := cmdQ_ex hq
    subst e9
    have KP1 := Lib.hid (KP.out.below hb KP.out.lt)
    have BB := Lib.hid (B1.out.trans (hb.mono (by simp)))
    have HR := Lib.hid hr
    have O0 := Lib.hid ho0
    clear ho0
    clear hq hb hr
    have f1 := KP1.out.free
    have z0 := KP1.out.cell 0
    simp at z0
    go_wp2
    have hb1 := (KP1.out.set_ 0 (.slice A0 r0.length r0.length))
    have d0 := hb1.cell 0
    simp at d0
    refine bodyPost_ret (v := .tuple #[.agg #[.slice A0 r0.length r0.length], .int .i64 0]) (by simp [results, Tryz.results123, go_sem, d0]) rfl ?_
    have hbel := (BB.out.setCell (p := ⟨w.heap.size, 0, none⟩) (Nat.le_refl _) (.slice A0 r0.length r0.length))
    have hw0 := (O0.out.far (p := ⟨w.heap.size, 0, none⟩) (by simp) (.slice A0 r0.length r0.length)).le (B' := w.heap.size) (by simp)
    exact gpost_all HR.out (cmdQ_mk hw0) hbel
end Go.Proofs.YthjdkjinkmdclaaGreat
