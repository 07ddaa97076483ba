/- A promise: Set. -/
import Derived.Test.YtnegondlkfeleaaDoorSta
namespace Go.Proofs.YtnegondlkfeleaaDoor
open Go.RowKit

theorem Tab.bel {B : Nat} {W w : World} (h : Tab W) (h0 : 0 < B) (hb : Below B W w) : Tab w := fun i hi => (hb.cell h0).trans (h i hi)
/-- A promise's block, as an object. -/
def prO (t v : Int) (d : Nat) (lost : Bool) : Obj := .cells (prC t v (.pointer (some ⟨d, 0, none⟩)) lost) 114 (0, 0)
/-- The file's bytes. -/
def vowB (T V : Nat) : List Int := frameB (nb T ++ nb V)
/-- What Set answers, and leaves. -/
def setS (t v : Int) (lost : Bool) (s : Dst) (T V : Nat) : Int × Int × Int × Bool × Dst :=
  if lost = true then (17, t, v, lost, s) else if mayB t v T V = false then (1, t, v, lost, s) else if t = T ∧ v = V then (0, t, v, lost, s) else
  if (doesS s (vowB T V).length true (fun _ => some (vowB T V, (vowB T V).length))).2 = 0 then (0, T, V, false, (doesS s (vowB T V).length true (fun _ => some (vowB T V, (vowB T V).length))).1)
  else (17, t, v, true, (doesS s (vowB T V).length true (fun _ => some (vowB T V, (vowB T V).length))).1)

theorem setS_ok {t v : Int} {s s' : Dst} {T V : Nat} (h1 : mayB t v T V = true) (h2 : ¬ (t = T ∧ v = V)) (h3 : doesS s (vowB T V).length true (fun _ => some (vowB T V, (vowB T V).length)) = (s', 0)) :
    setS t v false s T V = ((0 : Int), (T : Int), (V : Int), false, s') := by
  unfold setS
  rw [if_neg (by simp), if_neg (by rw [h1]; simp), if_neg h2, h3, if_pos rfl]
theorem setS_bad {t v r : Int} {s s' : Dst} {T V : Nat} (h1 : mayB t v T V = true) (h2 : ¬ (t = T ∧ v = V)) (h3 : doesS s (vowB T V).length true (fun _ => some (vowB T V, (vowB T V).length)) = (s', r)) (hr : ¬ r = 0) :
    setS t v false s T V = (17, t, v, true, s') := by
  unfold setS
  rw [if_neg (by simp), if_neg (by rw [h1]; simp), if_neg h2, h3, if_neg hr]

theorem set_nil (t v : Int) (w : World) : Calls Tryd.prog 29 #[.pointer none, .int .u64 t, .int .u8 v] w fun e w' => e = .returned (.int .i64 2) ∧ Below w.heap.size w w' := by
  go_enter Tryd.func29, Tryd.ntmps29
  go_wp2
  go_ret
  exact ⟨rfl, below_alloc_ _ _⟩
/-- A promise that no call made. -/
theorem set_none (p : Nat) (t v t' v' : Int) (lost : Bool) (w : World) (h : Blk w p 114 (prC t v (.pointer none) lost)) :
    Calls Tryd.prog 29 #[.pointer (some ⟨p, 0, none⟩), .int .u64 t', .int .u8 v'] w fun e w' => e = .returned (.int .i64 2) ∧ Below w.heap.size w w' := by
  have k := h.alloc (.cells #[.int .u64 t', .int .u8 v'] 110)
  have c2 := k.cell 2
  simp [prC] at c2
  clear h k
  go_enter Tryd.func29, Tryd.ntmps29
  go_wp2
  go_ret
  exact ⟨rfl, below_alloc_ _ _⟩

set_option maxHeartbeats 2000000 in
set_option maxRecDepth 100000 in
theorem set_any {X : List (Nat × Obj)} {B : Nat} {W w : World} {p d : Nat} {t v : Int} {lost : Bool} {s : Dst} (T V : Nat) (hO : On ((p, prO t v d lost) :: X) B W w d ⟨#[115, 116, 97, 116, 101]⟩ s)
    (hX : ∀ q ∈ X, q.1 ≠ p) (hB : B ≤ p) (hB0 : 0 < B) (TB : Tab W) (hT : T < 18446744073709551616) (hV : V < 256) :
    Calls Tryd.prog 29 #[.pointer (some ⟨p, 0, none⟩), .int .u64 T, .int .u8 V] w fun e w' => e = .returned (.int .i64 (setS t v lost s T V).1) ∧
      On ((p, prO (setS t v lost s T V).2.1 (setS t v lost s T V).2.2.1 d (setS t v lost s T V).2.2.2.1) :: X) B W w' d ⟨#[115, 116, 97, 116, 101]⟩ (setS t v lost s T V).2.2.2.2 := by
  have O0 := Lib.hid (hO.alloc (.cells #[.int .u64 T, .int .u8 V] 110))
  have k := (show Blk w p 114 (prC t v (.pointer (some ⟨d, 0, none⟩)) lost) from hO.keep (_, _) (List.mem_cons_self ..)).alloc (.cells #[.int .u64 T, .int .u8 V] 110)
  have q := Blk.new w 110 #[.int .u64 T, .int .u8 V]
  have K := Lib.hid k
  have Q := Lib.hid q
  have HX := Lib.hid hX
  have TT := Lib.hid TB
  have c0 := k.cell 0
  have c1 := k.cell 1
  have c2 := k.cell 2
  have c3 := k.cell 3
  simp [prC] at c0 c1 c2 c3
  have q0 : (w.alloc (.cells #[.int .u64 T, .int .u8 V] 110)).cell? ⟨w.heap.size, 0, none⟩ = some (.int .u64 T) := q.cell 0
  have q1 : (w.alloc (.cells #[.int .u64 T, .int .u8 V] 110)).cell? ⟨w.heap.size, 1, none⟩ = some (.int .u8 V) := q.cell 1
  clear k q hO hX TB
  cases lost
  case true =>
    rw [show setS t v true s T V = (17, t, v, true, s) from by simp [setS]]
    go_enter Tryd.func29, Tryd.ntmps29
    go_wp2
    go_ret
    exact ⟨rfl, O0.out⟩
  case false =>
    obtain ⟨b, hbm⟩ : ∃ b, b = mayB t v T V := ⟨_, rfl⟩
    have BM := Lib.hid hbm
    clear hbm
    go_enter Tryd.func29, Tryd.ntmps29
    go_wp2_with fail
    have hp : p < w.heap.size + 1 := by have := K.out.lt; simpa using this
    have hq : w.heap.size < w.heap.size + 1 := Nat.lt_succ_self _
    have hz : (w.alloc (.cells #[.int .u64 T, .int .u8 V] 110)).heap.size = w.heap.size + 1 := by simp
    rw [← hz] at hp hq
    clear hz
    generalize w.alloc (.cells #[.int .u64 T, .int .u8 V] 110) = w0 at *
    go_region_held3 (fun w' => w'.cell? ⟨p, 0, none⟩ = some (.int .u64 t) ∧ w'.cell? ⟨p, 1, none⟩ = some (.int .u8 v) ∧ w'.cell? ⟨w.heap.size, 0, none⟩ = some (.int .u64 T) ∧ w'.cell? ⟨w.heap.size, 1, none⟩ = some (.int .u8 V)) (first
      | exact ⟨(b1.cell hp).trans c0, (b1.cell hp).trans c1, (b1.cell hq).trans q0, (b1.cell hq).trans q1⟩
      | exact ⟨c0, c1, q0, q1⟩
      | fail)
      (first
      | (go_at_call 60; refine (show Calls Tryd.prog 60 #[.agg #[.int .u64 t, .int .u8 v], .agg #[.int .u64 T, .int .u8 V]] _ fun e w' => e = .returned (.bool b) ∧ Below w0.heap.size w0.drew w' from by have := may_any t v T V w0.drew; rw [← BM.out] at this; exact this).mono ?_; rintro e w1 ⟨rfl, b1⟩))
    have OB := Lib.hid (O0.out.below (((Below.refl _ w0).drew).trans b1))
    have d0 := (b1.cell hp).trans c0
    have d1 := (b1.cell hp).trans c1
    have d2 := (b1.cell hp).trans c2
    have d3 := (b1.cell hp).trans c3
    have f0 := (b1.cell hq).trans q0
    have f1 := (b1.cell hq).trans q1
    have PB := Lib.hid (show Blk w1 p 114 (prC t v (.pointer (some ⟨d, 0, none⟩)) false) from OB.out.keep (_, _) (List.mem_cons_self ..))
    clear c0 c1 c2 c3 q0 q1 hp hq b1
    cases b
    case false =>
      go_wp2
      go_ret
      rw [show setS t v false s T V = (1, t, v, false, s) from by simp [setS, ← BM.out]]
      exact ⟨rfl, OB.out⟩
    case true =>
      by_cases hs : t = T ∧ v = V
      · obtain ⟨rfl, rfl⟩ := hs
        go_wp2_with fail
        go_quiet (fail)
        go_wp2
        go_ret
        rw [show setS T V false s T V = ((0 : Int), (T : Int), (V : Int), false, s) from by simp [setS, ← BM.out]]
        exact ⟨rfl, OB.out.below (below_drewN_ _ _ _)⟩
      · have HS := Lib.hid hs
        have hwV : IntKind.u64.wrap (V : Int) = V := by rw [IntKind.wrap_u64]; omega
        rcases (show ¬ t = T ∨ (t = T ∧ ¬ v = V) by
          by_cases h : t = T
          · exact .inr ⟨h, fun h' => hs ⟨h, h'⟩⟩
          · exact .inl h) with ht | ⟨rfl, hv⟩
        all_goals
          clear hs
          go_wp2_with fail
          go_quiet (fail)
          go_wp2_with fail
          refine (num_any (.slice none 0 0) [] T _ (Bo.nil_ 0 _).bs hT (by simp)).mono ?_
          rintro e w2 ⟨v2, rfl, h2, b2⟩
          have O2 := Lib.hid (OB.out.below (Below.trans (below_drewN_ _ _ _) b2))
          have H2 := Lib.hid h2
          clear h2 b2
          go_wp2_with fail
          refine (num_any _ _ V _ H2.out.bs (by omega) (by have := nb_ten hT; simp; omega)).mono ?_
          rintro e w3 ⟨v3, rfl, h3, b3⟩
          have O3 := Lib.hid (O2.out.below b3)
          have H3 := Lib.hid h3
          clear h3 b3
          go_wp2_with fail
          have hbl : (([] ++ nb T) ++ nb V).length ≤ 20 := by have := nb_ten hT; have := nb_ten (show V < 18446744073709551616 by omega); simp only [List.length_append, List.length_nil]; omega
          have hbb : ∀ c ∈ (([] ++ nb T) ++ nb V), byt c := by
            intro c hc
            rw [List.nil_append] at hc
            rcases List.mem_append.1 hc with hc | hc <;> exact nb_byt _ c hc
          refine (fput_any (.slice none 0 0) _ [] _ w3 (Bo.nil_ 0 _).bs H3.out.bs hbb (TT.out.bel hB0 O3.out.bel) (by simp) (by omega)).mono ?_
          rintro e w4 ⟨v4, rfl, h4, b4⟩
          have O4 := Lib.hid (O3.out.below b4)
          have H4 := Lib.hid (show Bs w4 v4 (vowB T V) from by have := h4.bs; simpa [vowB] using this)
          have hvl : (vowB T V).length ≤ 4611686018427387904 := by
            unfold vowB frameB
            rw [sumB_len, List.length_append]
            simp only [List.nil_append] at hbl
            have := nb_ten (n := (nb T ++ nb V).length) (by omega)
            omega
          have hvb : ∀ c ∈ vowB T V, byt c := frameB_byt (by simpa using hbb)
          have x2 := (show Blk w4 p 114 _ from O4.out.keep (_, _) (List.mem_cons_self ..)).cell 2
          simp [prC] at x2
          obtain ⟨s', r, hd⟩ : ∃ s' r, doesS s (vowB T V).length true (fun _ => some (vowB T V, (vowB T V).length)) = (s', r) := ⟨_, _, rfl⟩
          clear h4 b4 hbl hbb
          go_wp2_with fail
          refine (on_put s' r nm_state v4 (vowB T V) hvb hvl O4.out H4.out hd).mono ?_
          rintro e w5 ⟨rfl, h5⟩
          have O5 := Lib.hid h5
          have PB5 := (show Blk w5 p 114 _ from h5.keep (_, _) (List.mem_cons_self ..))
          have P5 := Lib.hid PB5
          have z0 := PB5.cell 0
          have z1 := PB5.cell 1
          have z3 := PB5.cell 3
          simp [prC] at z0 z1 z3
          have y0 := PB5.free 0
          have y1 := PB5.free 1
          have y3 := PB5.free 3
          have HD := Lib.hid hd
          clear h5 PB5 hd hvl hvb
          by_cases hr : r = 0
          · subst hr
            go_wp2_with fail
            go_ret
            rw [setS_ok BM.out.symm (by simpa using HS.out) HD.out]
            refine ⟨rfl, O5.out.turn _ (((Kp.refl _ [p]).setCell (.inl (by simp)) _).setCell (.inl (by simp)) _) ?_ HX.out hB⟩
            have k := (P5.out.set_ 0 (.int .u64 T)).set_ 1 (.int .u8 V)
            exact k
          · go_wp2_with fail
            go_ret
            rw [setS_bad BM.out.symm (by simpa using HS.out) HD.out hr]
            refine ⟨rfl, O5.out.turn _ ((Kp.refl _ [p]).setCell (.inl (by simp)) _) ?_ HX.out hB⟩
            have k := P5.out.set_ 3 (.bool true)
            exact k
end Go.Proofs.YtnegondlkfeleaaDoor
