import Derived.Test.YtnegondlkfeleaaDoorPcz
import Derived.Defers
import Derived.Recover
import Derived.RegionTactic
import Derived.BigRegion
/- api.Entry: the deferred closure of packs.get. -/
namespace Go.Proofs.YtnegondlkfeleaaDoor
open Go.RowKit

/-- The deferred closure, where nothing panicked. -/
theorem catch_entry_idle (p q : Addr) (w : World) :
    CallsD Tryd.prog 111 #[.pointer (some p), .pointer (some q)] .returning w fun e u' w' => e = .returned (.tuple #[]) ∧ u' = .returning ∧ w' = w := by
  refine callsD_of_wpS Tryd.func111 rfl fun c₀ cs hu => ?_
  apply wpS_seq
  apply wpS_region
  simp [wpOpsS, go_sem, recoverD, hu, Tryd.ntmps111, Exit.thenS]
  apply wpS_seq
  apply wpS_seq
  apply wpS_region
  simp [wpOpsS, go_sem, Exit.thenS]
  refine wpS_cond (t := true) (by simp [Act.eval, Array.replicate]) ?_
  simp only [if_true]
  refine wpS_of_wp (wp_ret ?_)
  cases c₀
  simp_all [bodyPostS, results, Tryd.results111, Exit.thenS]
theorem assert_entry_wrong (k : Int) (w : World) : (Instr.typeAssert (.iface 177 (.agg #[.int .i64 k])) 20 177 true).run Tryd.prog w = .ok (.tuple #[.agg #[.int .i64 k], .bool true]) w := by
  first
    | kernel_rfl
    | rfl
set_option maxHeartbeats 4000000 in
theorem catch_entry_panicking (p q : Nat) (k : Int) (x0 x1 x2 x3 x4 y : Value) (older : List PanicEntry) (w : World) (hp : Blk w p 59 #[x0, x1, x2, x3, x4]) (hq : Blk w q 40 #[y]) (hne : p ≠ q) :
    CallsD Tryd.prog 111 #[.pointer (some ⟨p, 0, none⟩), .pointer (some ⟨q, 0, none⟩)] (.panicking ({ v := .iface 177 (.agg #[.int .i64 k]), recovered := false } :: older)) w fun e u' w' =>
      e = .returned (.tuple #[]) ∧ u' = .panicking ({ v := .iface 177 (.agg #[.int .i64 k]), recovered := true } :: older) ∧ Blk w' p 59 #[.int .u64 0, .int .u64 0, .int .u8 0, .int .u64 0, .slice none 0 0] ∧ Blk w' q 40 #[.int .i64 k] ∧ Tn w p (some q) w' := by
  have HP := Lib.hid hp
  have HQ := Lib.hid hq
  refine callsD_of_wpS Tryd.func111 rfl fun c₀ cs hu => ?_
  apply wpS_seq
  apply wpS_region
  simp [wpOpsS, go_sem, recoverD, hu, Tryd.ntmps111, Exit.thenS]
  refine wpS_of_wp (Code.wp_mono (Q := fun e a' w' => e = .normal ∧ a'.defers = [] ∧ Blk w' p 59 #[.int .u64 0, .int .u64 0, .int .u8 0, .int .u64 0, .slice none 0 0] ∧ Blk w' q 40 #[.int .i64 k] ∧ Tn w p (some q) w') ?_ ?_)
  · rintro e a' w' ⟨rfl, hd, h1, h2, h3⟩
    simp_all [bodyPostS, results, Tryd.results111]
  show Code.wp Tryd.prog _ _ ⟨#[.pointer (some ⟨p, 0, none⟩), .pointer (some ⟨q, 0, none⟩), .iface 177 (.agg #[.int .i64 k]), undef, undef, undef, .iface 177 (.agg #[.int .i64 k]), undef, undef, undef, undef, undef, undef, undef, undef, undef, undef, undef, undef, undef], []⟩ _
  have hta := assert_entry_wrong k
  have hpl := hp.lt
  have hql := hq.lt
  have n1 : ¬ p = w.heap.size := by omega
  have n2 : ¬ p = w.heap.size + 1 := by omega
  have n3 : ¬ q = w.heap.size := by omega
  have n4 : ¬ q = w.heap.size + 1 := by omega
  have n1' : ¬ w.heap.size = p := by omega
  have n2' : ¬ w.heap.size + 1 = p := by omega
  have n3' : ¬ w.heap.size = q := by omega
  have n4' : ¬ w.heap.size + 1 = q := by omega
  have n5' : ¬ q = p := fun e => hne e.symm
  have f1 := hp.free
  have f2 := hq.free
  have e0 := hp.cell 0
  have e1 := hp.cell 1
  have e2 := hp.cell 2
  have e3 := hp.cell 3
  have e4 := hp.cell 4
  have ey := hq.cell 0
  simp only [List.getElem?_toArray, List.getElem?_cons_zero, List.getElem?_cons_succ] at e0 e1 e2 e3 e4 ey
  clear hu hp hq
  go_wp2_with fail
  go_region
  have hz : (((((#[x0, x1, x2, x3, x4].setIfInBounds 0 (.int .u64 0)).setIfInBounds 1 (.int .u64 0)).setIfInBounds 2 (.int .u8 0)).setIfInBounds 3 (.int .u64 0)).setIfInBounds 4 (.slice none 0 0)) = #[.int .u64 0, .int .u64 0, .int .u8 0, .int .u64 0, .slice none 0 0] := by simp
  have hb1 := (((((HP.out.set_ 0 (.int .u64 0)).set_ 1 (.int .u64 0)).set_ 2 (.int .u8 0)).set_ 3 (.int .u64 0)).set_ 4 (.slice none 0 0))
  rw [hz] at hb1
  have hb2 := (hb1.far (p := ⟨q, 0, none⟩) hne (.int .i64 k))
  have hb3 := ((((((HQ.out.far (p := ⟨p, 0, none⟩) n5' (.int .u64 0)).far (p := ⟨p, 1, none⟩) n5' (.int .u64 0)).far (p := ⟨p, 2, none⟩) n5' (.int .u8 0)).far (p := ⟨p, 3, none⟩) n5' (.int .u64 0)).far (p := ⟨p, 4, none⟩) n5' (.slice none 0 0)).set_ 0 (.int .i64 k))
  have hb4 := (hb2.alloc (.cells #[.int .i64 k] 177)).alloc (.cells #[.int .u64 0, .int .u64 0, .int .u8 0, .int .u64 0, .slice none 0 0] 59)
  have hb5 := (hb3.alloc (.cells #[.int .i64 k] 177)).alloc (.cells #[.int .u64 0, .int .u64 0, .int .u8 0, .int .u64 0, .slice none 0 0] 59)
  refine ⟨rfl, rfl, ?_, ?_, ?_⟩
  · exact hb4.drew
  · exact hb5.drew
  · exact ((((((((Tn.refl w p (some q)).cell (a := ⟨p, 0, none⟩) (.inl rfl) _).cell (a := ⟨p, 1, none⟩) (.inl rfl) _).cell (a := ⟨p, 2, none⟩) (.inl rfl) _).cell (a := ⟨p, 3, none⟩) (.inl rfl) _).cell (a := ⟨p, 4, none⟩) (.inl rfl) _).cell (a := ⟨q, 0, none⟩) (.inr rfl) _).below (below_alloc2_ _ _ _)).below (Below.refl _ _).drew
end Go.Proofs.YtnegondlkfeleaaDoor

/- api.Entry: packs.get, GetEntry. -/
namespace Go.Proofs.YtnegondlkfeleaaDoor
open Go.RowKit

theorem entryQ_ex {a : List Int × List (List Int)} {B : Nat} {w : World} {v : Value} (h : entryQ a B w v) : ∃ x0 x1 x2 x3 r4, ∃ A4 : Option Addr, a = ([x0, x1, x2, x3], r4) ∧ v = .agg #[.int .u64 x0, .int .u64 x1, .int .u8 x2, .int .u64 x3, .slice A4 r4.length r4.length] ∧ Ow B w 107 10 (.slice A4 r4.length r4.length) r4.length (r4.flatMap (fc stepK)) := by
  unfold entryQ at h
  split at h
  · obtain ⟨A4, rfl, h4⟩ := h
    exact ⟨_, _, _, _, _, A4, rfl, rfl, h4⟩
  · exact h.elim
theorem entryQ_mk {x0 x1 x2 x3 : Int} {r4 : List (List Int)} {A4 : Option Addr} {B : Nat} {w : World} (h4 : Ow B w 107 10 (.slice A4 r4.length r4.length) r4.length (r4.flatMap (fc stepK))) : entryQ ([x0, x1, x2, x3], r4) B w (.agg #[.int .u64 x0, .int .u64 x1, .int .u8 x2, .int .u64 x3, .slice A4 r4.length r4.length]) := ⟨A4, rfl, h4⟩
set_option maxHeartbeats 8000000 in
set_option maxRecDepth 100000 in
theorem get_entry_any (v : Value) (xs : List Int) (w : World) (h : Bs w v xs) (hby : ∀ c ∈ xs, byt c) (hl : xs.length ≤ 70368744177664) :
    Calls Tryd.prog 96 #[v, .func (.func 97) #[] #[]] w (GPost (entryP xs) entryQ (.agg #[.int .u64 0, .int .u64 0, .int .u8 0, .int .u64 0, .slice none 0 0]) w) := by
  have hmf : ∀ (fn : Fn) (first cap : Array Value) (w : World), (Instr.makeFunc fn first cap).run Tryd.prog w = .ok (.func fn first cap) w := fun _ _ _ _ => rfl
  have hown : xs.length = 0 ∨ ∀ k, v.ownBlock = some k → k < w.heap.size + 2 := by
    obtain ⟨A, c, rfl, hc, hl, h0 | ⟨g, o, rfl, hg, -⟩⟩ := h
    · exact .inl h0
    · exact .inr fun k hk => by simp [Value.ownBlock] at hk; omega
  have b3 := below_alloc3_ w (.cells #[.int .u64 0, .int .u64 0, .int .u8 0, .int .u64 0, .slice none 0 0] 59) (.cells #[.int .i64 0] 40) (.cells #[v] 181)
  have kp := ((Blk.new w 59 #[.int .u64 0, .int .u64 0, .int .u8 0, .int .u64 0, .slice none 0 0]).alloc (.cells #[.int .i64 0] 40)).alloc (.cells #[v] 181)
  have kq := (Blk.new (w.alloc (.cells #[.int .u64 0, .int .u64 0, .int .u8 0, .int .u64 0, .slice none 0 0] 59)) 40 #[.int .i64 0]).alloc (.cells #[v] 181)
  have kg := Blk.new ((w.alloc (.cells #[.int .u64 0, .int .u64 0, .int .u8 0, .int .u64 0, .slice none 0 0] 59)).alloc (.cells #[.int .i64 0] 40)) 181 #[v]
  simp only [World.size_alloc] at kq kg
  have HG := Lib.hid (show Gt (((w.alloc (.cells #[.int .u64 0, .int .u64 0, .int .u8 0, .int .u64 0, .slice none 0 0] 59)).alloc (.cells #[.int .i64 0] 40)).alloc (.cells #[v] 181)) (w.heap.size + 2) xs from ⟨⟨v, kg, h.below b3, hown⟩, hby, hl⟩)
  obtain ⟨A, c0, rfl, -⟩ := id h
  obtain ⟨m0, hm0⟩ : ∃ m, m = xs.length := ⟨_, rfl⟩
  rw [← hm0] at kp kq HG b3 ⊢
  have KP := Lib.hid kp
  have KQ := Lib.hid kq
  have B3 := Lib.hid b3
  have hne1 : ¬ w.heap.size = w.heap.size + 1 := by omega
  clear h hby hown b3 kp kq kg hm0
  go_enter_defers Tryd.func96, Tryd.ntmps96
  go_wp2_with fail
  refine (gentry_any _ xs _ HG.out).mono ?_
  intro e w1 hp
  rcases hr : entryP xs with k | ⟨a, r⟩
  · unfold SPost at hp
    rw [hr] at hp
    obtain ⟨rfl, hgw⟩ := hp
    have KP1 := Lib.hid (KP.out.grown hgw (by simp))
    have KQ1 := Lib.hid (KQ.out.grown hgw (by simp))
    have BB := Lib.hid (below_grown_ B3.out hgw B3.out.size (by omega))
    clear hgw
    go_wp2
    refine leaves_cons (f := 111) (args := #[.pointer (some ⟨w.heap.size, 0, none⟩), .pointer (some ⟨w.heap.size + 1, 0, none⟩)]) (by simp) (by simp [go_sem]) ?_
    refine (catch_entry_panicking w.heap.size (w.heap.size + 1) k (.int .u64 0) (.int .u64 0) (.int .u8 0) (.int .u64 0) (.slice none 0 0) (.int .i64 0) [] _ KP1.out KQ1.out hne1).mono ?_
    rintro e u' w2 ⟨rfl, rfl, hp2, hq2, ht⟩
    have d0 := hp2.cell 0
    have d1 := hp2.cell 1
    have d2 := hp2.cell 2
    have d3 := hp2.cell 3
    have d4 := hp2.cell 4
    have dq := hq2.cell 0
    simp at d0 d1 d2 d3 d4 dq
    simp [Leaves, settle, results, Tryd.results96, go_sem, d0, d1, d2, d3, d4, dq]
    exact ⟨rfl, BB.out.trans (ht.to_below (Nat.le_refl _) (fun k hk => by cases hk; omega) BB.out.size)⟩
  · unfold SPost at hp
    rw [hr] at hp
    obtain ⟨v1, rfl, hq, hG, hgw⟩ := hp
    obtain ⟨x0, x1, x2, x3, r4, A4, rfl, rfl, ho4⟩ := entryQ_ex hq
    have KP1 := Lib.hid (KP.out.grown hgw (by simp))
    have KQ1 := Lib.hid (KQ.out.grown hgw (by simp))
    have BB := Lib.hid (below_grown_ B3.out hgw B3.out.size (by omega))
    obtain ⟨⟨v2, kg2, hv2, -⟩, -, hl2⟩ := hG
    obtain ⟨A9, c9, rfl, -⟩ := id hv2
    obtain ⟨m9, hm9⟩ : ∃ m, m = r.length := ⟨_, rfl⟩
    rw [← hm9] at kg2 hl2
    have g0 := kg2.cell 0
    simp at g0
    have f1 := KP1.out.free
    have f2 := KQ1.out.free
    have z0 := KP1.out.cell 0
    have z1 := KP1.out.cell 1
    have z2 := KP1.out.cell 2
    have z3 := KP1.out.cell 3
    have z4 := KP1.out.cell 4
    have zq := KQ1.out.cell 0
    simp at z0 z1 z2 z3 z4 zq
    have hb1 := (((((KP1.out.set_ 0 (.int .u64 x0)).set_ 1 (.int .u64 x1)).set_ 2 (.int .u8 x2)).set_ 3 (.int .u64 x3)).set_ 4 (.slice A4 r4.length r4.length))
    rw [show ((((((#[.int .u64 0, .int .u64 0, .int .u8 0, .int .u64 0, .slice none 0 0] : Array Value).setIfInBounds 0 (.int .u64 x0)).setIfInBounds 1 (.int .u64 x1)).setIfInBounds 2 (.int .u8 x2)).setIfInBounds 3 (.int .u64 x3)).setIfInBounds 4 (.slice A4 r4.length r4.length)) = #[.int .u64 x0, .int .u64 x1, .int .u8 x2, .int .u64 x3, .slice A4 r4.length r4.length] from by simp] at hb1
    have hb2 := (((((KQ1.out.far (p := ⟨w.heap.size, 0, none⟩) (by simp) (.int .u64 x0)).far (p := ⟨w.heap.size, 1, none⟩) (by simp) (.int .u64 x1)).far (p := ⟨w.heap.size, 2, none⟩) (by simp) (.int .u8 x2)).far (p := ⟨w.heap.size, 3, none⟩) (by simp) (.int .u64 x3)).far (p := ⟨w.heap.size, 4, none⟩) (by simp) (.slice A4 r4.length r4.length))
    have M9 := Lib.hid hm9
    have HR := Lib.hid hr
    have ne1 : ¬ w.heap.size + 2 = w.heap.size := by omega
    have ne2 : ¬ w.heap.size + 1 = w.heap.size := by omega
    have HB1 := Lib.hid hb1
    have HB2 := Lib.hid hb2
    have KG := Lib.hid kg2
    clear hq hgw kg2 hv2 hm9 hr hb1 hb2
    have O4 := Lib.hid ho4
    clear ho4
    by_cases hr0 : m9 = 0
    · subst hr0
      go_wp2
      refine leaves_cons (f := 111) (args := #[.pointer (some ⟨w.heap.size, 0, none⟩), .pointer (some ⟨w.heap.size + 1, 0, none⟩)]) (by simp) (by simp [go_sem]) ?_
      refine (catch_entry_idle _ _ _).mono ?_
      rintro e u' w2 ⟨rfl, rfl, rfl⟩
      have hb3 := ((((((HB1.out.set_ 0 (.int .u64 x0)).set_ 1 (.int .u64 x1)).set_ 2 (.int .u8 x2)).set_ 3 (.int .u64 x3)).set_ 4 (.slice A4 r4.length r4.length)).far (p := ⟨w.heap.size + 1, 0, none⟩) (by simp) (.int .i64 0))
      rw [show ((((((#[.int .u64 x0, .int .u64 x1, .int .u8 x2, .int .u64 x3, .slice A4 r4.length r4.length] : Array Value).setIfInBounds 0 (.int .u64 x0)).setIfInBounds 1 (.int .u64 x1)).setIfInBounds 2 (.int .u8 x2)).setIfInBounds 3 (.int .u64 x3)).setIfInBounds 4 (.slice A4 r4.length r4.length)) = #[.int .u64 x0, .int .u64 x1, .int .u8 x2, .int .u64 x3, .slice A4 r4.length r4.length] from by simp] at hb3
      have hb4 := ((((((HB2.out.far (p := ⟨w.heap.size, 0, none⟩) (by simp) (.int .u64 x0)).far (p := ⟨w.heap.size, 1, none⟩) (by simp) (.int .u64 x1)).far (p := ⟨w.heap.size, 2, none⟩) (by simp) (.int .u8 x2)).far (p := ⟨w.heap.size, 3, none⟩) (by simp) (.int .u64 x3)).far (p := ⟨w.heap.size, 4, none⟩) (by simp) (.slice A4 r4.length r4.length)).set_ 0 (.int .i64 0))
      have d0 := hb3.cell 0
      have d1 := hb3.cell 1
      have d2 := hb3.cell 2
      have d3 := hb3.cell 3
      have d4 := hb3.cell 4
      have dq := hb4.cell 0
      simp at d0 d1 d2 d3 d4 dq
      simp [Leaves, settle, results, Tryd.results96, go_sem, d0, d1, d2, d3, d4, dq]
      obtain rfl : r = [] := List.eq_nil_of_length_eq_zero M9.out.symm
      have hq1 : w.heap.size < (((w.alloc (.cells #[.int .u64 0, .int .u64 0, .int .u8 0, .int .u64 0, .slice none 0 0] 59)).alloc (.cells #[.int .i64 0] 40)).alloc (.cells #[.slice A m0 c0] 181)).heap.size := by simp <;> omega
      have hq2 : w.heap.size + 1 < (((w.alloc (.cells #[.int .u64 0, .int .u64 0, .int .u8 0, .int .u64 0, .slice none 0 0] 59)).alloc (.cells #[.int .i64 0] 40)).alloc (.cells #[.slice A m0 c0] 181)).heap.size := by simp <;> omega
      have hq3 : w.heap.size ≤ (((w.alloc (.cells #[.int .u64 0, .int .u64 0, .int .u8 0, .int .u64 0, .slice none 0 0] 59)).alloc (.cells #[.int .i64 0] 40)).alloc (.cells #[.slice A m0 c0] 181)).heap.size := by simp <;> omega
      have hw4 := (((((((((((O4.out.far (p := ⟨w.heap.size, 0, none⟩) hq1 (.int .u64 x0)).far (p := ⟨w.heap.size, 1, none⟩) hq1 (.int .u64 x1)).far (p := ⟨w.heap.size, 2, none⟩) hq1 (.int .u8 x2)).far (p := ⟨w.heap.size, 3, none⟩) hq1 (.int .u64 x3)).far (p := ⟨w.heap.size, 4, none⟩) hq1 (.slice A4 r4.length r4.length)).far (p := ⟨w.heap.size, 0, none⟩) hq1 (.int .u64 x0)).far (p := ⟨w.heap.size, 1, none⟩) hq1 (.int .u64 x1)).far (p := ⟨w.heap.size, 2, none⟩) hq1 (.int .u8 x2)).far (p := ⟨w.heap.size, 3, none⟩) hq1 (.int .u64 x3)).far (p := ⟨w.heap.size, 4, none⟩) hq1 (.slice A4 r4.length r4.length)).far (p := ⟨w.heap.size + 1, 0, none⟩) hq2 (.int .i64 0)).le hq3
      have hbel := ((((((((((BB.out.setCell (p := ⟨w.heap.size, 0, none⟩) (Nat.le_refl _) (.int .u64 x0)).setCell (p := ⟨w.heap.size, 1, none⟩) (Nat.le_refl _) (.int .u64 x1)).setCell (p := ⟨w.heap.size, 2, none⟩) (Nat.le_refl _) (.int .u8 x2)).setCell (p := ⟨w.heap.size, 3, none⟩) (Nat.le_refl _) (.int .u64 x3)).setCell (p := ⟨w.heap.size, 4, none⟩) (Nat.le_refl _) (.slice A4 r4.length r4.length)).setCell (p := ⟨w.heap.size, 0, none⟩) (Nat.le_refl _) (.int .u64 x0)).setCell (p := ⟨w.heap.size, 1, none⟩) (Nat.le_refl _) (.int .u64 x1)).setCell (p := ⟨w.heap.size, 2, none⟩) (Nat.le_refl _) (.int .u8 x2)).setCell (p := ⟨w.heap.size, 3, none⟩) (Nat.le_refl _) (.int .u64 x3)).setCell (p := ⟨w.heap.size, 4, none⟩) (Nat.le_refl _) (.slice A4 r4.length r4.length)).setCell (p := ⟨w.heap.size + 1, 0, none⟩) (Nat.le_succ _) (.int .i64 0)
      exact gpost_ok HR.out (entryQ_mk hw4) hbel
    · have hr0' : 0 < (m9 : Int) := by omega
      have hbp := Lib.hid ((((((BB.out.setCell (p := ⟨w.heap.size, 0, none⟩) (Nat.le_refl _) (.int .u64 x0)).setCell (p := ⟨w.heap.size, 1, none⟩) (Nat.le_refl _) (.int .u64 x1)).setCell (p := ⟨w.heap.size, 2, none⟩) (Nat.le_refl _) (.int .u8 x2)).setCell (p := ⟨w.heap.size, 3, none⟩) (Nat.le_refl _) (.int .u64 x3)).setCell (p := ⟨w.heap.size, 4, none⟩) (Nat.le_refl _) (.slice A4 r4.length r4.length)))
      have hb9 := (((((KG.out.far (p := ⟨w.heap.size, 0, none⟩) (by simp) (.int .u64 x0)).far (p := ⟨w.heap.size, 1, none⟩) (by simp) (.int .u64 x1)).far (p := ⟨w.heap.size, 2, none⟩) (by simp) (.int .u8 x2)).far (p := ⟨w.heap.size, 3, none⟩) (by simp) (.int .u64 x3)).far (p := ⟨w.heap.size, 4, none⟩) (by simp) (.slice A4 r4.length r4.length))
      have HB9 := Lib.hid hb9
      clear hb9
      go_upto_region 4 with fail
      generalize (((((w1.setCell ⟨w.heap.size, 0, none⟩ (.int .u64 x0)).setCell ⟨w.heap.size, 1, none⟩ (.int .u64 x1)).setCell ⟨w.heap.size, 2, none⟩ (.int .u8 x2)).setCell ⟨w.heap.size, 3, none⟩ (.int .u64 x3)).setCell ⟨w.heap.size, 4, none⟩ (.slice A4 r4.length r4.length)) = W2 at HB1 HB2 HB9 hbp ⊢
      clear f1 f2 g0 z0 z1 z2 z3 z4 zq
      have g9 := HB9.out.cell 0
      simp at g9
      go_wp2
      refine leaves_cons (f := 111) (args := #[.pointer (some ⟨w.heap.size, 0, none⟩), .pointer (some ⟨w.heap.size + 1, 0, none⟩)]) (by simp) (by simp [go_sem]) ?_
      refine (catch_entry_panicking w.heap.size (w.heap.size + 1) 4 (.int .u64 x0) (.int .u64 x1) (.int .u8 x2) (.int .u64 x3) (.slice A4 r4.length r4.length) (.int .i64 0) [] _ HB1.out HB2.out hne1).mono ?_
      rintro e u' w2 ⟨rfl, rfl, hp2, hq2, ht⟩
      have d0 := hp2.cell 0
      have d1 := hp2.cell 1
      have d2 := hp2.cell 2
      have d3 := hp2.cell 3
      have d4 := hp2.cell 4
      have dq := hq2.cell 0
      simp at d0 d1 d2 d3 d4 dq
      simp [Leaves, settle, results, Tryd.results96, go_sem, d0, d1, d2, d3, d4, dq]
      have hbel := Below.trans hbp.out (ht.to_below (Nat.le_refl _) (fun k hk => by cases hk; omega) (by have := hbp.out.size; omega))
      exact gpost_more HR.out (fun e => hr0 (M9.out.trans e)) hbel
set_option maxHeartbeats 4000000 in
set_option maxRecDepth 100000 in
theorem Get_entry_any (v : Value) (xs : List Int) (w : World) (h : Bs w v xs) (hby : ∀ c ∈ xs, byt c) (hl : xs.length ≤ 70368744177664) :
    Calls Tryd.prog 72 #[v] w (GPost (entryP xs) entryQ (.agg #[.int .u64 0, .int .u64 0, .int .u8 0, .int .u64 0, .slice none 0 0]) w) := by
  have b1 := below_alloc_ w (.cells #[.int .u64 0, .int .u64 0, .int .u8 0, .int .u64 0, .slice none 0 0] 59)
  have KP := Lib.hid (Blk.new w 59 #[.int .u64 0, .int .u64 0, .int .u8 0, .int .u64 0, .slice none 0 0])
  have HB := Lib.hid (h.below b1)
  have HY := Lib.hid hby
  have B1 := Lib.hid b1
  obtain ⟨A, c0, rfl, -⟩ := id h
  clear h hby b1
  go_enter Tryd.func72, Tryd.ntmps72
  go_wp2_with fail
  refine (get_entry_any _ xs _ HB.out HY.out hl).mono ?_
  intro e w1 hp
  unfold GPost at hp
  rcases hr : allP (entryP xs) with k | a
  · rw [hr] at hp
    obtain ⟨rfl, hb⟩ := hp
    have KP1 := Lib.hid (KP.out.below hb KP.out.lt)
    have BB := Lib.hid (B1.out.trans (hb.mono (by simp)))
    have HR := Lib.hid hr
    clear hb hr
    have f1 := KP1.out.free
    have z0 := KP1.out.cell 0
    have z1 := KP1.out.cell 1
    have z2 := KP1.out.cell 2
    have z3 := KP1.out.cell 3
    have z4 := KP1.out.cell 4
    simp at z0 z1 z2 z3 z4
    go_wp2
    have hb1 := (((((KP1.out.set_ 0 (.int .u64 0)).set_ 1 (.int .u64 0)).set_ 2 (.int .u8 0)).set_ 3 (.int .u64 0)).set_ 4 (.slice none 0 0))
    have d0 := hb1.cell 0
    have d1 := hb1.cell 1
    have d2 := hb1.cell 2
    have d3 := hb1.cell 3
    have d4 := hb1.cell 4
    simp at d0 d1 d2 d3 d4
    refine bodyPost_ret (v := .tuple #[.agg #[.int .u64 0, .int .u64 0, .int .u8 0, .int .u64 0, .slice none 0 0], .int .i64 k]) (by simp [results, Tryd.results72, go_sem, d0, d1, d2, d3, d4]) rfl ?_
    have hbel := (((((BB.out.setCell (p := ⟨w.heap.size, 0, none⟩) (Nat.le_refl _) (.int .u64 0)).setCell (p := ⟨w.heap.size, 1, none⟩) (Nat.le_refl _) (.int .u64 0)).setCell (p := ⟨w.heap.size, 2, none⟩) (Nat.le_refl _) (.int .u8 0)).setCell (p := ⟨w.heap.size, 3, none⟩) (Nat.le_refl _) (.int .u64 0)).setCell (p := ⟨w.heap.size, 4, none⟩) (Nat.le_refl _) (.slice none 0 0))
    exact gpost_allerr HR.out hbel
  · rw [hr] at hp
    obtain ⟨v1, rfl, hq, hb⟩ := hp
    obtain ⟨x0, x1, x2, x3, r4, A4, rfl, rfl, ho4⟩ := entryQ_ex hq
    have KP1 := Lib.hid (KP.out.below hb KP.out.lt)
    have BB := Lib.hid (B1.out.trans (hb.mono (by simp)))
    have HR := Lib.hid hr
    have O4 := Lib.hid ho4
    clear ho4
    clear hq hb hr
    have f1 := KP1.out.free
    have z0 := KP1.out.cell 0
    have z1 := KP1.out.cell 1
    have z2 := KP1.out.cell 2
    have z3 := KP1.out.cell 3
    have z4 := KP1.out.cell 4
    simp at z0 z1 z2 z3 z4
    go_wp2
    have hb1 := (((((KP1.out.set_ 0 (.int .u64 x0)).set_ 1 (.int .u64 x1)).set_ 2 (.int .u8 x2)).set_ 3 (.int .u64 x3)).set_ 4 (.slice A4 r4.length r4.length))
    have d0 := hb1.cell 0
    have d1 := hb1.cell 1
    have d2 := hb1.cell 2
    have d3 := hb1.cell 3
    have d4 := hb1.cell 4
    simp at d0 d1 d2 d3 d4
    refine bodyPost_ret (v := .tuple #[.agg #[.int .u64 x0, .int .u64 x1, .int .u8 x2, .int .u64 x3, .slice A4 r4.length r4.length], .int .i64 0]) (by simp [results, Tryd.results72, go_sem, d0, d1, d2, d3, d4]) rfl ?_
    have hbel := (((((BB.out.setCell (p := ⟨w.heap.size, 0, none⟩) (Nat.le_refl _) (.int .u64 x0)).setCell (p := ⟨w.heap.size, 1, none⟩) (Nat.le_refl _) (.int .u64 x1)).setCell (p := ⟨w.heap.size, 2, none⟩) (Nat.le_refl _) (.int .u8 x2)).setCell (p := ⟨w.heap.size, 3, none⟩) (Nat.le_refl _) (.int .u64 x3)).setCell (p := ⟨w.heap.size, 4, none⟩) (Nat.le_refl _) (.slice A4 r4.length r4.length))
    have hw4 := (((((O4.out.far (p := ⟨w.heap.size, 0, none⟩) (by simp) (.int .u64 x0)).far (p := ⟨w.heap.size, 1, none⟩) (by simp) (.int .u64 x1)).far (p := ⟨w.heap.size, 2, none⟩) (by simp) (.int .u8 x2)).far (p := ⟨w.heap.size, 3, none⟩) (by simp) (.int .u64 x3)).far (p := ⟨w.heap.size, 4, none⟩) (by simp) (.slice A4 r4.length r4.length)).le (B' := w.heap.size) (by simp)
    exact gpost_all HR.out (entryQ_mk hw4) hbel
end Go.Proofs.YtnegondlkfeleaaDoor
