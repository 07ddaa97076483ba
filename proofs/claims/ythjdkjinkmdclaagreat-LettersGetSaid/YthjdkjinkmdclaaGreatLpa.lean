/- Letters: putting, part by part: the code's. -/
import Derived.Test.YthjdkjinkmdclaaGreatLpl
import Derived.Test.YthjdkjinkmdclaaGreatBfn
import Derived.Deep.RegionLaw
import Derived.Deep.RegionHeldLaw
import Derived.RegionTactic
import Derived.BigRegion
namespace Go.Proofs.YthjdkjinkmdclaaGreat
open Go.RowKit

/-- Putting, in block p, since the world W0; the letter in block l. -/
structure Lp (W0 w : World) (p l : Nat) (cs : Array Value) (xs : List Int) (bad : Bool) : Prop where
  ex : ∃ v, Blk w p 67 #[v, .bool bad] ∧ Bf W0.heap.size W0 w v xs
  lb : Blk w l 36 cs
  p0 : W0.heap.size ≤ p
  l0 : W0.heap.size ≤ l
/-- What a step keeps: all blocks but p, and bytes. -/
def Ks (w w' : World) (p : Nat) : Prop := w.heap.size ≤ w'.heap.size ∧ ∀ g t cs, g ≠ p → t ≠ 5 → Blk w g t cs → Blk w' g t cs
theorem Ks.refl (w : World) (p : Nat) : Ks w w p := ⟨Nat.le_refl _, fun _ _ _ _ _ h => h⟩
theorem Ks.trans {a b c : World} {p : Nat} (h : Ks a b p) (k : Ks b c p) : Ks a c p := ⟨Nat.le_trans h.1 k.1, fun g t cs h1 h2 hk => k.2 g t cs h1 h2 (h.2 g t cs h1 h2 hk)⟩
theorem Ks.below {w w' : World} (h : Below w.heap.size w w') (p : Nat) : Ks w w' p := ⟨h.size, fun _ _ _ _ _ hk => hk.below h hk.lt⟩
theorem Ks.set {w : World} {p i : Nat} (u : Value) : Ks w (w.setCell ⟨p, i, none⟩ u) p := ⟨by simp [World.setCell], fun _ _ _ h1 _ hk => hk.far (p := ⟨p, i, none⟩) h1 u⟩
theorem Ks.grew {w w' : World} {v v' : Value} {B n size : Nat} {xs : List Value} (h : Grew w w' v v') (ho : Ow B w 5 size v n xs) (p : Nat) : Ks w w' p :=
  ⟨h.1.size, fun _ _ _ _ h2 hk => hk.grown h.1 (fun e => Ow.notat ho hk h2 e.symm)⟩
theorem Lp.ne {W0 w : World} {p l : Nat} {cs : Array Value} {xs : List Int} {bad : Bool} (h : Lp W0 w p l cs xs bad) : l ≠ p := by
  obtain ⟨v, hk, -⟩ := h.ex; exact h.lb.ne_ hk (by decide)
theorem Lp.below {W0 w w' : World} {p l : Nat} {cs : Array Value} {xs : List Int} {bad : Bool} (h : Lp W0 w p l cs xs bad) (hb : Below w.heap.size w w') : Lp W0 w' p l cs xs bad := by
  obtain ⟨v, hk, hf⟩ := h.ex
  exact ⟨⟨v, hk.below hb hk.lt, hf.below hb⟩, h.lb.below hb h.lb.lt, h.p0, h.l0⟩
theorem Lp.bel {W0 w : World} {p l : Nat} {cs : Array Value} {xs : List Int} {bad : Bool} (h : Lp W0 w p l cs xs bad) : Below W0.heap.size W0 w := by
  obtain ⟨v, -, hf⟩ := h.ex; exact hf.bel
/-- A new buffer is stored. -/
theorem Lp.store {W0 w : World} {p l : Nat} {cs : Array Value} {v v' : Value} {xs : List Int} {bad : Bool} (hk : Blk w p 67 #[v, .bool bad]) (hf : Bf W0.heap.size W0 w v' xs) (hl : Blk w l 36 cs) (hne : l ≠ p) (p0 : W0.heap.size ≤ p) (l0 : W0.heap.size ≤ l) :
    Lp W0 (w.setCell ⟨p, 0, none⟩ v') p l cs xs bad := by
  refine ⟨⟨v', by have := hk.set_ 0 v'; simpa using this, ⟨Ow.aside hf.own hk (by decide) 0 v', hf.bel.setCell p0 _, by have := hf.le; simpa [World.setCell] using this⟩⟩, hl.far (p := ⟨p, 0, none⟩) hne _, p0, l0⟩
/-- It is marked. -/
theorem Lp.mark {W0 w : World} {p l : Nat} {cs : Array Value} {xs : List Int} {bad : Bool} (h : Lp W0 w p l cs xs bad) (b : Bool) : Lp W0 (w.setCell ⟨p, 1, none⟩ (.bool b)) p l cs xs b := by
  obtain ⟨v, hk, hf⟩ := h.ex
  exact ⟨⟨v, by have := hk.set_ 1 (.bool b); simpa using this, ⟨Ow.aside hf.own hk (by decide) 1 _, hf.bel.setCell h.p0 _, by have := hf.le; simpa [World.setCell] using this⟩⟩, h.lb.far (p := ⟨p, 1, none⟩) h.ne _, h.p0, h.l0⟩

theorem Lp.drew {W0 w : World} {p l : Nat} {cs : Array Value} {xs : List Int} {bad : Bool} (h : Lp W0 w p l cs xs bad) : Lp W0 w.drew p l cs xs bad := h.below (Below.refl _ _).drew
theorem Ks.drew (w : World) (p : Nat) : Ks w w.drew p := Ks.below (Below.refl _ _).drew p
theorem Bs.one_ (w : World) (z : Int) : Bs (w.alloc (.cells #[.int .u8 z] 5)) (.slice (some ⟨w.heap.size, 0, none⟩) 1 1) [z] :=
  ⟨_, 1, rfl, Nat.le_refl _, rfl, .inr ⟨w.heap.size, 0, rfl, by simp, fun j u hu => by rw [Nat.zero_add]; exact ((Blk.new w 5 #[.int .u8 z]).cell j).trans (by simpa [bc] using hu)⟩⟩
set_option maxHeartbeats 2000000 in
set_option maxRecDepth 100000 in
theorem lnum_any {W0 w : World} {p l : Nat} {cs : Array Value} {xs : List Int} {bad : Bool} (h : Lp W0 w p l cs xs bad) (g o : Nat) (n : Nat) (hc : w.cell? ⟨g, o, none⟩ = some (.int .u64 (n : Int))) (hn : n < 18446744073709551616) (hl : xs.length ≤ 70368744177664) :
    Calls Tryz.prog 88 #[.pointer (some ⟨p, 0, none⟩), .pointer (some ⟨g, o, none⟩)] w fun e w' => e = .returned (.tuple #[]) ∧ Lp W0 w' p l cs (xs ++ nb n) bad ∧ Ks w w' p := by
  have H := Lib.hid h.drew
  obtain ⟨v, hk, hf⟩ := h.ex
  obtain ⟨v', hk', hf'⟩ := h.drew.ex
  have c0 := hk.cell 0
  simp only [List.getElem?_toArray, List.getElem?_cons_zero] at c0
  obtain rfl : v' = v := by have := hk'.cell 0; simp only [List.getElem?_toArray, List.getElem?_cons_zero] at this; exact Option.some.inj (this.symm.trans c0)
  have HK := Lib.hid hk'
  have HF := Lib.hid hf'
  obtain ⟨A, m, q, rfl⟩ := hf.own.sl
  clear hk hf h hk' hf'
  go_enter Tryz.func88, Tryz.ntmps88
  go_wp2_with fail
  go_region_law (go_simp; go_at_call 95; refine (num_any _ xs n _ HF.out.own.bs hn hl).mono ?_; rintro e w1 ⟨v1, rfl, ho, hb⟩; obtain ⟨A1, m1, k1, rfl⟩ := ho.sl; have HK1 := Lib.hid (HK.out.below hb HK.out.lt); have HO1 := Lib.hid ho; have HB1 := Lib.hid hb; have f1 := HK1.out.free; have c1 := HK1.out.cell 0; simp only [List.getElem?_toArray, List.getElem?_cons_zero] at c1; clear ho hb)
  all_goals
    refine bodyPost_end (results_none rfl _ _ _) rfl ⟨rfl, Lp.store HK1.out (HF.out.next HO1.out HB1.out) (H.out.lb.below HB1.out H.out.lb.lt) H.out.ne H.out.p0 H.out.l0, ?_⟩
    exact ((Ks.drew w p).trans (Ks.below HB1.out p)).trans (Ks.set _)

set_option maxHeartbeats 2000000 in
set_option maxRecDepth 100000 in
theorem lone_any {W0 w : World} {p l : Nat} {cs : Array Value} {xs : List Int} {bad : Bool} (h : Lp W0 w p l cs xs bad) (g o : Nat) (c : Int) (hc : w.cell? ⟨g, o, none⟩ = some (.int .u8 c)) (hl : xs.length ≤ 70368744177664) :
    Calls Tryz.prog 89 #[.pointer (some ⟨p, 0, none⟩), .pointer (some ⟨g, o, none⟩)] w fun e w' => e = .returned (.tuple #[]) ∧ Lp W0 w' p l cs (xs ++ [c]) bad ∧ Ks w w' p := by
  have H := Lib.hid h.drew
  obtain ⟨v, hk, hf⟩ := h.ex
  obtain ⟨v', hk', hf'⟩ := h.drew.ex
  have c0 := hk.cell 0
  simp only [List.getElem?_toArray, List.getElem?_cons_zero] at c0
  obtain rfl : v' = v := by have := hk'.cell 0; simp only [List.getElem?_toArray, List.getElem?_cons_zero] at this; exact Option.some.inj (this.symm.trans c0)
  have HK := Lib.hid hk'
  have HF := Lib.hid hf'
  obtain ⟨A, m, q, rfl⟩ := hf.own.sl
  have GA := Lib.hid (show Bf W0.heap.size W0 (w.alloc (.cells #[.int .u8 c] 5)).drew _ _ from (hf.alloc (.cells #[.int .u8 c] 5)).below (Below.refl _ _).drew)
  have LA := Lib.hid (show Bs (w.alloc (.cells #[.int .u8 c] 5)).drew _ [c] from Bs.one_ w c)
  have KA := Lib.hid (show Blk (w.alloc (.cells #[.int .u8 c] 5)).drew p 67 _ from hk.alloc _)
  have c0' := (hk.alloc (.cells #[.int .u8 c] 5)).cell 0
  simp only [List.getElem?_toArray, List.getElem?_cons_zero] at c0'
  have hc' : (w.alloc (.cells #[.int .u8 c] 5)).cell? ⟨g, o, none⟩ = some (.int .u8 c) := cell_on (below_alloc_ w _) (block_lt_of_cell hc) hc
  clear hk hf h hk' hf'
  go_enter Tryz.func89, Tryz.ntmps89
  go_wp2_with fail
  go_region_law (refine step_bf_bytes rfl _ _ 25 rfl Tryz.underlying25 rfl GA.out LA.out rfl (by simp only [List.length_cons, List.length_nil]; omega) ?_; intro v2 w2 hB2 hK2; obtain ⟨A2, m2, k2, rfl⟩ := hB2.own.sl; have hk2 := Blk.grown KA.out hK2.1 (fun e => Ow.notat GA.out.own KA.out (by decide) e.symm); have f1 := hk2.free; have c1 := hk2.cell 0; simp only [List.getElem?_toArray, List.getElem?_cons_zero] at c1; have HK2 := Lib.hid hk2; have HG2 := Lib.hid hK2; have HB2 := Lib.hid hB2; clear hk2 hB2 hK2)
  all_goals
    have hlb := (show Blk (w.alloc (.cells #[.int .u8 c] 5)).drew l 36 cs from H.out.lb.alloc (.cells #[.int .u8 c] 5)).grown HG2.out.1 (fun e => Ow.notat GA.out.own (show Blk (w.alloc (.cells #[.int .u8 c] 5)).drew l 36 cs from H.out.lb.alloc (.cells #[.int .u8 c] 5)) (by decide) e.symm)
    refine bodyPost_end (results_none rfl _ _ _) rfl ⟨rfl, Lp.store HK2.out HB2.out hlb H.out.ne H.out.p0 H.out.l0, ?_⟩
    exact (((Ks.below (below_alloc_ w (.cells #[.int .u8 c] 5)) p).trans (Ks.drew _ p)).trans (Ks.grew HG2.out GA.out.own p)).trans (Ks.set _)

theorem cell_far_ {w : World} {a p : Addr} (h : a.block ≠ p.block) (u : Value) : (w.setCell p u).cell? a = w.cell? a := by
  rw [World.cell?_setCell_other]
  rintro rfl
  exact h rfl
/-- Bytes stand where a cell of another block is set. -/
theorem Bs.set_ {w : World} {g t : Nat} {cs : Array Value} {v : Value} {xs : List Int} (hk : Blk w g t cs) (hcs : ∀ (j : Nat) (c : Int), cs[j]? ≠ some (.int .u8 c)) (h : Bs w v xs) (i : Nat) (u : Value) : Bs (w.setCell ⟨g, i, none⟩ u) v xs := by
  obtain ⟨A, c, rfl, hc, hl, hh⟩ := h
  refine ⟨A, c, rfl, hc, hl, ?_⟩
  rcases hh with h0 | ⟨b, o, rfl, hb, hcell⟩
  · exact .inl h0
  · rcases Nat.eq_zero_or_pos xs.length with h0 | hpos
    · exact .inl h0
    · have hne : b ≠ g := by
        rintro rfl
        obtain ⟨x, r, rfl⟩ : ∃ x r, xs = x :: r := by cases xs with | nil => simp at hpos | cons x r => exact ⟨x, r, rfl⟩
        have h0 := hcell 0 (.int .u8 x) rfl
        rw [hk.cell] at h0
        exact hcs _ _ h0
      refine .inr ⟨b, o, rfl, by simpa [World.setCell] using hb, fun j u' hu => ?_⟩
      rw [cell_far_ (by exact hne)]
      exact hcell j u' hu
theorem put_cells (v : Value) (b : Bool) (hv : ∀ c, v ≠ .int .u8 c) (j : Nat) (c : Int) : (#[v, .bool b] : Array Value)[j]? ≠ some (.int .u8 c) := by
  match j with
  | 0 => simpa using hv c
  | 1 => simp
  | j + 2 => simp

set_option maxHeartbeats 2000000 in
set_option maxRecDepth 100000 in
theorem lyes_any {W0 w : World} {p l : Nat} {cs : Array Value} {xs : List Int} {bad : Bool} (h : Lp W0 w p l cs xs bad) (g o : Nat) (y : Bool) (hc : w.cell? ⟨g, o, none⟩ = some (.bool y)) (hl : xs.length ≤ 70368744177664) :
    Calls Tryz.prog 92 #[.pointer (some ⟨p, 0, none⟩), .pointer (some ⟨g, o, none⟩)] w fun e w' => e = .returned (.tuple #[]) ∧ Lp W0 w' p l cs (xs ++ [if y then 1 else 0]) bad ∧ Ks w w' p := by
  have hc' : (w.alloc (.cells #[.int .u8 0] 5)).cell? ⟨g, o, none⟩ = some (.bool y) := cell_on (below_alloc_ w _) (block_lt_of_cell hc) hc
  have b1 := below_alloc_ w (.cells #[.int .u8 0] 5)
  have b2 := below_alloc_ w (.cells #[.int .u8 1] 5)
  have x1 : (w.alloc (.cells #[.int .u8 0] 5)).cell? ⟨w.heap.size, 0, none⟩ = some (.int .u8 0) := ((Blk.new w 5 #[.int .u8 0]).cell 0).trans rfl
  have x2 : (w.alloc (.cells #[.int .u8 1] 5)).cell? ⟨w.heap.size, 0, none⟩ = some (.int .u8 1) := ((Blk.new w 5 #[.int .u8 1]).cell 0).trans rfl
  have H := Lib.hid h
  have H1 := Lib.hid (lone_any (h.below b1) w.heap.size 0 0 x1 hl)
  have H2 := Lib.hid (lone_any (h.below b2) w.heap.size 0 1 x2 hl)
  have B1 := Lib.hid b1
  have B2 := Lib.hid b2
  clear b1 b2 x1 x2 h hc
  cases y
  · go_enter Tryz.func92, Tryz.ntmps92
    go_wp2_with fail
    refine H1.out.mono ?_
    rintro e w' ⟨rfl, h1, h2⟩
    go_wp2
    exact bodyPost_end (results_none rfl _ _ _) rfl ⟨rfl, h1, (Ks.below B1.out p).trans h2⟩
  · go_enter Tryz.func92, Tryz.ntmps92
    go_wp2_with fail
    refine H2.out.mono ?_
    rintro e w' ⟨rfl, h1, h2⟩
    go_wp2
    exact bodyPost_end (results_none rfl _ _ _) rfl ⟨rfl, h1, (Ks.below B2.out p).trans h2⟩

set_option maxHeartbeats 4000000 in
set_option maxRecDepth 100000 in
theorem ltext_any {W0 w : World} {p l : Nat} {cs : Array Value} {xs : List Int} {bad : Bool} (h : Lp W0 w p l cs xs bad) (g o : Nat) (bv : Value) (bs : List Int) (hg : g ≠ p) (hc : w.cell? ⟨g, o, none⟩ = some bv) (hbs : Bs w bv bs) (hl : xs.length ≤ 1000000000000) (hb : bs.length ≤ 1000000000000) :
    Calls Tryz.prog 91 #[.pointer (some ⟨p, 0, none⟩), .pointer (some ⟨g, o, none⟩)] w fun e w' => e = .returned (.tuple #[]) ∧ Lp W0 w' p l cs (xs ++ textB bs) (bad || decide (65536 < bs.length)) ∧ Ks w w' p := by
  obtain ⟨Ab, cb, rfl, hcb, -⟩ := id hbs
  obtain ⟨n, hn⟩ : ∃ n, n = bs.length := ⟨_, rfl⟩
  have N := Lib.hid hn
  have HB := Lib.hid hbs
  have H := Lib.hid h
  have HC := Lib.hid hc
  rw [← hn] at HB HC hb hcb hc ⊢
  clear h hbs hn
  go_enter Tryz.func91, Tryz.ntmps91
  go_upto_region 0 with fail
  go_cut [] (fun wx => Lp W0 wx p l cs xs (bad || decide (65536 < n)) ∧ wx.cell? ⟨g, o, none⟩ = some (.slice Ab n cb) ∧ Bs wx (.slice Ab n cb) bs ∧ Ks w wx p)
  case first =>
    obtain ⟨v, hk, hf⟩ := H.out.ex
    obtain ⟨A, m, q, rfl⟩ := hf.own.sl
    have c1 := hk.cell 1
    have fr := hk.free
    simp only [List.getElem?_toArray, List.getElem?_cons_zero, List.getElem?_cons_succ] at c1
    have HK := Lib.hid hk
    have fin : ∀ b', Lp W0 (w.setCell ⟨p, 1, none⟩ (.bool b')) p l cs xs b' ∧ (w.setCell ⟨p, 1, none⟩ (.bool b')).cell? ⟨g, o, none⟩ = some (.slice Ab n cb) ∧ Bs (w.setCell ⟨p, 1, none⟩ (.bool b')) (.slice Ab n cb) bs ∧ Ks w (w.setCell ⟨p, 1, none⟩ (.bool b')) p := fun b' =>
      ⟨H.out.mark b', by rw [cell_far_ (by exact hg)]; exact HC.out, Bs.set_ HK.out (put_cells _ _ (by simp)) HB.out 1 _, Ks.set _⟩
    have FIN := Lib.hid fin
    clear hk hf fin
    cases bad
    · by_cases h6 : 65536 < n
      · have h6' : (65536 : Int) < n := by omega
        have FN := Lib.hid (show (false || decide (65536 < n)) = true by simp [h6])
        go_wp2
        go_meet
        rw [FN.out]; exact FIN.out true
      · have h6' : ¬ (65536 : Int) < n := by omega
        have FN := Lib.hid (show (false || decide (65536 < n)) = false by simp [h6])
        go_wp2
        go_meet
        rw [FN.out]; exact FIN.out false
    · go_wp2
      go_meet
      rw [Bool.true_or]; exact FIN.out true
  case rest =>
    obtain ⟨hP, hx, hbx, hks⟩ := hcut
    obtain ⟨b', hb'⟩ : ∃ b', b' = (bad || decide (65536 < n)) := ⟨_, rfl⟩
    rw [← hb'] at hP
    have EB := Lib.hid hb'
    have P := Lib.hid hP.drew
    have BX := Lib.hid (hbx.below (Below.refl wc.heap.size wc).drew)
    have KS := Lib.hid hks
    have hxd : wc.drew.cell? ⟨g, o, none⟩ = some (.slice Ab n cb) := hx
    have HXD := Lib.hid hxd
    obtain ⟨v, hk, hf⟩ := hP.ex
    obtain ⟨v', hk', hf'⟩ := hP.drew.ex
    have c0 := hk.cell 0
    simp only [List.getElem?_toArray, List.getElem?_cons_zero] at c0
    obtain rfl : v' = v := by have := hk'.cell 0; simp only [List.getElem?_toArray, List.getElem?_cons_zero] at this; exact Option.some.inj (this.symm.trans c0)
    have HK := Lib.hid hk'
    have HF := Lib.hid hf'
    obtain ⟨A, m, q, rfl⟩ := hf.own.sl
    have hwl : IntKind.u64.wrap (n : Int) = n := IntWalk.u64_in _ (by omega)
    have hgl := block_lt_of_cell hxd
    clear hxd
    clear hk hf hP hk' hf' hbx hks hb' hc
    go_wp2_with fail
    go_region_law (first
      | (refine step_bf_bytes rfl _ _ 25 rfl Tryz.underlying25 rfl F1.out Y1.out rfl (by have := N.out; have := nb_ten (n := n) (by omega); simp only [List.length_append]; omega) ?_; intro v2 w2 hB2 hK2; obtain ⟨A2, m2, k2, rfl⟩ := hB2.own.sl; have hk2 := Blk.grown HK1.out hK2.1 (fun e => Ow.notat F1.out.own HK1.out (by decide) e.symm); have f1 := hk2.free; have c1 := hk2.cell 0; simp only [List.getElem?_toArray, List.getElem?_cons_zero] at c1; have HK2 := Lib.hid hk2; have HG2 := Lib.hid hK2; have HB2 := Lib.hid hB2; clear hk2 hB2 hK2)
      | (go_simp; go_at_call 95; refine (num_any _ xs n _ HF.out.own.bs (by omega) (by omega)).mono ?_; rintro e w1 ⟨v1, rfl, ho, hb⟩; have HK1 := Lib.hid (HK.out.below hb HK.out.lt); have F1 := Lib.hid (HF.out.next ho hb); have Y1 := Lib.hid (BX.out.below hb); have hx1 := (hb.cell hgl).trans HXD.out; have HB1 := Lib.hid hb; clear ho hb))
    all_goals
      have hlb := (P.out.lb.below HB1.out P.out.lb.lt).grown HG2.out.1 (fun e => Ow.notat F1.out.own (P.out.lb.below HB1.out P.out.lb.lt) (by decide) e.symm)
      refine bodyPost_end (results_none rfl _ _ _) rfl ⟨rfl, ?_, ?_⟩
      · rw [← EB.out, textB, ← N.out, ← List.append_assoc]
        exact Lp.store HK2.out HB2.out hlb P.out.ne P.out.p0 P.out.l0
      · exact (((KS.out.trans (Ks.drew _ p)).trans (Ks.below HB1.out p)).trans (Ks.grew HG2.out F1.out.own p)).trans (Ks.set _)

set_option maxHeartbeats 4000000 in
set_option maxRecDepth 100000 in
theorem lpacked_any {W0 w : World} {p l : Nat} {cs : Array Value} {xs : List Int} {bad : Bool} (h : Lp W0 w p l cs xs bad) (bv : Value) (bs : List Int) (k : Int) (hbs : Bs w bv bs) (hl : xs.length ≤ 1000000000000) (hb : bs.length ≤ 1000000000000) :
    Calls Tryz.prog 93 #[.pointer (some ⟨p, 0, none⟩), bv, .int .i64 k] w fun e w' => e = .returned (.tuple #[]) ∧ Lp W0 w' p l cs (xs ++ bs) (bad || decide (k ≠ 0)) ∧ Ks w w' p := by
  have H := Lib.hid h
  have HB := Lib.hid hbs
  clear h hbs
  go_enter Tryz.func93, Tryz.ntmps93
  go_upto_region 0 with fail
  go_cut [] (fun wx => Lp W0 wx p l cs xs (bad || decide (k ≠ 0)) ∧ Bs wx bv bs ∧ Ks w wx p)
  case first =>
    obtain ⟨v, hk, hf⟩ := H.out.ex
    obtain ⟨A, m, q, rfl⟩ := hf.own.sl
    have c1 := hk.cell 1
    have fr := hk.free
    simp only [List.getElem?_toArray, List.getElem?_cons_zero, List.getElem?_cons_succ] at c1
    have HK := Lib.hid hk
    have FIN := Lib.hid (show ∀ b', Lp W0 (w.setCell ⟨p, 1, none⟩ (.bool b')) p l cs xs b' ∧ Bs (w.setCell ⟨p, 1, none⟩ (.bool b')) bv bs ∧ Ks w (w.setCell ⟨p, 1, none⟩ (.bool b')) p from fun b' =>
      ⟨H.out.mark b', Bs.set_ HK.out (put_cells _ _ (by simp)) HB.out 1 _, Ks.set _⟩)
    clear hk hf
    cases bad
    · by_cases h6 : k = 0
      · subst h6
        go_wp2
        go_meet
        exact FIN.out false
      · have h6' : (k == 0) = false := beq_eq_false_iff_ne.2 h6
        have FN := Lib.hid (show (false || decide (k ≠ 0)) = true by simp [h6])
        have FM := Lib.hid (show (k != 0) = true by simp [h6])
        go_wp2
        go_meet
        rw [FN.out, FM.out]; exact FIN.out true
    · go_wp2
      go_meet
      rw [Bool.true_or]; exact FIN.out true
  case rest =>
    obtain ⟨hP, hbx, hks⟩ := hcut
    have P := Lib.hid hP
    have KS := Lib.hid hks
    have BX := Lib.hid hbx
    obtain ⟨v, hk, hf⟩ := hP.ex
    have c0 := hk.cell 0
    simp only [List.getElem?_toArray, List.getElem?_cons_zero] at c0
    have HK := Lib.hid hk
    have HF := Lib.hid hf
    clear hk hf hP hbx hks
    go_wp2_with (at_builtin; go_must (refine wpList_bf_bytesK rfl _ _ 25 rfl Tryz.underlying25 rfl HF.out BX.out rfl (by omega) ?_); intro v2 w2 hB2 hK2; obtain ⟨A2, m2, k2, rfl⟩ := hB2.own.sl; have hk2 := Blk.grown HK.out hK2.1 (fun e => Ow.notat HF.out.own HK.out (by decide) e.symm); have f1 := hk2.free; have c1 := hk2.cell 0; simp only [List.getElem?_toArray, List.getElem?_cons_zero] at c1; have HK2 := Lib.hid hk2; have HG2 := Lib.hid hK2; have HB2 := Lib.hid hB2; clear hk2 hB2 hK2)
    have hlb := P.out.lb.grown HG2.out.1 (fun e => Ow.notat HF.out.own P.out.lb (by decide) e.symm)
    exact bodyPost_end (results_none rfl _ _ _) rfl ⟨rfl, Lp.store HK2.out HB2.out hlb P.out.ne P.out.p0 P.out.l0, ((KS.out.trans (Ks.grew HG2.out HF.out.own p)).trans (Ks.set _))⟩

set_option maxHeartbeats 2000000 in
set_option maxRecDepth 100000 in
theorem lcommand_any {W0 w : World} {p l : Nat} {cs : Array Value} {xs : List Int} {bad : Bool} (h : Lp W0 w p l cs xs bad) (g o : Nat) (sv : Value) (rs : List (List Int)) (hc : w.cell? ⟨g, o, none⟩ = some sv) (hs : Steps w sv rs) (hin : ∀ q ∈ rs, fok stepK q) (hg : rs.length ≤ 1000000) (hl : xs.length ≤ 1000000000000) :
    Calls Tryz.prog 86 #[.pointer (some ⟨p, 0, none⟩), .pointer (some ⟨g, o, none⟩)] w fun e w' => e = .returned (.tuple #[]) ∧ Lp W0 w' p l cs (xs ++ (cmdR rs).1) (bad || decide ((cmdR rs).2 ≠ 0)) ∧ Ks w w' p := by
  have H := Lib.hid h
  have HS := Lib.hid hs
  have HI := Lib.hid hin
  have hlen : (cmdR rs).1.length ≤ 1000000000000 := by
    unfold cmdR; split
    · rename_i h8; exact Nat.le_trans (cmdLen h8 hin) (by decide)
    · simp
  have HL := Lib.hid hlen
  obtain ⟨A, c, rfl, -⟩ := id hs
  clear h hs hin hlen
  go_enter Tryz.func86, Tryz.ntmps86
  go_wp2_with fail
  refine (Put_cmd_any _ rs HI.out w HS.out hg).mono ?_
  rintro e w1 ⟨v1, rfl, ho, hb⟩
  have HO := Lib.hid ho.bs
  have HB := Lib.hid hb
  have P := Lib.hid (H.out.below hb)
  clear ho hb
  go_wp2_with fail
  refine (lpacked_any P.out v1 _ _ HO.out hl HL.out).mono ?_
  rintro e w2 ⟨rfl, h1, h2⟩
  go_wp2
  exact bodyPost_end (results_none rfl _ _ _) rfl ⟨rfl, h1, (Ks.below HB.out p).trans h2⟩
set_option maxHeartbeats 2000000 in
set_option maxRecDepth 100000 in
theorem lreply_any {W0 w : World} {p l : Nat} {cs : Array Value} {xs : List Int} {bad : Bool} (h : Lp W0 w p l cs xs bad) (g o : Nat) (E F : Int) (gv : Value) (rs : List (List Int)) (hc0 : w.cell? ⟨g, o, none⟩ = some (.int .i64 E)) (hc1 : w.cell? ⟨g, o + 1, none⟩ = some (.int .i64 F)) (hc2 : w.cell? ⟨g, o + 2, none⟩ = some gv) (hs : Gots w gv rs)
    (hE : fok1 .i64 E) (hF : fok1 .i64 F) (hin : ∀ q ∈ rs, fok gotK q) (hg : rs.length ≤ 1000000) (hl : xs.length ≤ 1000000000000) :
    Calls Tryz.prog 90 #[.pointer (some ⟨p, 0, none⟩), .pointer (some ⟨g, o, none⟩)] w fun e w' => e = .returned (.tuple #[]) ∧ Lp W0 w' p l cs (xs ++ (replyR ([E, F], rs)).1) (bad || decide ((replyR ([E, F], rs)).2 ≠ 0)) ∧ Ks w w' p := by
  have H := Lib.hid h
  have HS := Lib.hid hs
  have HI := Lib.hid hin
  have hlen : (replyR ([E, F], rs)).1.length ≤ 1000000000000 := by
    unfold replyR; split
    · rename_i h8; exact Nat.le_trans (replyLen hE hF h8 hin) (by decide)
    · simp
  have HL := Lib.hid hlen
  obtain ⟨A, c, rfl, -⟩ := id hs
  clear h hs hin hlen
  go_enter Tryz.func90, Tryz.ntmps90
  go_wp2_with fail
  refine (Put_reply_any E F _ rs hE hF HI.out w HS.out hg).mono ?_
  rintro e w1 ⟨v1, rfl, ho, hb⟩
  have HO := Lib.hid ho.bs
  have HB := Lib.hid hb
  have P := Lib.hid (H.out.below hb)
  clear ho hb
  go_wp2_with fail
  refine (lpacked_any P.out v1 _ _ HO.out hl HL.out).mono ?_
  rintro e w2 ⟨rfl, h1, h2⟩
  go_wp2
  exact bodyPost_end (results_none rfl _ _ _) rfl ⟨rfl, h1, (Ks.below HB.out p).trans h2⟩
end Go.Proofs.YthjdkjinkmdclaaGreat
