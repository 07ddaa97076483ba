/- Letters: getting, part by part: the code's. -/
import Derived.Test.YthjdkjinkmdclaaGreatLpl
import Derived.Test.YthjdkjinkmdclaaGreatGtg
import Derived.Test.YthjdkjinkmdclaaGreatBfn
import Derived.Deep.RegionLaw
import Derived.Deep.RegionHeldLaw
import Derived.RegionTactic
import Derived.BigRegion
namespace Go.Proofs.YthjdkjinkmdclaaGreat
open Go.RowKit

/-- Getting, in block p, since the world W0. -/
structure Gl (W0 w : World) (p : Nat) (s : Gs) : Prop where
  ex : ∃ A c, Blk w p 84 #[.slice A s.1.length c, .bool s.2] ∧ Bs W0 (.slice A s.1.length c) s.1
  p0 : W0.heap.size ≤ p
  bel : Below W0.heap.size W0 w
  ok : ∀ c ∈ s.1, byt c
  le : s.1.length ≤ 70368744177664
/-- What a step keeps: all blocks but p and g. -/
def Kq (w w' : World) (p g : Nat) : Prop := w.heap.size ≤ w'.heap.size ∧ ∀ h t cs, h ≠ p → h ≠ g → Blk w h t cs → Blk w' h t cs
theorem Kq.trans {a b c : World} {p g : Nat} (h : Kq a b p g) (k : Kq b c p g) : Kq a c p g := ⟨Nat.le_trans h.1 k.1, fun x t cs h1 h2 hk => k.2 x t cs h1 h2 (h.2 x t cs h1 h2 hk)⟩
theorem Kq.below {w w' : World} (h : Below w.heap.size w w') (p g : Nat) : Kq w w' p g := ⟨h.size, fun _ _ _ _ _ hk => hk.below h hk.lt⟩
theorem Kq.setp {w : World} {p i : Nat} (g : Nat) (u : Value) : Kq w (w.setCell ⟨p, i, none⟩ u) p g := ⟨by simp [World.setCell], fun _ _ _ h1 _ hk => hk.far (p := ⟨p, i, none⟩) h1 u⟩
theorem Kq.setg {w : World} {g i : Nat} (p : Nat) (u : Value) : Kq w (w.setCell ⟨g, i, none⟩ u) p g := ⟨by simp [World.setCell], fun _ _ _ _ h2 hk => hk.far (p := ⟨g, i, none⟩) h2 u⟩
theorem Kq.drew (w : World) (p g : Nat) : Kq w w.drew p g := Kq.below (Below.refl _ _).drew p g
theorem Gl.below {W0 w w' : World} {p : Nat} {s : Gs} (h : Gl W0 w p s) (hb : Below w.heap.size w w') : Gl W0 w' p s := by
  obtain ⟨A, c, hk, hf⟩ := h.ex
  exact ⟨⟨A, c, hk.below hb hk.lt, hf⟩, h.p0, h.bel.trans (hb.mono h.bel.size), h.ok, h.le⟩
theorem Gl.drew {W0 w : World} {p : Nat} {s : Gs} (h : Gl W0 w p s) : Gl W0 w.drew p s := h.below (Below.refl _ _).drew
/-- Another block is stored to. -/
theorem Gl.setg {W0 w : World} {p g : Nat} {s : Gs} (h : Gl W0 w p s) (hne : p ≠ g) (hg : W0.heap.size ≤ g) (i : Nat) (u : Value) : Gl W0 (w.setCell ⟨g, i, none⟩ u) p s := by
  obtain ⟨A, c, hk, hf⟩ := h.ex
  exact ⟨⟨A, c, hk.far (p := ⟨g, i, none⟩) hne u, hf⟩, h.p0, h.bel.setCell hg _, h.ok, h.le⟩
theorem gNum_eq (s : Gs) : gNum s = ((tk s.1).1, (s.1.drop (tk s.1).2.1, s.2 || decide ((tk s.1).2.1 = 0))) := by
  unfold gNum
  rcases tk_err s.1 with ⟨h1, h2⟩ | ⟨h1, h2, h3⟩
  · rw [if_pos h1, decide_eq_false (by omega), Bool.or_false]
  · rw [if_neg h1, h2, h3, List.drop_zero, decide_eq_true rfl, Bool.or_true]
theorem Gl.put3 {W0 w : World} {p g o t : Nat} {s : Gs} {cs : Array Value} {u : Value} {A' : Option Addr} {k' c' : Nat} {xs' : List Int} {b' : Bool} (h : Gl W0 w p s) (hg : Blk w g t cs) (hne : p ≠ g) (hg0 : W0.heap.size ≤ g)
    (hb : Bs W0 (.slice A' k' c') xs') (ho : ∀ c ∈ xs', byt c) (hl : xs'.length ≤ 70368744177664) :
    Gl W0 (((w.setCell ⟨g, o, none⟩ u).setCell ⟨p, 1, none⟩ (.bool b')).setCell ⟨p, 0, none⟩ (.slice A' k' c')).drew p (xs', b') ∧ Blk (((w.setCell ⟨g, o, none⟩ u).setCell ⟨p, 1, none⟩ (.bool b')).setCell ⟨p, 0, none⟩ (.slice A' k' c')).drew g t (cs.setIfInBounds o u) ∧ Kq w (((w.setCell ⟨g, o, none⟩ u).setCell ⟨p, 1, none⟩ (.bool b')).setCell ⟨p, 0, none⟩ (.slice A' k' c')).drew p g := by
  obtain ⟨A, c, hk, hf⟩ := h.ex
  obtain ⟨A1, c1, hv, -, hl1, -⟩ := id hb
  injection hv with e1 e2 e3
  subst e2
  have k1 := hk.far (p := ⟨g, o, none⟩) hne u
  have k2 := k1.set_ 1 (.bool b')
  have k3 := k2.set_ 0 (.slice A' xs'.length c')
  have g1 := hg.set_ o u
  have g2 := g1.far (p := ⟨p, 1, none⟩) hne.symm (.bool b')
  have g3 := g2.far (p := ⟨p, 0, none⟩) hne.symm (.slice A' xs'.length c')
  refine ⟨⟨⟨A', c', ?_, hb⟩, h.p0, ?_, ho, hl⟩, g3.drew, ?_⟩
  · have := k3.drew; simpa using this
  · exact (((h.bel.setCell hg0 _).setCell h.p0 _).setCell h.p0 _).drew
  · exact ((Kq.setg (g := g) (i := o) p u).trans ((Kq.setp (p := p) (i := 1) g _).trans (Kq.setp (p := p) (i := 0) g _))).trans (Kq.drew _ p g)
set_option maxHeartbeats 400000 in
set_option maxRecDepth 100000 in
theorem hnum_any {W0 w : World} {p : Nat} {s : Gs} (h : Gl W0 w p s) {g o t : Nat} {cs : Array Value} (hg : Blk w g t cs) (ht : t ≠ 84) (hg0 : W0.heap.size ≤ g) (ho : o < cs.size) :
    Calls Tryz.prog 118 #[.pointer (some ⟨p, 0, none⟩), .pointer (some ⟨g, o, none⟩)] w fun e w' => e = .returned (.tuple #[]) ∧ Gl W0 w' p (gNum s).2 ∧ Blk w' g t (cs.setIfInBounds o (.int .u64 (gNum s).1)) ∧ Kq w w' p g := by
  obtain ⟨A, c, hk, hf⟩ := h.ex
  have hx := hf.below h.bel
  have c0 := hk.cell 0
  have c1 := hk.cell 1
  have fp := hk.free
  have fg := hg.free
  simp only [List.getElem?_toArray, List.getElem?_cons_zero, List.getElem?_cons_succ] at c0 c1
  have OK := Lib.hid h.ok
  have LE := Lib.hid h.le
  obtain ⟨n, hn⟩ : ∃ n, n = (tk s.1).1 := ⟨_, rfl⟩
  obtain ⟨q, hq⟩ : ∃ q, q = (tk s.1).2.1 := ⟨_, rfl⟩
  have hqs := (tk_size s.1).1
  rw [← hq] at hqs
  obtain ⟨b, hb⟩ : ∃ b, b = s.2 := ⟨_, rfl⟩
  obtain ⟨m, hm⟩ : ∃ m, m = s.1.length := ⟨_, rfl⟩
  have H := Lib.hid h
  have hne : p ≠ g := hk.ne_ hg (by exact fun e => ht e.symm)
  have hmc : m ≤ c := by
    obtain ⟨A', c', hv, hc, hl, -⟩ := hf
    injection hv with h1 h2 h3
    omega
  rw [← hm] at c0 hqs hx
  have HX := Lib.hid hx
  rw [← hb] at c1
  have HK := Lib.hid hk
  have HG := Lib.hid hg
  have hf0 := hf
  have e1 := gNum_eq s
  rw [← hn, ← hq, ← hb] at e1
  have E := Lib.hid e1
  have TN := Lib.hid hn
  have TQ := Lib.hid hq
  have M := Lib.hid hm
  have SB := Lib.hid hb
  obtain ⟨cv, hcv⟩ : ∃ cv, cs[o]? = some cv := ⟨_, Array.getElem?_eq_getElem ho⟩
  have cg := (hg.cell o).trans hcv
  clear hk hg hf hx h hn hq e1 hm hb hcv
  go_enter Tryz.func118, Tryz.ntmps118
  go_wp2_with fail
  refine (Take_any _ s.1 w HX.out OK.out LE.out).mono ?_
  rintro e w1 ⟨rfl, rfl⟩
  rw [← TN.out, ← TQ.out]
  have hm' : (m : Int) ≤ 70368744177664 := by have := LE.out; rw [← M.out] at this; omega
  have hq' : (q : Int) ≤ m := by omega
  have hc' : (m : Int) ≤ c := Int.ofNat_le.2 hmc
  have hqc' : (q : Int) ≤ c := by omega
  have FIN := Lib.hid (fun (A' : Option Addr) (k' c' : Nat) (hh : Bs W0 (.slice A' k' c') (s.1.drop q)) (b' : Bool) => Gl.put3 (b' := b') (o := o) (u := .int .u64 (n : Int)) H.out HG.out hne hg0 hh (fun c hc => OK.out c (List.mem_of_mem_drop hc)) (by have := LE.out; rw [List.length_drop]; omega))
  have HF := Lib.hid hf0
  by_cases hq0 : q = 0
  · subst hq0
    rcases A with - | ⟨g0, o0, f0⟩
    · have HZ := Lib.hid (show Bs W0 (.slice none s.1.length c) (s.1.drop 0) from HF.out)
      rw [← M.out] at HZ
      clear hf0
      cases b
      · go_wp2
        go_region
        refine bodyPost_end (results_none rfl _ _ _) rfl ⟨rfl, ?_⟩
        rw [E.out, Bool.false_or, decide_true]
        exact FIN.out _ _ _ HZ.out _
      · go_wp2
        go_region
        refine bodyPost_end (results_none rfl _ _ _) rfl ⟨rfl, ?_⟩
        rw [E.out, Bool.true_or]
        exact FIN.out _ _ _ HZ.out _
    · have HZ := Lib.hid (show Bs W0 (.slice (some ⟨g0, o0, f0⟩) s.1.length c) (s.1.drop 0) from HF.out)
      rw [← M.out] at HZ
      clear hf0
      by_cases hc0 : c = 0
      · subst hc0
        obtain rfl : m = 0 := by omega
        cases b
        · go_wp2
          go_region
          refine bodyPost_end (results_none rfl _ _ _) rfl ⟨rfl, ?_⟩
          rw [E.out, Bool.false_or, decide_true]
          exact FIN.out _ _ _ HZ.out _
        · go_wp2
          go_region
          refine bodyPost_end (results_none rfl _ _ _) rfl ⟨rfl, ?_⟩
          rw [E.out, Bool.true_or]
          exact FIN.out _ _ _ HZ.out _
      · cases b
        · go_wp2
          go_region
          refine bodyPost_end (results_none rfl _ _ _) rfl ⟨rfl, ?_⟩
          rw [E.out, Bool.false_or, decide_true]
          exact FIN.out _ _ _ HZ.out _
        · go_wp2
          go_region
          refine bodyPost_end (results_none rfl _ _ _) rfl ⟨rfl, ?_⟩
          rw [E.out, Bool.true_or]
          exact FIN.out _ _ _ HZ.out _
  · have hq1 : ((q : Int) == 0) = false := beq_eq_false_iff_ne.2 (by omega)
    obtain ⟨A0, cx, hv, -, -, hh⟩ := id hf0
    injection hv with hA hMx hC
    subst hA
    subst hC
    rcases hh with h0 | ⟨g0, o0, rfl, -⟩
    · exact absurd h0 (by rw [← M.out]; omega)
    · obtain ⟨_, _, hd⟩ := Bs.drop HF.out q (by rw [← M.out]; exact hqs)
      have HD := Lib.hid (hd g0 o0 rfl)
      rw [← M.out] at HD
      clear hf0 hd
      by_cases hqc : q < c
      · have hqc1 : (q : Int) < c := by omega
        have HU : 0 < c - q := by omega
        cases b
        · go_wp2
          go_region
          refine bodyPost_end (results_none rfl _ _ _) rfl ⟨rfl, ?_⟩
          rw [E.out, decide_eq_false hq0]
          exact FIN.out _ _ _ HD.out _
        · go_wp2
          go_region
          refine bodyPost_end (results_none rfl _ _ _) rfl ⟨rfl, ?_⟩
          rw [E.out, decide_eq_false hq0]
          exact FIN.out _ _ _ HD.out _
      · obtain rfl : c = q := by omega
        obtain rfl : m = c := by omega
        cases b
        · go_wp2
          go_region
          refine bodyPost_end (results_none rfl _ _ _) rfl ⟨rfl, ?_⟩
          rw [E.out, decide_eq_false hq0]
          exact FIN.out _ _ _ (Bs.empty (List.drop_of_length_le (by have := M.out; omega)) rfl) _
        · go_wp2
          go_region
          refine bodyPost_end (results_none rfl _ _ _) rfl ⟨rfl, ?_⟩
          rw [E.out, decide_eq_false hq0]
          exact FIN.out _ _ _ (Bs.empty (List.drop_of_length_le (by have := M.out; omega)) rfl) _
end Go.Proofs.YthjdkjinkmdclaaGreat
