/- Letters: getting a byte, a flag: the code's. -/
import Derived.Test.YthjdkjinkmdclaaGreatLga
namespace Go.Proofs.YthjdkjinkmdclaaGreat
open Go.RowKit

theorem cell_else {w : World} {a p : Addr} (h : a.block ≠ p.block) (u : Value) : (w.setCell p u).cell? a = w.cell? a := by
  rw [World.cell?_setCell_other]
  rintro rfl
  exact h rfl
/-- What is being got is set. -/
theorem Gl.set0 {W0 w : World} {p : Nat} {s : Gs} {A' : Option Addr} {k' c' : Nat} {xs' : List Int} (h : Gl W0 w p s) (hb : Bs W0 (.slice A' k' c') xs') (ho : ∀ c ∈ xs', byt c) (hl : xs'.length ≤ 70368744177664) :
    Gl W0 (w.setCell ⟨p, 0, none⟩ (.slice A' k' c')) p (xs', s.2) := by
  obtain ⟨A, c, hk, hf⟩ := h.ex
  obtain ⟨A1, c1, hv, -, hl1, -⟩ := id hb
  injection hv with e1 e2 e3
  subst e2
  have k3 := hk.set_ 0 (.slice A' xs'.length c')
  refine ⟨⟨A', c', by simpa using k3, hb⟩, h.p0, h.bel.setCell h.p0 _, ho, hl⟩
/-- It is marked. -/
theorem Gl.mark {W0 w : World} {p : Nat} {s : Gs} (h : Gl W0 w p s) (b : Bool) : Gl W0 (w.setCell ⟨p, 1, none⟩ (.bool b)) p (s.1, b) := by
  obtain ⟨A, c, hk, hf⟩ := h.ex
  have k3 := hk.set_ 1 (.bool b)
  exact ⟨⟨A, c, by simpa using k3, hf⟩, h.p0, h.bel.setCell h.p0 _, h.ok, h.le⟩
theorem Gl.lt {W0 w : World} {p : Nat} {s : Gs} (h : Gl W0 w p s) : p < w.heap.size := by obtain ⟨A, c, hk, -⟩ := h.ex; exact hk.lt
theorem Gl.ne {W0 w : World} {p g t : Nat} {cs : Array Value} {s : Gs} (h : Gl W0 w p s) (hg : Blk w g t cs) (ht : t ≠ 84) : p ≠ g := by obtain ⟨A, c, hk, -⟩ := h.ex; exact hk.ne_ hg (fun e => ht e.symm)
theorem Kq.refl (w : World) (p g : Nat) : Kq w w p g := ⟨Nat.le_refl _, fun _ _ _ _ _ h => h⟩
/-- A store to g, one to what is being got. -/
theorem Gl.put2n {W0 w : World} {p g o t : Nat} {s : Gs} {cs : Array Value} {u : Value} {A' : Option Addr} {k' c' : Nat} {xs' : List Int} (h : Gl W0 w p s) (hg : Blk w g t cs) (hne : p ≠ g) (hg0 : W0.heap.size ≤ g)
    (hb : Bs W0 (.slice A' k' c') xs') (ho : ∀ c ∈ xs', byt c) (hl : xs'.length ≤ 70368744177664) :
    Gl W0 ((w.setCell ⟨g, o, none⟩ u).setCell ⟨p, 0, none⟩ (.slice A' k' c')) p (xs', s.2) ∧ Blk ((w.setCell ⟨g, o, none⟩ u).setCell ⟨p, 0, none⟩ (.slice A' k' c')) g t (cs.setIfInBounds o u) ∧ Kq w ((w.setCell ⟨g, o, none⟩ u).setCell ⟨p, 0, none⟩ (.slice A' k' c')) p g :=
  ⟨(h.setg hne hg0 o u).set0 hb ho hl, (hg.set_ o u).far (p := ⟨p, 0, none⟩) hne.symm _, (Kq.setg (g := g) (i := o) p u).trans (Kq.setp (p := p) (i := 0) g _)⟩
theorem Gl.put2 {W0 w : World} {p g o t : Nat} {s : Gs} {cs : Array Value} {u : Value} {A' : Option Addr} {k' c' : Nat} {xs' : List Int} (h : Gl W0 w p s) (hg : Blk w g t cs) (hne : p ≠ g) (hg0 : W0.heap.size ≤ g)
    (hb : Bs W0 (.slice A' k' c') xs') (ho : ∀ c ∈ xs', byt c) (hl : xs'.length ≤ 70368744177664) :
    Gl W0 ((w.setCell ⟨g, o, none⟩ u).setCell ⟨p, 0, none⟩ (.slice A' k' c')).drew p (xs', s.2) ∧ Blk ((w.setCell ⟨g, o, none⟩ u).setCell ⟨p, 0, none⟩ (.slice A' k' c')).drew g t (cs.setIfInBounds o u) ∧ Kq w ((w.setCell ⟨g, o, none⟩ u).setCell ⟨p, 0, none⟩ (.slice A' k' c')).drew p g :=
  ⟨((h.setg hne hg0 o u).set0 hb ho hl).drew, ((hg.set_ o u).far (p := ⟨p, 0, none⟩) hne.symm _).drew, ((Kq.setg (g := g) (i := o) p u).trans (Kq.setp (p := p) (i := 0) g _)).trans (Kq.drew _ p g)⟩
theorem Gl.putm {W0 w : World} {p g o t : Nat} {s : Gs} {cs : Array Value} {u : Value} {b' : Bool} (h : Gl W0 w p s) (hg : Blk w g t cs) (hne : p ≠ g) (hg0 : W0.heap.size ≤ g) :
    Gl W0 ((w.setCell ⟨g, o, none⟩ u).setCell ⟨p, 1, none⟩ (.bool b')).drew p (s.1, b') ∧ Blk ((w.setCell ⟨g, o, none⟩ u).setCell ⟨p, 1, none⟩ (.bool b')).drew g t (cs.setIfInBounds o u) ∧ Kq w ((w.setCell ⟨g, o, none⟩ u).setCell ⟨p, 1, none⟩ (.bool b')).drew p g :=
  ⟨((h.setg hne hg0 o u).mark b').drew, ((hg.set_ o u).far (p := ⟨p, 1, none⟩) hne.symm _).drew, ((Kq.setg (g := g) (i := o) p u).trans (Kq.setp (p := p) (i := 1) g _)).trans (Kq.drew _ p g)⟩

theorem set_same {cs : Array Value} {o : Nat} {v : Value} (hd : cs[o]? = some v) : cs.setIfInBounds o v = cs := by
  apply Array.ext
  · simp
  · intro i h1 h2
    rw [Array.getElem_setIfInBounds (by simpa using h2)]
    split
    · rename_i e; subst e; rw [Array.getElem?_eq_getElem h2] at hd; exact (Option.some.inj hd).symm
    · rfl
set_option maxHeartbeats 400000 in
set_option maxRecDepth 100000 in
theorem hone_any {W0 w : World} {p : Nat} {s : Gs} (h : Gl W0 w p s) {g o t : Nat} {cs : Array Value} (hg : Blk w g t cs) (ht : t ≠ 84) (hg0 : W0.heap.size ≤ g) (d : Int) (hd : cs[o]? = some (.int .u8 d)) :
    Calls Tryz.prog 119 #[.pointer (some ⟨p, 0, none⟩), .pointer (some ⟨g, o, none⟩)] w fun e w' => e = .returned (.tuple #[]) ∧ Gl W0 w' p (gOne d s).2 ∧ Blk w' g t (cs.setIfInBounds o (.int .u8 (gOne d s).1)) ∧ Kq w w' p g := by
  obtain ⟨xs, b⟩ := s
  have hne := h.ne hg ht
  obtain ⟨A, c, hk, hf⟩ := h.ex
  have hx := hf.below h.bel
  have c0 := hk.cell 0
  have c1 := hk.cell 1
  have fp := hk.free
  have fg := hg.free
  simp only [List.getElem?_toArray, List.getElem?_cons_zero, List.getElem?_cons_succ] at c0 c1
  have cg := (hg.cell o).trans hd
  have H := Lib.hid h
  have HG := Lib.hid hg
  cases xs with
  | nil =>
    have hsame := set_same hd
    have HS := Lib.hid hsame
    clear hk hg hf hx h hd hsame
    go_enter Tryz.func119, Tryz.ntmps119
    go_wp2
    refine bodyPost_ret (results_none rfl _ _ _) rfl ⟨rfl, H.out.mark true, ?_, Kq.setp g _⟩
    show Blk _ g t (cs.setIfInBounds o (.int .u8 d))
    rw [HS.out]
    exact HG.out.far (p := ⟨p, 1, none⟩) hne.symm _
  | cons x r =>
    obtain ⟨A0, cx, hv, hc, -, hh⟩ := id hf
    injection hv with hA hM hC
    subst hA; subst hC
    rcases hh with h0 | ⟨g0, o0, rfl, -, -⟩
    · simp at h0
    obtain ⟨_, _, hdr⟩ := Bs.drop hf 1 (by simp)
    have HD := Lib.hid (show Bs W0 (.slice (some ⟨g0, o0 + 1, none⟩) ((x :: r).length - 1) (c - 1)) r from hdr g0 o0 rfl)
    have hcell : w.cell? ⟨g0, o0, none⟩ = some (.int .u8 x) := by
      obtain ⟨A1, c1, hv1, -, -, hh1⟩ := id hx
      injection hv1 with hA1
      subst hA1
      rcases hh1 with h0 | ⟨g1, o1, he, -, hcl⟩
      · simp at h0
      · injection he with he; injection he with he1 he2; subst he1; subst he2
        exact hcl 0 _ rfl
    have OK := Lib.hid (show ∀ c ∈ r, byt c from fun c hc => h.ok c (List.mem_cons_of_mem _ hc))
    have LE := Lib.hid (show r.length ≤ 70368744177664 by have := h.le; simp at this; omega)
    have LN := Lib.hid (show (x :: r).length = r.length + 1 from rfl)
    have FIN := Lib.hid (fun (A' : Option Addr) (k' c' : Nat) (hh : Bs W0 (.slice A' k' c') r) => Gl.put2 (o := o) (u := .int .u8 x) H.out HG.out hne hg0 hh OK.out LE.out)
    have hm0 : 0 < (x :: r).length := by simp
    obtain ⟨m, hm⟩ : ∃ m, m = (x :: r).length := ⟨_, rfl⟩
    have M := Lib.hid hm
    simp only at c0 hc
    rw [← hm] at c0 HD hc hm0 LN
    have hm0' : (0 : Int) < m := by omega
    have hm1' : (1 : Int) ≤ m := by omega
    have hmz : ((m : Int) == 0) = false := beq_eq_false_iff_ne.2 (by omega)
    have hmz2 : ¬ (m : Int) = 0 := by omega
    have hmc' : (m : Int) ≤ c := by omega
    have hc1' : (1 : Int) ≤ c := by omega
    have c0d : w.drew.cell? ⟨p, 0, none⟩ = some (.slice (some ⟨g0, o0, none⟩) m c) := c0
    have hcd : w.drew.cell? ⟨g0, o0, none⟩ = some (.int .u8 x) := hcell
    clear hk hg hf hx h hd hm hdr hM
    by_cases h1 : c = 1
    · subst h1
      obtain rfl : m = 1 := by omega
      have HE := Lib.hid (show r = [] by have := LN.out; exact List.eq_nil_of_length_eq_zero (by omega))
      go_enter Tryz.func119, Tryz.ntmps119
      go_wp2
      go_region
      exact bodyPost_end (results_none rfl _ _ _) rfl ⟨rfl, FIN.out _ _ _ (Bs.empty HE.out rfl)⟩
    · have h1c : (1 : Int) < c := by omega
      have HU : 0 < c - 1 := by omega
      go_enter Tryz.func119, Tryz.ntmps119
      go_wp2
      go_region
      exact bodyPost_end (results_none rfl _ _ _) rfl ⟨rfl, FIN.out _ _ _ HD.out⟩

theorem gOne_byt {d : Int} (hd : byt d) {s : Gs} (h : ∀ c ∈ s.1, byt c) : byt (gOne d s).1 := by
  obtain ⟨xs, b⟩ := s
  cases xs with
  | nil => exact hd
  | cons x r => exact h x (List.mem_cons_self ..)
/-- A block beside goes on; g, too. -/
theorem Kq.aside {w a b : World} {p g q : Nat} (k : Kq w a p g) (h : Kq a b p q) (hq : w.heap.size ≤ q) : Kq w b p g := ⟨Nat.le_trans k.1 h.1, fun x t cs h1 h2 hk => h.2 x t cs h1 (by have := hk.lt; omega) (k.2 x t cs h1 h2 hk)⟩
set_option maxHeartbeats 400000 in
set_option maxRecDepth 100000 in
theorem hyes_any {W0 w : World} {p : Nat} {s : Gs} (h : Gl W0 w p s) {g o t : Nat} {cs : Array Value} (hg : Blk w g t cs) (ht : t ≠ 84) (hg0 : W0.heap.size ≤ g) (ho : o < cs.size) :
    Calls Tryz.prog 122 #[.pointer (some ⟨p, 0, none⟩), .pointer (some ⟨g, o, none⟩)] w fun e w' => e = .returned (.tuple #[]) ∧ Gl W0 w' p ((gOne 0 s).2.1, (gOne 0 s).2.2 || decide (1 < (gOne 0 s).1)) ∧ Blk w' g t (cs.setIfInBounds o (.bool (decide ((gOne 0 s).1 = 1)))) ∧ Kq w w' p g := by
  have b1 := below_alloc_ w (.cells #[.int .u8 0] 5)
  have k1 := Blk.new w 5 #[.int .u8 0]
  have CN := Lib.hid (hone_any (h.below b1) k1 (by decide) h.bel.size (o := 0) 0 rfl)
  have hgq : g ≠ w.heap.size := by have := hg.lt; omega
  have hne := h.ne hg ht
  have HY := Lib.hid (gOne_byt (show byt 0 from ⟨by decide, by decide⟩) h.ok)
  have KB := Lib.hid (Kq.below b1 p g)
  have HG := Lib.hid (hg.below b1 hg.lt)
  have HP := Lib.hid h.p0
  obtain ⟨cv, hcv⟩ : ∃ cv, cs[o]? = some cv := ⟨_, Array.getElem?_eq_getElem ho⟩
  have hpq : p ≠ w.heap.size := by have := h.lt; omega
  clear b1 k1 h
  obtain ⟨x, hx⟩ : ∃ x, x = (gOne 0 s).1 := ⟨_, rfl⟩
  obtain ⟨s', hs'⟩ : ∃ s', s' = (gOne 0 s).2 := ⟨_, rfl⟩
  rw [← hx, ← hs'] at CN ⊢
  rw [← hx] at HY
  clear hx hs' hg
  go_enter Tryz.func122, Tryz.ntmps122
  go_wp2_with fail
  refine CN.out.mono ?_
  rintro e w2 ⟨rfl, h1, k1, q1⟩
  have kg := q1.2 _ _ _ hne.symm hgq HG.out
  have fg := kg.free
  have cg := (kg.cell o).trans hcv
  obtain ⟨A, c, hk, hf⟩ := h1.ex
  have fp := hk.free
  have c1 := hk.cell 1
  have d0 := k1.cell 0
  simp only [List.getElem?_toArray, List.getElem?_cons_zero, List.getElem?_cons_succ] at c1
  have d0' : w2.cell? ⟨w.heap.size, 0, none⟩ = some (.int .u8 x) := d0
  have d0d : w2.drew.cell? ⟨w.heap.size, 0, none⟩ = some (.int .u8 x) := d0
  have c1d : w2.drew.cell? ⟨p, 1, none⟩ = some (.bool s'.2) := c1
  have FIN := Lib.hid (fun (u : Value) (b' : Bool) => Gl.putm (o := o) (u := u) (b' := b') h1 kg hne hg0)
  have QQ := Lib.hid (KB.out.aside q1 (Nat.le_refl _))
  clear hk hf d0 h1 k1 kg q1 CN HG
  obtain ⟨b, hb⟩ : ∃ b, b = s'.2 := ⟨_, rfl⟩
  have SB := Lib.hid hb
  rw [← hb] at c1 c1d
  clear hb
  have hy0 : (0 : Int) ≤ x := HY.out.1
  have key : ∀ (y b2 : Bool), y = decide (x = 1) → b2 = (s'.2 || decide (1 < x)) → ∀ wf, wf = ((w2.setCell ⟨g, o, none⟩ (.bool y)).setCell ⟨p, 1, none⟩ (.bool b2)).drew → Gl W0 wf p (s'.1, s'.2 || decide (1 < x)) ∧ Blk wf g t (cs.setIfInBounds o (.bool (decide (x = 1)))) ∧ Kq w wf p g := by
    rintro y b2 rfl rfl wf rfl
    obtain ⟨f1, f2, f3⟩ := FIN.out (.bool (decide (x = 1))) (s'.2 || decide (1 < x))
    exact ⟨f1, f2, QQ.out.trans f3⟩
  have KEY := Lib.hid key
  clear key
  by_cases h1 : x = 1
  · subst h1
    cases b
    · go_wp2
      go_region
      exact bodyPost_end (results_none rfl _ _ _) rfl ⟨rfl, KEY.out true false rfl (by rw [← SB.out]; rfl) _ rfl⟩
    · go_wp2
      go_region
      exact bodyPost_end (results_none rfl _ _ _) rfl ⟨rfl, KEY.out true true rfl (by rw [← SB.out]; rfl) _ rfl⟩
  · have x1 : (x == 1) = false := beq_eq_false_iff_ne.2 h1
    by_cases h2 : 1 < x
    · cases b
      · go_wp2
        go_region
        exact bodyPost_end (results_none rfl _ _ _) rfl ⟨rfl, KEY.out false true (by simp [h1]) (by rw [← SB.out]; simp [h2]) _ rfl⟩
      · go_wp2
        go_region
        exact bodyPost_end (results_none rfl _ _ _) rfl ⟨rfl, KEY.out false true (by simp [h1]) (by rw [← SB.out]; rfl) _ rfl⟩
    · cases b
      · go_wp2
        go_region
        exact bodyPost_end (results_none rfl _ _ _) rfl ⟨rfl, KEY.out false (decide (1 < x)) (by simp [h1]) (by rw [← SB.out]; rfl) _ rfl⟩
      · go_wp2
        go_region
        exact bodyPost_end (results_none rfl _ _ _) rfl ⟨rfl, KEY.out false true (by simp [h1]) (by rw [← SB.out]; rfl) _ rfl⟩
end Go.Proofs.YthjdkjinkmdclaaGreat
