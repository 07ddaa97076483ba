/- A rate, put and got; what is shared by the lists. -/
import Derived.Test.YtnegondlkfeleaaDoorPuz
import Derived.Test.YtnegondlkfeleaaDoorGtg
namespace Go.Proofs.YtnegondlkfeleaaDoor
open Go.RowKit

/-- rate: the fields' kinds. -/
def rateK : List IntKind := [.i64, .i64]
theorem rate_of {l : List Int} (h : l.length = 2) : ∃ x0 x1, l = [x0, x1] := by
  match l, h with
  | [x0, x1], _ => exact ⟨x0, x1, rfl⟩
theorem rate_fok {l : List Int} (h : fok rateK l) : ∃ x0 x1, l = [x0, x1] ∧ fok1 .i64 x0 ∧ fok1 .i64 x1 := by
  obtain ⟨x0, x1, rfl⟩ := rate_of (fok_len _ _ h)
  simp only [rateK, fok] at h
  exact ⟨x0, x1, rfl, h.1, h.2.1⟩
abbrev rateV (l : List Int) : Value := .agg (fc rateK l).toArray
theorem rate_bad {xs : List Int} {k : Int} (h : fP rateK xs = .error k) : signP xs = .error k ∨ ∃ a r, signP xs = .ok (a, r) ∧ signP r = .error k := by
  simp only [rateK, fP, fp1, bindP] at h
  split at h
  · rename_i a r e1
    refine .inr ⟨a, r, e1, ?_⟩
    split at h
    · rename_i e2; split at e2
      · cases h
      · cases e2
    · rename_i e2; split at e2
      · cases e2
      · rename_i e3; injection e2 with e2; injection h with h; subst e2; subst h; exact e3
  · rename_i e1; injection h with h; subst h; exact .inl e1
theorem rate_ok {xs r : List Int} {l : List Int} (h : fP rateK xs = .ok (l, r)) : ∃ a d ra, l = [a, d] ∧ signP xs = .ok (a, ra) ∧ signP ra = .ok (d, r) := by
  simp only [rateK, fP, fp1, bindP] at h
  split at h
  · rename_i a ra e1
    split at h
    · rename_i l2 r2 e2
      split at e2
      · rename_i d r3 e3
        injection e2 with e2; injection e2 with e2 e2'
        injection h with h; injection h with h h'
        subst e2; subst e2'; subst h; subst h'
        exact ⟨a, d, ra, rfl, e1, e3⟩
      · cases e2
    · cases h
  · cases h
/-- What reads outside of what is being put goes on to read so. -/
theorem Tn.rd {W0 w : World} {p : Nat} {b : Option Nat} {size n : Nat} {v : Value} {xs : List Value} (ht : Tn W0 p b w) (h : Rd W0 size v n xs) (hne : n = 0 ∨ ∀ k, v.ownBlock = some k → k ≠ p ∧ some k ≠ b) : Rd w size v n xs := by
  obtain ⟨A, c, rfl, hc, hl, hh⟩ := h
  refine ⟨A, c, rfl, hc, hl, ?_⟩
  rcases hne with h0 | hne
  · exact .inl h0
  refine hh.imp id ?_
  rintro ⟨g, o, rfl, hg, hcell⟩
  obtain ⟨h1, h2⟩ := hne g rfl
  exact ⟨g, o, rfl, Nat.lt_of_lt_of_le hg ht.size, fun j u hu => (World.cell?_of_block (a := ⟨g, o + j, none⟩) (ht.block g hg h1 h2)).trans (hcell j u hu)⟩
theorem flat_snoc {α : Type} (f : α → List Int) (gs : List α) (k : Nat) (hk : k < gs.length) : (gs.take (k + 1)).flatMap f = (gs.take k).flatMap f ++ f gs[k] := by
  rw [List.take_succ_eq_append_getElem hk, List.flatMap_append]; simp
theorem flat_len_le {α : Type} (f : α → List Int) (gs : List α) (k : Nat) : ((gs.take k).flatMap f).length ≤ (gs.flatMap f).length := by
  conv => rhs; rw [← List.take_append_drop k gs, List.flatMap_append]
  simp
/-- What is read lies apart from what is being put, from step to step. -/
theorem off_step {_w W : World} {size n p : Nat} {v : Value} {xs : List Value} {b b' : Option Nat} (h : Rd W size v n xs) (hne : n = 0 ∨ ∀ k, v.ownBlock = some k → k ≠ p ∧ some k ≠ b) (hb : b' = b ∨ ∀ k, b' = some k → W.heap.size ≤ k) :
    n = 0 ∨ ∀ k, v.ownBlock = some k → k ≠ p ∧ some k ≠ b' := by
  rcases hne with h0 | hne
  · exact .inl h0
  obtain ⟨A, c, rfl, hc, hl, h0 | ⟨g, o, rfl, hg, _⟩⟩ := h
  · exact .inl h0
  refine .inr fun k hk => ⟨(hne k hk).1, ?_⟩
  have hkg : k = g := by simpa [Value.ownBlock] using hk.symm
  subst hkg
  rcases hb with rfl | hb
  · exact (hne k hk).2
  · intro e; have := hb k e.symm; omega
theorem off_new {w : World} {size n : Nat} {v : Value} {xs : List Value} (h : Rd w size v n xs) : n = 0 ∨ ∀ k, v.ownBlock = some k → k ≠ w.heap.size + 1 ∧ some k ≠ none := by
  obtain ⟨A, c, rfl, hc, hl, h0 | ⟨g, o, rfl, hg, _⟩⟩ := h
  · exact .inl h0
  · exact .inr fun k hk => by
      have hkg : k = g := by simpa [Value.ownBlock] using hk.symm
      subst hkg
      exact ⟨by omega, by simp⟩
/-- All is put: the buffer is of its own. -/
theorem Pv.done {W W0 w : World} {p : Nat} {xs : List Int} (h : Pv W0 p none w xs) (hb : Below W.heap.size W W0) (hp : W.heap.size ≤ p) (hs : W.heap.size ≤ W0.heap.size) :
    ∃ v, Blk w p 184 #[v] ∧ Bo W.heap.size w v xs ∧ Below W.heap.size W w := by
  obtain ⟨⟨b1, hu, h1⟩, ht⟩ := h
  obtain ⟨v, hk, ho, rfl⟩ := hu.ex
  refine ⟨v, hk, ?_, hb.trans (ht.to_below hp (by simp) hs)⟩
  rcases ho with ho | ⟨g, c, cur, rfl, _, h⟩
  · exact .inl ho
  · refine .inr ⟨g, c, cur, rfl, ?_, h⟩
    rcases h1 with h1 | h1
    · simp [Value.ownBlock] at h1
    · have := h1 g rfl; omega
set_option maxHeartbeats 4000000 in
set_option maxRecDepth 100000 in
theorem prate_any (p : Nat) (x0 x1 : Int) (h0 : fok1 .i64 x0) (h1 : fok1 .i64 x1) (b : Option Nat) (w : World) (xs : List Int) (h : Pu w p b xs) (hl : xs.length + (fB rateK [x0, x1]).length ≤ 70368744177664) :
    Calls Tryd.prog 147 #[.pointer (some ⟨p, 0, none⟩), .agg #[.int .i64 x0, .int .i64 x1]] w fun e w' => e = .returned (.tuple #[]) ∧ Pv w p b w' (xs ++ fB rateK [x0, x1]) := by
  have Q0 := Lib.hid h0
  have Q1 := Lib.hid h1
  obtain ⟨hp, k0, n1, n2⟩ := h.box 105 #[.int .i64 x0, .int .i64 x1]
  have K := Lib.hid k0
  have P0 := Lib.hid hp
  simp only [rateK, fB, fb1, List.headD_cons, List.tail_cons, List.length_append, List.append_nil] at hl
  have HL := Lib.hid hl
  clear h hp k0 hl h0 h1
  go_enter Tryd.func147, Tryd.ntmps147
  go_wp2_with fail
  refine (psign_v p x0 b _ _ (xs) P0.out Q0.out (by have := HL.out; (try simp only [rateK, List.take, fB, fb1, List.headD_cons, List.tail_cons, List.length_append, List.length_nil, List.length_cons, List.append_nil] at this); (try simp only [rateK, List.take, fB, fb1, List.headD_cons, List.tail_cons, List.length_append, List.length_nil, List.length_cons, List.append_nil]); omega)).mono ?_
  rintro e w10 ⟨rfl, hP⟩
  have P10 := Lib.hid hP
  have k1 := hP.blk K.out n1 n2
  have c1_0 := k1.cell 0
  have c1_1 := k1.cell 1
  simp at c1_0 c1_1
  clear k1
  clear hP
  go_wp2_with fail
  refine (psign_v p x1 b _ _ (xs ++ (sb x0)) P10.out Q1.out (by have := HL.out; (try simp only [rateK, List.take, fB, fb1, List.headD_cons, List.tail_cons, List.length_append, List.length_nil, List.length_cons, List.append_nil] at this); (try simp only [List.length_append]); omega)).mono ?_
  rintro e w11 ⟨rfl, hP⟩
  have P11 := Lib.hid hP
  clear c1_0 c1_1
  clear hP
  go_wp2
  refine bodyPost_end (results_none rfl _ _ _) rfl ⟨rfl, ?_⟩
  have := Pv.base (below_alloc_ _ _) P11.out
  simpa only [rateK, rateK, fB, fb1, List.take, List.headD_cons, List.tail_cons, List.append_nil, List.append_assoc, List.cons_append, List.nil_append] using this
theorem prate_v (p : Nat) (x0 x1 : Int) (h0 : fok1 .i64 x0) (h1 : fok1 .i64 x1) (b : Option Nat) (W0 w : World) (xs : List Int) (h : Pv W0 p b w xs) (hl : xs.length + (fB rateK [x0, x1]).length ≤ 70368744177664) :
    Calls Tryd.prog 147 #[.pointer (some ⟨p, 0, none⟩), .agg #[.int .i64 x0, .int .i64 x1]] w fun e w' => e = .returned (.tuple #[]) ∧ Pv W0 p b w' (xs ++ fB rateK [x0, x1]) :=
  h.chain fun b' hu => prate_any p x0 x1 h0 h1 b' w xs hu hl
set_option maxHeartbeats 4000000 in
set_option maxRecDepth 100000 in
theorem grate_any (g : Nat) (xs : List Int) (w : World) (h : Gt w g xs) :
    Calls Tryd.prog 145 #[.pointer (some ⟨g, 0, none⟩)] w (Gpost (fP rateK xs) rateV g w) := by
  have hG0 := h.alloc (.cells #[.int .i64 0, .int .i64 0] 105)
  have hlt := h.lt
  have hne : w.heap.size ≠ g := by omega
  have hne' : some w.heap.size ≠ some g := fun e => hne (Option.some.inj e)
  have K0 := Lib.hid (Blk.new w 105 #[.int .i64 0, .int .i64 0])
  have H0 := Lib.hid hG0
  have B0 := Lib.hid (grown_below_ (below_alloc_ w (.cells #[.int .i64 0, .int .i64 0] 105)) (some g))
  clear h hG0
  go_enter Tryd.func145, Tryd.ntmps145
  go_wp2_with fail
  refine (gsign_any g _ _ H0.out).mono ?_
  intro e w1 hp
  rcases hr : signP xs with k | ⟨x0, r1⟩
  · rw [hr] at hp
    obtain ⟨rfl, hg⟩ := hp
    have B1 := Lib.hid (grown_trans_ B0.out hg)
    have R1 := Lib.hid hr
    clear hg hr
    go_wp2
    refine ⟨rfl, ?_⟩
    have hP : fP rateK xs = .error k := by simp only [rateK, fP, fp1, bindP, R1.out]
    unfold Gpost; rw [hP]
    exact ⟨rfl, B1.out⟩
  rw [hr] at hp
  obtain ⟨rfl, hG, hg⟩ := hp
  have H1 := Lib.hid hG
  have K1 := Lib.hid (K0.out.grown hg hne')
  have B1 := Lib.hid (grown_trans_ B0.out hg)
  have R1 := Lib.hid hr
  clear hG hg hr
  go_wp2_with fail
  refine (gsign_any g _ _ H1.out).mono ?_
  intro e w2 hp
  rcases hr : signP r1 with k | ⟨x1, r2⟩
  · rw [hr] at hp
    obtain ⟨rfl, hg⟩ := hp
    have B2 := Lib.hid (grown_trans_ B1.out hg)
    have R2 := Lib.hid hr
    clear hg hr
    go_wp2
    refine ⟨rfl, ?_⟩
    have hP : fP rateK xs = .error k := by simp only [rateK, fP, fp1, bindP, R1.out, R2.out]
    unfold Gpost; rw [hP]
    exact ⟨rfl, B2.out⟩
  rw [hr] at hp
  obtain ⟨rfl, hG, hg⟩ := hp
  have H2 := Lib.hid hG
  have K2 := Lib.hid (K1.out.grown hg hne')
  have B2 := Lib.hid (grown_trans_ B1.out hg)
  have R2 := Lib.hid hr
  clear hG hg hr
  have bf := K2.out
  have fz := bf.free
  have z0 := bf.cell 0
  have z1 := bf.cell 1
  simp at z0 z1
  clear bf
  go_wp2
  have bf := ((K2.out.set_ 0 (.int .i64 x0)).set_ 1 (.int .i64 x1))
  have y0 := bf.cell 0
  have y1 := bf.cell 1
  simp at y0 y1
  refine bodyPost_ret (v := .agg #[.int .i64 x0, .int .i64 x1]) (by simp [results, Tryd.results145, go_sem, y0, y1]) rfl ?_
  have hP : fP rateK xs = .ok ([(x0 : Int), x1], r2) := by simp only [rateK, fP, fp1, bindP, R1.out, R2.out]
  unfold Gpost; rw [hP]
  exact ⟨rfl, ((H2.out.out_ hlt 0 (.int .i64 x0)).out_ hlt 1 (.int .i64 x1)), (grown_far_ (grown_far_ B2.out (p := ⟨w.heap.size, 0, none⟩) (Nat.le_refl _) (.int .i64 x0)) (p := ⟨w.heap.size, 1, none⟩) (Nat.le_refl _) (.int .i64 x1))⟩
end Go.Proofs.YtnegondlkfeleaaDoor
