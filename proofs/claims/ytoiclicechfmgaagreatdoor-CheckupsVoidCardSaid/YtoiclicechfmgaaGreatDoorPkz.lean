import Derived.Test.YtoiclicechfmgaaGreatDoorGtz
/- A rate, put and got; what is shared by the lists. -/
namespace Go.Proofs.YtoiclicechfmgaaGreatDoor
open Go.RowKit

/-- rate: the fields' kinds. -/
def rateK : List IntKind := [.i64, .i64]
theorem rate_of {l : List Int} (h : l.length = 2) : ∃ x0 x1, l = [x0, x1] := by
  match l, h with
  | [x0, x1], _ => exact ⟨x0, x1, rfl⟩
theorem rate_fok {l : List Int} (h : fok rateK l) : ∃ x0 x1, l = [x0, x1] ∧ fok1 .i64 x0 ∧ fok1 .i64 x1 := by
  obtain ⟨x0, x1, rfl⟩ := rate_of (fok_len _ _ h)
  simp only [rateK, fok] at h
  exact ⟨x0, x1, rfl, h.1, h.2.1⟩
abbrev rateV (l : List Int) : Value := .agg (fc rateK l).toArray
theorem rate_bad {xs : List Int} {k : Int} (h : fP rateK xs = .error k) : signP xs = .error k ∨ ∃ a r, signP xs = .ok (a, r) ∧ signP r = .error k := by
  simp only [rateK, fP, fp1, bindP] at h
  split at h
  · rename_i a r e1
    refine .inr ⟨a, r, e1, ?_⟩
    split at h
    · rename_i e2; split at e2
      · cases h
      · cases e2
    · rename_i e2; split at e2
      · cases e2
      · rename_i e3; injection e2 with e2; injection h with h; subst e2; subst h; exact e3
  · rename_i e1; injection h with h; subst h; exact .inl e1
theorem rate_ok {xs r : List Int} {l : List Int} (h : fP rateK xs = .ok (l, r)) : ∃ a d ra, l = [a, d] ∧ signP xs = .ok (a, ra) ∧ signP ra = .ok (d, r) := by
  simp only [rateK, fP, fp1, bindP] at h
  split at h
  · rename_i a ra e1
    split at h
    · rename_i l2 r2 e2
      split at e2
      · rename_i d r3 e3
        injection e2 with e2; injection e2 with e2 e2'
        injection h with h; injection h with h h'
        subst e2; subst e2'; subst h; subst h'
        exact ⟨a, d, ra, rfl, e1, e3⟩
      · cases e2
    · cases h
  · cases h
/-- What reads outside of what is being put goes on to read so. -/
theorem Tn.rd {W0 w : World} {p : Nat} {b : Option Nat} {size n : Nat} {v : Value} {xs : List Value} (ht : Tn W0 p b w) (h : Rd W0 size v n xs) (hne : n = 0 ∨ ∀ k, v.ownBlock = some k → k ≠ p ∧ some k ≠ b) : Rd w size v n xs := by
  obtain ⟨A, c, rfl, hc, hl, hh⟩ := h
  refine ⟨A, c, rfl, hc, hl, ?_⟩
  rcases hne with h0 | hne
  · exact .inl h0
  refine hh.imp id ?_
  rintro ⟨g, o, rfl, hg, hcell⟩
  obtain ⟨h1, h2⟩ := hne g rfl
  exact ⟨g, o, rfl, Nat.lt_of_lt_of_le hg ht.size, fun j u hu => (World.cell?_of_block (a := ⟨g, o + j, none⟩) (ht.block g hg h1 h2)).trans (hcell j u hu)⟩
theorem flat_snoc {α : Type} (f : α → List Int) (gs : List α) (k : Nat) (hk : k < gs.length) : (gs.take (k + 1)).flatMap f = (gs.take k).flatMap f ++ f gs[k] := by
  rw [List.take_succ_eq_append_getElem hk, List.flatMap_append]; simp
theorem flat_len_le {α : Type} (f : α → List Int) (gs : List α) (k : Nat) : ((gs.take k).flatMap f).length ≤ (gs.flatMap f).length := by
  conv => rhs; rw [← List.take_append_drop k gs, List.flatMap_append]
  simp
/-- What is read lies apart from what is being put, from step to step. -/
theorem off_step {_w W : World} {size n p : Nat} {v : Value} {xs : List Value} {b b' : Option Nat} (h : Rd W size v n xs) (hne : n = 0 ∨ ∀ k, v.ownBlock = some k → k ≠ p ∧ some k ≠ b) (hb : b' = b ∨ ∀ k, b' = some k → W.heap.size ≤ k) :
    n = 0 ∨ ∀ k, v.ownBlock = some k → k ≠ p ∧ some k ≠ b' := by
  rcases hne with h0 | hne
  · exact .inl h0
  obtain ⟨A, c, rfl, hc, hl, h0 | ⟨g, o, rfl, hg, _⟩⟩ := h
  · exact .inl h0
  refine .inr fun k hk => ⟨(hne k hk).1, ?_⟩
  have hkg : k = g := by simpa [Value.ownBlock] using hk.symm
  subst hkg
  rcases hb with rfl | hb
  · exact (hne k hk).2
  · intro e; have := hb k e.symm; omega
theorem off_new {w : World} {size n : Nat} {v : Value} {xs : List Value} (h : Rd w size v n xs) : n = 0 ∨ ∀ k, v.ownBlock = some k → k ≠ w.heap.size + 1 ∧ some k ≠ none := by
  obtain ⟨A, c, rfl, hc, hl, h0 | ⟨g, o, rfl, hg, _⟩⟩ := h
  · exact .inl h0
  · exact .inr fun k hk => by
      have hkg : k = g := by simpa [Value.ownBlock] using hk.symm
      subst hkg
      exact ⟨by omega, by simp⟩
/-- All is put: the buffer is of its own. -/
theorem Pv.done {W W0 w : World} {p : Nat} {xs : List Int} (h : Pv W0 p none w xs) (hb : Below W.heap.size W W0) (hp : W.heap.size ≤ p) (hs : W.heap.size ≤ W0.heap.size) :
    ∃ v, Blk w p 300 #[v] ∧ Bo W.heap.size w v xs ∧ Below W.heap.size W w := by
  obtain ⟨⟨b1, hu, h1⟩, ht⟩ := h
  obtain ⟨v, hk, ho, rfl⟩ := hu.ex
  refine ⟨v, hk, ?_, hb.trans (ht.to_below hp (by simp) hs)⟩
  rcases ho with ho | ⟨g, c, cur, rfl, _, h⟩
  · exact .inl ho
  · refine .inr ⟨g, c, cur, rfl, ?_, h⟩
    rcases h1 with h1 | h1
    · simp [Value.ownBlock] at h1
    · have := h1 g rfl; omega
set_option maxHeartbeats 4000000 in
set_option maxRecDepth 100000 in
theorem prate_any (p : Nat) (x0 x1 : Int) (h0 : fok1 .i64 x0) (h1 : fok1 .i64 x1) (b : Option Nat) (w : World) (xs : List Int) (h : Pu w p b xs) (hl : xs.length + (fB rateK [x0, x1]).length ≤ 70368744177664) :
    Calls Tryz.prog 198 #[.pointer (some ⟨p, 0, none⟩), .agg #[.int .i64 x0, .int .i64 x1]] w fun e w' => e = .returned (.tuple #[]) ∧ Pv w p b w' (xs ++ fB rateK [x0, x1]) := by
  have Q0 := Lib.hid h0
  have Q1 := Lib.hid h1
  obtain ⟨hp, k0, n1, n2⟩ := h.box 233 #[.int .i64 x0, .int .i64 x1]
  have K := Lib.hid k0
  have P0 := Lib.hid hp
  simp only [rateK, fB, fb1, List.headD_cons, List.tail_cons, List.length_append, List.append_nil] at hl
  have HL := Lib.hid hl
  clear h hp k0 hl h0 h1
  go_enter Tryz.func198, Tryz.ntmps198
  go_wp2_with fail
  refine (psign_v p x0 b _ _ (xs) P0.out Q0.out (by have := HL.out; (try simp only [rateK, List.take, fB, fb1, List.headD_cons, List.tail_cons, List.length_append, List.length_nil, List.length_cons, List.append_nil] at this); (try simp only [rateK, List.take, fB, fb1, List.headD_cons, List.tail_cons, List.length_append, List.length_nil, List.length_cons, List.append_nil]); omega)).mono ?_
  rintro e w10 ⟨rfl, hP⟩
  have P10 := Lib.hid hP
  have k1 := hP.blk K.out n1 n2
  have c1_0 := k1.cell 0
  have c1_1 := k1.cell 1
  simp at c1_0 c1_1
  clear k1
  clear hP
  go_wp2_with fail
  refine (psign_v p x1 b _ _ (xs ++ (sb x0)) P10.out Q1.out (by have := HL.out; (try simp only [rateK, List.take, fB, fb1, List.headD_cons, List.tail_cons, List.length_append, List.length_nil, List.length_cons, List.append_nil] at this); (try simp only [List.length_append]); omega)).mono ?_
  rintro e w11 ⟨rfl, hP⟩
  have P11 := Lib.hid hP
  clear c1_0 c1_1
  clear hP
  go_wp2
  refine bodyPost_end (results_none rfl _ _ _) rfl ⟨rfl, ?_⟩
  have := Pv.base (below_alloc_ _ _) P11.out
  simpa only [rateK, rateK, fB, fb1, List.take, List.headD_cons, List.tail_cons, List.append_nil, List.append_assoc, List.cons_append, List.nil_append] using this
theorem prate_v (p : Nat) (x0 x1 : Int) (h0 : fok1 .i64 x0) (h1 : fok1 .i64 x1) (b : Option Nat) (W0 w : World) (xs : List Int) (h : Pv W0 p b w xs) (hl : xs.length + (fB rateK [x0, x1]).length ≤ 70368744177664) :
    Calls Tryz.prog 198 #[.pointer (some ⟨p, 0, none⟩), .agg #[.int .i64 x0, .int .i64 x1]] w fun e w' => e = .returned (.tuple #[]) ∧ Pv W0 p b w' (xs ++ fB rateK [x0, x1]) :=
  h.chain fun b' hu => prate_any p x0 x1 h0 h1 b' w xs hu hl
set_option maxHeartbeats 4000000 in
set_option maxRecDepth 100000 in
theorem grate_any (g : Nat) (xs : List Int) (w : World) (h : Gt w g xs) :
    Calls Tryz.prog 163 #[.pointer (some ⟨g, 0, none⟩)] w (Gpost (fP rateK xs) rateV g w) := by
  have hG0 := h.alloc (.cells #[.int .i64 0, .int .i64 0] 233)
  have hlt := h.lt
  have hne : w.heap.size ≠ g := by omega
  have hne' : some w.heap.size ≠ some g := fun e => hne (Option.some.inj e)
  have K0 := Lib.hid (Blk.new w 233 #[.int .i64 0, .int .i64 0])
  have H0 := Lib.hid hG0
  have B0 := Lib.hid (grown_below_ (below_alloc_ w (.cells #[.int .i64 0, .int .i64 0] 233)) (some g))
  clear h hG0
  go_enter Tryz.func163, Tryz.ntmps163
  go_wp2_with fail
  refine (gsign_any g _ _ H0.out).mono ?_
  intro e w1 hp
  rcases hr : signP xs with k | ⟨x0, r1⟩
  · rw [hr] at hp
    obtain ⟨rfl, hg⟩ := hp
    have B1 := Lib.hid (grown_trans_ B0.out hg)
    have R1 := Lib.hid hr
    clear hg hr
    go_wp2
    refine ⟨rfl, ?_⟩
    have hP : fP rateK xs = .error k := by simp only [rateK, fP, fp1, bindP, R1.out]
    unfold Gpost; rw [hP]
    exact ⟨rfl, B1.out⟩
  rw [hr] at hp
  obtain ⟨rfl, hG, hg⟩ := hp
  have H1 := Lib.hid hG
  have K1 := Lib.hid (K0.out.grown hg hne')
  have B1 := Lib.hid (grown_trans_ B0.out hg)
  have R1 := Lib.hid hr
  clear hG hg hr
  go_wp2_with fail
  refine (gsign_any g _ _ H1.out).mono ?_
  intro e w2 hp
  rcases hr : signP r1 with k | ⟨x1, r2⟩
  · rw [hr] at hp
    obtain ⟨rfl, hg⟩ := hp
    have B2 := Lib.hid (grown_trans_ B1.out hg)
    have R2 := Lib.hid hr
    clear hg hr
    go_wp2
    refine ⟨rfl, ?_⟩
    have hP : fP rateK xs = .error k := by simp only [rateK, fP, fp1, bindP, R1.out, R2.out]
    unfold Gpost; rw [hP]
    exact ⟨rfl, B2.out⟩
  rw [hr] at hp
  obtain ⟨rfl, hG, hg⟩ := hp
  have H2 := Lib.hid hG
  have K2 := Lib.hid (K1.out.grown hg hne')
  have B2 := Lib.hid (grown_trans_ B1.out hg)
  have R2 := Lib.hid hr
  clear hG hg hr
  have bf := K2.out
  have fz := bf.free
  have z0 := bf.cell 0
  have z1 := bf.cell 1
  simp at z0 z1
  clear bf
  go_wp2
  have bf := ((K2.out.set_ 0 (.int .i64 x0)).set_ 1 (.int .i64 x1))
  have y0 := bf.cell 0
  have y1 := bf.cell 1
  simp at y0 y1
  refine bodyPost_ret (v := .agg #[.int .i64 x0, .int .i64 x1]) (by simp [results, Tryz.results163, go_sem, y0, y1]) rfl ?_
  have hP : fP rateK xs = .ok ([(x0 : Int), x1], r2) := by simp only [rateK, fP, fp1, bindP, R1.out, R2.out]
  unfold Gpost; rw [hP]
  exact ⟨rfl, ((H2.out.out_ hlt 0 (.int .i64 x0)).out_ hlt 1 (.int .i64 x1)), (grown_far_ (grown_far_ B2.out (p := ⟨w.heap.size, 0, none⟩) (Nat.le_refl _) (.int .i64 x0)) (p := ⟨w.heap.size, 1, none⟩) (Nat.le_refl _) (.int .i64 x1))⟩
end Go.Proofs.YtoiclicechfmgaaGreatDoor

/- step: put and got, one and a list. -/
namespace Go.Proofs.YtoiclicechfmgaaGreatDoor
open Go.RowKit

/-- step: the fields' kinds. -/
def stepK : List IntKind := [.u8, .u8, .u8, .u8, .u8, .i64, .i64, .i64, .i64, .u64]
theorem step_of {l : List Int} (h : l.length = 10) : ∃ x0 x1 x2 x3 x4 x5 x6 x7 x8 x9, l = [x0, x1, x2, x3, x4, x5, x6, x7, x8, x9] := by
  match l, h with
  | [x0, x1, x2, x3, x4, x5, x6, x7, x8, x9], _ => exact ⟨x0, x1, x2, x3, x4, x5, x6, x7, x8, x9, rfl⟩
theorem step_fok {l : List Int} (h : fok stepK l) : ∃ x0 x1 x2 x3 x4 x5 x6 x7 x8 x9, l = [x0, x1, x2, x3, x4, x5, x6, x7, x8, x9] ∧ fok1 .u8 x0 ∧ fok1 .u8 x1 ∧ fok1 .u8 x2 ∧ fok1 .u8 x3 ∧ fok1 .u8 x4 ∧ fok1 .i64 x5 ∧ fok1 .i64 x6 ∧ fok1 .i64 x7 ∧ fok1 .i64 x8 ∧ fok1 .u64 x9 := by
  obtain ⟨x0, x1, x2, x3, x4, x5, x6, x7, x8, x9, rfl⟩ := step_of (fok_len _ _ h)
  simp only [stepK, fok] at h
  exact ⟨x0, x1, x2, x3, x4, x5, x6, x7, x8, x9, rfl, h.1, h.2.1, h.2.2.1, h.2.2.2.1, h.2.2.2.2.1, h.2.2.2.2.2.1, h.2.2.2.2.2.2.1, h.2.2.2.2.2.2.2.1, h.2.2.2.2.2.2.2.2.1, h.2.2.2.2.2.2.2.2.2.1⟩
abbrev stepV (l : List Int) : Value := .agg (fc stepK l).toArray
set_option maxHeartbeats 4000000 in
set_option maxRecDepth 100000 in
theorem pstep_any (p : Nat) (x0 x1 x2 x3 x4 x5 x6 x7 x8 x9 : Int) (h0 : fok1 .u8 x0) (h1 : fok1 .u8 x1) (h2 : fok1 .u8 x2) (h3 : fok1 .u8 x3) (h4 : fok1 .u8 x4) (h5 : fok1 .i64 x5) (h6 : fok1 .i64 x6) (h7 : fok1 .i64 x7) (h8 : fok1 .i64 x8) (h9 : fok1 .u64 x9) (b : Option Nat) (w : World) (xs : List Int) (h : Pu w p b xs) (hl : xs.length + (fB stepK [x0, x1, x2, x3, x4, x5, x6, x7, x8, x9]).length ≤ 70368744177664) :
    Calls Tryz.prog 184 #[.pointer (some ⟨p, 0, none⟩), .agg #[.int .u8 x0, .int .u8 x1, .int .u8 x2, .int .u8 x3, .int .u8 x4, .int .i64 x5, .int .i64 x6, .int .i64 x7, .int .i64 x8, .int .u64 x9]] w fun e w' => e = .returned (.tuple #[]) ∧ Pv w p b w' (xs ++ fB stepK [x0, x1, x2, x3, x4, x5, x6, x7, x8, x9]) := by
  have Q0 := Lib.hid h0
  have Q1 := Lib.hid h1
  have Q2 := Lib.hid h2
  have Q3 := Lib.hid h3
  have Q4 := Lib.hid h4
  have Q5 := Lib.hid h5
  have Q6 := Lib.hid h6
  have Q7 := Lib.hid h7
  have Q8 := Lib.hid h8
  have Q9 := Lib.hid h9
  obtain ⟨-, k0, n1, n2⟩ := h.box 235 #[.int .u8 x0, .int .u8 x1, .int .u8 x2, .int .u8 x3, .int .u8 x4, .int .i64 x5, .int .i64 x6, .int .i64 x7, .int .i64 x8, .int .u64 x9]
  have P0 := Lib.hid ((h.alloc (.cells #[.int .u8 x0, .int .u8 x1, .int .u8 x2, .int .u8 x3, .int .u8 x4, .int .i64 x5, .int .i64 x6, .int .i64 x7, .int .i64 x8, .int .u64 x9] 235)).alloc (.cells #[.int .u8 x0, .int .u8 x1, .int .u8 x2, .int .u8 x3, .int .u8 x4] 5)).pv
  have K := Lib.hid (k0.alloc (.cells #[.int .u8 x0, .int .u8 x1, .int .u8 x2, .int .u8 x3, .int .u8 x4] 5))
  have bs0 := Blk.new (w.alloc (.cells #[.int .u8 x0, .int .u8 x1, .int .u8 x2, .int .u8 x3, .int .u8 x4, .int .i64 x5, .int .i64 x6, .int .i64 x7, .int .i64 x8, .int .u64 x9] 235)) 5 #[.int .u8 x0, .int .u8 x1, .int .u8 x2, .int .u8 x3, .int .u8 x4]
  rw [World.size_alloc] at bs0
  have BS := Lib.hid bs0
  have n3 : w.heap.size + 1 ≠ p := fun e => by have := h.lt; omega
  have n4 : some (w.heap.size + 1) ≠ b := fun e => by have := h.blt _ e.symm; omega
  simp only [stepK, fB, fb1, List.headD_cons, List.tail_cons, List.length_append, List.length_nil, List.length_cons, List.append_nil] at hl
  have HL := Lib.hid hl
  clear h k0 bs0 hl h0 h1 h2 h3 h4 h5 h6 h7 h8 h9
  go_enter Tryz.func184, Tryz.ntmps184
  go_wp2_with fail
  go_loopg [18] 5 (fun g c18 wr => ∃ k : Nat, k ≤ 5 ∧ g = 5 - k ∧ c18 = .int .i64 k ∧ Pv ((w.alloc (.cells #[.int .u8 x0, .int .u8 x1, .int .u8 x2, .int .u8 x3, .int .u8 x4, .int .i64 x5, .int .i64 x6, .int .i64 x7, .int .i64 x8, .int .u64 x9] 235)).alloc (.cells #[.int .u8 x0, .int .u8 x1, .int .u8 x2, .int .u8 x3, .int .u8 x4] 5)) p b wr (xs ++ [x0, x1, x2, x3, x4].take k))
  case atStart => exact ⟨0, Nat.zero_le _, rfl, rfl, by simpa using P0.out⟩
  case round =>
    obtain ⟨k, hk, hgk, rfl, hP⟩ := hrel
    have P2 := Lib.hid hP
    have GK := Lib.hid hgk
    have bs := hP.blk BS.out n3 n4
    have kb := hP.blk K.out n1 n2
    clear hgk hP
    match k, hk with
    | 0, _ =>
      have e := bs.cell 0
      simp at e
      clear bs kb
      go_wp2_with fail
      refine (pbyte_v p x0 b _ _ _ P2.out (by have := HL.out; simp; omega)).mono ?_
      rintro e w2 ⟨rfl, hP3⟩
      have P3 := Lib.hid hP3
      clear hP3
      go_wp2
      go_roundg (4)
      case measure => have := GK.out; omega
      case rel => exact ⟨1, by omega, rfl, by go_num, by simpa using P3.out⟩
    | 1, _ =>
      have e := bs.cell 1
      simp at e
      clear bs kb
      go_wp2_with fail
      refine (pbyte_v p x1 b _ _ _ P2.out (by have := HL.out; simp; omega)).mono ?_
      rintro e w2 ⟨rfl, hP3⟩
      have P3 := Lib.hid hP3
      clear hP3
      go_wp2
      go_roundg (3)
      case measure => have := GK.out; omega
      case rel => exact ⟨2, by omega, rfl, by go_num, by simpa using P3.out⟩
    | 2, _ =>
      have e := bs.cell 2
      simp at e
      clear bs kb
      go_wp2_with fail
      refine (pbyte_v p x2 b _ _ _ P2.out (by have := HL.out; simp; omega)).mono ?_
      rintro e w2 ⟨rfl, hP3⟩
      have P3 := Lib.hid hP3
      clear hP3
      go_wp2
      go_roundg (2)
      case measure => have := GK.out; omega
      case rel => exact ⟨3, by omega, rfl, by go_num, by simpa using P3.out⟩
    | 3, _ =>
      have e := bs.cell 3
      simp at e
      clear bs kb
      go_wp2_with fail
      refine (pbyte_v p x3 b _ _ _ P2.out (by have := HL.out; simp; omega)).mono ?_
      rintro e w2 ⟨rfl, hP3⟩
      have P3 := Lib.hid hP3
      clear hP3
      go_wp2
      go_roundg (1)
      case measure => have := GK.out; omega
      case rel => exact ⟨4, by omega, rfl, by go_num, by simpa using P3.out⟩
    | 4, _ =>
      have e := bs.cell 4
      simp at e
      clear bs kb
      go_wp2_with fail
      refine (pbyte_v p x4 b _ _ _ P2.out (by have := HL.out; simp; omega)).mono ?_
      rintro e w2 ⟨rfl, hP3⟩
      have P3 := Lib.hid hP3
      clear hP3
      go_wp2
      go_roundg (0)
      case measure => have := GK.out; omega
      case rel => exact ⟨5, by omega, rfl, by go_num, by simpa using P3.out⟩
    | 5, _ =>
      have c0_0 := kb.cell 0
      have c0_1 := kb.cell 1
      have c0_2 := kb.cell 2
      have c0_3 := kb.cell 3
      have c0_4 := kb.cell 4
      have c0_5 := kb.cell 5
      have c0_6 := kb.cell 6
      have c0_7 := kb.cell 7
      have c0_8 := kb.cell 8
      have c0_9 := kb.cell 9
      simp at c0_0 c0_1 c0_2 c0_3 c0_4 c0_5 c0_6 c0_7 c0_8 c0_9
      clear bs kb
      go_wp2_with fail
      refine (psign_v p x5 b _ _ (xs ++ [x0, x1, x2, x3, x4].take 5) P2.out Q5.out (by have := HL.out; (try simp only [rateK, List.take, fB, fb1, List.headD_cons, List.tail_cons, List.length_append, List.length_nil, List.length_cons, List.append_nil] at this); (try simp only [List.take, List.length_append, List.length_nil, List.length_cons]); omega)).mono ?_
      rintro e w10 ⟨rfl, hP⟩
      have P10 := Lib.hid hP
      clear c0_0 c0_1 c0_2 c0_3 c0_4 c0_5 c0_6 c0_7 c0_8 c0_9
      have k1 := hP.blk K.out n1 n2
      have c1_0 := k1.cell 0
      have c1_1 := k1.cell 1
      have c1_2 := k1.cell 2
      have c1_3 := k1.cell 3
      have c1_4 := k1.cell 4
      have c1_5 := k1.cell 5
      have c1_6 := k1.cell 6
      have c1_7 := k1.cell 7
      have c1_8 := k1.cell 8
      have c1_9 := k1.cell 9
      simp at c1_0 c1_1 c1_2 c1_3 c1_4 c1_5 c1_6 c1_7 c1_8 c1_9
      clear k1
      clear hP
      go_wp2_with fail
      refine (psign_v p x6 b _ _ (xs ++ [x0, x1, x2, x3, x4].take 5 ++ (sb x5)) P10.out Q6.out (by have := HL.out; (try simp only [rateK, List.take, fB, fb1, List.headD_cons, List.tail_cons, List.length_append, List.length_nil, List.length_cons, List.append_nil] at this); (try simp only [List.take, List.length_append, List.length_nil, List.length_cons]); omega)).mono ?_
      rintro e w11 ⟨rfl, hP⟩
      have P11 := Lib.hid hP
      clear c1_0 c1_1 c1_2 c1_3 c1_4 c1_5 c1_6 c1_7 c1_8 c1_9
      have k2 := hP.blk K.out n1 n2
      have c2_0 := k2.cell 0
      have c2_1 := k2.cell 1
      have c2_2 := k2.cell 2
      have c2_3 := k2.cell 3
      have c2_4 := k2.cell 4
      have c2_5 := k2.cell 5
      have c2_6 := k2.cell 6
      have c2_7 := k2.cell 7
      have c2_8 := k2.cell 8
      have c2_9 := k2.cell 9
      simp at c2_0 c2_1 c2_2 c2_3 c2_4 c2_5 c2_6 c2_7 c2_8 c2_9
      clear k2
      clear hP
      go_wp2_with fail
      refine (prate_v p x7 x8 Q7.out Q8.out b _ _ (xs ++ [x0, x1, x2, x3, x4].take 5 ++ (sb x5) ++ (sb x6)) P11.out (by have := HL.out; (try simp only [rateK, List.take, fB, fb1, List.headD_cons, List.tail_cons, List.length_append, List.length_nil, List.length_cons, List.append_nil] at this); (try simp only [rateK, List.take, fB, fb1, List.headD_cons, List.tail_cons, List.length_append, List.length_nil, List.length_cons, List.append_nil]); omega)).mono ?_
      rintro e w12 ⟨rfl, hP⟩
      have P12 := Lib.hid hP
      clear c2_0 c2_1 c2_2 c2_3 c2_4 c2_5 c2_6 c2_7 c2_8 c2_9
      have k3 := hP.blk K.out n1 n2
      have c3_0 := k3.cell 0
      have c3_1 := k3.cell 1
      have c3_2 := k3.cell 2
      have c3_3 := k3.cell 3
      have c3_4 := k3.cell 4
      have c3_5 := k3.cell 5
      have c3_6 := k3.cell 6
      have c3_7 := k3.cell 7
      have c3_8 := k3.cell 8
      have c3_9 := k3.cell 9
      simp at c3_0 c3_1 c3_2 c3_3 c3_4 c3_5 c3_6 c3_7 c3_8 c3_9
      clear k3
      clear hP
      go_wp2_with fail
      refine (pnumz_v p x9 b _ _ (xs ++ [x0, x1, x2, x3, x4].take 5 ++ (sb x5) ++ (sb x6) ++ (fB rateK [x7, x8])) P12.out Q9.out (by have := HL.out; (try simp only [rateK, List.take, fB, fb1, List.headD_cons, List.tail_cons, List.length_append, List.length_nil, List.length_cons, List.append_nil] at this); (try simp only [rateK, List.take, fB, fb1, List.headD_cons, List.tail_cons, List.length_append, List.length_nil, List.length_cons, List.append_nil]); omega)).mono ?_
      rintro e w13 ⟨rfl, hP⟩
      have P13 := Lib.hid hP
      clear c3_0 c3_1 c3_2 c3_3 c3_4 c3_5 c3_6 c3_7 c3_8 c3_9
      clear hP
      go_wp2
      refine bodyPost_end (results_none rfl _ _ _) rfl ⟨rfl, ?_⟩
      have := Pv.base (below_alloc2_ _ _ _) P13.out
      simpa only [stepK, rateK, fB, fb1, List.take, List.headD_cons, List.tail_cons, List.append_nil, List.append_assoc, List.cons_append, List.nil_append] using this
theorem pstep_v (p : Nat) (x0 x1 x2 x3 x4 x5 x6 x7 x8 x9 : Int) (h0 : fok1 .u8 x0) (h1 : fok1 .u8 x1) (h2 : fok1 .u8 x2) (h3 : fok1 .u8 x3) (h4 : fok1 .u8 x4) (h5 : fok1 .i64 x5) (h6 : fok1 .i64 x6) (h7 : fok1 .i64 x7) (h8 : fok1 .i64 x8) (h9 : fok1 .u64 x9) (b : Option Nat) (W0 w : World) (xs : List Int) (h : Pv W0 p b w xs) (hl : xs.length + (fB stepK [x0, x1, x2, x3, x4, x5, x6, x7, x8, x9]).length ≤ 70368744177664) :
    Calls Tryz.prog 184 #[.pointer (some ⟨p, 0, none⟩), .agg #[.int .u8 x0, .int .u8 x1, .int .u8 x2, .int .u8 x3, .int .u8 x4, .int .i64 x5, .int .i64 x6, .int .i64 x7, .int .i64 x8, .int .u64 x9]] w fun e w' => e = .returned (.tuple #[]) ∧ Pv W0 p b w' (xs ++ fB stepK [x0, x1, x2, x3, x4, x5, x6, x7, x8, x9]) :=
  h.chain fun b' hu => pstep_any p x0 x1 x2 x3 x4 x5 x6 x7 x8 x9 h0 h1 h2 h3 h4 h5 h6 h7 h8 h9 b' w xs hu hl
set_option maxHeartbeats 4000000 in
set_option maxRecDepth 100000 in
theorem gstep_any (g : Nat) (xs : List Int) (w : World) (h : Gt w g xs) :
    Calls Tryz.prog 152 #[.pointer (some ⟨g, 0, none⟩)] w (Gpost (fP stepK xs) stepV g w) := by
  have hG0 := h.alloc (.cells #[.int .u8 0, .int .u8 0, .int .u8 0, .int .u8 0, .int .u8 0, .int .i64 0, .int .i64 0, .int .i64 0, .int .i64 0, .int .u64 0] 235)
  have hlt := h.lt
  have hne : w.heap.size ≠ g := by omega
  have hne' : some w.heap.size ≠ some g := fun e => hne (Option.some.inj e)
  have K0 := Lib.hid (Blk.new w 235 #[.int .u8 0, .int .u8 0, .int .u8 0, .int .u8 0, .int .u8 0, .int .i64 0, .int .i64 0, .int .i64 0, .int .i64 0, .int .u64 0])
  have H0 := Lib.hid hG0
  have B0 := Lib.hid (grown_below_ (below_alloc_ w (.cells #[.int .u8 0, .int .u8 0, .int .u8 0, .int .u8 0, .int .u8 0, .int .i64 0, .int .i64 0, .int .i64 0, .int .i64 0, .int .u64 0] 235)) (some g))
  clear h hG0
  go_enter Tryz.func152, Tryz.ntmps152
  go_wp2_with fail
  refine (gbyte_any g _ _ H0.out).mono ?_
  intro e w1 hp
  rcases hr : byteP xs with k | ⟨x0, r1⟩
  · rw [hr] at hp
    obtain ⟨rfl, hg⟩ := hp
    have B1 := Lib.hid (grown_trans_ B0.out hg)
    have R1 := Lib.hid hr
    clear hg hr
    go_wp2
    refine ⟨rfl, ?_⟩
    have hP : fP stepK xs = .error k := by simp only [stepK, fP, fp1, bindP, R1.out]
    unfold Gpost; rw [hP]
    exact ⟨rfl, B1.out⟩
  rw [hr] at hp
  obtain ⟨rfl, hG, hg⟩ := hp
  have H1 := Lib.hid hG
  have K1 := Lib.hid (K0.out.grown hg hne')
  have B1 := Lib.hid (grown_trans_ B0.out hg)
  have R1 := Lib.hid hr
  clear hG hg hr
  go_wp2_with fail
  refine (gbyte_any g _ _ H1.out).mono ?_
  intro e w2 hp
  rcases hr : byteP r1 with k | ⟨x1, r2⟩
  · rw [hr] at hp
    obtain ⟨rfl, hg⟩ := hp
    have B2 := Lib.hid (grown_trans_ B1.out hg)
    have R2 := Lib.hid hr
    clear hg hr
    go_wp2
    refine ⟨rfl, ?_⟩
    have hP : fP stepK xs = .error k := by simp only [stepK, fP, fp1, bindP, R1.out, R2.out]
    unfold Gpost; rw [hP]
    exact ⟨rfl, B2.out⟩
  rw [hr] at hp
  obtain ⟨rfl, hG, hg⟩ := hp
  have H2 := Lib.hid hG
  have K2 := Lib.hid (K1.out.grown hg hne')
  have B2 := Lib.hid (grown_trans_ B1.out hg)
  have R2 := Lib.hid hr
  clear hG hg hr
  go_wp2_with fail
  refine (gbyte_any g _ _ H2.out).mono ?_
  intro e w3 hp
  rcases hr : byteP r2 with k | ⟨x2, r3⟩
  · rw [hr] at hp
    obtain ⟨rfl, hg⟩ := hp
    have B3 := Lib.hid (grown_trans_ B2.out hg)
    have R3 := Lib.hid hr
    clear hg hr
    go_wp2
    refine ⟨rfl, ?_⟩
    have hP : fP stepK xs = .error k := by simp only [stepK, fP, fp1, bindP, R1.out, R2.out, R3.out]
    unfold Gpost; rw [hP]
    exact ⟨rfl, B3.out⟩
  rw [hr] at hp
  obtain ⟨rfl, hG, hg⟩ := hp
  have H3 := Lib.hid hG
  have K3 := Lib.hid (K2.out.grown hg hne')
  have B3 := Lib.hid (grown_trans_ B2.out hg)
  have R3 := Lib.hid hr
  clear hG hg hr
  go_wp2_with fail
  refine (gbyte_any g _ _ H3.out).mono ?_
  intro e w4 hp
  rcases hr : byteP r3 with k | ⟨x3, r4⟩
  · rw [hr] at hp
    obtain ⟨rfl, hg⟩ := hp
    have B4 := Lib.hid (grown_trans_ B3.out hg)
    have R4 := Lib.hid hr
    clear hg hr
    go_wp2
    refine ⟨rfl, ?_⟩
    have hP : fP stepK xs = .error k := by simp only [stepK, fP, fp1, bindP, R1.out, R2.out, R3.out, R4.out]
    unfold Gpost; rw [hP]
    exact ⟨rfl, B4.out⟩
  rw [hr] at hp
  obtain ⟨rfl, hG, hg⟩ := hp
  have H4 := Lib.hid hG
  have K4 := Lib.hid (K3.out.grown hg hne')
  have B4 := Lib.hid (grown_trans_ B3.out hg)
  have R4 := Lib.hid hr
  clear hG hg hr
  go_wp2_with fail
  refine (gbyte_any g _ _ H4.out).mono ?_
  intro e w5 hp
  rcases hr : byteP r4 with k | ⟨x4, r5⟩
  · rw [hr] at hp
    obtain ⟨rfl, hg⟩ := hp
    have B5 := Lib.hid (grown_trans_ B4.out hg)
    have R5 := Lib.hid hr
    clear hg hr
    go_wp2
    refine ⟨rfl, ?_⟩
    have hP : fP stepK xs = .error k := by simp only [stepK, fP, fp1, bindP, R1.out, R2.out, R3.out, R4.out, R5.out]
    unfold Gpost; rw [hP]
    exact ⟨rfl, B5.out⟩
  rw [hr] at hp
  obtain ⟨rfl, hG, hg⟩ := hp
  have H5 := Lib.hid hG
  have K5 := Lib.hid (K4.out.grown hg hne')
  have B5 := Lib.hid (grown_trans_ B4.out hg)
  have R5 := Lib.hid hr
  clear hG hg hr
  go_wp2_with fail
  refine (gsign_any g _ _ H5.out).mono ?_
  intro e w6 hp
  rcases hr : signP r5 with k | ⟨x5, r6⟩
  · rw [hr] at hp
    obtain ⟨rfl, hg⟩ := hp
    have B6 := Lib.hid (grown_trans_ B5.out hg)
    have R6 := Lib.hid hr
    clear hg hr
    go_wp2
    refine ⟨rfl, ?_⟩
    have hP : fP stepK xs = .error k := by simp only [stepK, fP, fp1, bindP, R1.out, R2.out, R3.out, R4.out, R5.out, R6.out]
    unfold Gpost; rw [hP]
    exact ⟨rfl, B6.out⟩
  rw [hr] at hp
  obtain ⟨rfl, hG, hg⟩ := hp
  have H6 := Lib.hid hG
  have K6 := Lib.hid (K5.out.grown hg hne')
  have B6 := Lib.hid (grown_trans_ B5.out hg)
  have R6 := Lib.hid hr
  clear hG hg hr
  go_wp2_with fail
  refine (gsign_any g _ _ H6.out).mono ?_
  intro e w7 hp
  rcases hr : signP r6 with k | ⟨x6, r7⟩
  · rw [hr] at hp
    obtain ⟨rfl, hg⟩ := hp
    have B7 := Lib.hid (grown_trans_ B6.out hg)
    have R7 := Lib.hid hr
    clear hg hr
    go_wp2
    refine ⟨rfl, ?_⟩
    have hP : fP stepK xs = .error k := by simp only [stepK, fP, fp1, bindP, R1.out, R2.out, R3.out, R4.out, R5.out, R6.out, R7.out]
    unfold Gpost; rw [hP]
    exact ⟨rfl, B7.out⟩
  rw [hr] at hp
  obtain ⟨rfl, hG, hg⟩ := hp
  have H7 := Lib.hid hG
  have K7 := Lib.hid (K6.out.grown hg hne')
  have B7 := Lib.hid (grown_trans_ B6.out hg)
  have R7 := Lib.hid hr
  clear hG hg hr
  go_wp2_with fail
  refine (grate_any g _ _ H7.out).mono ?_
  intro e w8 hp
  rcases hr : fP rateK r7 with k | ⟨lr, r8⟩
  · rw [hr] at hp
    obtain ⟨rfl, hg⟩ := hp
    have B8 := Lib.hid (grown_trans_ B7.out hg)
    have R8 := Lib.hid hr
    clear hg hr
    go_wp2
    refine ⟨rfl, ?_⟩
    have hP : fP stepK xs = .error k := by
      rcases rate_bad R8.out with h1 | ⟨a1, ra, h1, h2⟩
      · simp only [stepK, fP, fp1, bindP, R1.out, R2.out, R3.out, R4.out, R5.out, R6.out, R7.out, h1]
      · simp only [stepK, fP, fp1, bindP, R1.out, R2.out, R3.out, R4.out, R5.out, R6.out, R7.out, h1, h2]
    unfold Gpost; rw [hP]
    exact ⟨rfl, B8.out⟩
  obtain ⟨x7, x8, ra, rfl, hr1, hr2⟩ := rate_ok hr
  rw [hr] at hp
  obtain ⟨rfl, hG, hg⟩ := hp
  have H8 := Lib.hid hG
  have K8 := Lib.hid (K7.out.grown hg hne')
  have B8 := Lib.hid (grown_trans_ B7.out hg)
  have R8a := Lib.hid hr1
  have R8b := Lib.hid hr2
  clear hG hg hr hr1 hr2
  simp only [rateV, rateK, fc, List.headD_cons, List.tail_cons]
  go_wp2_with fail
  refine (gnum_any g _ _ H8.out).mono ?_
  intro e w9 hp
  rcases hr : numP r8 with k | ⟨x9, r9⟩
  · rw [hr] at hp
    obtain ⟨rfl, hg⟩ := hp
    have B9 := Lib.hid (grown_trans_ B8.out hg)
    have R9 := Lib.hid hr
    clear hg hr
    go_wp2
    refine ⟨rfl, ?_⟩
    have hP : fP stepK xs = .error k := by simp only [stepK, fP, fp1, bindP, R1.out, R2.out, R3.out, R4.out, R5.out, R6.out, R7.out, R8a.out, R8b.out, R9.out]
    unfold Gpost; rw [hP]
    exact ⟨rfl, B9.out⟩
  rw [hr] at hp
  obtain ⟨rfl, hG, hg⟩ := hp
  have H9 := Lib.hid hG
  have K9 := Lib.hid (K8.out.grown hg hne')
  have B9 := Lib.hid (grown_trans_ B8.out hg)
  have R9 := Lib.hid hr
  clear hG hg hr
  have bf := K9.out
  have fz := bf.free
  have z0 := bf.cell 0
  have z1 := bf.cell 1
  have z2 := bf.cell 2
  have z3 := bf.cell 3
  have z4 := bf.cell 4
  have z5 := bf.cell 5
  have z6 := bf.cell 6
  have z7 := bf.cell 7
  have z8 := bf.cell 8
  have z9 := bf.cell 9
  simp at z0 z1 z2 z3 z4 z5 z6 z7 z8 z9
  clear bf
  go_wp2
  have bf := ((((((((((K9.out.set_ 0 (.int .u8 x0)).set_ 1 (.int .u8 x1)).set_ 2 (.int .u8 x2)).set_ 3 (.int .u8 x3)).set_ 4 (.int .u8 x4)).set_ 5 (.int .i64 x5)).set_ 6 (.int .i64 x6)).set_ 7 (.int .i64 x7)).set_ 8 (.int .i64 x8)).set_ 9 (.int .u64 x9))
  have y0 := bf.cell 0
  have y1 := bf.cell 1
  have y2 := bf.cell 2
  have y3 := bf.cell 3
  have y4 := bf.cell 4
  have y5 := bf.cell 5
  have y6 := bf.cell 6
  have y7 := bf.cell 7
  have y8 := bf.cell 8
  have y9 := bf.cell 9
  simp at y0 y1 y2 y3 y4 y5 y6 y7 y8 y9
  refine bodyPost_ret (v := .agg #[.int .u8 x0, .int .u8 x1, .int .u8 x2, .int .u8 x3, .int .u8 x4, .int .i64 x5, .int .i64 x6, .int .i64 x7, .int .i64 x8, .int .u64 x9]) (by simp [results, Tryz.results152, go_sem, y0, y1, y2, y3, y4, y5, y6, y7, y8, y9]) rfl ?_
  have hP : fP stepK xs = .ok ([(x0 : Int), x1, x2, x3, x4, x5, x6, x7, x8, x9], r9) := by simp only [stepK, fP, fp1, bindP, R1.out, R2.out, R3.out, R4.out, R5.out, R6.out, R7.out, R8a.out, R8b.out, R9.out]
  unfold Gpost; rw [hP]
  exact ⟨rfl, ((((((((((H9.out.out_ hlt 0 (.int .u8 x0)).out_ hlt 1 (.int .u8 x1)).out_ hlt 2 (.int .u8 x2)).out_ hlt 3 (.int .u8 x3)).out_ hlt 4 (.int .u8 x4)).out_ hlt 5 (.int .i64 x5)).out_ hlt 6 (.int .i64 x6)).out_ hlt 7 (.int .i64 x7)).out_ hlt 8 (.int .i64 x8)).out_ hlt 9 (.int .u64 x9)), (grown_far_ (grown_far_ (grown_far_ (grown_far_ (grown_far_ (grown_far_ (grown_far_ (grown_far_ (grown_far_ (grown_far_ B9.out (p := ⟨w.heap.size, 0, none⟩) (Nat.le_refl _) (.int .u8 x0)) (p := ⟨w.heap.size, 1, none⟩) (Nat.le_refl _) (.int .u8 x1)) (p := ⟨w.heap.size, 2, none⟩) (Nat.le_refl _) (.int .u8 x2)) (p := ⟨w.heap.size, 3, none⟩) (Nat.le_refl _) (.int .u8 x3)) (p := ⟨w.heap.size, 4, none⟩) (Nat.le_refl _) (.int .u8 x4)) (p := ⟨w.heap.size, 5, none⟩) (Nat.le_refl _) (.int .i64 x5)) (p := ⟨w.heap.size, 6, none⟩) (Nat.le_refl _) (.int .i64 x6)) (p := ⟨w.heap.size, 7, none⟩) (Nat.le_refl _) (.int .i64 x7)) (p := ⟨w.heap.size, 8, none⟩) (Nat.le_refl _) (.int .i64 x8)) (p := ⟨w.heap.size, 9, none⟩) (Nat.le_refl _) (.int .u64 x9))⟩
theorem step_info : (Tryz.prog.info? 235).map (fun i => (i.zero, i.size, i.bytes)) = some (some (.agg #[.int .u8 0, .int .u8 0, .int .u8 0, .int .u8 0, .int .u8 0, .int .i64 0, .int .i64 0, .int .i64 0, .int .i64 0, .int .u64 0]), 10, 48) := by kernel_rfl
theorem step_clip (A : Option Addr) (n c : Nat) (w : World) (hc : n ≤ c) (hn : n ≤ 4611686018427387904) :
    Calls Tryz.prog 138 #[.slice A n c] w fun e w' => e = .returned (.slice A n n) ∧ w = w' := by
  have h1 : (n : Int) ≤ (c : Int) := by omega
  have h2 : (n : Int) ≤ 4611686018427387904 := by omega
  have h3 : ¬ (c : Int) < (n : Int) := by omega
  go_enter Tryz.func138, Tryz.ntmps138
  go_wp2
  go_ret
  exact ⟨by cases A <;> simp, rfl⟩
/-- The slice v holds these. -/
def Steps (w : World) (v : Value) (rows : List (List Int)) : Prop := Rd w 10 v rows.length (rows.flatMap (fc stepK))
theorem fcstep_len (x : List Int) : (fc stepK x).length = 10 := fc_len _ _
def stepsB (rows : List (List Int)) : List Int := listB (fB stepK) rows
set_option maxHeartbeats 4000000 in
set_option maxRecDepth 100000 in
theorem psteps_any (p : Nat) (v : Value) (rows : List (List Int)) (hin : ∀ q ∈ rows, fok stepK q) (b : Option Nat) (w : World) (xs : List Int) (h : Pu w p b xs) (hv : Steps w v rows) (hne : rows.length = 0 ∨ ∀ k, v.ownBlock = some k → k ≠ p ∧ some k ≠ b)
    (hl : xs.length + (stepsB rows).length ≤ 70368744177664) (hg : rows.length ≤ 4611686018427387904) :
    Calls Tryz.prog 183 #[.pointer (some ⟨p, 0, none⟩), v, .func (.func 184) #[] #[]] w fun e w' => e = .returned (.tuple #[]) ∧ Pv w p b w' (xs ++ stepsB rows) := by
  have P0 := Lib.hid h.pv
  have HL := Lib.hid hl
  have HV := Lib.hid hv
  have HI := Lib.hid hin
  have HN := Lib.hid hne
  obtain ⟨A, c, rfl, hc, _⟩ := id hv
  obtain ⟨n, hn⟩ : ∃ n, n = rows.length := ⟨_, rfl⟩
  have N := Lib.hid hn
  rw [← hn] at hg ⊢
  have hg' : (n : Int) ≤ 4611686018427387904 := by omega
  clear h hl hv hne hn hc hg hin
  go_enter Tryz.func183, Tryz.ntmps183
  go_wp2_with fail
  refine (pnum_v p n b w w xs P0.out (by omega) (by have := HL.out; rw [N.out]; simp only [stepsB, listB, List.length_append] at this; omega)).mono ?_
  rintro e w1 ⟨rfl, hP⟩
  have P1 := Lib.hid hP
  clear hP
  go_wp2
  go_loopg [15] n (fun g c15 wr => ∃ k : Nat, k ≤ n ∧ g = n - k ∧ c15 = .int .i64 k ∧ Pv w p b wr (xs ++ nb n ++ (rows.take k).flatMap (fB stepK)))
  case atStart => exact ⟨0, Nat.zero_le _, by omega, rfl, by simpa using P1.out⟩
  case round =>
    obtain ⟨k, hk, hgk, rfl, hP⟩ := hrel
    have P2 := Lib.hid hP
    have GK := Lib.hid hgk
    clear hgk
    by_cases hkn : k < n
    · have hkl : k < rows.length := by have := N.out; omega
      have hrd := P2.out.tn.rd HV.out HN.out
      obtain ⟨g, o, c', hA, hc', hgl, hcell⟩ := Rd.at_ fcstep_len hrd (by omega)
      injection hA with hA1 hA4 hA3
      subst hA3
      clear hA4
      subst hA1
      obtain ⟨x0, x1, x2, x3, x4, x5, x6, x7, x8, x9, LX, hq0, hq1, hq2, hq3, hq4, hq5, hq6, hq7, hq8, hq9⟩ := step_fok (HI.out _ (List.getElem_mem hkl))
      have cl0 : wr.cell? ⟨g, o + k * 10, none⟩ = some (.int .u8 x0) := by have := hcell k hkl 0 (.int .u8 x0) (by omega) (by rw [LX]; rfl); simpa using this
      have cl1 : wr.cell? ⟨g, o + k * 10 + 1, none⟩ = some (.int .u8 x1) := by have := hcell k hkl 1 (.int .u8 x1) (by omega) (by rw [LX]; rfl); simpa using this
      have cl2 : wr.cell? ⟨g, o + k * 10 + 2, none⟩ = some (.int .u8 x2) := by have := hcell k hkl 2 (.int .u8 x2) (by omega) (by rw [LX]; rfl); simpa using this
      have cl3 : wr.cell? ⟨g, o + k * 10 + 3, none⟩ = some (.int .u8 x3) := by have := hcell k hkl 3 (.int .u8 x3) (by omega) (by rw [LX]; rfl); simpa using this
      have cl4 : wr.cell? ⟨g, o + k * 10 + 4, none⟩ = some (.int .u8 x4) := by have := hcell k hkl 4 (.int .u8 x4) (by omega) (by rw [LX]; rfl); simpa using this
      have cl5 : wr.cell? ⟨g, o + k * 10 + 5, none⟩ = some (.int .i64 x5) := by have := hcell k hkl 5 (.int .i64 x5) (by omega) (by rw [LX]; rfl); simpa using this
      have cl6 : wr.cell? ⟨g, o + k * 10 + 6, none⟩ = some (.int .i64 x6) := by have := hcell k hkl 6 (.int .i64 x6) (by omega) (by rw [LX]; rfl); simpa using this
      have cl7 : wr.cell? ⟨g, o + k * 10 + 7, none⟩ = some (.int .i64 x7) := by have := hcell k hkl 7 (.int .i64 x7) (by omega) (by rw [LX]; rfl); simpa using this
      have cl8 : wr.cell? ⟨g, o + k * 10 + 8, none⟩ = some (.int .i64 x8) := by have := hcell k hkl 8 (.int .i64 x8) (by omega) (by rw [LX]; rfl); simpa using this
      have cl9 : wr.cell? ⟨g, o + k * 10 + 9, none⟩ = some (.int .u64 x9) := by have := hcell k hkl 9 (.int .u64 x9) (by omega) (by rw [LX]; rfl); simpa using this
      have LXH := Lib.hid LX
      clear hcell hrd LX
      have HQ0 := Lib.hid hq0
      clear hq0
      have HQ1 := Lib.hid hq1
      clear hq1
      have HQ2 := Lib.hid hq2
      clear hq2
      have HQ3 := Lib.hid hq3
      clear hq3
      have HQ4 := Lib.hid hq4
      clear hq4
      have HQ5 := Lib.hid hq5
      clear hq5
      have HQ6 := Lib.hid hq6
      clear hq6
      have HQ7 := Lib.hid hq7
      clear hq7
      have HQ8 := Lib.hid hq8
      clear hq8
      have HQ9 := Lib.hid hq9
      clear hq9
      go_wp2_with fail
      have hb : (xs ++ nb n ++ (rows.take k).flatMap (fB stepK)).length + (fB stepK [x0, x1, x2, x3, x4, x5, x6, x7, x8, x9]).length ≤ 70368744177664 := by
        have h1 := HL.out
        have h2 := flat_len_le (fB stepK) rows (k + 1)
        rw [flat_snoc (fB stepK) rows k hkl, LXH.out] at h2
        rw [stepsB, listB, ← N.out] at h1
        simp only [List.length_append] at h1 h2 ⊢
        omega
      refine ((P2.out.alloc (.cells #[.int .u8 x0, .int .u8 x1, .int .u8 x2, .int .u8 x3, .int .u8 x4, .int .i64 x5, .int .i64 x6, .int .i64 x7, .int .i64 x8, .int .u64 x9] 235)).chain fun b' hu => pstep_any p x0 x1 x2 x3 x4 x5 x6 x7 x8 x9 HQ0.out HQ1.out HQ2.out HQ3.out HQ4.out HQ5.out HQ6.out HQ7.out HQ8.out HQ9.out b' _ _ hu hb).mono ?_
      rintro e w2 ⟨rfl, hP3⟩
      have P3 := Lib.hid hP3
      clear hP3 cl0 cl1 cl2 cl3 cl4 cl5 cl6 cl7 cl8 cl9
      go_wp2
      go_roundg (n - (k + 1))
      case measure => have := GK.out; omega
      case rel =>
        refine ⟨k + 1, by omega, rfl, by go_num, ?_⟩
        rw [flat_snoc (fB stepK) rows k hkl, LXH.out, ← List.append_assoc]
        exact P3.out
    · obtain rfl : k = n := by omega
      go_wp2
      refine bodyPost_end (results_none rfl _ _ _) rfl ⟨rfl, ?_⟩
      have := P2.out
      rw [List.take_of_length_le (by have := N.out; omega)] at this
      simpa only [stepsB, listB, List.append_assoc, ← N.out] using this
theorem psteps_v (p : Nat) (v : Value) (rows : List (List Int)) (hin : ∀ q ∈ rows, fok stepK q) (b : Option Nat) (W0 w : World) (xs : List Int) (h : Pv W0 p b w xs) (hv : Steps W0 v rows) (hne : rows.length = 0 ∨ ∀ k, v.ownBlock = some k → k ≠ p ∧ some k ≠ b)
    (hg : rows.length ≤ 4611686018427387904) (hl : xs.length + (stepsB rows).length ≤ 70368744177664) :
    Calls Tryz.prog 183 #[.pointer (some ⟨p, 0, none⟩), v, .func (.func 184) #[] #[]] w fun e w' => e = .returned (.tuple #[]) ∧ Pv W0 p b w' (xs ++ stepsB rows) := by
  have hv' := h.tn.rd hv hne
  obtain ⟨⟨b1, hu, hb⟩, ht⟩ := h
  exact (psteps_any p v rows hin b1 w xs hu hv' (off_step (_w := w) hv hne hb) hl hg).mono fun _ _ hh => ⟨hh.1, Pv.trans ht hb hh.2⟩
set_option maxHeartbeats 4000000 in
set_option maxRecDepth 100000 in
theorem gsteps_any (g : Nat) (xs : List Int) (w : World) (h : Gt w g xs) :
    Calls Tryz.prog 151 #[.pointer (some ⟨g, 0, none⟩), .int .i64 8, .func (.func 152) #[] #[]] w (Lpost (listP (fP stepK) 8 xs) 235 10 (fc stepK) g w) := by
  have H := Lib.hid h
  have hlt := h.lt
  clear h
  go_enter Tryz.func151, Tryz.ntmps151
  go_wp2_with fail
  refine (gnum_any g _ _ H.out).mono ?_
  intro e w1 hp
  rcases hr : numP xs with k | ⟨n, r1⟩
  · rw [hr] at hp
    obtain ⟨rfl, hg⟩ := hp
    have B1 := Lib.hid hg
    have R1 := Lib.hid hr
    clear hg hr
    go_wp2
    refine ⟨rfl, ?_⟩
    have hP : listP (fP stepK) 8 xs = .error k := by simp only [listP, bindP, R1.out]
    unfold Lpost; rw [hP]
    exact ⟨rfl, B1.out⟩
  rw [hr] at hp
  obtain ⟨rfl, hG, hg⟩ := hp
  have H1 := Lib.hid hG
  have B1 := Lib.hid hg
  have R1 := Lib.hid hr
  have hn := H.out.lt_num hr
  clear hG hg hr
  by_cases h8 : 8 < n
  · have h8' : 8 < (n : Int) := by omega
    go_wp2
    refine ⟨rfl, ?_⟩
    have hP : listP (fP stepK) 8 xs = .error 3 := by simp only [listP, bindP, R1.out, if_pos h8]
    unfold Lpost; rw [hP]
    exact ⟨rfl, B1.out⟩
  have h8' : ¬ 8 < (n : Int) := by omega
  have LP := Lib.hid (show listP (fP stepK) 8 xs = repP (fP stepK) n r1 by simp only [listP, bindP, R1.out, if_neg h8])
  go_wp2
  go_loopg [6, 17] n (fun q c6 c17 wx => ∃ (j : Nat) (done : List (List Int)) (rj : List Int), j ≤ n ∧ q = n - j ∧ c17 = .int .u64 j ∧ done.length = j ∧ Ow w.heap.size wx 235 10 c6 j (done.flatMap (fc stepK)) ∧ Gt wx g rj ∧ w.grownBy wx (some g) ∧
    repP (fP stepK) n r1 = bindP (repP (fP stepK) (n - j) rj) fun bs r => .ok (done ++ bs, r))
  case atStart =>
    refine ⟨0, [], r1, Nat.zero_le _, by omega, rfl, rfl, .inl ⟨rfl, rfl, rfl⟩, H1.out, B1.out, ?_⟩
    rw [Nat.sub_zero]
    cases repP (fP stepK) n r1 <;> rfl
  case round =>
    obtain ⟨j, done, rj, hj, hq, rfl, hdl, hO, hG, hB, hrep⟩ := hrel
    have GQ := Lib.hid hq
    have O := Lib.hid hO
    have HG := Lib.hid hG
    have HB := Lib.hid hB
    have RP := Lib.hid hrep
    have DL := Lib.hid hdl
    clear hq hO hG hB hrep hdl
    by_cases hjn : j < n
    · have hjn' : (j : Int) < n := by omega
      have SP := Lib.hid (show repP (fP stepK) (n - j) rj = bindP (fP stepK rj) fun a r => bindP (repP (fP stepK) (n - j - 1) r) fun bs r' => .ok (a :: bs, r') by rw [show n - j = n - j - 1 + 1 from by omega]; rfl)
      have hgw : w.heap.size ≤ wr.heap.size := HB.out.size
      go_wp2_with fail
      refine (gstep_any g _ _ HG.out).mono ?_
      intro e w2 hp
      rcases hr : fP stepK rj with k | ⟨lx, r2⟩
      · rw [hr] at hp
        obtain ⟨rfl, hg⟩ := hp
        have B2 := Lib.hid (grown_trans_ HB.out hg)
        have R2 := Lib.hid hr
        clear hg hr
        go_wp2
        refine ⟨rfl, ?_⟩
        have hP : listP (fP stepK) 8 xs = .error k := by rw [LP.out, RP.out, SP.out]; simp only [bindP, R2.out]
        unfold Lpost; rw [hP]
        exact ⟨rfl, B2.out⟩
      obtain ⟨x0, x1, x2, x3, x4, x5, x6, x7, x8, x9, hlx⟩ := step_of (fP_len _ _ _ _ hr)
      rw [hr] at hp
      obtain ⟨rfl, hG2, hg2⟩ := hp
      have H2 := Lib.hid hG2
      have B2 := Lib.hid (grown_trans_ HB.out hg2)
      have O2 := Lib.hid (O.out.keep hg2 hlt)
      have R2 := Lib.hid hr
      have hs2 := hg2.size
      have LX := Lib.hid hlx
      clear hG2 hg2 hr O
      rw [hlx]
      clear hlx
      simp only [stepK, stepV, fc, List.headD_cons, List.tail_cons]
      go_wp2_with (at_builtin; refine wpList_ow rfl _ _ 164 235 (.agg #[.int .u8 0, .int .u8 0, .int .u8 0, .int .u8 0, .int .u8 0, .int .i64 0, .int .i64 0, .int .i64 0, .int .i64 0, .int .u64 0]) 10 48 rfl Tryz.underlying164 step_info rfl (by decide) rfl #[.int .u8 x0, .int .u8 x1, .int .u8 x2, .int .u8 x3, .int .u8 x4, .int .i64 x5, .int .i64 x6, .int .i64 x7, .int .i64 x8, .int .u64 x9] O2.out (by omega) rfl (by simp [Value.oneCell']) rfl (by omega) (by unfold maxLen; omega) ?_; intro v3 w3 hO3 hg3; have O3 := Lib.hid hO3; have G3 := Lib.hid hg3; clear hO3 hg3)
      go_roundg (n - (j + 1))
      case measure => have := GQ.out; omega
      case rel =>
        refine ⟨j + 1, done ++ [lx], r2, by omega, rfl, by go_num, by simp [DL.out], ?_, H2.out.grew O2.out G3.out hlt, grown_grew B2.out O2.out G3.out (Nat.le_refl _), ?_⟩
        · have := O3.out
          rw [LX.out]
          simpa [stepK, fc] using this
        · rw [RP.out, SP.out]
          simp only [bindP, R2.out, show n - j - 1 = n - (j + 1) from by omega]
          cases repP (fP stepK) (n - (j + 1)) r2 with
          | error k => rfl
          | ok q => simp
    · obtain rfl : j = n := by omega
      have hO := O.out
      rw [← DL.out] at hO
      obtain ⟨A6, c6, rfl, hc6, hcl⟩ := hO.clip
      have CL := Lib.hid hcl
      clear hcl hO O
      have hd8 : done.length ≤ 8 := by have := DL.out; omega
      go_wp2_with fail
      refine (step_clip _ _ _ _ hc6 (by omega)).mono ?_
      rintro e w2 ⟨rfl, rfl⟩
      go_wp2
      refine bodyPost_ret (results_tmp rfl _ _ _) rfl ?_
      have hP : listP (fP stepK) 8 xs = .ok (done, rj) := by rw [LP.out, RP.out, Nat.sub_self]; simp [repP, bindP]
      unfold Lpost; rw [hP]
      exact ⟨A6, rfl, CL.out, HG.out, HB.out⟩
end Go.Proofs.YtoiclicechfmgaaGreatDoor
