/- logs: Drop. -/
import Derived.Test.YtnegondlkfeleaaDoorLoh
namespace Go.Proofs.YtnegondlkfeleaaDoor
open Go.RowKit

/-- A new slice beside the disk, by its block. -/
theorem On.addOw {X : List (Nat × Obj)} {B e size n : Nat} {W w w' : World} {d : Nat} {nm : ByteArray} {s : Dst} {v : Value} {xs : List Value} (h : On X B W w d nm s) (hb : Below w.heap.size w w') (ho : Ow w.heap.size w' e size v n xs) :
    ∃ Y : List (Nat × Obj), (∀ w', Has w' Y → Rd w' size v n xs) ∧ On (Y ++ X) B W w' d nm s ∧ ∀ q ∈ Y, w.heap.size ≤ q.1 := by
  obtain ⟨F, hd, hF, hX⟩ := h.ex
  obtain ⟨Y, hY, hs⟩ := ho.has
  have h' := h.below hb
  refine ⟨Y, hs, ⟨⟨F, hd.below hb, hF, fun p hp hf => ?_⟩, fun p hp => ?_, h'.bel, h'.le⟩, fun q hq => (hY q hq).1⟩
  · rcases List.mem_append.1 hp with hp | hp
    · have := (hY p hp).1; have := hd.lt _ hf; omega
    · exact hX p hp hf
  · rcases List.mem_append.1 hp with hp | hp
    · exact (hY p hp).2
    · exact h'.keep p hp
theorem zip_drop_cells : ∀ (k : Nat) (es : List Ent) (ss : List Value), ss.length = es.length → ((es.drop k).zip (ss.drop k)).flatMap ecells = ((es.zip ss).flatMap ecells).drop (k * 5)
  | 0, es, ss, _ => by simp
  | k + 1, [], ss, hl => by
    obtain rfl : ss = [] := List.eq_nil_of_length_eq_zero (by simpa using hl)
    simp
  | k + 1, a :: es, [], hl => absurd hl (by simp)
  | k + 1, a :: es, b :: ss, hl => by
    have h5 := ecells_len (a, b)
    simp only [List.drop_succ_cons, List.zip_cons_cons, List.flatMap_cons]
    rw [zip_drop_cells k es ss (by simpa using hl), show (k + 1) * 5 = (ecells (a, b)).length + k * 5 by omega, List.drop_length_add_append]
/-- A slice's end. -/
theorem Rd.tail {w : World} {A : Option Addr} {n c c' : Nat} {xs : List Value} (h : Rd w 5 (.slice A n c) n xs) (k : Nat) (hk : k ≤ n) (A' : Option Addr) (hA : k < n → ∀ g o, A = some ⟨g, o, none⟩ → A' = some ⟨g, o + k * 5, none⟩) (hc' : n - k ≤ c') :
    Rd w 5 (.slice A' (n - k) c') (n - k) (xs.drop (k * 5)) := by
  obtain ⟨A0, c0, e, hc, hl, hh⟩ := h
  cases e
  refine ⟨A', c', rfl, hc', by rw [List.length_drop, hl, Nat.sub_mul], ?_⟩
  rcases Nat.lt_or_ge k n with hlt | hge
  · rcases hh with h0 | ⟨g, o, hAe, hg, hcell⟩
    · omega
    · refine .inr ⟨g, o + k * 5, hA hlt g o hAe, hg, fun j u hu => ?_⟩
      rw [Nat.add_assoc]
      exact hcell _ u (by rwa [List.getElem?_drop] at hu)
  · exact .inl (by omega)
/-- The entries from the k-th on, in a new array. -/
theorem El.tail {v' : Value} {es : List Ent} {ss : List Value} {X Y : List (Nat × Obj)} {k : Nat} (h1 : ss.length = es.length) (h3 : ∀ (j : Nat) (h : j < es.length) (h' : j < ss.length), ∀ w, Has w X → Steps w ss[j] es[j].2)
    (hY : ∀ w', Has w' Y → Rd w' 5 v' (es.length - k) (((es.zip ss).flatMap ecells).drop (k * 5))) : El v' (es.drop k) (Y ++ X) := by
  refine ⟨ss.drop k, by simp [h1], fun w hw => ?_, fun j a b w hw => ?_⟩
  · rw [zip_drop_cells k es ss h1, List.length_drop]
    exact hY w fun q hq => hw q (List.mem_append_left _ hq)
  · rw [List.getElem_drop, List.getElem_drop]
    have ha : k + j < es.length := by rw [List.length_drop] at a; omega
    exact h3 (k + j) ha (by omega) w fun q hq => hw q (List.mem_append_right _ hq)

def rvOf (r : Int) : Int := if r = 0 then 0 else 17
def pick2 (r : Int) (a b : Obj) : Obj := if r = 0 then a else b
theorem lput_one {Z : List (Nat × Obj)} {B : Nat} {W w : World} {p d bi bt bi' bt' : Nat} {ev ev' : Value} {size : Int} {s : Dst} {es' : List Ent} (s1 : Dst) (r : Int) (h : On ((p, lgO bi bt ev d size false) :: Z) B W w d nmL s) (hp : B ≤ p) (hZ : ∀ q ∈ Z, q.1 ≠ p) (hE : El ev' es' Z) (hw : Wf bi' es') (hok : ∀ e ∈ es', EOk e) (hl : es'.length ≤ 100000)
    (hi : bi' < 18446744073709551616) (ht : bt' < 18446744073709551616) (hB0 : 0 < B) (T : Tab W) (hd : doesS s (logB bi' bt' es').length true (fun _ => some (logB bi' bt' es', (logB bi' bt' es').length)) = (s1, r)) :
    Calls Tryd.prog 36 #[.pointer (some ⟨p, 0, none⟩), .agg #[.int .u64 bi', .int .u64 bt', ev']] w fun e w' => e = .returned (.int .i64 (rvOf r)) ∧
      On ((p, pick2 r (lgO bi' bt' ev' d (logB bi' bt' es').length false) (lgO bi bt ev d size true)) :: Z) B W w' d nmL s1 :=
  (lput_any s1 r h hp hZ hE hw hok hl hi ht hB0 T hd).mono fun e w' hh => by
    rcases hh with ⟨h0, he, ho⟩ | ⟨h0, he, ho⟩
    · unfold rvOf pick2; rw [if_pos h0, if_pos h0]; exact ⟨he, ho⟩
    · unfold rvOf pick2; rw [if_neg h0, if_neg h0]; exact ⟨he, ho⟩
theorem flat_one {es : List Ent} {ss : List Value} {X : List (Nat × Obj)} {w : World} (hX : Has w X) (h1 : ss.length = es.length) (h3 : ∀ (j : Nat) (h : j < es.length) (h' : j < ss.length), ∀ w, Has w X → Steps w ss[j] es[j].2) : ∀ u ∈ (es.zip ss).flatMap ecells, u.oneCell' = true := by
  intro u hu
  obtain ⟨⟨e, v⟩, hm, hq⟩ := List.mem_flatMap.1 hu
  obtain ⟨j, hj, hz⟩ := List.mem_iff_getElem.1 hm
  rw [List.length_zip] at hj
  rw [List.getElem_zip] at hz
  injection hz with _ hv
  rcases List.mem_append.1 hq with hq | hq
  · exact fc_one _ _ u hq
  · simp at hq
    subst hq
    obtain ⟨_, _, e2, -⟩ := h3 j (by omega) (by omega) w hX
    rw [hv] at e2
    rw [e2]
    rfl
set_option maxHeartbeats 2000000 in
set_option maxRecDepth 100000 in
theorem ldrop_any {Z : List (Nat × Obj)} {B : Nat} {W w : World} {p d bi bt : Nat} {ev : Value} {size : Int} {s : Dst} {es : List Ent} (s1 : Dst) (r : Int) (i tN : Nat) (h : On ((p, lgO bi bt ev d size false) :: Z) B W w d nmL s) (hp : B ≤ p) (hZ : ∀ q ∈ Z, q.1 ≠ p) (hE : El ev es Z) (hw : Wf bi es) (hok : ∀ e ∈ es, EOk e) (hl : es.length ≤ 100000)
    (hb : bi + es.length < 18446744073709551615) (h1 : bi ≤ i) (h2 : i ≤ bi + es.length) (htm : termP bi bt es i = ((tN : Int), true)) (ht : tN < 18446744073709551616) (hB0 : 0 < B) (T : Tab W) (hwf : Wf i (es.drop (i - bi)))
    (hd : doesS s (logB i tN (es.drop (i - bi))).length true (fun _ => some (logB i tN (es.drop (i - bi)), (logB i tN (es.drop (i - bi))).length)) = (s1, r)) :
    Calls Tryd.prog 13 #[.pointer (some ⟨p, 0, none⟩), .int .u64 i] w fun e w' => ∃ ev' Y, El ev' (es.drop (i - bi)) (Y ++ Z) ∧ (∀ q ∈ Y, w.heap.size ≤ q.1) ∧ e = .returned (.int .i64 (rvOf r)) ∧
      On ((p, pick2 r (lgO i tN ev' d (logB i tN (es.drop (i - bi))).length false) (lgO bi bt ev d size true)) :: (Y ++ Z)) B W w' d nmL s1 := by
  have KL := Lib.hid (show Blk w p 37 (lgC bi bt ev d size false) from h.keep (p, _) (List.mem_cons_self ..))
  obtain ⟨ss, hs1, hs2, hs3⟩ := id hE
  have EV := hE.ents (w := w) (fun q hq => h.keep q (List.mem_cons_of_mem _ hq))
  have TM := Lib.hid (lterm_any p bi bt i ev es w KL.out.ct EV hw (by omega) (by omega) (by omega))
  rw [htm] at TM
  obtain ⟨A, c, rfl, hc, hlx, hcell⟩ := hs2 w (fun q hq => h.keep q (List.mem_cons_of_mem _ hq))
  obtain ⟨k, hk⟩ : ∃ k, k = i - bi := ⟨_, rfl⟩
  rw [← hk] at hwf hd ⊢
  have O0 := Lib.hid h
  have HZ := Lib.hid hZ
  have TT := Lib.hid T
  have HD := Lib.hid hd
  have HWF := Lib.hid hwf
  have OKD := Lib.hid (show ∀ e ∈ es.drop k, EOk e from fun e he => hok e (List.mem_of_mem_drop he))
  have HS1 := Lib.hid hs1
  have HS2 := Lib.hid hs2
  have HS3 := Lib.hid hs3
  have HL := Lib.hid hl
  have HT := Lib.hid ht
  have AS := Lib.hid (fun w => lasked_any p bi bt d (.slice A es.length c) size false w)
  have n1 : (i : Int) - (bi : Int) = (k : Int) := by omega
  have n2 : IntKind.u64.wrap (k : Int) = (k : Int) := IntWalk.u64_in _ (by omega)
  have hkl : k ≤ es.length := by omega
  have n3 : (k : Int) ≤ (es.length : Int) := by omega
  have n4 : (es.length : Int) ≤ 100000 := by omega
  have hi : i < 18446744073709551616 := by omega
  have ONE := Lib.hid (fun u (hu : u ∈ ((es.zip ss).flatMap ecells).drop (k * 5)) => flat_one (w := w) (fun q hq => h.keep q (List.mem_cons_of_mem _ hq)) hs1 hs3 u (List.mem_of_mem_drop hu))
  have hA : A = none ∨ ∃ g o, A = some ⟨g, o, none⟩ ∨ es.length = 0 := by
    rcases hcell with h0 | ⟨g, o, hA, -⟩
    · exact .inr ⟨0, 0, .inr h0⟩
    · exact .inr ⟨g, o, .inl hA⟩
  clear h hZ hE hw hok hl hb h1 h2 htm ht T hwf hd EV hs1 hs2 hs3 hk hlx
  go_enter Tryd.func13, Tryd.ntmps13
  go_wp2_with fail
  refine (AS.out w KL.out).mono ?_
  rintro e w1 ⟨rfl, rfl⟩
  go_wp2_with fail
  refine TM.out.mono ?_
  rintro e w2 ⟨rfl, b2⟩
  have O2 := Lib.hid (O0.out.below b2)
  have S2 := Lib.hid b2.size
  have K2 := Lib.hid (KL.out.below b2 KL.out.lt)
  have a0 := K2.out.cell 0
  have a2 := K2.out.cell 2
  simp [lgC] at a0 a2
  clear b2
  have NX := Lib.hid (show Has w2 Z from fun q hq => O2.out.keep q (List.mem_cons_of_mem _ hq))
  have hcL : (es.length : Int) ≤ (c : Int) := by omega
  have arms : ∀ A', (k < es.length → ∀ g o, A = some ⟨g, o, none⟩ → A' = some ⟨g, o + k * 5, none⟩) → Rd w2 5 (.slice A' (es.length - k) (c - k)) (es.length - k) (((es.zip ss).flatMap ecells).drop (k * 5)) := fun A' hA' => Rd.tail (HS2.out w2 NX.out) k hkl A' hA' (by omega)
  have AR := Lib.hid arms
  clear arms hcell
  obtain ⟨L, hL⟩ : ∃ L, L = es.length := ⟨_, rfl⟩
  have LL := Lib.hid hL
  rw [← hL] at a2 hcL n3 n4 hkl AR hc
  have MV : ∀ {Y : List (Nat × Obj)} {w' : World}, On (Y ++ ((p, lgO bi bt (.slice A es.length c) d size false) :: Z)) B W w' d nmL s → On ((p, lgO bi bt (.slice A es.length c) d size false) :: (Y ++ Z)) B W w' d nmL s := fun h => h.mono fun q hq => by
    rcases List.mem_cons.1 hq with rfl | hq
    · exact List.mem_append_right _ (List.mem_cons_self ..)
    · rcases List.mem_append.1 hq with hq | hq
      · exact List.mem_append_left _ hq
      · exact List.mem_append_right _ (List.mem_cons_of_mem _ hq)
  have PL := Lib.hid K2.out.lt
  have NE : ∀ {Y : List (Nat × Obj)}, (∀ q ∈ Y, w2.drew.heap.size ≤ q.1) → ∀ q ∈ Y ++ Z, q.1 ≠ p := fun hY q hq => by
    rcases List.mem_append.1 hq with hq | hq
    · have := hY q hq; have := PL.out; have : w2.heap.size ≤ q.1 := hY q hq; omega
    · exact HZ.out q hq
  have HLD : (es.drop k).length ≤ 100000 := by rw [List.length_drop]; have := HL.out; omega
  by_cases hck : c = k
  · subst hck
    obtain rfl : c = L := by omega
    have RZ := Lib.hid (show Rd w2 5 (.slice A 0 0) 0 (((es.zip ss).flatMap ecells).drop (c * 5)) from by have := AR.out A (fun hh => absurd hh (by omega)); rwa [Nat.sub_self] at this)
    clear hL
    go_upto_region 7 with fail
    go_region_law (first
      | (go_simp; go_at_call 44; refine (cen_clone_any _ 0 _ _ (Rd.drew RZ.out) ONE.out (by omega) (by omega)).mono ?_; rintro e w4 ⟨v4, rfl, h4, b4⟩; obtain ⟨A4, c4, rfl, -, -⟩ := h4.clip; obtain ⟨Y, y1, y2, y3⟩ := On.addOw (O2.out.below ((Below.refl _ w2).drew)) b4 h4; have OP := Lib.hid (MV y2); have EL := Lib.hid (show El (.slice A4 0 c4) (es.drop c) (Y ++ Z) from El.tail HS1.out HS3.out (by rw [← LL.out, Nat.sub_self]; exact y1)); have Y3 := Lib.hid y3; clear y1 y2 y3 h4 b4)
      | (go_simp; go_at_call 36; refine (lput_one s1 r OP.out hp (NE Y3.out) EL.out HWF.out OKD.out HLD hi HT.out hB0 TT.out HD.out).mono ?_; rintro e w5 ⟨rfl, o5⟩))
    all_goals
      have FIN := Lib.hid (And.intro EL.out (And.intro Y3.out o5))
      clear o5
      go_wp2
      go_ret
      exact ⟨_, _, FIN.out.1, fun q hq => Nat.le_trans S2.out (FIN.out.2.1 q hq), rfl, FIN.out.2.2⟩
  · rcases A with _ | ⟨g, o, sp⟩
    · have HA' : k < L → ∀ g o, (none : Option Addr) = some ⟨g, o, none⟩ → (none : Option Addr) = some ⟨g, o + k * 5, none⟩ := fun _ g o e => by cases e
      clear hL
      go_upto_region 7 with fail
      go_region_law (first
        | (go_simp; go_at_call 44; refine (cen_clone_any _ (L - k) _ _ (Rd.drew (AR.out _ HA')) ONE.out (by omega) (by omega)).mono ?_; rintro e w4 ⟨v4, rfl, h4, b4⟩; obtain ⟨A4, c4, rfl, -, -⟩ := h4.clip; obtain ⟨Y, y1, y2, y3⟩ := On.addOw (O2.out.below ((Below.refl _ w2).drew)) b4 h4; have OP := Lib.hid (MV y2); have EL := Lib.hid (show El (.slice A4 (L - k) c4) (es.drop k) (Y ++ Z) from El.tail HS1.out HS3.out (by rw [← LL.out]; exact y1)); have Y3 := Lib.hid y3; clear y1 y2 y3 h4 b4)
        | (go_simp; go_at_call 36; refine (lput_one s1 r OP.out hp (NE Y3.out) EL.out HWF.out OKD.out HLD hi HT.out hB0 TT.out HD.out).mono ?_; rintro e w5 ⟨rfl, o5⟩))
      all_goals
        have FIN := Lib.hid (And.intro EL.out (And.intro Y3.out o5))
        clear o5
        go_wp2
        go_ret
        exact ⟨_, _, FIN.out.1, fun q hq => Nat.le_trans S2.out (FIN.out.2.1 q hq), rfl, FIN.out.2.2⟩
    · have HA' : k < L → ∀ g' o', some (⟨g, o, sp⟩ : Addr) = some ⟨g', o', none⟩ → some ((⟨g, o, sp⟩ : Addr).add (k * 5)) = some ⟨g', o' + k * 5, none⟩ := fun _ g' o' e => by cases e; rw [Addr.add_lit]
      clear hL
      go_upto_region 7 with fail
      go_region_law (first
        | (go_simp; go_at_call 44; refine (cen_clone_any _ (L - k) _ _ (Rd.drew (AR.out _ HA')) ONE.out (by omega) (by omega)).mono ?_; rintro e w4 ⟨v4, rfl, h4, b4⟩; obtain ⟨A4, c4, rfl, -, -⟩ := h4.clip; obtain ⟨Y, y1, y2, y3⟩ := On.addOw (O2.out.below ((Below.refl _ w2).drew)) b4 h4; have OP := Lib.hid (MV y2); have EL := Lib.hid (show El (.slice A4 (L - k) c4) (es.drop k) (Y ++ Z) from El.tail HS1.out HS3.out (by rw [← LL.out]; exact y1)); have Y3 := Lib.hid y3; clear y1 y2 y3 h4 b4)
        | (go_simp; go_at_call 36; refine (lput_one s1 r OP.out hp (NE Y3.out) EL.out HWF.out OKD.out HLD hi HT.out hB0 TT.out HD.out).mono ?_; rintro e w5 ⟨rfl, o5⟩))
      all_goals
        have FIN := Lib.hid (And.intro EL.out (And.intro Y3.out o5))
        clear o5
        go_wp2
        go_ret
        exact ⟨_, _, FIN.out.1, fun q hq => Nat.le_trans S2.out (FIN.out.2.1 q hq), rfl, FIN.out.2.2⟩
end Go.Proofs.YtnegondlkfeleaaDoor
