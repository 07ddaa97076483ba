/- lives: the chapter's example of a log. -/
import Derived.Test.YtnegondlkfeleaaDoorLqy
import Derived.Test.YtnegondlkfeleaaDoorEnt
namespace Go.Proofs.YtnegondlkfeleaaDoor
open Go.RowKit

theorem wf_lit {i0 : Nat} {l : List Lit} (h : ∀ (j : Nat) (hj : j < l.length), l[j].1.1 = ((i0 + 1 + j : Nat) : Int)) : Wf i0 (l.map litE) := by
  intro j hj
  rw [List.length_map] at hj
  exact ⟨l[j].1.2.1, 1, ((i0 + 1 + j : Nat) : Int), by rw [List.getElem_map]; simp [litE, ent1, h j hj]⟩
def litOk (x : Lit) : Prop := (0 ≤ x.1.1 ∧ x.1.1 ≤ 18446744073709551615) ∧ (0 ≤ x.1.2.1 ∧ x.1.2.1 ≤ 18446744073709551615) ∧ in64 x.1.2.2
theorem litOk_eok {l : List Lit} (h : ∀ x ∈ l, litOk x) : ∀ e ∈ l.map litE, EOk e := by
  intro e he
  obtain ⟨x, hx, rfl⟩ := List.mem_map.1 he
  obtain ⟨h1, h2, h3⟩ := h x hx
  exact ent1_eok h1 h2 h3
theorem litOk_len : ∀ {l : List Lit}, (∀ x ∈ l, litOk x) → (bsOf (l.map litE)).length ≤ 150 * l.length
  | [], _ => by simp [bsOf]
  | x :: l, h => by
    have h1 := litOk_len (l := l) fun y hy => h y (List.mem_cons_of_mem _ hy)
    obtain ⟨a, b, c⟩ := h x (List.mem_cons_self ..)
    have h2 := ent1_frame a b c
    simp only [bsOf, List.map_cons, List.flatten_cons, List.length_append, List.length_cons, litE] at h1 ⊢
    omega
theorem litOk_same {l : List Lit} : ∀ e ∈ l.map litE, e.1.length = 4 ∧ e.2.length ≤ 1000000 ∧ ∀ q ∈ e.2, q.length = 10 := by
  intro e he
  obtain ⟨x, hx, rfl⟩ := List.mem_map.1 he
  refine ⟨rfl, by simp [litE, ent1], fun q hq => ?_⟩
  simp [litE, ent1] at hq
  subst hq; rfl
theorem logB0_len : (logB 0 0 []).length ≤ 34 := by have := logB_len 0 0 (by omega) (by omega) [] (by simp); simpa using this

section
variable {Z : List (Nat × Obj)} {B : Nat} {W w : World} {p d bi bt : Nat} {es : List Ent} {size : Nat} {s : Dst}
/-- What a row of the law's entries wants to be added. -/
structure Fit (bi bt : Nat) (es : List Ent) (i0 : Nat) (l : List Lit) : Prop where
  ok : ∀ x ∈ l, litOk x
  pos : 0 < l.length
  lo : bi ≤ i0
  hi : i0 ≤ bi + es.length
  ix : ∀ (j : Nat) (hj : j < l.length), l[j].1.1 = ((i0 + 1 + j : Nat) : Int)
  t0 : ∀ h : 0 < l.length, (termP bi bt es i0).1 ≤ l[0].1.2.1
  t1 : ∀ k (h : k + 1 < l.length), l[k].1.2.1 ≤ l[k + 1].1.2.1
  most : i0 + l.length ≤ 250
theorem Fit.acc {i0 : Nat} {l : List Lit} (h : Fit bi bt es i0 l) : ∀ k (hk : k < (l.map litE).length), addP bi bt (accOf bi es i0 (l.map litE) k) (i0 + 1 + k) ((l.map litE)[k].1.tail.headD 0) (l.map litE)[k] = some (accOf bi es i0 (l.map litE) (k + 1)) :=
  acc_step h.lo h.hi (fun h0 => by rw [List.getElem_map]; exact h.t0 (by simpa using h0)) (fun k hk => by rw [List.getElem_map, List.getElem_map]; exact h.t1 k (by simpa using hk))
theorem Fit.lok {i0 : Nat} {l : List Lit} (h : Fit bi bt es i0 l) (hL : Lok bi bt es) : Lok bi bt (accOf bi es i0 (l.map litE) l.length) := by
  have := lok_acc hL h.lo h.hi (wf_lit h.ix) (litOk_eok h.ok) (by rw [List.length_map]; exact h.most) (by rw [List.length_map]; exact h.pos)
  rwa [List.length_map] at this
theorem lg_add_lits {s1 : Dst} (i0 : Nat) (l : List Lit) (g c : Nat) (cur : Array Value) (h : Lg Z B W w p d bi bt es size s) (hL : Lok bi bt es) (hF : Fit bi bt es i0 l) (hg : (g, Obj.cells cur 59) ∈ Z) (hs : ∀ x ∈ l, litO x ∈ Z) (hc : l.length ≤ c) (hcs : cur.toList.take (l.length * 5) = litC l)
    (hsz : size + (bsOf (l.map litE)).length ≤ 262144) (hB0 : 0 < B) (T : Tab W) (hd : addS s (bsOf (l.map litE)) = (s1, 0)) :
    Calls Tryd.prog 12 #[.pointer (some ⟨p, 0, none⟩), .slice (some ⟨g, 0, none⟩) l.length c] w fun e w' => e = .returned (.int .i64 0) ∧ Lg Z B W w' p d bi bt (accOf bi es i0 (l.map litE) l.length) (size + (bsOf (l.map litE)).length) s1 := by
  have := lg_add_ok i0 _ (l.map litE) _ h hL (el_arr hg hs hc hcs) (wf_lit hF.ix) (by rw [List.length_map]; exact hF.pos) (litOk_eok hF.ok) (if_pos rfl) hF.acc (by rw [List.length_map]; exact hF.most) hsz hB0 T hd
  rwa [List.length_map] at this
theorem lg_add_lits_bad {s1 : Dst} {r : Int} (hr : r ≠ 0) (i0 : Nat) (l : List Lit) (g c : Nat) (cur : Array Value) (h : Lg Z B W w p d bi bt es size s) (hL : Lok bi bt es) (hF : Fit bi bt es i0 l) (hg : (g, Obj.cells cur 59) ∈ Z) (hs : ∀ x ∈ l, litO x ∈ Z) (hc : l.length ≤ c) (hcs : cur.toList.take (l.length * 5) = litC l)
    (hsz : size + (bsOf (l.map litE)).length ≤ 262144) (hB0 : 0 < B) (T : Tab W) (hd : addS s (bsOf (l.map litE)) = (s1, r)) :
    Calls Tryd.prog 12 #[.pointer (some ⟨p, 0, none⟩), .slice (some ⟨g, 0, none⟩) l.length c] w fun e w' => e = .returned (.int .i64 17) ∧ On Z B W w' d nmL s1 :=
  lg_add_bad hr i0 _ (l.map litE) _ h hL (el_arr hg hs hc hcs) (wf_lit hF.ix) (by rw [List.length_map]; exact hF.pos) (litOk_eok hF.ok) (if_pos rfl) hF.acc (by rw [List.length_map]; exact hF.most) hsz hB0 T hd
end
theorem lit_ok {a b c : Int} {g : Nat} (h1 : 0 ≤ a ∧ a ≤ 1000) (h2 : 0 ≤ b ∧ b ≤ 1000) (h3 : 0 ≤ c ∧ c ≤ 1000) : litOk ((a, b, c), g) := ⟨⟨h1.1, by show a ≤ _; omega⟩, ⟨h2.1, by show b ≤ _; omega⟩, ⟨by show _ ≤ c; omega, by show c ≤ _; omega⟩⟩
theorem el_lits (l : List Lit) (g c : Nat) (Z : List (Nat × Obj)) (hg : (g, Obj.cells (litC l).toArray 59) ∈ Z) (hs : ∀ x ∈ l, litO x ∈ Z) (hc : l.length ≤ c) : El (.slice (some ⟨g, 0, none⟩) l.length c) (l.map litE) Z :=
  el_arr hg hs hc (by rw [← litC_len]; exact List.take_length)

set_option maxHeartbeats 8000000 in
set_option maxRecDepth 100000 in
theorem llives (w : World) (T : Tab w) : Calls Tryd.prog 7 #[] w fun e w' => e = .returned (.bool true) ∧ Below w.heap.size w w' := by
  have TT := Lib.hid T
  have h0 := Lib.hid (block_lt_of_cell (T 0 (by decide)))
  have z34 := logB0_len
  have hZ := Lib.hid z34
  obtain ⟨z, hz⟩ : ∃ z, z = (logB 0 0 []).length := ⟨_, rfl⟩
  have ZZ := Lib.hid hz
  clear T hz z34
  go_enter Tryd.func7, Tryd.ntmps7
  go_wp2_with fail
  refine (on_new nmL w).mono ?_
  rintro e w1 ⟨rfl, h1⟩
  have H1 := Lib.hid h1
  clear h1
  go_wp2_with fail
  refine (lopen_new H1.out rfl h0.out TT.out (does_free _ _ (by have := hZ.out; omega) true (.inl rfl))).mono ?_
  rintro e w2 ⟨p, rfl, h2, hp⟩
  have L2 := Lib.hid (Lg.fresh h2 (Nat.le_trans H1.out.le hp) (by simp))
  clear h2 hp
  go_wp2_with fail
  refine (lentry_any 1 1 5 w2).mono ?_
  rintro e w3 ⟨g3, rfl, h3, k3, b3⟩
  have L3 := Lib.hid (L2.out.addNew (X := [litO ((1, 1, 5), g3)]) b3 (fun q hq => by simp at hq; subst hq; exact ⟨h3, k3⟩))
  clear h3 k3 b3
  go_wp2_with fail
  refine (lentry_any 2 1 6 w3).mono ?_
  rintro e w4 ⟨g4, rfl, h4, k4, b4⟩
  have L4 := Lib.hid (L3.out.addNew (X := [litO ((2, 1, 6), g4)]) b4 (fun q hq => by simp at hq; subst hq; exact ⟨h4, k4⟩))
  clear h4 k4 b4
  have F5 := Lib.hid (show Fit 0 0 [] 0 [((1, 1, 5), g3), ((2, 1, 6), g4)] from
    { ok := by intro x hx; simp at hx; rcases hx with rfl | rfl <;> exact lit_ok (by omega) (by omega) (by omega)
      pos := by simp
      lo := Nat.le_refl _
      hi := by simp
      ix := by intro j hj; match j, hj with | 0, _ => rfl | 1, _ => rfl
      t0 := by intro _; simp [termP]
      t1 := by intro k hk; match k, hk with | 0, _ => exact Int.le_refl _
      most := by simp })
  have BL5 := Lib.hid (litOk_len F5.out.ok)
  have L5 := Lib.hid (L4.out.addNew (X := [(w4.heap.size, .cells (litC [((1, 1, 5), g3), ((2, 1, 6), g4)]).toArray 59)]) (below_alloc_ w4 _) (fun q hq => by simp at hq; subst hq; exact ⟨Nat.le_refl _, heap_alloc_new w4 _⟩))
  obtain ⟨b5, hb5⟩ : ∃ b, b = bsOf (List.map litE [((1, 1, 5), g3), ((2, 1, 6), g4)]) := ⟨_, rfl⟩
  have AD := Lib.hid (lg_add_lits 0 [((1, 1, 5), g3), ((2, 1, 6), g4)] w4.heap.size 2 _ L5.out Lok.nil F5.out (List.mem_cons_self ..) (by intro x hx; simp at hx; rcases hx with rfl | rfl <;> simp) (by simp) (by rw [← litC_len]; exact List.take_length) (by have := hZ.out; have := BL5.out; simp at *; omega) h0.out TT.out (addS_free _ _ _ (by have := hZ.out; have := BL5.out; simp at *; omega)))
  have K5 := Lib.hid (F5.out.lok Lok.nil)
  clear hb5
  go_wp2_with fail
  refine AD.out.mono ?_
  rintro e w6 ⟨rfl, l6⟩
  have e5 : accOf 0 [] 0 (List.map litE [((1, 1, 5), g3), ((2, 1, 6), g4)]) ([((1, 1, 5), g3), ((2, 1, 6), g4)] : List Lit).length = [ent1 1 1 5, ent1 2 1 6] := rfl
  have k6 := K5.out
  rw [e5] at l6 k6
  have K6 := Lib.hid k6
  obtain ⟨f6, hf6⟩ : ∃ f, f = logB 0 0 [] ++ bsOf (List.map litE [((1, 1, 5), g3), ((2, 1, 6), g4)]) := ⟨_, rfl⟩
  obtain ⟨z6, hz6⟩ : ∃ z, z = (logB 0 0 []).length + (bsOf (List.map litE [((1, 1, 5), g3), ((2, 1, 6), g4)])).length := ⟨_, rfl⟩
  rw [← hf6, ← hz6] at l6
  have FL6 := Lib.hid (show f6.length ≤ 334 from by rw [hf6, List.length_append]; have := hZ.out; have := BL5.out; simp at *; omega)
  have ZL6 := Lib.hid (show z6 ≤ 334 from by rw [hz6]; have := hZ.out; have := BL5.out; simp at *; omega)
  have L6 := Lib.hid (l6.mono (X := []) (by simp))
  clear l6 k6 e5 hf6 hz6 AD L5 L4 L3 L2 K5 F5 BL5
  go_wp2_with fail
  refine (lentry_any 2 3 7 w6).mono ?_
  rintro e w7 ⟨g7, rfl, h7, k7, b7⟩
  have L7 := Lib.hid (L6.out.addNew (X := [litO ((2, 3, 7), g7)]) b7 (fun q hq => by simp at hq; subst hq; exact ⟨h7, k7⟩))
  clear h7 k7 b7
  have F7 := Lib.hid (show Fit 0 0 [ent1 1 1 5, ent1 2 1 6] 1 [((2, 3, 7), g7)] from
    { ok := by intro x hx; simp at hx; subst hx; exact lit_ok (by omega) (by omega) (by omega)
      pos := by simp
      lo := by omega
      hi := by simp
      ix := by intro j hj; match j, hj with | 0, _ => rfl
      t0 := by intro _; exact (by decide : (termP 0 0 [ent1 1 1 5, ent1 2 1 6] 1).1 ≤ 3)
      t1 := by intro k hk; simp at hk
      most := by simp })
  have BL7 := Lib.hid (litOk_len F7.out.ok)
  have L8 := Lib.hid (L7.out.addNew (X := [(w7.heap.size, .cells (litC [((2, 3, 7), g7)]).toArray 59)]) (below_alloc_ w7 _) (fun q hq => by simp at hq; subst hq; exact ⟨Nat.le_refl _, heap_alloc_new w7 _⟩))
  have AD := Lib.hid (lg_add_lits 1 [((2, 3, 7), g7)] w7.heap.size 1 _ L8.out K6.out F7.out (List.mem_cons_self ..) (by intro x hx; simp at hx; subst hx; simp) (by simp) (by rw [← litC_len]; exact List.take_length) (by have := ZL6.out; have := BL7.out; simp at *; omega) h0.out TT.out (addS_free _ _ _ (by have := FL6.out; have := BL7.out; simp at *; omega)))
  have K8 := Lib.hid (F7.out.lok K6.out)
  go_wp2_with fail
  refine AD.out.mono ?_
  rintro e w9 ⟨rfl, l9⟩
  have e9 : accOf 0 [ent1 1 1 5, ent1 2 1 6] 1 (List.map litE [((2, 3, 7), g7)]) ([((2, 3, 7), g7)] : List Lit).length = [ent1 1 1 5, ent1 2 3 7] := rfl
  have k9 := K8.out
  rw [e9] at l9 k9
  have K9 := Lib.hid k9
  have L9 := Lib.hid (l9.mono (X := []) (by simp))
  clear l9 k9 e9 AD L8 L7 L6 K8
  go_wp2_with fail
  refine (lg_end L9.out K9.out).mono ?_
  rintro e w10 ⟨rfl, l10⟩
  have L10 := Lib.hid l10
  clear l10
  go_wp2_with fail
  have hd1 : [ent1 1 1 5, ent1 2 3 7].drop (1 - 0) = [ent1 2 3 7] := rfl
  have hok : ∀ e ∈ [ent1 2 3 7], EOk e := fun e he => K9.out.ok e (by simp at he; simp [he])
  have FB := Lib.hid (show (logB 1 1 [ent1 2 3 7]).length ≤ 10000 from by have := logB_len 1 1 (by omega) (by omega) [ent1 2 3 7] hok; simpa using Nat.le_trans this (by decide))
  have WF1 := Lib.hid (show Wf 1 [ent1 2 3 7] from by intro j hj; match j, hj with | 0, _ => exact ⟨3, 1, 2, rfl⟩)
  have OK1 := Lib.hid hok
  have DR := Lib.hid (lg_drop (s1 := ⟨some (logB 1 1 [ent1 2 3 7], (logB 1 1 [ent1 2 3 7]).length), -1, false⟩) 1 1 L10.out K9.out (by omega) (by simp) rfl (by omega) h0.out TT.out WF1.out (by rw [hd1]; exact does_free _ _ (by have := FB.out; omega) true (.inl rfl)))
  rw [hd1] at DR
  clear hd1 hok
  refine DR.out.mono ?_
  rintro e w11 ⟨rfl, l11⟩
  have L11 := Lib.hid l11
  clear l11 DR
  go_wp2_with fail
  refine (lg_base L11.out).mono ?_
  rintro e w12 ⟨rfl, l12⟩
  have L12 := Lib.hid l12
  have LK1 := Lib.hid (show Lok 1 1 [ent1 2 3 7] from ⟨WF1.out, OK1.out, by simp, by omega⟩)
  clear l12
  have hfr : fromP 1 [ent1 2 3 7] 2 9 = [ent1 2 3 7] := rfl
  have FR := Lib.hid (lg_from 2 9 (by omega) (by omega) (by omega) L12.out LK1.out)
  rw [hfr] at FR
  clear hfr
  go_wp2_with fail
  refine FR.out.mono ?_
  rintro e w13 ⟨P13, Y13, rfl, e13, l13, b13, -⟩
  have L13 := Lib.hid l13
  have E13 := Lib.hid e13
  clear l13 e13 b13 FR
  go_wp2_with fail
  refine (lentry_any 2 3 7 w13).mono ?_
  rintro e w14 ⟨g14, rfl, h14, k14, b14⟩
  have L14 := Lib.hid (L13.out.addNew (X := [litO ((2, 3, 7), g14)]) b14 (fun q hq => by simp at hq; subst hq; exact ⟨h14, k14⟩))
  clear h14 k14 b14
  have L15 := Lib.hid (L14.out.addNew (X := [(w14.heap.size, .cells (litC [((2, 3, 7), g14)]).toArray 59)]) (below_alloc_ w14 _) (fun q hq => by simp at hq; subst hq; exact ⟨Nat.le_refl _, heap_alloc_new w14 _⟩))
  have SM := Lib.hid (samees_any [ent1 2 3 7] (litOk_same (l := [((2, 3, 7), 0)])) (.slice P13 1 1) (.slice (some ⟨w14.heap.size, 0, none⟩) 1 1) _ (E13.out.ents (fun q hq => L15.out.has q (by simp [hq]))) ((el_lits [((2, 3, 7), g14)] w14.heap.size 1 _ (List.mem_cons_self ..) (by intro x hx; simp at hx; subst hx; simp) (Nat.le_refl _)).ents L15.out.has) (by simp))
  go_wp2_with fail
  refine SM.out.mono ?_
  rintro e w16 ⟨rfl, b16⟩
  have B16 := Lib.hid ((L15.out.below b16).bel)
  clear b16
  go_wp2
  go_ret
  exact ⟨by simp, B16.out⟩
end Go.Proofs.YtnegondlkfeleaaDoor
