/- LogsSure: what is opened behind the lift; how it differs from what is wanted. -/
import Derived.Test.YtnegondlkfeleaaGreatDoorLmy
import Derived.Test.YtnegondlkfeleaaGreatDoorLme
namespace Go.Proofs.YtnegondlkfeleaaGreatDoor
open Go.RowKit

/-- The entries of a call that failed, as the law tells them. -/
structure More (wl nl : List Lit) (i i0 : Nat) (b : Int) : Prop where
  fit : Fit 0 0 (wl.map litE) i0 nl
  four : nl.length ≤ 4
  lo : i0 ≤ wl.length
  ix : ∀ j (hj : j < nl.length), nl[j].1 = (((i0 + j + 1 : Nat) : Int), (i : Int), b)
  tm : ∀ x ∈ wl, x.1.2.1 < i
theorem lit_eok {x : Lit} (h : EOk (litE x)) : litOk x := by
  obtain ⟨x0, x1, x2, x3, he, f0, f1, f2, f3, fin, -⟩ := h
  simp only [litE, ent1, List.cons.injEq, and_true] at he
  obtain ⟨rfl, rfl, -, -⟩ := he
  have := fin [10, 0, 0, 0, 0, x.1.2.2, 0, 0, 0, 0] (by simp [litE, ent1])
  exact ⟨f0, f1, this.2.2.2.2.2.1⟩
theorem logB_lits {l : List Lit} (h : ∀ e ∈ l.map litE, EOk e) : (logB 0 0 (l.map litE)).length ≤ 34 + 150 * l.length := by
  have h1 := litOk_len (l := l) fun x hx => lit_eok (h _ (List.mem_map_of_mem hx))
  have h2 : (logB 0 0 (l.map litE)).length = (logB 0 0 []).length + (bsOf (l.map litE)).length := by simp [logB, bsOf]
  have := logB0_len
  omega
theorem end_open {B : Nat} {W wc : World} {d : Nat} {v u : Value} (h : EndR B W d v u wc) (loss : Int) (hB0 : 0 < B) (T : Tab W) :
    ∃ (wl : List Lit) (X : List (Nat × Obj)) (s : Dst) (ge : List Ent), On X B W wc d nmL s ∧ (∀ w' : World, Has w' X → Rd w' 5 v wl.length (litC wl)) ∧ (∀ x ∈ wl, litO x ∈ X) ∧ Lok 0 0 (wl.map litE) ∧ wl.length ≤ 204 ∧
      (∀ w6, On X B W w6 d nmL (liftS s [loss]) → Calls Tryz.prog 6 #[.pointer (some ⟨d, 0, none⟩)] w6 fun e w' => ∃ p size s', e = .returned (.tuple #[.pointer (some ⟨p, 0, none⟩), .int .i64 0]) ∧ Lg X B W w' p d 0 0 ge size s') ∧ Lok 0 0 ge ∧
      (ge = wl.map litE ∨ ∃ (i i0 : Nat) (b : Int) (nl : List Lit) (c : Nat), (∀ w' : World, Has w' X → Rd w' 5 u nl.length (litC nl)) ∧ (∀ x ∈ nl, litO x ∈ X) ∧ More wl nl i i0 b ∧ 0 < c ∧ c ≤ nl.length ∧ ge = (wl.take i0 ++ nl.take c).map litE) := by
  obtain ⟨wl, X, H, s, ho, hwv, hws, hh, hlok, hmost, hlen, hcase⟩ := h.ex
  rcases hcase with ⟨hu, hf⟩ | ⟨i, i0, b, nl, hu, hst, hF, hnl, hi0, hix, htm, hf⟩
  · obtain ⟨acc, hA, ha⟩ := hh
    obtain ⟨m, hm⟩ := lift_file (bs := []) (.inl hf) [loss]
    rw [List.take_nil, List.append_nil] at hm
    refine ⟨wl, X, s, wl.map litE, ho, hwv, hws, hlok, hmost, fun w6 h6 => ?_, hlok, .inl rfl⟩
    rw [hm] at h6
    refine (lopen_file (logB 0 0 H) H acc h6 rfl (rdF_log 0 0 (by omega) (by omega) hA.ok) hA (logB_byt 0 0 hA.ok) (by omega) hB0 T).mono ?_
    rintro e w' ⟨p, he, hl⟩
    rw [ha] at hl
    exact ⟨p, _, _, he, hl⟩
  · obtain ⟨m, hm⟩ := lift_file hf [loss]
    obtain ⟨c, ns, acc, good, hc, hrd, hA, ha⟩ := sure_read hh hF m
    have hlokc := hF.lokc hlok c hc
    have hbl := litOk_len hF.ok
    have hby : ∀ x ∈ logB 0 0 H ++ (bsOf (nl.map litE)).take m, byt x := fun x hx => by
      rcases List.mem_append.1 hx with hx | hx
      · exact logB_byt 0 0 hh.eok x hx
      · exact bsOf_byt (litOk_eok hF.ok) x (List.mem_of_mem_take hx)
    have hl2 : (logB 0 0 H ++ (bsOf (nl.map litE)).take m).length ≤ 2000000 := by rw [List.length_append, List.length_take]; omega
    refine ⟨wl, X, s, acc ns.length, ho, hwv, hws, hlok, hmost, fun w6 h6 => ?_, by rw [ha]; exact hlokc, ?_⟩
    · rw [hm] at h6
      by_cases hg : good = (logB 0 0 H ++ (bsOf (nl.map litE)).take m).length
      · rw [hg] at hrd
        exact (lopen_file _ ns acc h6 rfl hrd hA hby hl2 hB0 T).mono fun e w' ⟨p, he, hl⟩ => ⟨p, _, _, he, hl⟩
      · have hlb : (logB 0 0 (acc ns.length)).length ≤ 1048576 := by
          have hlc := hlokc.bi
          rw [ha]
          rcases Nat.eq_zero_or_pos c with h0 | h0
          · subst h0
            have e0 : accOf 0 (wl.map litE) i0 (nl.map litE) 0 = wl.map litE := if_pos rfl
            rw [e0]
            have := logB_lits hlok.ok
            omega
          · have e1 : accOf 0 (wl.map litE) i0 (nl.map litE) c = (wl.take i0 ++ nl.take c).map litE := by rw [acc_take 0 _ i0 nl c h0 hc, acc_lits _ _ _ (by rw [List.length_take]; omega)]
            rw [e1] at hlc hlokc ⊢
            have := logB_lits hlokc.ok
            rw [List.length_map] at hlc
            omega
        exact (lopen_cut (s1 := ⟨some (logB 0 0 (acc ns.length), (logB 0 0 (acc ns.length)).length), -1, false⟩) _ ns acc good hg h6 rfl hrd hA hby hl2 hB0 T (by rw [ha]; exact hlokc.ok) (does_free _ _ (by omega) true (.inl rfl))).mono fun e w' ⟨p, he, hl⟩ => ⟨p, _, _, he, hl⟩
    · rcases Nat.eq_zero_or_pos c with h0 | h0
      · left; rw [ha, h0]; exact if_pos rfl
      · right
        refine ⟨i, i0, b, nl, c, hu, hst, ⟨hF, hnl, hi0, hix, htm⟩, h0, hc, ?_⟩
        rw [ha, acc_take 0 _ i0 nl c h0 hc, acc_lits _ _ _ (by rw [List.length_take]; omega)]
theorem same4 (l : List Lit) : ∀ e ∈ l.map litE, e.1.length = 4 ∧ e.2.length ≤ 1000000 ∧ ∀ q ∈ e.2, q.length = 10 := litOk_same
/-- What was opened, where it is not what was wanted. -/
theorem same_ne {wl nl : List Lit} {i i0 : Nat} {b : Int} {c : Nat} (h : More wl nl i i0 b) (h0 : 0 < c) (hc : c ≤ nl.length) (hmost : wl.length ≤ 204) (hwl : Lok 0 0 (wl.map litE)) (v u : Value) (w : World) (hv : Ents w v ((wl.take i0 ++ nl.take c).map litE)) (hu : Ents w u (wl.map litE)) :
    Calls Tryz.prog 12 #[v, u] w fun e w' => e = .returned (.bool false) ∧ Below w.heap.size w w' := by
  have hfour := h.four
  have hlo := h.lo
  have hl1 : ((wl.take i0 ++ nl.take c).map litE).length = i0 + c := by rw [List.length_map, List.length_append, List.length_take, List.length_take]; omega
  have hl2 : (wl.map litE).length = wl.length := List.length_map _
  by_cases hl : i0 + c = wl.length
  · have hlt : i0 < wl.length := by omega
    refine samees_diff _ _ i0 (by rw [hl1, hl2, hl]) (by rw [hl1]; omega) (by rw [hl2]; exact hlt) (fun k hk hk' hki => ?_) ((i0 + 1 : Nat) : Int) (i : Int) wl[i0].1.2.1 1 ((i0 + 1 : Nat) : Int) 1 wl[i0].1.1 ?_ ?_ ?_ (same4 _) v u w hv hu (by rw [hl1]; omega)
    · rw [List.getElem_map, List.getElem_map, List.getElem_append_left (by rw [List.length_take]; omega), List.getElem_take]
    · rw [List.getElem_map, List.getElem_append_right (by rw [List.length_take]; omega), List.getElem_take]
      have hz : i0 - (wl.take i0).length = 0 := by rw [List.length_take]; omega
      have := h.ix 0 (by omega)
      simp only [hz]
      show (litE nl[0]).1 = _
      unfold litE ent1
      rw [this]
      try rfl
    · obtain ⟨t1, c1, n1, e1⟩ := hwl.wf i0 (by rw [hl2]; exact hlt)
      rw [List.getElem_map] at e1 ⊢
      have e2 := congrArg (fun l => l.headD 0) e1
      simp only [litE, ent1, List.headD_cons] at e2
      show [wl[i0].1.1, wl[i0].1.2.1, 1, wl[i0].1.1] = _
      rw [e2]
      simp
      omega
    · have := h.tm _ (List.getElem_mem hlt)
      omega
  · obtain ⟨_, _, ⟨A, c1, rfl, -⟩, -⟩ := id hv
    obtain ⟨_, _, ⟨A', c2, rfl, -⟩, -⟩ := id hu
    exact samees_len A A' _ _ c1 c2 w (by rw [hl1, hl2]; exact hl) (by rw [hl1]; omega) (by rw [hl2]; omega)
end Go.Proofs.YtnegondlkfeleaaGreatDoor
