/- Letters: getting a text: the code's. -/
import Derived.Test.YthjdkjinkmdclaaGreatLgb
import Derived.Test.YthjdkjinkmdclaaGreatCloY
namespace Go.Proofs.YthjdkjinkmdclaaGreat
open Go.RowKit

theorem gNum_lt {s : Gs} (h : ∀ c ∈ s.1, byt c) : (gNum s).1 < 18446744073709551616 := by
  unfold gNum
  split
  · rename_i h0
    have e : tk s.1 = ((tk s.1).1, (tk s.1).2.1, 0) := by rw [← h0]
    exact (tk_ok h e).2.2
  · simp
theorem Bs.front {w : World} {A : Option Addr} {n c : Nat} {xs : List Int} (h : Bs w (.slice A n c) xs) (k c' : Nat) (hk : k ≤ n) (hc : k ≤ c') : Bs w (.slice A k c') (xs.take k) := by
  obtain ⟨A', c0, hv, hc0, hl, hh⟩ := h
  injection hv with h1 h2 h3
  subst h1; subst h2; subst h3
  have hkl : (xs.take k).length = k := by rw [List.length_take]; omega
  refine ⟨_, c', by rw [hkl], by omega, by simp, ?_⟩
  rcases hh with h0 | ⟨g, o, hA, hg, hcell⟩
  · left; omega
  · refine .inr ⟨g, o, hA, hg, fun j u hu => hcell j u ?_⟩
    rw [← hu]
    have hj : j < k := by
      rcases Nat.lt_or_ge j k with h | h
      · exact h
      · rw [List.getElem?_eq_none (by rw [bc_len]; omega)] at hu; cases hu
    simp [bc, hj]
/-- What is left, as the code makes it. -/
theorem Bs.rest {w : World} {A : Option Addr} {n c : Nat} {xs : List Int} (h : Bs w (.slice A n c) xs) (k : Nat) (hk : k ≤ n) : (k = n ∧ (∀ A' c', Bs w (.slice A' 0 c') (xs.drop k))) ∨ (k < n ∧ ∃ g o, A = some ⟨g, o, none⟩ ∧ Bs w (.slice (some ⟨g, o + k, none⟩) (n - k) (c - k)) (xs.drop k)) := by
  obtain ⟨hl, -, hd⟩ := h.drop k hk
  by_cases he : k = n
  · exact .inl ⟨he, fun A' c' => Bs.empty (List.drop_of_length_le (by omega)) rfl⟩
  · refine .inr ⟨by omega, ?_⟩
    obtain ⟨A', c0, hv, -, -, hh⟩ := h
    injection hv with h1 h2 h3
    subst h1
    rcases hh with h0 | ⟨g, o, rfl, -⟩
    · omega
    · exact ⟨g, o, rfl, hd g o rfl⟩

set_option maxHeartbeats 8000000 in
set_option maxRecDepth 100000 in
theorem htext_any {W0 w : World} {p : Nat} {s : Gs} (h : Gl W0 w p s) {g o t : Nat} {cs : Array Value} (hg : Blk w g t cs) (ht : t ≠ 84) (hg0 : W0.heap.size ≤ g) (d : List Int) (dv : Value) (hd : cs[o]? = some dv) :
    Calls Tryz.prog 121 #[.pointer (some ⟨p, 0, none⟩), .pointer (some ⟨g, o, none⟩)] w fun e w' => e = .returned (.tuple #[]) ∧ ∃ v', Gl W0 w' p (gText d s).2 ∧ Blk w' g t (cs.setIfInBounds o v') ∧ Kq w w' p g ∧ ((v' = dv ∧ (gText d s).1 = d) ∨ (Bo w.heap.size w' v' (gText d s).1 ∧ Clp v')) := by
  have b1 := below_alloc_ w (.cells #[.int .u64 0] 23)
  have k1 := Blk.new w 23 #[.int .u64 0]
  have CN := Lib.hid (hnum_any (o := 0) (h.below b1) k1 (by decide) h.bel.size (by decide))
  have hgq : g ≠ w.heap.size := by have := hg.lt; omega
  have hne := h.ne hg ht
  have HN := Lib.hid (gNum_lt h.ok)
  have KB := Lib.hid (Kq.below b1 p g)
  have HG := Lib.hid (hg.below b1 hg.lt)
  have hpq : p ≠ w.heap.size := by have := h.lt; omega
  have hsame := Lib.hid (set_same hd)
  have HGL := Lib.hid hg.lt
  have HPL := Lib.hid h.lt
  clear b1 k1 h
  have hT : gText d s = if (gNum s).2.2 = true ∨ 65536 < (gNum s).1 ∨ (gNum s).2.1.length < (gNum s).1 then (d, ((gNum s).2.1, true)) else ((gNum s).2.1.take (gNum s).1, ((gNum s).2.1.drop (gNum s).1, (gNum s).2.2)) := rfl
  obtain ⟨n, hn⟩ : ∃ n, n = (gNum s).1 := ⟨_, rfl⟩
  obtain ⟨s', hs'⟩ : ∃ s', s' = (gNum s).2 := ⟨_, rfl⟩
  rw [← hn, ← hs'] at CN hT
  rw [← hn] at HN
  have HT := Lib.hid hT
  clear hn hs' hg hT
  obtain ⟨xs, b⟩ := s'
  have hn' : (n : Int) ≤ 18446744073709551615 := by have := HN.out; omega
  go_enter Tryz.func121, Tryz.ntmps121
  go_wp2_with fail
  refine CN.out.mono ?_
  rintro e w2 ⟨rfl, h1, k1, q1⟩
  have kg := q1.2 _ _ _ hne.symm hgq HG.out
  have fg := kg.free
  have cg := (kg.cell o).trans hd
  obtain ⟨A, c, hk, hf⟩ := h1.ex
  have fp := hk.free
  have c0 := hk.cell 0
  have c1 := hk.cell 1
  have d0 := k1.cell 0
  simp only [List.getElem?_toArray, List.getElem?_cons_zero, List.getElem?_cons_succ] at c0 c1
  obtain ⟨m, hm⟩ : ∃ m, m = xs.length := ⟨_, rfl⟩
  have M := Lib.hid hm
  rw [← hm] at c0 hf
  have d0' : w2.cell? ⟨w.heap.size, 0, none⟩ = some (.int .u64 n) := d0
  have hml : m ≤ 70368744177664 := by rw [hm]; exact h1.le
  have hml' : (m : Int) ≤ 70368744177664 := by omega
  have hwl : IntKind.u64.wrap (m : Int) = m := IntWalk.u64_in _ (by omega)
  have QQ := Lib.hid (KB.out.aside q1 (Nat.le_refl _))
  have H1 := Lib.hid h1
  have KG := Lib.hid kg
  have HF := Lib.hid hf
  rw [← hm] at hk
  have KP := Lib.hid hk
  clear hk hf d0 h1 k1 kg q1 CN HG hm
  have BAD : (b = true ∨ 65536 < n ∨ m < n) → ∀ k, ∃ v', Gl W0 ((w2.drewN k).setCell ⟨p, 1, none⟩ (.bool true)) p (gText d s).2 ∧ Blk ((w2.drewN k).setCell ⟨p, 1, none⟩ (.bool true)) g t (cs.setIfInBounds o v') ∧ Kq w ((w2.drewN k).setCell ⟨p, 1, none⟩ (.bool true)) p g ∧ ((v' = dv ∧ (gText d s).1 = d) ∨ (Bo w.heap.size ((w2.drewN k).setCell ⟨p, 1, none⟩ (.bool true)) v' (gText d s).1 ∧ Clp v')) := by
    intro hb k
    rw [M.out] at hb
    refine ⟨dv, ?_⟩
    rw [HT.out, if_pos hb, hsame.out]
    exact ⟨(H1.out.below (below_drewN_ _ _ k)).mark true, (KG.out.drewN k).far (p := ⟨p, 1, none⟩) hne.symm _, (QQ.out.trans (Kq.below (below_drewN_ _ _ k) p g)).trans (Kq.setp g _), .inl ⟨rfl, rfl⟩⟩
  have BADH := Lib.hid BAD
  clear BAD
  by_cases hb : b = true
  · subst hb
    go_wp2_with fail
    go_quiet (fail)
    go_wp2
    exact bodyPost_ret (results_none rfl _ _ _) rfl ⟨rfl, BADH.out (.inl trivial) _⟩
  obtain rfl : b = false := by simpa using hb
  by_cases h6 : 65536 < n
  · have h6' : (65536 : Int) < n := by omega
    go_wp2_with fail
    go_quiet (fail)
    go_wp2
    exact bodyPost_ret (results_none rfl _ _ _) rfl ⟨rfl, BADH.out (.inr (.inl h6)) _⟩
  have h6' : ¬ (65536 : Int) < n := by omega
  by_cases h7 : m < n
  · have h7' : (m : Int) < n := by omega
    go_wp2_with fail
    go_quiet (fail)
    go_wp2
    exact bodyPost_ret (results_none rfl _ _ _) rfl ⟨rfl, BADH.out (.inr (.inr h7)) _⟩
  have h7' : ¬ (m : Int) < n := by omega
  have hnm : n ≤ m := by omega
  have HT2 := Lib.hid (show gText d s = (xs.take n, (xs.drop n, false)) by
    rw [HT.out, if_neg]
    rw [← M.out]
    intro h
    rcases h with h | h | h
    · exact absurd h (by decide)
    · exact h6 h
    · exact h7 h)
  clear BADH
  have K1 := Lib.hid (show ∀ k, Gl W0 (w2.drewN k) p (xs, false) ∧ Blk (w2.drewN k) g t cs ∧ Kq w (w2.drewN k) p g ∧ Blk (w2.drewN k) p 84 #[.slice A m c, .bool false] ∧ (w2.drewN k).cell? ⟨w.heap.size, 0, none⟩ = some (.int .u64 n) from fun k => ⟨H1.out.below (below_drewN_ _ _ k), KG.out.drewN k, QQ.out.trans (Kq.below (below_drewN_ _ _ k) p g), KP.out.drewN k, d0'⟩)
  go_wp2_with fail
  go_quiet (fail)
  go_wp2_with fail
  obtain ⟨h3, kg3, q3, kp3, d3⟩ := K1.out nq
  clear K1 H1 KG KP QQ d0' c0 c1 cg fg fp
  generalize w2.drewN nq = wc at *
  have c3 : wc.cell? ⟨p, 0, none⟩ = some (.slice A m c) := kp3.cell 0
  have c3d : wc.drew.cell? ⟨p, 0, none⟩ = some (.slice A m c) := c3
  have d3d : wc.drew.cell? ⟨w.heap.size, 0, none⟩ = some (.int .u64 n) := d3
  have g3 : wc.cell? ⟨g, o, none⟩ = some dv := (kg3.cell o).trans hd
  have hqs : w.heap.size < wc.heap.size := block_lt_of_cell d3
  have hps : p < wc.drew.heap.size := kp3.lt
  have hqs' : w.heap.size < wc.drew.heap.size := hqs
  have hcn : n ≤ c := by
    obtain ⟨A', c', hv, hc, hl, -⟩ := HF.out
    injection hv with h1 h2 h3
    omega
  have hb3 := h3.bel
  have LE := Lib.hid (show (xs.drop n).length ≤ 70368744177664 by rw [List.length_drop]; have := M.out; omega)
  have OK := Lib.hid (show ∀ y ∈ xs.drop n, byt y from fun y hy => h3.ok y (List.mem_of_mem_drop hy))
  have HB := Lib.hid ((HF.out.front n c hnm hcn).below hb3)
  have LT := Lib.hid (show (xs.take n).length = n by rw [List.length_take]; have := M.out; omega)
  have hgw : g < w.heap.size := HGL.out
  have FIN := Lib.hid (show ∀ w4, Below wc.drew.heap.size wc.drew w4 → ∀ A1 A' k' c', Ow wc.drew.heap.size w4 5 1 (.slice A1 n n) n (bc (xs.take n)) → Bs W0 (.slice A' k' c') (xs.drop n) → ∃ v', Gl W0 ((w4.setCell ⟨g, o, none⟩ (.slice A1 n n)).setCell ⟨p, 0, none⟩ (.slice A' k' c')) p (gText d s).2 ∧ Blk ((w4.setCell ⟨g, o, none⟩ (.slice A1 n n)).setCell ⟨p, 0, none⟩ (.slice A' k' c')) g t (cs.setIfInBounds o v') ∧ Kq w ((w4.setCell ⟨g, o, none⟩ (.slice A1 n n)).setCell ⟨p, 0, none⟩ (.slice A' k' c')) p g ∧ ((v' = dv ∧ (gText d s).1 = d) ∨ (Bo w.heap.size ((w4.setCell ⟨g, o, none⟩ (.slice A1 n n)).setCell ⟨p, 0, none⟩ (.slice A' k' c')) v' (gText d s).1 ∧ Clp v')) from by
    intro w4 hb4 A1 A' k' c' ho hr
    rw [HT2.out]
    have h4 := h3.drew.below hb4
    have kg4 := kg3.drew.below hb4 kg3.drew.lt
    have q4 : Kq w w4 p g := (q3.trans (Kq.drew wc p g)).trans (Kq.below hb4 p g)
    obtain ⟨f1, f2, f3⟩ := Gl.put2n (o := o) (u := .slice A1 n n) h4 kg4 hne hg0 hr OK.out LE.out
    refine ⟨_, f1, f2, q4.trans f3, .inr ⟨?_, A1, n, rfl⟩⟩
    unfold Bo
    rw [LT.out]
    exact Ow.far (Ow.far (ho.le (by have := hqs'; omega)) (p := ⟨g, o, none⟩) hgw _) (p := ⟨p, 0, none⟩) HPL.out _)
  have CN := Lib.hid (fun (A0 : Option Addr) (hh : Bs wc.drew (.slice A0 n c) (xs.take n)) => bclone_any (.slice A0 n c) n (bc (xs.take n)) wc.drew (by have := hh; unfold Bs at this; rw [LT.out] at this; exact this) (bc_one _) (by omega) (by omega))
  have f3 := kg3.free
  have fp3 := kp3.free
  have CEL := Lib.hid (show ∀ w4, Below wc.drew.heap.size wc.drew w4 → w4.cell? ⟨p, 0, none⟩ = some (.slice A m c) ∧ w4.cell? ⟨w.heap.size, 0, none⟩ = some (.int .u64 n) ∧ w4.cell? ⟨g, o, none⟩ = some dv ∧ (∀ i, w4.frozen? ⟨g, i, none⟩ = false) ∧ (∀ i, w4.frozen? ⟨p, i, none⟩ = false) from fun w4 hb => ⟨(hb.cell hps).trans c3d, (hb.cell hqs').trans d3d, (hb.cell (block_lt_of_cell (show wc.drew.cell? ⟨g, o, none⟩ = some dv from g3))).trans g3, (kg3.drew.below hb kg3.drew.lt).free, (kp3.drew.below hb kp3.drew.lt).free⟩)
  have RS := Lib.hid HF.out
  have hn1 : (0 : Int) ≤ n := by omega
  have hcn' : (n : Int) ≤ c := by omega
  have hnm' : (n : Int) ≤ m := by omega
  have hmc : (m : Int) ≤ c := by
    obtain ⟨A', c', hv, hc, hl, -⟩ := HF.out
    injection hv with h1 h2 h3
    omega
  clear h3 kg3 q3 kp3 hb3 HT hcn
  have SK := Lib.hid (show ∀ w4 : World, w4.cell? ⟨p, 0, none⟩ = some (.slice A m c) ∧ w4.cell? ⟨w.heap.size, 0, none⟩ = some (.int .u64 n) → ∀ u, (w4.setCell ⟨g, o, none⟩ u).cell? ⟨p, 0, none⟩ = some (.slice A m c) ∧ (w4.setCell ⟨g, o, none⟩ u).cell? ⟨w.heap.size, 0, none⟩ = some (.int .u64 n) from fun w4 h u => ⟨(cell_else (by exact hne) u).trans h.1, (cell_else (by exact hgq.symm) u).trans h.2⟩)
  have SL := Lib.hid (show ∀ w4 : World, w4.cell? ⟨p, 0, none⟩ = some (.slice A m c) ∧ w4.cell? ⟨w.heap.size, 0, none⟩ = some (.int .u64 n) → (w4.setCell ⟨p, 0, none⟩ (.slice A m c)).cell? ⟨p, 0, none⟩ = some (.slice A m c) ∧ (w4.setCell ⟨p, 0, none⟩ (.slice A m c)).cell? ⟨w.heap.size, 0, none⟩ = some (.int .u64 n) from fun w4 h => ⟨World.cell?_setCell_same _ _ _ (by rw [h.1]), (cell_else hpq.symm _).trans h.2⟩)
  have Z0 := Lib.hid (show w.heap.size ≠ p from hpq.symm)
  obtain ⟨q, hq⟩ : ∃ q, q = w.heap.size := ⟨_, rfl⟩
  have B3 := Lib.hid (Below.refl wc.drew.heap.size wc.drew)
  clear ht hg0 hd hgq KB hsame HGL HPL HN hn' M hml hml' hwl hb h6 h7 HT2 h6' h7' d3 g3 hqs hps LE OK LT hgw f3 fp3 c3
  by_cases hn0 : n = 0
  · subst hn0
    have S0 := Lib.hid (And.intro c3d d3d)
    rcases A with - | ⟨g0, o0, sp⟩
    · have hBd := Lib.hid (CN.out _ HB.out)
      have HD := Lib.hid (show Bs W0 (.slice none m c) (xs.drop 0) from HF.out)
      clear CN HB HF RS
      go_region_held3 (fun w' => w'.cell? ⟨p, 0, none⟩ = some (.slice none m c) ∧ w'.cell? ⟨w.heap.size, 0, none⟩ = some (.int .u64 ((0 : Nat) : Int))) (first
        | (with_reducible exact SL.out _ (SK.out _ S4.out _))
        | (with_reducible exact SK.out _ S4.out _)
        | (with_reducible exact S4.out)
        | (with_reducible exact S0.out)
        | fail)
        (first
        | (go_at_call 128; refine hBd.out.mono ?_; rintro e w4 ⟨v4, rfl, ho4, hb4⟩; obtain ⟨x1, x2, x3, x4, x5⟩ := CEL.out _ hb4; have S4 := Lib.hid (And.intro x1 x2); obtain ⟨A4, c4, rfl, hc4, hcl⟩ := ho4.clip; have QC := Lib.hid hc4; have QO := Lib.hid hcl; have QB := Lib.hid hb4; clear hb4 ho4 hc4 hcl)
        | (go_at_call 25; refine (byt_clip _ _ _ _ QC.out (by omega)).mono ?_; rintro e w5 ⟨rfl, rfl⟩))
      all_goals
        exact bodyPost_end (results_none rfl _ _ _) rfl ⟨rfl, FIN.out _ QB.out _ _ _ _ QO.out HD.out⟩
    · have hBd := Lib.hid (CN.out _ HB.out)
      have HD := Lib.hid (show Bs W0 (.slice (some ⟨g0, o0, sp⟩) m c) (xs.drop 0) from HF.out)
      clear CN HB HF RS
      by_cases hc0 : c = 0
      · subst hc0
        obtain rfl : m = 0 := by omega
        go_region_held3 (fun w' => w'.cell? ⟨p, 0, none⟩ = some (.slice (some ⟨g0, o0, sp⟩) 0 0) ∧ w'.cell? ⟨w.heap.size, 0, none⟩ = some (.int .u64 ((0 : Nat) : Int))) (first
          | (with_reducible exact SL.out _ (SK.out _ S4.out _))
          | (with_reducible exact SK.out _ S4.out _)
          | (with_reducible exact S4.out)
          | (with_reducible exact S0.out)
          | fail)
          (first
          | (go_at_call 128; refine hBd.out.mono ?_; rintro e w4 ⟨v4, rfl, ho4, hb4⟩; obtain ⟨x1, x2, x3, x4, x5⟩ := CEL.out _ hb4; have S4 := Lib.hid (And.intro x1 x2); obtain ⟨A4, c4, rfl, hc4, hcl⟩ := ho4.clip; have QC := Lib.hid hc4; have QO := Lib.hid hcl; have QB := Lib.hid hb4; clear hb4 ho4 hc4 hcl)
          | (go_at_call 25; refine (byt_clip _ _ _ _ QC.out (by omega)).mono ?_; rintro e w5 ⟨rfl, rfl⟩))
        all_goals
          exact bodyPost_end (results_none rfl _ _ _) rfl ⟨rfl, FIN.out _ QB.out _ _ _ _ QO.out HD.out⟩
      · go_region_held3 (fun w' => w'.cell? ⟨p, 0, none⟩ = some (.slice (some ⟨g0, o0, sp⟩) m c) ∧ w'.cell? ⟨w.heap.size, 0, none⟩ = some (.int .u64 ((0 : Nat) : Int))) (first
          | (with_reducible exact SL.out _ (SK.out _ S4.out _))
          | (with_reducible exact SK.out _ S4.out _)
          | (with_reducible exact S4.out)
          | (with_reducible exact S0.out)
          | fail)
          (first
          | (go_at_call 128; refine hBd.out.mono ?_; rintro e w4 ⟨v4, rfl, ho4, hb4⟩; obtain ⟨x1, x2, x3, x4, x5⟩ := CEL.out _ hb4; have S4 := Lib.hid (And.intro x1 x2); obtain ⟨A4, c4, rfl, hc4, hcl⟩ := ho4.clip; have QC := Lib.hid hc4; have QO := Lib.hid hcl; have QB := Lib.hid hb4; clear hb4 ho4 hc4 hcl)
          | (go_at_call 25; refine (byt_clip _ _ _ _ QC.out (by omega)).mono ?_; rintro e w5 ⟨rfl, rfl⟩))
        all_goals
          exact bodyPost_end (results_none rfl _ _ _) rfl ⟨rfl, FIN.out _ QB.out _ _ _ _ QO.out HD.out⟩
  · obtain ⟨g0, o0, rfl, hdr⟩ : ∃ g0 o0, A = some ⟨g0, o0, none⟩ ∧ Bs W0 (.slice (some ⟨g0, o0 + n, none⟩) (m - n) (c - n)) (xs.drop n) := by
      obtain ⟨A', c', hv, -, hl, hh⟩ := HF.out
      injection hv with h1 h2 h3
      subst h1
      rcases hh with h0 | ⟨g0, o0, rfl, -⟩
      · omega
      · exact ⟨g0, o0, rfl, (HF.out.drop n hnm).2.2 g0 o0 rfl⟩
    have HDI := Lib.hid (show Bs W0 (.slice (if c = n then some ⟨g0, o0, none⟩ else some ⟨g0, o0 + n, none⟩) (m - n) (c - n)) (xs.drop n) from by
      split
      · exact Bs.empty (List.drop_of_length_le (by obtain ⟨_, _, hv, _, hl, _⟩ := HF.out; injection hv with _ h2 _; omega)) (by omega)
      · exact hdr)
    have hBd := Lib.hid (CN.out _ HB.out)
    have hc0 : ¬ c = 0 := by omega
    clear hdr hnm CN HF HB RS SK SL Z0 B3 hqs' hmc
    go_region_law (first
      | (go_simp; go_at_call 128; refine hBd.out.mono ?_; rintro e w4 ⟨v4, rfl, ho4, hb4⟩; obtain ⟨x1, x2, x3, x4, x5⟩ := CEL.out _ hb4; obtain ⟨A4, c4, rfl, hc4, hcl⟩ := ho4.clip; have QC := Lib.hid hc4; have QO := Lib.hid hcl; have QB := Lib.hid hb4; clear hb4 ho4 hc4 hcl)
      | (go_simp; go_at_call 25; refine (byt_clip _ _ _ _ QC.out (by omega)).mono ?_; rintro e w5 ⟨rfl, rfl⟩))
    all_goals
      exact bodyPost_end (results_none rfl _ _ _) rfl ⟨rfl, FIN.out _ QB.out _ _ _ _ QO.out HDI.out⟩
end Go.Proofs.YthjdkjinkmdclaaGreat
