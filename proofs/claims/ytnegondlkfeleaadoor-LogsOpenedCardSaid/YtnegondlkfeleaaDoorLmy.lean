import Derived.Test.YtnegondlkfeleaaDoorLmd
import Derived.Test.YtnegondlkfeleaaDoorLqg
/- LogsSure: the plain law: what a file that was cut reads as. -/
namespace Go.Proofs.YtnegondlkfeleaaDoor
open Go.RowKit

/-- A frame that is cut is none. -/
theorem getF_cut {bs : List Int} (hl : bs.length ≤ 8192) {m : Nat} (hm : m < (frameB bs).length) : ¬ (getF ((frameB bs).take m)).2.2 = 0 := by
  have hfl := frameB_len bs
  by_cases h1 : m < (nb bs.length).length
  · have ht : (frameB bs).take m = (nb bs.length).take m := by
      unfold frameB sumB
      rw [List.append_assoc, List.take_append, show m - (nb bs.length).length = 0 by omega, List.take_zero, List.append_nil]
    have hk := tk_cut (n := bs.length) (by omega) h1
    rw [ht]
    have hs : (sizeF ((nb bs.length).take m)).2.2 ≠ 0 := by
      unfold sizeF
      rw [hk]
      simp only
      rw [if_pos trivial]
      split <;> decide
    unfold getF
    rw [if_pos hs]
    exact hs
  · have ht : (frameB bs).take m = nb bs.length ++ (bs ++ fourS (moreS 0 (nb bs.length ++ bs))).take (m - (nb bs.length).length) := by
      unfold frameB sumB
      rw [List.append_assoc, List.take_append, List.take_of_length_le (by omega)]
    have hk : tk ((frameB bs).take m) = (bs.length, (nb bs.length).length, 0) := by rw [ht]; exact tk_nb (by omega) _
    have hs : sizeF ((frameB bs).take m) = (bs.length, (nb bs.length).length, 0) := by
      have := nb_len_pos bs.length
      unfold sizeF
      rw [hk]
      simp only
      rw [if_neg (by omega), if_neg (by omega)]
    have hlm : ((frameB bs).take m).length = m := by rw [List.length_take]; omega
    unfold getF
    rw [hs, hlm]
    simp only
    rw [if_neg (by simp), if_pos (by omega)]
    decide
theorem rdF_cut (junk : List Int) (hj : ¬ (getF junk).2.2 = 0) : ∀ ls : List (List Int), (∀ l ∈ ls, l.length ≤ 8192) → rdF (framesB ls ++ junk) = (ls, (framesB ls).length)
  | [], _ => by
    show rdF junk = _
    rw [rdF_bad hj]; rfl
  | a :: ls, h => by
    have e : framesB (a :: ls) ++ junk = frameB a ++ (framesB ls ++ junk) := by simp [framesB]
    have hg := getF_frame a (framesB ls ++ junk) (h a (List.mem_cons_self ..))
    rw [e, rdF_ok (by rw [hg]), hg]
    simp only
    rw [List.drop_left' rfl, rdF_cut junk hj ls (fun l hl => h l (List.mem_cons_of_mem _ hl))]
    simp [framesB]
theorem bsOf_frames (ns : List Ent) : bsOf ns = framesB (ns.map entryB) := by
  show _ = ((ns.map entryB).map frameB).flatten
  rw [List.map_map]; rfl
theorem logB_frames (bi bt : Nat) (ns : List Ent) : logB bi bt ns = framesB ((nb bi ++ nb bt) :: ns.map entryB) := by
  have := bsOf_frames ns
  unfold bsOf at this
  simp only [logB, this, framesB, List.map_cons, List.flatten_cons]
theorem bodies_le {bi bt : Nat} (hi : bi < 18446744073709551616) (ht : bt < 18446744073709551616) {ns : List Ent} (h : ∀ e ∈ ns, EOk e) : ∀ l ∈ (nb bi ++ nb bt) :: ns.map entryB, l.length ≤ 8192 := by
  intro l hl
  rcases List.mem_cons.1 hl with rfl | hl
  · have := nb_ten hi; have := nb_ten ht; rw [List.length_append]; omega
  · obtain ⟨e, he, rfl⟩ := List.mem_map.1 hl
    obtain ⟨_, _, _, _, -, -, -, -, -, -, -, h1, -⟩ := h e he
    exact h1
theorem rdF_log (bi bt : Nat) (hi : bi < 18446744073709551616) (ht : bt < 18446744073709551616) {ns : List Ent} (h : ∀ e ∈ ns, EOk e) : rdF (logB bi bt ns) = ((nb bi ++ nb bt) :: ns.map entryB, (logB bi bt ns).length) := by
  rw [logB_frames]; exact rdF_frames _ (bodies_le hi ht h)
/-- Some of the bytes of entries: whole entries, and what is left of one. -/
theorem bs_cut : ∀ (ns : List Ent) (m : Nat), (∀ e ∈ ns, EOk e) → ∃ c junk, c ≤ ns.length ∧ (bsOf ns).take m = bsOf (ns.take c) ++ junk ∧ (junk = [] ∨ junk ≠ [] ∧ ¬ (getF junk).2.2 = 0)
  | [], m, _ => ⟨0, [], Nat.le_refl _, by simp [bsOf], .inl rfl⟩
  | a :: ns, m, h => by
    have e : bsOf (a :: ns) = efB a ++ bsOf ns := by simp [bsOf]
    obtain ⟨_, _, _, _, -, -, -, -, -, -, -, hal, -⟩ := h a (List.mem_cons_self ..)
    by_cases hm : m < (efB a).length
    · refine ⟨0, (efB a).take m, Nat.zero_le _, ?_, ?_⟩
      · rw [e, List.take_append, show m - (efB a).length = 0 by omega, List.take_zero, List.append_nil]
        simp [bsOf]
      · by_cases h0 : m = 0
        · exact .inl (by rw [h0, List.take_zero])
        · refine .inr ⟨fun hn => ?_, getF_cut hal hm⟩
          have := congrArg List.length hn
          rw [List.length_take, List.length_nil] at this
          have := efB_pos a
          omega
    · obtain ⟨c, junk, h1, h2, h3⟩ := bs_cut ns (m - (efB a).length) (fun e he => h e (List.mem_cons_of_mem _ he))
      refine ⟨c + 1, junk, by simpa using h1, ?_, h3⟩
      rw [e, List.take_append, List.take_of_length_le (by omega), h2, List.take_succ_cons]
      simp [bsOf]

/-- What was added so far, H, makes these entries. -/
def Hist (H es : List Ent) : Prop := ∃ acc, Adds 0 0 H acc ∧ acc H.length = es
theorem hist_nil : Hist [] [] := ⟨fun _ => [], ⟨rfl, by simp, fun k h => by simp at h, by omega, by omega⟩, rfl⟩
theorem hist_ext {H es : List Ent} {i0 : Nat} {l : List Lit} (h : Hist H es) (hF : Fit 0 0 es i0 l) (c : Nat) (hc : c ≤ l.length) : Hist (H ++ (l.map litE).take c) (accOf 0 es i0 (l.map litE) c) := by
  obtain ⟨acc, hA, ha⟩ := h
  have hlt : ((l.map litE).take c).length = c := by rw [List.length_take, List.length_map]; omega
  refine ⟨fun k => if k ≤ H.length then acc k else accOf 0 es i0 (l.map litE) (k - H.length), ⟨?_, ?_, ?_, by omega, by omega⟩, ?_⟩
  · simp only [Nat.zero_le, if_true]; exact hA.a0
  · intro e he
    rcases List.mem_append.1 he with he | he
    · exact hA.ok e he
    · exact litOk_eok hF.ok e (List.mem_of_mem_take he)
  · intro k hk
    rw [List.length_append, hlt] at hk
    rcases Nat.lt_or_ge k H.length with hlt' | hge
    · rw [List.getElem_append_left hlt', if_pos (by omega), if_pos (by omega)]
      exact hA.st k hlt'
    · have hkl : k - H.length < l.length := by omega
      rw [List.getElem_append_right hge, List.getElem_take]
      have hac := hF.acc (k - H.length) (by rw [List.length_map]; exact hkl)
      have hix := hF.ix (k - H.length) hkl
      have hms := hF.most
      refine ⟨i0 + 1 + (k - H.length), l[k - H.length].1.2.1, 1, l[k - H.length].1.1, ?_, by omega, ?_⟩
      · rw [List.getElem_map]
        simp [litE, ent1, hix]
      · have h1 : (if k ≤ H.length then acc k else accOf 0 es i0 (l.map litE) (k - H.length)) = accOf 0 es i0 (l.map litE) (k - H.length) := by
          by_cases he : k = H.length
          · subst he
            rw [if_pos (Nat.le_refl _), ha, Nat.sub_self]
            unfold accOf; rw [if_pos rfl]
          · rw [if_neg (by omega)]
        rw [h1, if_neg (show ¬ k + 1 ≤ H.length by omega), show k + 1 - H.length = k - H.length + 1 by omega]
        have h2 : ((l.map litE)[k - H.length]'(by rw [List.length_map]; exact hkl)).1.tail.headD 0 = l[k - H.length].1.2.1 := by rw [List.getElem_map]; rfl
        rw [← h2]; exact hac
  · simp only [List.length_append, hlt]
    by_cases h0 : c = 0
    · subst h0
      rw [if_pos (by omega), Nat.add_zero, ha]
      unfold accOf; rw [if_pos rfl]
    · rw [if_neg (by omega), Nat.add_sub_cancel_left]
theorem Hist.eok {H es : List Ent} (h : Hist H es) : ∀ e ∈ H, EOk e := by obtain ⟨acc, hA, -⟩ := h; exact hA.ok
theorem burn_dead {s : Dst} (h0 : ¬ s.fuse = 0) (hd : s.dead = false) : (burnS s).1.dead = false := by
  unfold burnS; rw [if_neg h0]; split <;> exact hd
/-- What adding may leave of a file. -/
theorem addS_file {s s1 : Dst} {xs bs : List Int} {r : Int} (hf : s.file = some (xs, xs.length)) (hd : s.dead = false) (hl : xs.length + bs.length ≤ 1048576) (h : addS s bs = (s1, r)) :
    (r = 0 ∧ s1.file = some (xs ++ bs, (xs ++ bs).length) ∧ s1.dead = false) ∨ (r ≠ 0 ∧ (s1.file = some (xs, xs.length) ∨ s1.file = some (xs ++ bs, xs.length))) := by
  have hsz : sizeS s = xs.length := by unfold sizeS; rw [hf]; rfl
  have h1 : ¬ (1048576 : Int) < ((sizeS s : Nat) + (bs.length : Nat) : Int) := by rw [hsz]; omega
  unfold addS at h
  have hA : doesS s ((sizeS s : Nat) + (bs.length : Nat) : Int) true (fun q => some (q.1 ++ bs, q.2)) = if s.fuse = 0 then ({ s with dead := true }, 17) else ({ (burnS s).1 with file := some (xs ++ bs, xs.length) }, 0) := by
    unfold doesS
    rw [if_neg (by simp [hd]), if_neg (by simp), if_neg h1, hf]
    rfl
  rw [hA] at h
  by_cases h0 : s.fuse = 0
  · rw [if_pos h0] at h
    simp only at h
    rw [if_neg (by decide)] at h
    obtain ⟨rfl, rfl⟩ := Prod.mk.inj h
    exact .inr ⟨by decide, .inl hf⟩
  · rw [if_neg h0] at h
    simp only at h
    rw [if_pos trivial] at h
    have hbd : (burnS s).1.dead = false := burn_dead h0 hd
    unfold doesS at h
    simp only at h
    rw [if_neg (by simp [hbd]), if_neg (by simp), if_neg (by simp)] at h
    split at h
    · obtain ⟨rfl, rfl⟩ := Prod.mk.inj h
      exact .inr ⟨by decide, .inr rfl⟩
    · rename_i hf2
      obtain ⟨rfl, rfl⟩ := Prod.mk.inj h
      exact .inl ⟨rfl, by simp, burn_dead (s := { (burnS s).1 with file := some (xs ++ bs, xs.length) }) hf2 hbd⟩
/-- A file, lifted. -/
theorem lift_file {s : Dst} {xs bs : List Int} (h : s.file = some (xs, xs.length) ∨ s.file = some (xs ++ bs, xs.length)) (ls : List Int) : ∃ m, liftS s ls = ⟨some (xs ++ bs.take m, (xs ++ bs.take m).length), -1, false⟩ := by
  rcases h with h | h
  · refine ⟨0, ?_⟩
    simp [liftS, h, liftN]
  · refine ⟨min (lossAt ls).toNat bs.length, ?_⟩
    simp only [liftS, h, liftN, Option.map_some, List.length_append, Nat.add_sub_cancel_left]
    have h2 : (xs ++ bs).take (xs.length + min (lossAt ls).toNat bs.length) = xs ++ bs.take (min (lossAt ls).toNat bs.length) := by
      rw [List.take_append, List.take_of_length_le (by omega), Nat.add_sub_cancel_left]
    rw [h2, List.length_take]
    simp
/-- What is read of it. -/
theorem sure_read {H es : List Ent} {i0 : Nat} {l : List Lit} (h : Hist H es) (hF : Fit 0 0 es i0 l) (m : Nat) :
    ∃ c ns acc good, c ≤ l.length ∧ rdF (logB 0 0 H ++ (bsOf (l.map litE)).take m) = ((nb 0 ++ nb 0) :: ns.map entryB, good) ∧ Adds 0 0 ns acc ∧ acc ns.length = accOf 0 es i0 (l.map litE) c := by
  obtain ⟨c, junk, h1, h2, h3⟩ := bs_cut (l.map litE) m (litOk_eok hF.ok)
  rw [List.length_map] at h1
  obtain ⟨acc, hA, ha⟩ := hist_ext h hF c h1
  have he : logB 0 0 H ++ (bsOf (l.map litE)).take m = logB 0 0 (H ++ (l.map litE).take c) ++ junk := by
    rw [h2, ← List.append_assoc]
    congr 1
    simp [logB, bsOf]
  rw [he]
  rcases h3 with rfl | ⟨hj, hg⟩
  · rw [List.append_nil]
    exact ⟨c, _, acc, _, h1, rdF_log 0 0 (by omega) (by omega) hA.ok, hA, ha⟩
  · refine ⟨c, _, acc, (framesB ((nb 0 ++ nb 0) :: (H ++ (l.map litE).take c).map entryB)).length, h1, ?_, hA, ha⟩
    rw [logB_frames]
    exact rdF_cut junk hg _ (bodies_le (by omega) (by omega) hA.ok)
theorem Fit.take {bi bt i0 : Nat} {es : List Ent} {l : List Lit} (h : Fit bi bt es i0 l) {c : Nat} (h0 : 0 < c) (hc : c ≤ l.length) : Fit bi bt es i0 (l.take c) where
  ok x hx := h.ok x (List.mem_of_mem_take hx)
  pos := by rw [List.length_take]; omega
  lo := h.lo
  hi := h.hi
  ix j hj := by rw [List.getElem_take]; exact h.ix j (by rw [List.length_take] at hj; omega)
  t0 hp := by rw [List.getElem_take]; exact h.t0 h.pos
  t1 k hk := by rw [List.getElem_take, List.getElem_take]; exact h.t1 k (by rw [List.length_take] at hk; omega)
  most := by have := h.most; rw [List.length_take]; omega
theorem acc_take (bi : Nat) (es : List Ent) (i0 : Nat) (l : List Lit) (c : Nat) (h0 : 0 < c) (hc : c ≤ l.length) : accOf bi es i0 (l.map litE) c = accOf bi es i0 ((l.take c).map litE) (l.take c).length := by
  have hl : (l.take c).length = c := by rw [List.length_take]; omega
  unfold accOf
  rw [hl, if_neg (by omega), if_neg (by omega), List.map_take, List.take_take, Nat.min_self]
theorem Fit.lokc {bi bt i0 : Nat} {es : List Ent} {l : List Lit} (h : Fit bi bt es i0 l) (hL : Lok bi bt es) (c : Nat) (hc : c ≤ l.length) : Lok bi bt (accOf bi es i0 (l.map litE) c) := by
  rcases Nat.eq_zero_or_pos c with h0 | h0
  · subst h0
    have : accOf bi es i0 (l.map litE) 0 = es := if_pos rfl
    rw [this]; exact hL
  · rw [acc_take bi es i0 l c h0 hc]
    exact (h.take h0 hc).lok hL
end Go.Proofs.YtnegondlkfeleaaDoor

/- logs: rows of the law's entries are made and put together. -/
namespace Go.Proofs.YtnegondlkfeleaaDoor
open Go.RowKit

/-- The beginning of a slice. -/
theorem Rd.take {w : World} {size n k c : Nat} {A : Option Addr} {xs : List Value} (h : Rd w size (.slice A n c) n xs) (hk : k ≤ n) : Rd w size (.slice A k c) k (xs.take (k * size)) := by
  obtain ⟨A0, c0, e, hc, hl, hh⟩ := h
  cases e
  refine ⟨A, c, rfl, by omega, by rw [List.length_take, hl]; exact Nat.min_eq_left (Nat.mul_le_mul_right _ hk), ?_⟩
  rcases hh with h0 | ⟨g, o, hA, hg, hcell⟩
  · exact .inl (by omega)
  · refine .inr ⟨g, o, hA, hg, fun j u hu => hcell j u ?_⟩
    rw [List.getElem?_take] at hu
    split at hu
    · exact hu
    · cases hu
theorem litC_append (a b : List Lit) : litC (a ++ b) = litC a ++ litC b := by simp [litC]
theorem litC_take (l : List Lit) (k : Nat) : (litC l).take (k * 5) = litC (l.take k) := by
  rcases Nat.lt_or_ge l.length k with h | h
  · rw [List.take_of_length_le (by rw [litC_len]; omega), List.take_of_length_le (by omega)]
  · have h1 : litC l = litC (l.take k) ++ litC (l.drop k) := by rw [← litC_append, List.take_append_drop]
    have h2 : (litC (l.take k)).length = k * 5 := by rw [litC_len, List.length_take]; omega
    rw [h1, ← h2]; exact List.take_left
theorem litC_one (l : List Lit) : ∀ u ∈ litC l, u.oneCell' = true := by
  intro u hu
  obtain ⟨x, -, hx⟩ := List.mem_flatMap.1 hu
  exact news_one hx

/-- A row of the law's entries that is being made: v holds nl. -/
structure BuI (N : Nat) (w1 : World) (nl : List Lit) (v : Value) (wr : World) : Prop where
  sl : ∃ A c, v = .slice A nl.length c
  ex : ∃ Y : List (Nat × Obj), Ow N wr 59 5 v nl.length (litC nl) ∧ (∀ x ∈ nl, litO x ∈ Y) ∧ ∀ q ∈ Y, N ≤ q.1 ∧ wr.heap[q.1]? = some q.2 ∧ some q.1 ≠ v.ownBlock
  bel : Below N w1 wr
  le : N ≤ wr.heap.size
theorem BuI.nil (w : World) : BuI w.heap.size w [] (.slice none 0 0) w := ⟨⟨_, _, rfl⟩, ⟨[], .inl ⟨rfl, rfl, rfl⟩, by simp, by simp⟩, Below.refl _ _, Nat.le_refl _⟩
theorem BuI.step {N : Nat} {w1 wr w7 w8 : World} {nl : List Lit} {v v' : Value} {x : Lit} (h : BuI N w1 nl v wr) (h7 : Below wr.heap.size wr w7) (hg : wr.heap.size ≤ x.2) (hk : w7.heap[x.2]? = some (.cells (stC x.1.2.2) 107))
    (ho8 : Ow N w8 59 5 v' (nl.length + 1) (litC nl ++ [.int .u64 x.1.1, .int .u64 x.1.2.1, .int .u8 1, .int .u64 x.1.1, litS x])) (hG : Grew w7 w8 v v') (hsl : ∃ A c, v' = .slice A (nl.length + 1) c) : BuI N w1 (nl ++ [x]) v' w8 := by
  obtain ⟨-, ⟨Y, ho, hs, hY⟩, hbw, hle⟩ := h
  have hob : ∀ j, v.ownBlock = some j → N ≤ j ∧ j < wr.heap.size := fun j hj => by
    rcases ho with ⟨rfl, _⟩ | ⟨g, cap, cur, rfl, hB, hg, _⟩
    · simp [Value.ownBlock] at hj
    · simp [Value.ownBlock] at hj; subst hj; exact ⟨hB, hg.lt⟩
  have hsz := h7.size
  have go : ∀ q : Nat × Obj, N ≤ q.1 → w7.heap[q.1]? = some q.2 → some q.1 ≠ v.ownBlock → N ≤ q.1 ∧ w8.heap[q.1]? = some q.2 ∧ some q.1 ≠ v'.ownBlock := fun q h1 h2 h3 => by
    refine ⟨h1, (hG.1.block _ (lt_of_heap h2) h3).trans h2, ?_⟩
    rcases hG.2 with e | e
    · rw [e]; exact h3
    · intro e'; have := e _ e'.symm; have := lt_of_heap h2; omega
  refine ⟨by simpa using hsl, ⟨litO x :: Y, ?_, fun y hy => ?_, fun q hq => ?_⟩, ?_, ?_⟩
  · rw [List.length_append, List.length_singleton, litC_append]
    simpa [litC] using ho8
  · rcases List.mem_append.1 hy with hy | hy
    · exact List.mem_cons_of_mem _ (hs y hy)
    · simp at hy; subst hy; exact List.mem_cons_self ..
  · rcases List.mem_cons.1 hq with rfl | hq
    · exact go _ (by show N ≤ x.2; omega) hk (fun e => by have := hob _ e.symm; have : x.2 < wr.heap.size := this.2; omega)
    · obtain ⟨h1, h2, h3⟩ := hY q hq
      exact go q h1 ((h7.block _ (lt_of_heap h2)).trans h2) h3
  · have h1 : Below N w1 w7 := hbw.trans (h7.mono hle)
    exact h1.grown hG.1 (by omega) (fun j e => (hob j e).1)
  · have := hG.1.size; omega
theorem BuI.end_ {N : Nat} {w1 wr : World} {nl : List Lit} {v : Value} (h : BuI N w1 nl v wr) : ∃ Y : List (Nat × Obj), (∀ w' : World, Has w' Y → Rd w' 5 v nl.length (litC nl)) ∧ (∀ x ∈ nl, litO x ∈ Y) ∧ ∀ q ∈ Y, N ≤ q.1 ∧ wr.heap[q.1]? = some q.2 := by
  obtain ⟨-, ⟨Y, ho, hs, hY⟩, -, -⟩ := h
  obtain ⟨Z, z1, z2⟩ := ho.has
  refine ⟨Z ++ Y, fun w' hw => z2 w' fun q hq => hw q (List.mem_append_left _ hq), fun x hx => List.mem_append_right _ (hs x hx), fun q hq => ?_⟩
  rcases List.mem_append.1 hq with hq | hq
  · exact z1 q hq
  · exact ⟨(hY q hq).1, (hY q hq).2.1⟩
section
variable {Z : List (Nat × Obj)} {B : Nat} {W w : World} {p d bi bt : Nat} {es : List Ent} {size : Nat} {s : Dst}
theorem lg_add_rd {s1 : Dst} (i0 : Nat) (l : List Lit) (v : Value) (h : Lg Z B W w p d bi bt es size s) (hL : Lok bi bt es) (hF : Fit bi bt es i0 l) (hv : ∀ w' : World, Has w' Z → Rd w' 5 v l.length (litC l)) (hs : ∀ x ∈ l, litO x ∈ Z)
    (hsz : size + (bsOf (l.map litE)).length ≤ 262144) (hB0 : 0 < B) (T : Tab W) (hd : addS s (bsOf (l.map litE)) = (s1, 0)) :
    Calls Tryd.prog 12 #[.pointer (some ⟨p, 0, none⟩), v] w fun e w' => e = .returned (.int .i64 0) ∧ Lg Z B W w' p d bi bt (accOf bi es i0 (l.map litE) l.length) (size + (bsOf (l.map litE)).length) s1 := by
  have := lg_add_ok i0 _ (l.map litE) _ h hL (el_lit hv hs) (wf_lit hF.ix) (by rw [List.length_map]; exact hF.pos) (litOk_eok hF.ok) (if_pos rfl) hF.acc (by rw [List.length_map]; exact hF.most) hsz hB0 T hd
  rwa [List.length_map] at this
theorem lg_add_rd_bad {s1 : Dst} {r : Int} (hr : r ≠ 0) (i0 : Nat) (l : List Lit) (v : Value) (h : Lg Z B W w p d bi bt es size s) (hL : Lok bi bt es) (hF : Fit bi bt es i0 l) (hv : ∀ w' : World, Has w' Z → Rd w' 5 v l.length (litC l)) (hs : ∀ x ∈ l, litO x ∈ Z)
    (hsz : size + (bsOf (l.map litE)).length ≤ 262144) (hB0 : 0 < B) (T : Tab W) (hd : addS s (bsOf (l.map litE)) = (s1, r)) :
    Calls Tryd.prog 12 #[.pointer (some ⟨p, 0, none⟩), v] w fun e w' => e = .returned (.int .i64 17) ∧ On Z B W w' d nmL s1 :=
  lg_add_bad hr i0 _ (l.map litE) _ h hL (el_lit hv hs) (wf_lit hF.ix) (by rw [List.length_map]; exact hF.pos) (litOk_eok hF.ok) (if_pos rfl) hF.acc (by rw [List.length_map]; exact hF.most) hsz hB0 T hd
end
end Go.Proofs.YtnegondlkfeleaaDoor

/- LogsOpened: the plain law. -/
namespace Go.Proofs.YtnegondlkfeleaaDoor
open Go.RowKit

theorem ladd_empty {Z : List (Nat × Obj)} {B : Nat} {W w : World} {p d bi bt : Nat} {es : List Ent} {size : Nat} {s : Dst} (A : Option Addr) (c : Nat) (h : Lg Z B W w p d bi bt es size s) :
    Calls Tryd.prog 12 #[.pointer (some ⟨p, 0, none⟩), .slice A 0 c] w fun e w' => e = .returned (.int .i64 0) ∧ w = w' := by
  obtain ⟨ev, Y, h1, h2, h3, h4⟩ := h
  have AS := Lib.hid (lasked_any p bi bt d ev size false w (h4.keep (p, _) (List.mem_cons_self ..)))
  clear h1 h2 h3 h4
  go_enter Tryd.func12, Tryd.ntmps12
  go_wp2_with fail
  refine AS.out.mono ?_
  rintro e w1 ⟨rfl, rfl⟩
  go_wp2
  go_ret
  exact ⟨rfl, rfl⟩
theorem lit_eok' {x : Lit} (h : EOk (litE x)) : litOk x := by
  obtain ⟨x0, x1, x2, x3, he, f0, f1, f2, f3, fin, -⟩ := h
  simp only [litE, ent1, List.cons.injEq, and_true] at he
  obtain ⟨rfl, rfl, -, -⟩ := he
  have := fin [10, 0, 0, 0, 0, x.1.2.2, 0, 0, 0, 0] (by simp [litE, ent1])
  exact ⟨f0, f1, this.2.2.2.2.2.1⟩
/-- The law's row: indices from 1 on, no term falls. -/
structure Row1 (wl : List Lit) : Prop where
  ok : ∀ x ∈ wl, litOk x
  ix : ∀ (j : Nat) (hj : j < wl.length), wl[j].1.1 = ((j + 1 : Nat) : Int)
  tm : ∀ k (h : k + 1 < wl.length), wl[k].1.2.1 ≤ wl[k + 1].1.2.1
  most : wl.length ≤ 200
theorem Row1.fit {wl : List Lit} (h : Row1 wl) (h0 : 0 < wl.length) : Fit 0 0 [] 0 wl where
  ok := h.ok
  pos := h0
  lo := Nat.le_refl _
  hi := by simp
  ix j hj := by rw [h.ix j hj]; omega
  t0 hp := by have := (h.ok _ (List.getElem_mem hp)).2.1.1; simpa [termP] using this
  t1 := h.tm
  most := by have := h.most; omega
theorem Row1.eok {wl : List Lit} (h : Row1 wl) : ∀ e ∈ wl.map litE, EOk e := litOk_eok h.ok
theorem Row1.lok {wl : List Lit} (h : Row1 wl) : Lok 0 0 (wl.map litE) := by
  refine ⟨wf_lit fun j hj => by rw [h.ix j hj]; omega, h.eok, by rw [List.length_map]; have := h.most; omega, by omega⟩
/-- The term of the index k of them. -/
def tmK (wl : List Lit) (k : Nat) : Nat := if k = 0 then 0 else ((wl[k - 1]?.map fun (x : Lit) => x.1.2.1).getD 0).toNat
theorem Row1.term {wl : List Lit} (h : Row1 wl) {k : Nat} (hk : k ≤ wl.length) : termP 0 0 (wl.map litE) k = (((tmK wl k : Nat) : Int), true) ∧ tmK wl k < 18446744073709551616 := by
  unfold tmK termP
  by_cases h0 : k = 0
  · subst h0; simp
  · rw [if_neg (by omega), if_neg (by rw [List.length_map]; omega), if_neg h0]
    have hlt : k - 1 < wl.length := by omega
    have hr := (h.ok _ (List.getElem_mem hlt)).2.1
    have e1 : (wl[k - 1]?.map fun (x : Lit) => x.1.2.1).getD 0 = wl[k - 1].1.2.1 := by rw [List.getElem?_eq_getElem hlt]; rfl
    have e2 : tmE (wl.map litE) (k - 0 - 1) = wl[k - 1].1.2.1 := by
      unfold tmE
      rw [Nat.sub_zero, List.getElem?_map, List.getElem?_eq_getElem hlt]; rfl
    rw [e1, e2]
    refine ⟨Prod.ext ?_ rfl, ?_⟩
    · show wl[k - 1].1.2.1 = ((wl[k - 1].1.2.1.toNat : Nat) : Int); omega
    · omega
theorem wf_drop {es : List Ent} {k : Nat} (h : Wf 0 es) (hk : k ≤ es.length) : Wf k (es.drop k) := by
  intro j hj
  rw [List.length_drop] at hj
  obtain ⟨t, c, n, e⟩ := h (k + j) (by omega)
  refine ⟨t, c, n, ?_⟩
  rw [List.getElem_drop, e, show 0 + 1 + (k + j) = k + 1 + j by omega]
theorem Row1.dlok {wl : List Lit} (h : Row1 wl) {k : Nat} (hk : k ≤ wl.length) : Lok k (tmK wl k) ((wl.map litE).drop k) :=
  ⟨wf_drop h.lok.wf (by rw [List.length_map]; exact hk), fun e he => h.eok e (List.mem_of_mem_drop he), by rw [List.length_drop, List.length_map]; have := h.most; omega, (h.term hk).2⟩
theorem tm_drop {wl : List Lit} {k j : Nat} (hj : j < ((wl.map litE).drop k).length) : tmOf ((wl.map litE).drop k)[j] = (wl[k + j]'(by rw [List.length_drop, List.length_map] at hj; omega)).1.2.1 := by
  rw [List.getElem_drop, List.getElem_map]; rfl
theorem Row1.adds {wl : List Lit} (h : Row1 wl) {k : Nat} (hk : k ≤ wl.length) : Adds k (tmK wl k) ((wl.map litE).drop k) (accOf k [] k ((wl.map litE).drop k)) where
  a0 := if_pos rfl
  ok e he := h.eok e (List.mem_of_mem_drop he)
  st j hj := by
    have hl := hj
    rw [List.length_drop, List.length_map] at hl
    have hms := h.most
    obtain ⟨t, c, n, e⟩ := (h.dlok hk).wf j hj
    refine ⟨k + 1 + j, t, c, n, e, by omega, ?_⟩
    have hs := acc_step (bi := k) (bt := tmK wl k) (es := []) (i0 := k) (ns := (wl.map litE).drop k) (Nat.le_refl _) (by simp) (fun h0 => ?_) (fun q hq => ?_) j hj
    · rwa [show ((wl.map litE).drop k)[j].1.tail.headD 0 = t from by rw [e]; rfl] at hs
    · rw [tm_drop h0]
      have e1 : (termP k (tmK wl k) [] k).1 = ((tmK wl k : Nat) : Int) := by unfold termP; rw [if_pos rfl]
      rw [e1]
      unfold tmK
      rw [List.length_drop, List.length_map] at h0
      simp only [Nat.add_zero]
      by_cases hz : k = 0
      · rw [if_pos hz]
        exact (h.ok _ (List.getElem_mem (by omega : k < wl.length))).2.1.1
      · rw [if_neg hz]
        have hlt : k - 1 < wl.length := by omega
        rw [List.getElem?_eq_getElem hlt]
        simp only [Option.map_some, Option.getD_some]
        have h1 := (h.ok _ (List.getElem_mem hlt)).2.1.1
        have h2 := h.tm (k - 1) (by omega)
        simp only [show k - 1 + 1 = k by omega] at h2
        omega
    · rw [tm_drop (by omega), tm_drop hq]
      rw [List.length_drop, List.length_map] at hq
      have := h.tm (k + q) (by omega)
      exact this
  bi := by have := h.most; omega
  bt := (h.term hk).2
theorem acc_all (k : Nat) (ns : List Ent) : accOf k [] k ns ns.length = ns := by
  unfold accOf
  split
  · rename_i h0; exact (List.eq_nil_of_length_eq_zero h0).symm
  · simp
theorem Row1.file {wl : List Lit} (h : Row1 wl) {k : Nat} (hk : k ≤ wl.length) : (logB k (tmK wl k) ((wl.map litE).drop k)).length ≤ 34 + 150 * wl.length := by
  have h1 := litOk_len (l := wl.drop k) fun x hx => h.ok x (List.mem_of_mem_drop hx)
  have h2 : (logB k (tmK wl k) ((wl.map litE).drop k)).length = (logB k (tmK wl k) []).length + (bsOf ((wl.drop k).map litE)).length := by rw [List.map_drop]; simp [logB, bsOf]
  have h3 := logB_len k (tmK wl k) (by have := h.most; omega) (h.term hk).2 [] (by simp)
  rw [List.length_drop] at h1
  simp only [List.length_nil] at h3
  omega
theorem fromP_at {k : Nat} {es : List Ent} (h : es.length ≤ 1000) : fromP k es (k + 1) 1000 = es := by
  unfold fromP
  rcases Nat.eq_zero_or_pos es.length with h0 | h0
  · rw [if_pos (by omega)]; exact (List.eq_nil_of_length_eq_zero h0).symm
  · rw [if_neg (by omega), show k + 1 - k - 1 = 0 by omega, List.drop_zero]
    exact List.take_of_length_le h
theorem fromP_none (k : Nat) (es : List Ent) : fromP k es k 5 = [] := if_pos (.inl (Nat.le_refl _))
end Go.Proofs.YtnegondlkfeleaaDoor

/- LogsOpened: what the loops keep. -/
namespace Go.Proofs.YtnegondlkfeleaaDoor
open Go.RowKit

/-- The row so far: tm is its last term. -/
structure RowT (nl : List Lit) (tm : Nat) : Prop where
  ix : ∀ (j : Nat) (hj : j < nl.length), nl[j].1.1 = ((j + 1 : Nat) : Int) ∧ nl[j].1.2.2 = (j : Int) ∧ 0 ≤ nl[j].1.2.1 ∧ nl[j].1.2.1 ≤ (tm : Int)
  tm : ∀ k (h : k + 1 < nl.length), nl[k].1.2.1 ≤ nl[k + 1].1.2.1
theorem RowT.nil (t : Nat) : RowT [] t := ⟨fun j h => by simp at h, fun k h => by simp at h⟩
theorem RowT.snoc {nl : List Lit} {t t' g : Nat} {i : Int} (h : RowT nl t) (ht : t ≤ t') (hi : i = ((nl.length + 1 : Nat) : Int)) : RowT (nl ++ [((i, (t' : Int), (nl.length : Int)), g)]) t' := by
  refine ⟨fun j hj => ?_, fun k hk => ?_⟩
  · rcases Nat.lt_or_ge j nl.length with hj' | hj'
    · rw [List.getElem_append_left hj']
      obtain ⟨a, b, c, d⟩ := h.ix j hj'
      exact ⟨a, b, c, by omega⟩
    · rw [List.length_append, List.length_singleton] at hj
      obtain rfl : j = nl.length := by omega
      rw [List.getElem_append_right (Nat.le_refl _)]
      simp only [Nat.sub_self, List.getElem_cons_zero]
      exact ⟨hi, trivial, by omega, by omega⟩
  · rw [List.length_append, List.length_singleton] at hk
    rcases Nat.lt_or_ge (k + 1) nl.length with hk' | hk'
    · rw [List.getElem_append_left (by omega), List.getElem_append_left hk']
      exact h.tm k hk'
    · rw [List.getElem_append_left (by omega), List.getElem_append_right hk']
      obtain ⟨-, -, -, d⟩ := h.ix k (by omega)
      simp only [show k + 1 - nl.length = 0 by omega, List.getElem_cons_zero]
      omega
theorem RowT.row {nl : List Lit} {t : Nat} (h : RowT nl t) (ht : t ≤ 1000) (hl : nl.length ≤ 200) : Row1 nl where
  ok x hx := by
    obtain ⟨j, hj, rfl⟩ := List.mem_iff_getElem.1 hx
    obtain ⟨a, b, c, d⟩ := h.ix j hj
    refine ⟨by rw [a]; omega, by omega, ?_⟩
    show _ ≤ _ ∧ _ ≤ _
    rw [b]; omega
  ix j hj := (h.ix j hj).1
  tm := h.tm
  most := hl
theorem ladd_row {X : List (Nat × Obj)} {B : Nat} {W w : World} {p d : Nat} {v : Value} {wl : List Lit} (h : Lg X B W w p d 0 0 [] (logB 0 0 []).length ⟨some (logB 0 0 [], (logB 0 0 []).length), -1, false⟩) (hR : Row1 wl) (hv : ∀ w' : World, Has w' X → Rd w' 5 v wl.length (litC wl)) (hs : ∀ x ∈ wl, litO x ∈ X) (hB0 : 0 < B) (T : Tab W) :
    Calls Tryd.prog 12 #[.pointer (some ⟨p, 0, none⟩), v] w fun e w' => e = .returned (.int .i64 0) ∧ ∃ o size, Lg X B W w' p d 0 0 (wl.map litE) size ⟨o, -1, false⟩ := by
  rcases Nat.eq_zero_or_pos wl.length with h0 | h0
  · obtain rfl := List.eq_nil_of_length_eq_zero h0
    obtain ⟨A, c, rfl, -⟩ := hv w h.has
    refine (ladd_empty A c h).mono ?_
    rintro e w' ⟨rfl, rfl⟩
    exact ⟨rfl, _, _, h⟩
  · have hbl := litOk_len hR.ok
    have hz := logB0_len
    have hm := hR.most
    refine (lg_add_rd 0 wl v h Lok.nil (hR.fit h0) hv hs (by omega) hB0 T (addS_free _ _ _ (by omega))).mono ?_
    rintro e w' ⟨rfl, hl⟩
    have e : accOf 0 [] 0 (wl.map litE) wl.length = wl.map litE := by have := acc_all 0 (wl.map litE); rwa [List.length_map] at this
    rw [e] at hl
    exact ⟨rfl, _, _, hl⟩
theorem litC_drop (l : List Lit) (k : Nat) : (litC l).drop (k * 5) = litC (l.drop k) := by
  have h1 : litC l = litC (l.take k) ++ litC (l.drop k) := by rw [← litC_append, List.take_append_drop]
  rcases Nat.lt_or_ge l.length k with h | h
  · rw [List.drop_of_length_le (by rw [litC_len]; omega), List.drop_of_length_le (by omega)]; rfl
  · have h2 : (litC (l.take k)).length = k * 5 := by rw [litC_len, List.length_take]; omega
    rw [h1, ← h2]; exact List.drop_left
end Go.Proofs.YtnegondlkfeleaaDoor
