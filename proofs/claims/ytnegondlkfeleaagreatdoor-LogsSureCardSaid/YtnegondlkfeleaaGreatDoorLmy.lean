import Derived.Test.YtnegondlkfeleaaGreatDoorLmd
import Derived.Test.YtnegondlkfeleaaGreatDoorLqg
/- LogsSure: the plain law: what a file that was cut reads as. -/
namespace Go.Proofs.YtnegondlkfeleaaGreatDoor
open Go.RowKit

/-- A frame that is cut is none. -/
theorem getF_cut {bs : List Int} (hl : bs.length ≤ 8192) {m : Nat} (hm : m < (frameB bs).length) : ¬ (getF ((frameB bs).take m)).2.2 = 0 := by
  have hfl := frameB_len bs
  by_cases h1 : m < (nb bs.length).length
  · have ht : (frameB bs).take m = (nb bs.length).take m := by
      unfold frameB sumB
      rw [List.append_assoc, List.take_append, show m - (nb bs.length).length = 0 by omega, List.take_zero, List.append_nil]
    have hk := tk_cut (n := bs.length) (by omega) h1
    rw [ht]
    have hs : (sizeF ((nb bs.length).take m)).2.2 ≠ 0 := by
      unfold sizeF
      rw [hk]
      simp only
      rw [if_pos trivial]
      split <;> decide
    unfold getF
    rw [if_pos hs]
    exact hs
  · have ht : (frameB bs).take m = nb bs.length ++ (bs ++ fourS (moreS 0 (nb bs.length ++ bs))).take (m - (nb bs.length).length) := by
      unfold frameB sumB
      rw [List.append_assoc, List.take_append, List.take_of_length_le (by omega)]
    have hk : tk ((frameB bs).take m) = (bs.length, (nb bs.length).length, 0) := by rw [ht]; exact tk_nb (by omega) _
    have hs : sizeF ((frameB bs).take m) = (bs.length, (nb bs.length).length, 0) := by
      have := nb_len_pos bs.length
      unfold sizeF
      rw [hk]
      simp only
      rw [if_neg (by omega), if_neg (by omega)]
    have hlm : ((frameB bs).take m).length = m := by rw [List.length_take]; omega
    unfold getF
    rw [hs, hlm]
    simp only
    rw [if_neg (by simp), if_pos (by omega)]
    decide
theorem rdF_cut (junk : List Int) (hj : ¬ (getF junk).2.2 = 0) : ∀ ls : List (List Int), (∀ l ∈ ls, l.length ≤ 8192) → rdF (framesB ls ++ junk) = (ls, (framesB ls).length)
  | [], _ => by
    show rdF junk = _
    rw [rdF_bad hj]; rfl
  | a :: ls, h => by
    have e : framesB (a :: ls) ++ junk = frameB a ++ (framesB ls ++ junk) := by simp [framesB]
    have hg := getF_frame a (framesB ls ++ junk) (h a (List.mem_cons_self ..))
    rw [e, rdF_ok (by rw [hg]), hg]
    simp only
    rw [List.drop_left' rfl, rdF_cut junk hj ls (fun l hl => h l (List.mem_cons_of_mem _ hl))]
    simp [framesB]
theorem bsOf_frames (ns : List Ent) : bsOf ns = framesB (ns.map entryB) := by
  show _ = ((ns.map entryB).map frameB).flatten
  rw [List.map_map]; rfl
theorem logB_frames (bi bt : Nat) (ns : List Ent) : logB bi bt ns = framesB ((nb bi ++ nb bt) :: ns.map entryB) := by
  have := bsOf_frames ns
  unfold bsOf at this
  simp only [logB, this, framesB, List.map_cons, List.flatten_cons]
theorem bodies_le {bi bt : Nat} (hi : bi < 18446744073709551616) (ht : bt < 18446744073709551616) {ns : List Ent} (h : ∀ e ∈ ns, EOk e) : ∀ l ∈ (nb bi ++ nb bt) :: ns.map entryB, l.length ≤ 8192 := by
  intro l hl
  rcases List.mem_cons.1 hl with rfl | hl
  · have := nb_ten hi; have := nb_ten ht; rw [List.length_append]; omega
  · obtain ⟨e, he, rfl⟩ := List.mem_map.1 hl
    obtain ⟨_, _, _, _, -, -, -, -, -, -, -, h1, -⟩ := h e he
    exact h1
theorem rdF_log (bi bt : Nat) (hi : bi < 18446744073709551616) (ht : bt < 18446744073709551616) {ns : List Ent} (h : ∀ e ∈ ns, EOk e) : rdF (logB bi bt ns) = ((nb bi ++ nb bt) :: ns.map entryB, (logB bi bt ns).length) := by
  rw [logB_frames]; exact rdF_frames _ (bodies_le hi ht h)
/-- Some of the bytes of entries: whole entries, and what is left of one. -/
theorem bs_cut : ∀ (ns : List Ent) (m : Nat), (∀ e ∈ ns, EOk e) → ∃ c junk, c ≤ ns.length ∧ (bsOf ns).take m = bsOf (ns.take c) ++ junk ∧ (junk = [] ∨ junk ≠ [] ∧ ¬ (getF junk).2.2 = 0)
  | [], m, _ => ⟨0, [], Nat.le_refl _, by simp [bsOf], .inl rfl⟩
  | a :: ns, m, h => by
    have e : bsOf (a :: ns) = efB a ++ bsOf ns := by simp [bsOf]
    obtain ⟨_, _, _, _, -, -, -, -, -, -, -, hal, -⟩ := h a (List.mem_cons_self ..)
    by_cases hm : m < (efB a).length
    · refine ⟨0, (efB a).take m, Nat.zero_le _, ?_, ?_⟩
      · rw [e, List.take_append, show m - (efB a).length = 0 by omega, List.take_zero, List.append_nil]
        simp [bsOf]
      · by_cases h0 : m = 0
        · exact .inl (by rw [h0, List.take_zero])
        · refine .inr ⟨fun hn => ?_, getF_cut hal hm⟩
          have := congrArg List.length hn
          rw [List.length_take, List.length_nil] at this
          have := efB_pos a
          omega
    · obtain ⟨c, junk, h1, h2, h3⟩ := bs_cut ns (m - (efB a).length) (fun e he => h e (List.mem_cons_of_mem _ he))
      refine ⟨c + 1, junk, by simpa using h1, ?_, h3⟩
      rw [e, List.take_append, List.take_of_length_le (by omega), h2, List.take_succ_cons]
      simp [bsOf]

/-- What was added so far, H, makes these entries. -/
def Hist (H es : List Ent) : Prop := ∃ acc, Adds 0 0 H acc ∧ acc H.length = es
theorem hist_nil : Hist [] [] := ⟨fun _ => [], ⟨rfl, by simp, fun k h => by simp at h, by omega, by omega⟩, rfl⟩
theorem hist_ext {H es : List Ent} {i0 : Nat} {l : List Lit} (h : Hist H es) (hF : Fit 0 0 es i0 l) (c : Nat) (hc : c ≤ l.length) : Hist (H ++ (l.map litE).take c) (accOf 0 es i0 (l.map litE) c) := by
  obtain ⟨acc, hA, ha⟩ := h
  have hlt : ((l.map litE).take c).length = c := by rw [List.length_take, List.length_map]; omega
  refine ⟨fun k => if k ≤ H.length then acc k else accOf 0 es i0 (l.map litE) (k - H.length), ⟨?_, ?_, ?_, by omega, by omega⟩, ?_⟩
  · simp only [Nat.zero_le, if_true]; exact hA.a0
  · intro e he
    rcases List.mem_append.1 he with he | he
    · exact hA.ok e he
    · exact litOk_eok hF.ok e (List.mem_of_mem_take he)
  · intro k hk
    rw [List.length_append, hlt] at hk
    rcases Nat.lt_or_ge k H.length with hlt' | hge
    · rw [List.getElem_append_left hlt', if_pos (by omega), if_pos (by omega)]
      exact hA.st k hlt'
    · have hkl : k - H.length < l.length := by omega
      rw [List.getElem_append_right hge, List.getElem_take]
      have hac := hF.acc (k - H.length) (by rw [List.length_map]; exact hkl)
      have hix := hF.ix (k - H.length) hkl
      have hms := hF.most
      refine ⟨i0 + 1 + (k - H.length), l[k - H.length].1.2.1, 1, l[k - H.length].1.1, ?_, by omega, ?_⟩
      · rw [List.getElem_map]
        simp [litE, ent1, hix]
      · have h1 : (if k ≤ H.length then acc k else accOf 0 es i0 (l.map litE) (k - H.length)) = accOf 0 es i0 (l.map litE) (k - H.length) := by
          by_cases he : k = H.length
          · subst he
            rw [if_pos (Nat.le_refl _), ha, Nat.sub_self]
            unfold accOf; rw [if_pos rfl]
          · rw [if_neg (by omega)]
        rw [h1, if_neg (show ¬ k + 1 ≤ H.length by omega), show k + 1 - H.length = k - H.length + 1 by omega]
        have h2 : ((l.map litE)[k - H.length]'(by rw [List.length_map]; exact hkl)).1.tail.headD 0 = l[k - H.length].1.2.1 := by rw [List.getElem_map]; rfl
        rw [← h2]; exact hac
  · simp only [List.length_append, hlt]
    by_cases h0 : c = 0
    · subst h0
      rw [if_pos (by omega), Nat.add_zero, ha]
      unfold accOf; rw [if_pos rfl]
    · rw [if_neg (by omega), Nat.add_sub_cancel_left]
theorem Hist.eok {H es : List Ent} (h : Hist H es) : ∀ e ∈ H, EOk e := by obtain ⟨acc, hA, -⟩ := h; exact hA.ok
theorem burn_dead {s : Dst} (h0 : ¬ s.fuse = 0) (hd : s.dead = false) : (burnS s).1.dead = false := by
  unfold burnS; rw [if_neg h0]; split <;> exact hd
/-- What adding may leave of a file. -/
theorem addS_file {s s1 : Dst} {xs bs : List Int} {r : Int} (hf : s.file = some (xs, xs.length)) (hd : s.dead = false) (hl : xs.length + bs.length ≤ 1048576) (h : addS s bs = (s1, r)) :
    (r = 0 ∧ s1.file = some (xs ++ bs, (xs ++ bs).length) ∧ s1.dead = false) ∨ (r ≠ 0 ∧ (s1.file = some (xs, xs.length) ∨ s1.file = some (xs ++ bs, xs.length))) := by
  have hsz : sizeS s = xs.length := by unfold sizeS; rw [hf]; rfl
  have h1 : ¬ (1048576 : Int) < ((sizeS s : Nat) + (bs.length : Nat) : Int) := by rw [hsz]; omega
  unfold addS at h
  have hA : doesS s ((sizeS s : Nat) + (bs.length : Nat) : Int) true (fun q => some (q.1 ++ bs, q.2)) = if s.fuse = 0 then ({ s with dead := true }, 17) else ({ (burnS s).1 with file := some (xs ++ bs, xs.length) }, 0) := by
    unfold doesS
    rw [if_neg (by simp [hd]), if_neg (by simp), if_neg h1, hf]
    rfl
  rw [hA] at h
  by_cases h0 : s.fuse = 0
  · rw [if_pos h0] at h
    simp only at h
    rw [if_neg (by decide)] at h
    obtain ⟨rfl, rfl⟩ := Prod.mk.inj h
    exact .inr ⟨by decide, .inl hf⟩
  · rw [if_neg h0] at h
    simp only at h
    rw [if_pos trivial] at h
    have hbd : (burnS s).1.dead = false := burn_dead h0 hd
    unfold doesS at h
    simp only at h
    rw [if_neg (by simp [hbd]), if_neg (by simp), if_neg (by simp)] at h
    split at h
    · obtain ⟨rfl, rfl⟩ := Prod.mk.inj h
      exact .inr ⟨by decide, .inr rfl⟩
    · rename_i hf2
      obtain ⟨rfl, rfl⟩ := Prod.mk.inj h
      exact .inl ⟨rfl, by simp, burn_dead (s := { (burnS s).1 with file := some (xs ++ bs, xs.length) }) hf2 hbd⟩
/-- A file, lifted. -/
theorem lift_file {s : Dst} {xs bs : List Int} (h : s.file = some (xs, xs.length) ∨ s.file = some (xs ++ bs, xs.length)) (ls : List Int) : ∃ m, liftS s ls = ⟨some (xs ++ bs.take m, (xs ++ bs.take m).length), -1, false⟩ := by
  rcases h with h | h
  · refine ⟨0, ?_⟩
    simp [liftS, h, liftN]
  · refine ⟨min (lossAt ls).toNat bs.length, ?_⟩
    simp only [liftS, h, liftN, Option.map_some, List.length_append, Nat.add_sub_cancel_left]
    have h2 : (xs ++ bs).take (xs.length + min (lossAt ls).toNat bs.length) = xs ++ bs.take (min (lossAt ls).toNat bs.length) := by
      rw [List.take_append, List.take_of_length_le (by omega), Nat.add_sub_cancel_left]
    rw [h2, List.length_take]
    simp
/-- What is read of it. -/
theorem sure_read {H es : List Ent} {i0 : Nat} {l : List Lit} (h : Hist H es) (hF : Fit 0 0 es i0 l) (m : Nat) :
    ∃ c ns acc good, c ≤ l.length ∧ rdF (logB 0 0 H ++ (bsOf (l.map litE)).take m) = ((nb 0 ++ nb 0) :: ns.map entryB, good) ∧ Adds 0 0 ns acc ∧ acc ns.length = accOf 0 es i0 (l.map litE) c := by
  obtain ⟨c, junk, h1, h2, h3⟩ := bs_cut (l.map litE) m (litOk_eok hF.ok)
  rw [List.length_map] at h1
  obtain ⟨acc, hA, ha⟩ := hist_ext h hF c h1
  have he : logB 0 0 H ++ (bsOf (l.map litE)).take m = logB 0 0 (H ++ (l.map litE).take c) ++ junk := by
    rw [h2, ← List.append_assoc]
    congr 1
    simp [logB, bsOf]
  rw [he]
  rcases h3 with rfl | ⟨hj, hg⟩
  · rw [List.append_nil]
    exact ⟨c, _, acc, _, h1, rdF_log 0 0 (by omega) (by omega) hA.ok, hA, ha⟩
  · refine ⟨c, _, acc, (framesB ((nb 0 ++ nb 0) :: (H ++ (l.map litE).take c).map entryB)).length, h1, ?_, hA, ha⟩
    rw [logB_frames]
    exact rdF_cut junk hg _ (bodies_le (by omega) (by omega) hA.ok)
theorem Fit.take {bi bt i0 : Nat} {es : List Ent} {l : List Lit} (h : Fit bi bt es i0 l) {c : Nat} (h0 : 0 < c) (hc : c ≤ l.length) : Fit bi bt es i0 (l.take c) where
  ok x hx := h.ok x (List.mem_of_mem_take hx)
  pos := by rw [List.length_take]; omega
  lo := h.lo
  hi := h.hi
  ix j hj := by rw [List.getElem_take]; exact h.ix j (by rw [List.length_take] at hj; omega)
  t0 hp := by rw [List.getElem_take]; exact h.t0 h.pos
  t1 k hk := by rw [List.getElem_take, List.getElem_take]; exact h.t1 k (by rw [List.length_take] at hk; omega)
  most := by have := h.most; rw [List.length_take]; omega
theorem acc_take (bi : Nat) (es : List Ent) (i0 : Nat) (l : List Lit) (c : Nat) (h0 : 0 < c) (hc : c ≤ l.length) : accOf bi es i0 (l.map litE) c = accOf bi es i0 ((l.take c).map litE) (l.take c).length := by
  have hl : (l.take c).length = c := by rw [List.length_take]; omega
  unfold accOf
  rw [hl, if_neg (by omega), if_neg (by omega), List.map_take, List.take_take, Nat.min_self]
theorem Fit.lokc {bi bt i0 : Nat} {es : List Ent} {l : List Lit} (h : Fit bi bt es i0 l) (hL : Lok bi bt es) (c : Nat) (hc : c ≤ l.length) : Lok bi bt (accOf bi es i0 (l.map litE) c) := by
  rcases Nat.eq_zero_or_pos c with h0 | h0
  · subst h0
    have : accOf bi es i0 (l.map litE) 0 = es := if_pos rfl
    rw [this]; exact hL
  · rw [acc_take bi es i0 l c h0 hc]
    exact (h.take h0 hc).lok hL
end Go.Proofs.YtnegondlkfeleaaGreatDoor

/- logs: rows of the law's entries are made and put together. -/
namespace Go.Proofs.YtnegondlkfeleaaGreatDoor
open Go.RowKit

/-- The beginning of a slice. -/
theorem Rd.take {w : World} {size n k c : Nat} {A : Option Addr} {xs : List Value} (h : Rd w size (.slice A n c) n xs) (hk : k ≤ n) : Rd w size (.slice A k c) k (xs.take (k * size)) := by
  obtain ⟨A0, c0, e, hc, hl, hh⟩ := h
  cases e
  refine ⟨A, c, rfl, by omega, by rw [List.length_take, hl]; exact Nat.min_eq_left (Nat.mul_le_mul_right _ hk), ?_⟩
  rcases hh with h0 | ⟨g, o, hA, hg, hcell⟩
  · exact .inl (by omega)
  · refine .inr ⟨g, o, hA, hg, fun j u hu => hcell j u ?_⟩
    rw [List.getElem?_take] at hu
    split at hu
    · exact hu
    · cases hu
theorem litC_append (a b : List Lit) : litC (a ++ b) = litC a ++ litC b := by simp [litC]
theorem litC_take (l : List Lit) (k : Nat) : (litC l).take (k * 5) = litC (l.take k) := by
  rcases Nat.lt_or_ge l.length k with h | h
  · rw [List.take_of_length_le (by rw [litC_len]; omega), List.take_of_length_le (by omega)]
  · have h1 : litC l = litC (l.take k) ++ litC (l.drop k) := by rw [← litC_append, List.take_append_drop]
    have h2 : (litC (l.take k)).length = k * 5 := by rw [litC_len, List.length_take]; omega
    rw [h1, ← h2]; exact List.take_left
theorem litC_one (l : List Lit) : ∀ u ∈ litC l, u.oneCell' = true := by
  intro u hu
  obtain ⟨x, -, hx⟩ := List.mem_flatMap.1 hu
  exact news_one hx

/-- A row of the law's entries that is being made: v holds nl. -/
structure BuI (N : Nat) (w1 : World) (nl : List Lit) (v : Value) (wr : World) : Prop where
  sl : ∃ A c, v = .slice A nl.length c
  ex : ∃ Y : List (Nat × Obj), Ow N wr 40 5 v nl.length (litC nl) ∧ (∀ x ∈ nl, litO x ∈ Y) ∧ ∀ q ∈ Y, N ≤ q.1 ∧ wr.heap[q.1]? = some q.2 ∧ some q.1 ≠ v.ownBlock
  bel : Below N w1 wr
  le : N ≤ wr.heap.size
theorem BuI.nil (w : World) : BuI w.heap.size w [] (.slice none 0 0) w := ⟨⟨_, _, rfl⟩, ⟨[], .inl ⟨rfl, rfl, rfl⟩, by simp, by simp⟩, Below.refl _ _, Nat.le_refl _⟩
theorem BuI.step {N : Nat} {w1 wr w7 w8 : World} {nl : List Lit} {v v' : Value} {x : Lit} (h : BuI N w1 nl v wr) (h7 : Below wr.heap.size wr w7) (hg : wr.heap.size ≤ x.2) (hk : w7.heap[x.2]? = some (.cells (stC x.1.2.2) 71))
    (ho8 : Ow N w8 40 5 v' (nl.length + 1) (litC nl ++ [.int .u64 x.1.1, .int .u64 x.1.2.1, .int .u8 1, .int .u64 x.1.1, litS x])) (hG : Grew w7 w8 v v') (hsl : ∃ A c, v' = .slice A (nl.length + 1) c) : BuI N w1 (nl ++ [x]) v' w8 := by
  obtain ⟨-, ⟨Y, ho, hs, hY⟩, hbw, hle⟩ := h
  have hob : ∀ j, v.ownBlock = some j → N ≤ j ∧ j < wr.heap.size := fun j hj => by
    rcases ho with ⟨rfl, _⟩ | ⟨g, cap, cur, rfl, hB, hg, _⟩
    · simp [Value.ownBlock] at hj
    · simp [Value.ownBlock] at hj; subst hj; exact ⟨hB, hg.lt⟩
  have hsz := h7.size
  have go : ∀ q : Nat × Obj, N ≤ q.1 → w7.heap[q.1]? = some q.2 → some q.1 ≠ v.ownBlock → N ≤ q.1 ∧ w8.heap[q.1]? = some q.2 ∧ some q.1 ≠ v'.ownBlock := fun q h1 h2 h3 => by
    refine ⟨h1, (hG.1.block _ (lt_of_heap h2) h3).trans h2, ?_⟩
    rcases hG.2 with e | e
    · rw [e]; exact h3
    · intro e'; have := e _ e'.symm; have := lt_of_heap h2; omega
  refine ⟨by simpa using hsl, ⟨litO x :: Y, ?_, fun y hy => ?_, fun q hq => ?_⟩, ?_, ?_⟩
  · rw [List.length_append, List.length_singleton, litC_append]
    simpa [litC] using ho8
  · rcases List.mem_append.1 hy with hy | hy
    · exact List.mem_cons_of_mem _ (hs y hy)
    · simp at hy; subst hy; exact List.mem_cons_self ..
  · rcases List.mem_cons.1 hq with rfl | hq
    · exact go _ (by show N ≤ x.2; omega) hk (fun e => by have := hob _ e.symm; have : x.2 < wr.heap.size := this.2; omega)
    · obtain ⟨h1, h2, h3⟩ := hY q hq
      exact go q h1 ((h7.block _ (lt_of_heap h2)).trans h2) h3
  · have h1 : Below N w1 w7 := hbw.trans (h7.mono hle)
    exact h1.grown hG.1 (by omega) (fun j e => (hob j e).1)
  · have := hG.1.size; omega
theorem BuI.end_ {N : Nat} {w1 wr : World} {nl : List Lit} {v : Value} (h : BuI N w1 nl v wr) : ∃ Y : List (Nat × Obj), (∀ w' : World, Has w' Y → Rd w' 5 v nl.length (litC nl)) ∧ (∀ x ∈ nl, litO x ∈ Y) ∧ ∀ q ∈ Y, N ≤ q.1 ∧ wr.heap[q.1]? = some q.2 := by
  obtain ⟨-, ⟨Y, ho, hs, hY⟩, -, -⟩ := h
  obtain ⟨Z, z1, z2⟩ := ho.has
  refine ⟨Z ++ Y, fun w' hw => z2 w' fun q hq => hw q (List.mem_append_left _ hq), fun x hx => List.mem_append_right _ (hs x hx), fun q hq => ?_⟩
  rcases List.mem_append.1 hq with hq | hq
  · exact z1 q hq
  · exact ⟨(hY q hq).1, (hY q hq).2.1⟩
section
variable {Z : List (Nat × Obj)} {B : Nat} {W w : World} {p d bi bt : Nat} {es : List Ent} {size : Nat} {s : Dst}
theorem lg_add_rd {s1 : Dst} (i0 : Nat) (l : List Lit) (v : Value) (h : Lg Z B W w p d bi bt es size s) (hL : Lok bi bt es) (hF : Fit bi bt es i0 l) (hv : ∀ w' : World, Has w' Z → Rd w' 5 v l.length (litC l)) (hs : ∀ x ∈ l, litO x ∈ Z)
    (hsz : size + (bsOf (l.map litE)).length ≤ 262144) (hB0 : 0 < B) (T : Tab W) (hd : addS s (bsOf (l.map litE)) = (s1, 0)) :
    Calls Tryz.prog 9 #[.pointer (some ⟨p, 0, none⟩), v] w fun e w' => e = .returned (.int .i64 0) ∧ Lg Z B W w' p d bi bt (accOf bi es i0 (l.map litE) l.length) (size + (bsOf (l.map litE)).length) s1 := by
  have := lg_add_ok i0 _ (l.map litE) _ h hL (el_lit hv hs) (wf_lit hF.ix) (by rw [List.length_map]; exact hF.pos) (litOk_eok hF.ok) (if_pos rfl) hF.acc (by rw [List.length_map]; exact hF.most) hsz hB0 T hd
  rwa [List.length_map] at this
theorem lg_add_rd_bad {s1 : Dst} {r : Int} (hr : r ≠ 0) (i0 : Nat) (l : List Lit) (v : Value) (h : Lg Z B W w p d bi bt es size s) (hL : Lok bi bt es) (hF : Fit bi bt es i0 l) (hv : ∀ w' : World, Has w' Z → Rd w' 5 v l.length (litC l)) (hs : ∀ x ∈ l, litO x ∈ Z)
    (hsz : size + (bsOf (l.map litE)).length ≤ 262144) (hB0 : 0 < B) (T : Tab W) (hd : addS s (bsOf (l.map litE)) = (s1, r)) :
    Calls Tryz.prog 9 #[.pointer (some ⟨p, 0, none⟩), v] w fun e w' => e = .returned (.int .i64 17) ∧ On Z B W w' d nmL s1 :=
  lg_add_bad hr i0 _ (l.map litE) _ h hL (el_lit hv hs) (wf_lit hF.ix) (by rw [List.length_map]; exact hF.pos) (litOk_eok hF.ok) (if_pos rfl) hF.acc (by rw [List.length_map]; exact hF.most) hsz hB0 T hd
end
end Go.Proofs.YtnegondlkfeleaaGreatDoor

/- LogsSure: what holds behind each call. -/
namespace Go.Proofs.YtnegondlkfeleaaGreatDoor
open Go.RowKit

theorem lg_fuse {Z : List (Nat × Obj)} {B : Nat} {W w : World} {p d bi bt : Nat} {es : List Ent} {size : Nat} {s : Dst} (n : Int) (hn : n ≤ 9223372036854775807) (h : Lg Z B W w p d bi bt es size s) :
    Calls Tryz.prog 7 #[.pointer (some ⟨d, 0, none⟩), .int .i64 n] w fun e w' => e = .returned (.tuple #[]) ∧ Lg Z B W w' p d bi bt es size { s with fuse := max 0 n } := by
  obtain ⟨ev, Y, h1, h2, h3, h4⟩ := h
  exact (on_fuse n hn h4).mono fun e w' ⟨he, ho⟩ => ⟨he, ev, Y, h1, h2, h3, ho⟩
theorem fromP_all {es : List Ent} (h : es.length ≤ 1000) : fromP 0 es 1 1000 = es := by
  unfold fromP
  rcases Nat.eq_zero_or_pos es.length with h0 | h0
  · rw [if_pos (by omega)]; exact (List.eq_nil_of_length_eq_zero h0).symm
  · rw [if_neg (by omega)]
    simp only [Nat.sub_zero, Nat.sub_self, List.drop_zero]
    exact List.take_of_length_le h
/-- The log of the first i calls, and what the law wants of it. -/
structure SuI (B : Nat) (W : World) (p d i : Nat) (wl : List Lit) (v : Value) (X : List (Nat × Obj)) (H : List Ent) (s : Dst) (wr : World) : Prop where
  lg : Lg X B W wr p d 0 0 (wl.map litE) (logB 0 0 H).length s
  rd : ∀ w' : World, Has w' X → Rd w' 5 v wl.length (litC wl)
  st : ∀ x ∈ wl, litO x ∈ X
  hist : Hist H (wl.map litE)
  file : s.file = some (logB 0 0 H, (logB 0 0 H).length)
  live : s.dead = false
  lok : Lok 0 0 (wl.map litE)
  tm : ∀ x ∈ wl, x.1.2.1 < i
  len : (logB 0 0 H).length ≤ 34 + 600 * i
  most : wl.length ≤ 204
theorem SuI.sl {B : Nat} {W : World} {p d i : Nat} {wl : List Lit} {v : Value} {X : List (Nat × Obj)} {H : List Ent} {s : Dst} {wr : World} (h : SuI B W p d i wl v X H s wr) : ∃ A c, v = .slice A wl.length c ∧ wl.length ≤ c := by
  obtain ⟨A, c, e, hc, -⟩ := h.rd wr h.lg.has
  exact ⟨A, c, e, hc⟩
theorem logB_app (H ns : List Ent) : logB 0 0 (H ++ ns) = logB 0 0 H ++ bsOf ns := by simp [logB, bsOf]
theorem acc_lits (wl nl : List Lit) (i0 : Nat) (h0 : 0 < nl.length) : accOf 0 (wl.map litE) i0 (nl.map litE) nl.length = (wl.take i0 ++ nl).map litE := by
  unfold accOf
  rw [if_neg (by omega), List.map_append, List.map_take, Nat.sub_zero, show (nl.map litE).take nl.length = nl.map litE from List.take_of_length_le (by rw [List.length_map]; exact Nat.le_refl _)]
theorem fit_su {wl nl : List Lit} {i0 i : Nat} {b : Int} (hb : 0 ≤ b ∧ b ≤ 255) (hi : i ≤ 60) (htm : ∀ x ∈ wl, x.1.2.1 < i) (hi0 : i0 ≤ wl.length) (hwl : wl.length ≤ 200) (hnl : 0 < nl.length ∧ nl.length ≤ 4) (hix : ∀ j (hj : j < nl.length), nl[j].1 = (((i0 + j + 1 : Nat) : Int), (i : Int), b)) : Fit 0 0 (wl.map litE) i0 nl where
  ok x hx := by
    obtain ⟨j, hj, rfl⟩ := List.mem_iff_getElem.1 hx
    have := hix j hj
    refine ⟨?_, ?_, ?_⟩
    · rw [this]; show 0 ≤ ((i0 + j + 1 : Nat) : Int) ∧ ((i0 + j + 1 : Nat) : Int) ≤ _; omega
    · rw [this]; show 0 ≤ (i : Int) ∧ (i : Int) ≤ _; omega
    · rw [this]; show -9223372036854775808 ≤ b ∧ b ≤ 9223372036854775807; omega
  pos := hnl.1
  lo := Nat.zero_le _
  hi := by rw [List.length_map]; omega
  ix j hj := by rw [hix j hj]; show ((i0 + j + 1 : Nat) : Int) = _; omega
  t0 h := by
    rw [hix 0 h]
    show _ ≤ (i : Int)
    unfold termP
    split
    · simp
    · split
      · simp
      · rename_i h1 h2
        simp only
        unfold tmE
        have hlt : i0 - 0 - 1 < (wl.map litE).length := by rw [List.length_map]; omega
        rw [List.getElem?_eq_getElem hlt, List.getElem_map]
        have := htm (wl[i0 - 0 - 1]'(by simpa using hlt)) (List.getElem_mem _)
        exact Int.le_of_lt this
  t1 k h := by rw [hix k (by omega), hix (k + 1) h]; exact Int.le_refl _
  most := by omega
theorem su_next {B : Nat} {W : World} {p d i i0 : Nat} {wl nl : List Lit} {v v' : Value} {X X' : List (Nat × Obj)} {H : List Ent} {s s1 : Dst} {wr w' : World} {b : Int} (h : SuI B W p d i wl v X H s wr) (hF : Fit 0 0 (wl.map litE) i0 nl) (hwl : wl.length ≤ 200) (hi0 : i0 ≤ wl.length) (hnl : 0 < nl.length ∧ nl.length ≤ 4) (hix : ∀ j (hj : j < nl.length), nl[j].1 = (((i0 + j + 1 : Nat) : Int), (i : Int), b))
    (hl : Lg X' B W w' p d 0 0 (accOf 0 (wl.map litE) i0 (nl.map litE) nl.length) ((logB 0 0 H).length + (bsOf (nl.map litE)).length) s1) (hrd : ∀ w' : World, Has w' X' → Rd w' 5 v' (wl.take i0 ++ nl).length (litC (wl.take i0 ++ nl))) (hst : ∀ x ∈ wl.take i0 ++ nl, litO x ∈ X')
    (hf : s1.file = some (logB 0 0 H ++ bsOf (nl.map litE), (logB 0 0 H ++ bsOf (nl.map litE)).length)) (hd : s1.dead = false) : SuI B W p d (i + 1) (wl.take i0 ++ nl) v' X' (H ++ nl.map litE) s1 w' := by
  have hh := hist_ext h.hist hF nl.length (Nat.le_refl _)
  rw [show (nl.map litE).take nl.length = nl.map litE from List.take_of_length_le (by rw [List.length_map]; exact Nat.le_refl _)] at hh
  have hbl := litOk_len hF.ok
  rw [acc_lits _ _ _ hnl.1] at hl hh
  have hlok := hF.lok h.lok
  rw [acc_lits _ _ _ hnl.1] at hlok
  refine ⟨?_, hrd, hst, hh, ?_, hd, hlok, fun x hx => ?_, ?_, ?_⟩
  · rw [logB_app, List.length_append]; exact hl
  · rw [logB_app]; exact hf
  · rcases List.mem_append.1 hx with hx | hx
    · have := h.tm x (List.mem_of_mem_take hx); omega
    · obtain ⟨j, hj, rfl⟩ := List.mem_iff_getElem.1 hx
      rw [hix j hj]; show (i : Int) < _; omega
  · rw [logB_app, List.length_append]; have := h.len; omega
  · rw [List.length_append, List.length_take]; omega
/-- Behind the calls: the entries wanted (v), those of a call that failed (u). -/
structure EndR (B : Nat) (W : World) (d : Nat) (v u : Value) (wr : World) : Prop where
  ex : ∃ (wl : List Lit) (X : List (Nat × Obj)) (H : List Ent) (s : Dst), On X B W wr d nmL s ∧ (∀ w' : World, Has w' X → Rd w' 5 v wl.length (litC wl)) ∧ (∀ x ∈ wl, litO x ∈ X) ∧ Hist H (wl.map litE) ∧ Lok 0 0 (wl.map litE) ∧ wl.length ≤ 204 ∧ (logB 0 0 H).length ≤ 40000 ∧
    ((u = .slice none 0 0 ∧ s.file = some (logB 0 0 H, (logB 0 0 H).length)) ∨
      ∃ (i i0 : Nat) (b : Int) (nl : List Lit), (∀ w' : World, Has w' X → Rd w' 5 u nl.length (litC nl)) ∧ (∀ x ∈ nl, litO x ∈ X) ∧ Fit 0 0 (wl.map litE) i0 nl ∧ nl.length ≤ 4 ∧ i0 ≤ wl.length ∧ (∀ j (hj : j < nl.length), nl[j].1 = (((i0 + j + 1 : Nat) : Int), (i : Int), b)) ∧ (∀ x ∈ wl, x.1.2.1 < i) ∧
        (s.file = some (logB 0 0 H, (logB 0 0 H).length) ∨ s.file = some (logB 0 0 H ++ bsOf (nl.map litE), (logB 0 0 H).length)))
theorem SuI.fin {B : Nat} {W : World} {p d i : Nat} {wl : List Lit} {v : Value} {X : List (Nat × Obj)} {H : List Ent} {s : Dst} {wr w' : World} (h : SuI B W p d i wl v X H s wr) (hi : i ≤ 60) (hb : Below wr.heap.size wr w') : EndR B W d v (.slice none 0 0) w' :=
  ⟨wl, X, H, s, h.lg.on.below hb, h.rd, h.st, h.hist, h.lok, h.most, by have := h.len; omega, .inl ⟨rfl, h.file⟩⟩
theorem SuI.bad {B : Nat} {W : World} {p d i i0 : Nat} {wl nl : List Lit} {v u : Value} {X X' : List (Nat × Obj)} {H : List Ent} {s s1 : Dst} {wr w' : World} {b : Int} (h : SuI B W p d i wl v X H s wr) (hi : i ≤ 60) (hX : ∀ q ∈ X, q ∈ X') (ho : On X' B W w' d nmL s1)
    (hu : ∀ w' : World, Has w' X' → Rd w' 5 u nl.length (litC nl)) (hst : ∀ x ∈ nl, litO x ∈ X') (hF : Fit 0 0 (wl.map litE) i0 nl) (hnl : nl.length ≤ 4) (hi0 : i0 ≤ wl.length) (hix : ∀ j (hj : j < nl.length), nl[j].1 = (((i0 + j + 1 : Nat) : Int), (i : Int), b))
    (hf : s1.file = some (logB 0 0 H, (logB 0 0 H).length) ∨ s1.file = some (logB 0 0 H ++ bsOf (nl.map litE), (logB 0 0 H).length)) : EndR B W d v u w' :=
  ⟨wl, X', H, s1, ho, fun w'' hw => h.rd w'' fun q hq => hw q (hX q hq), fun x hx => hX _ (h.st x hx), h.hist, h.lok, h.most, by have := h.len; omega, .inr ⟨i, i0, b, nl, hu, hst, hF, hnl, hi0, hix, h.tm, hf⟩⟩
end Go.Proofs.YtnegondlkfeleaaGreatDoor
