import Derived.Test.YtnegondlkfeleaaDoorLvz
/- logs: a log on its disk, as one thing; the law's entry of one step. -/
namespace Go.Proofs.YtnegondlkfeleaaDoor
open Go.RowKit

/-- The log p of the disk d; the blocks of Z beside it. -/
def Lg (Z : List (Nat × Obj)) (B : Nat) (W w : World) (p d bi bt : Nat) (es : List Ent) (size : Nat) (s : Dst) : Prop :=
  ∃ ev Y, El ev es (Y ++ Z) ∧ B ≤ p ∧ (∀ q ∈ Y ++ Z, q.1 ≠ p) ∧ On ((p, lgO bi bt ev d size false) :: (Y ++ Z)) B W w d nmL s
section
variable {Z : List (Nat × Obj)} {B : Nat} {W w : World} {p d bi bt : Nat} {es : List Ent} {size : Nat} {s : Dst}
theorem Lg.bel (h : Lg Z B W w p d bi bt es size s) : Below B W w := by obtain ⟨_, _, _, _, _, h⟩ := h; exact h.bel
theorem Lg.le (h : Lg Z B W w p d bi bt es size s) : B ≤ w.heap.size := by obtain ⟨_, _, _, _, _, h⟩ := h; exact h.le
theorem Lg.lt (h : Lg Z B W w p d bi bt es size s) : p < w.heap.size := by obtain ⟨_, _, _, _, _, h⟩ := h; exact lt_of_heap (h.keep (p, _) (List.mem_cons_self ..))
theorem Lg.has (h : Lg Z B W w p d bi bt es size s) : Has w Z := by
  obtain ⟨_, _, _, _, _, h⟩ := h
  exact fun q hq => h.keep q (List.mem_cons_of_mem _ (List.mem_append_right _ hq))
theorem Lg.below {w' : World} (h : Lg Z B W w p d bi bt es size s) (hb : Below w.heap.size w w') : Lg Z B W w' p d bi bt es size s := by
  obtain ⟨ev, Y, h1, h2, h3, h4⟩ := h
  exact ⟨ev, Y, h1, h2, h3, h4.below hb⟩
theorem Lg.addNew {w' : World} {X : List (Nat × Obj)} (h : Lg Z B W w p d bi bt es size s) (hb : Below w.heap.size w w') (hX : ∀ q ∈ X, w.heap.size ≤ q.1 ∧ w'.heap[q.1]? = some q.2) : Lg (X ++ Z) B W w' p d bi bt es size s := by
  have hlt := h.lt
  obtain ⟨ev, Y, h1, h2, h3, h4⟩ := h
  refine ⟨ev, Y, h1.mono fun q hq => ?_, h2, fun q hq => ?_, (h4.addNew hb hX).mono fun q hq => ?_⟩
  · simp only [List.mem_append] at hq ⊢; rcases hq with h | h <;> simp [h]
  · simp only [List.mem_append] at hq
    rcases hq with h | h | h
    · exact h3 q (by simp [h])
    · have := (hX q h).1; omega
    · exact h3 q (by simp [h])
  · simp only [List.mem_append, List.mem_cons] at hq ⊢; rcases hq with h | h | h | h <;> simp [h]
theorem Lg.mono {X : List (Nat × Obj)} (h : Lg Z B W w p d bi bt es size s) (hX : ∀ q ∈ X, q ∈ Z) : Lg X B W w p d bi bt es size s := by
  obtain ⟨ev, Y, h1, h2, h3, h4⟩ := h
  refine ⟨ev, Y ++ Z, h1.mono fun q hq => List.mem_append_left _ hq, h2, fun q hq => ?_, h4.mono fun q hq => ?_⟩
  · rcases List.mem_append.1 hq with hq | hq
    · exact h3 q hq
    · exact h3 q (List.mem_append_right _ (hX q hq))
  · rcases List.mem_cons.1 hq with rfl | hq
    · exact List.mem_cons_self ..
    · rcases List.mem_append.1 hq with hq | hq
      · exact List.mem_cons_of_mem _ hq
      · exact List.mem_cons_of_mem _ (List.mem_append_right _ (hX q hq))
theorem Lg.on (h : Lg Z B W w p d bi bt es size s) : On Z B W w d nmL s := by
  obtain ⟨_, _, _, _, _, h⟩ := h
  exact h.mono fun q hq => List.mem_cons_of_mem _ (List.mem_append_right _ hq)
theorem Lg.fresh (h : On ((p, lgO bi bt (.slice none 0 0) d size false) :: Z) B W w d nmL s) (hB : B ≤ p) (hX : ∀ q ∈ Z, q.1 ≠ p) : Lg Z B W w p d bi bt [] size s :=
  ⟨_, [], El.nil _, hB, by simpa using hX, by simpa using h⟩
/-- What a log is beyond its cells. -/
structure Lok (bi bt : Nat) (es : List Ent) : Prop where
  wf : Wf bi es
  ok : ∀ e ∈ es, EOk e
  bi : bi + es.length ≤ 250
  bt : bt < 18446744073709551616
theorem lg_add_ok {s1 : Dst} (i0 : Nat) (av : Value) (ns : List Ent) (acc : Nat → List Ent) (h : Lg Z B W w p d bi bt es size s) (hL : Lok bi bt es) (hA : El av ns Z) (hn : Wf i0 ns) (h0 : 0 < ns.length) (hok : ∀ e ∈ ns, EOk e)
    (ha0 : acc 0 = es) (hacc : ∀ k (hk : k < ns.length), addP bi bt (acc k) (i0 + 1 + k) (ns[k].1.tail.headD 0) ns[k] = some (acc (k + 1))) (hi0 : i0 + ns.length ≤ 250) (hsz : size + (bsOf ns).length ≤ 262144) (hB0 : 0 < B) (T : Tab W) (hd : addS s (bsOf ns) = (s1, 0)) :
    Calls Tryd.prog 12 #[.pointer (some ⟨p, 0, none⟩), av] w fun e w' => e = .returned (.int .i64 0) ∧ Lg Z B W w' p d bi bt (acc ns.length) (size + (bsOf ns).length) s1 := by
  have hlt := h.lt
  obtain ⟨ev, Y, h1, h2, h3, h4⟩ := h
  refine (lAdd_any s1 0 i0 av ns acc h4 h2 h3 h1 hL.wf (hA.mono fun q hq => List.mem_append_right _ hq) hn h0 hok ha0 hacc hi0 hL.bi hsz hB0 T hd).mono ?_
  rintro e w' ⟨ev', Y', e1, e2, rfl, e4⟩
  unfold pick2 at e4
  rw [if_pos rfl] at e4
  refine ⟨rfl, ev', Y' ++ Y, by rw [List.append_assoc]; exact e1, h2, fun q hq => ?_, by rw [List.append_assoc]; exact_mod_cast e4⟩
  rw [List.append_assoc] at hq
  rcases List.mem_append.1 hq with hq | hq
  · have := e2 q hq; omega
  · exact h3 q hq
theorem lg_add_bad {s1 : Dst} {r : Int} (hr : r ≠ 0) (i0 : Nat) (av : Value) (ns : List Ent) (acc : Nat → List Ent) (h : Lg Z B W w p d bi bt es size s) (hL : Lok bi bt es) (hA : El av ns Z) (hn : Wf i0 ns) (h0 : 0 < ns.length) (hok : ∀ e ∈ ns, EOk e)
    (ha0 : acc 0 = es) (hacc : ∀ k (hk : k < ns.length), addP bi bt (acc k) (i0 + 1 + k) (ns[k].1.tail.headD 0) ns[k] = some (acc (k + 1))) (hi0 : i0 + ns.length ≤ 250) (hsz : size + (bsOf ns).length ≤ 262144) (hB0 : 0 < B) (T : Tab W) (hd : addS s (bsOf ns) = (s1, r)) :
    Calls Tryd.prog 12 #[.pointer (some ⟨p, 0, none⟩), av] w fun e w' => e = .returned (.int .i64 17) ∧ On Z B W w' d nmL s1 := by
  obtain ⟨ev, Y, h1, h2, h3, h4⟩ := h
  refine (lAdd_any s1 r i0 av ns acc h4 h2 h3 h1 hL.wf (hA.mono fun q hq => List.mem_append_right _ hq) hn h0 hok ha0 hacc hi0 hL.bi hsz hB0 T hd).mono ?_
  rintro e w' ⟨ev', Y', e1, e2, rfl, e4⟩
  exact ⟨by simp [rvOf, hr], e4.mono fun q hq => List.mem_cons_of_mem _ (List.mem_append_right _ (List.mem_append_right _ hq))⟩
theorem lg_drop {s1 : Dst} (i tN : Nat) (h : Lg Z B W w p d bi bt es size s) (hL : Lok bi bt es) (h1 : bi ≤ i) (h2 : i ≤ bi + es.length) (htm : termP bi bt es i = ((tN : Int), true)) (ht : tN < 18446744073709551616) (hB0 : 0 < B) (T : Tab W) (hwf : Wf i (es.drop (i - bi)))
    (hd : doesS s (logB i tN (es.drop (i - bi))).length true (fun _ => some (logB i tN (es.drop (i - bi)), (logB i tN (es.drop (i - bi))).length)) = (s1, 0)) :
    Calls Tryd.prog 13 #[.pointer (some ⟨p, 0, none⟩), .int .u64 i] w fun e w' => e = .returned (.int .i64 0) ∧ Lg Z B W w' p d i tN (es.drop (i - bi)) (logB i tN (es.drop (i - bi))).length s1 := by
  have hlt := h.lt
  have hbi := hL.bi
  obtain ⟨ev, Y, e1, e2, e3, e4⟩ := h
  refine (ldrop_any s1 0 i tN e4 e2 e3 e1 hL.wf hL.ok (by omega) (by omega) h1 h2 htm ht hB0 T hwf hd).mono ?_
  rintro e w' ⟨ev', Y', f1, f2, rfl, f4⟩
  unfold pick2 at f4
  rw [if_pos rfl] at f4
  refine ⟨rfl, ev', Y' ++ Y, by rw [List.append_assoc]; exact f1, e2, fun q hq => ?_, by rw [List.append_assoc]; exact f4⟩
  rw [List.append_assoc] at hq
  rcases List.mem_append.1 hq with hq | hq
  · have := f2 q hq; omega
  · exact e3 q hq
theorem lg_base (h : Lg Z B W w p d bi bt es size s) : Calls Tryd.prog 9 #[.pointer (some ⟨p, 0, none⟩)] w fun e w' => e = .returned (.tuple #[.int .u64 bi, .int .u64 bt]) ∧ Lg Z B W w' p d bi bt es size s := by
  have h' := h
  obtain ⟨ev, Y, e1, e2, e3, e4⟩ := h'
  refine (lbase_any p bi bt d ev size false w (e4.keep (p, _) (List.mem_cons_self ..))).mono ?_
  rintro e w' ⟨rfl, m, rfl⟩
  exact ⟨rfl, h.below (below_drewN_ _ _ _)⟩
theorem lg_end (h : Lg Z B W w p d bi bt es size s) (hL : Lok bi bt es) : Calls Tryd.prog 10 #[.pointer (some ⟨p, 0, none⟩)] w fun e w' => e = .returned (.tuple #[.int .u64 ((bi + es.length : Nat) : Int), .int .u64 (endT bt es)]) ∧ Lg Z B W w' p d bi bt es size s := by
  have h' := h
  have hbi := hL.bi
  obtain ⟨ev, Y, e1, e2, e3, e4⟩ := h'
  refine (lEnd_any p bi bt d ev es size false w (e4.keep (p, _) (List.mem_cons_self ..)) (e1.ents fun q hq => e4.keep q (List.mem_cons_of_mem _ hq)) hL.wf (by omega)).mono ?_
  rintro e w' ⟨rfl, hb⟩
  exact ⟨rfl, h.below hb⟩
theorem lg_term (i : Nat) (hi : i < 18446744073709551616) (h : Lg Z B W w p d bi bt es size s) (hL : Lok bi bt es) : Calls Tryd.prog 11 #[.pointer (some ⟨p, 0, none⟩), .int .u64 i] w fun e w' => e = .returned (.tuple #[.int .u64 (termP bi bt es i).1, .bool (termP bi bt es i).2]) ∧ Lg Z B W w' p d bi bt es size s := by
  have h' := h
  have hbi := hL.bi
  obtain ⟨ev, Y, e1, e2, e3, e4⟩ := h'
  refine (lTerm_any p bi bt d i ev es size false w (e4.keep (p, _) (List.mem_cons_self ..)) (e1.ents fun q hq => e4.keep q (List.mem_cons_of_mem _ hq)) hL.wf (by omega) hi (by omega)).mono ?_
  rintro e w' ⟨rfl, hb⟩
  exact ⟨rfl, h.below hb⟩
theorem lg_from (i m : Nat) (hi : i < 18446744073709551616) (hm : 1 ≤ m) (hm2 : m ≤ 1000000) (h : Lg Z B W w p d bi bt es size s) (hL : Lok bi bt es) : Calls Tryd.prog 15 #[.pointer (some ⟨p, 0, none⟩), .int .u64 i, .int .i64 m] w fun e w' => ∃ P Y, e = .returned (.slice P (fromP bi es i m).length (fromP bi es i m).length) ∧
      El (.slice P (fromP bi es i m).length (fromP bi es i m).length) (fromP bi es i m) Y ∧ Lg (Y ++ Z) B W w' p d bi bt es size s ∧ Below w.heap.size w w' ∧ ∀ q ∈ Y, w.heap.size ≤ q.1 := by
  have h' := h
  have hbi := hL.bi
  obtain ⟨ev, Y, e1, e2, e3, e4⟩ := h'
  refine (lFrom_any p bi bt d i m ev es size false (Y ++ Z) w (e4.keep (p, _) (List.mem_cons_self ..)) e1 (fun q hq => e4.keep q (List.mem_cons_of_mem _ hq)) hL.wf (by omega) hi (by omega) (fun e he => ?_) hm hm2).mono ?_
  · obtain ⟨_, _, _, _, -, -, -, -, -, -, h8, -⟩ := hL.ok e he
    omega
  · rintro e w' ⟨P, Y', rfl, f1, f2, f3⟩
    exact ⟨P, Y', rfl, f1, h.addNew f3 f2, f3, fun q hq => (f2 q hq).1⟩
end

/-- The law's entry: an index, a term, a step of a number. -/
def ent1 (i t n : Int) : Ent := ([i, t, 1, i], [[10, 0, 0, 0, 0, n, 0, 0, 0, 0]])
abbrev stC (n : Int) : Array Value := #[.int .u8 10, .int .u8 0, .int .u8 0, .int .u8 0, .int .u8 0, .int .i64 n, .int .i64 0, .int .i64 0, .int .i64 0, .int .u64 0]
theorem ent1_ok {i t n : Int} (hi : 0 ≤ i ∧ i ≤ 18446744073709551615) (ht : 0 ≤ t ∧ t ≤ 18446744073709551615) (hn : in64 n) : entryOk (ent1 i t n) := by
  refine ⟨⟨hi, ht, ⟨by omega, by omega⟩, hi, rfl⟩, by simp [ent1], fun q hq => ?_⟩
  simp [ent1] at hq
  subst hq
  have hb : byt 0 := ⟨by omega, by omega⟩
  have h64 : in64 0 := ⟨by omega, by omega⟩
  exact ⟨⟨by omega, by omega⟩, hb, hb, hb, hb, hn, h64, h64, h64, ⟨by omega, by omega⟩, rfl⟩
theorem ent1_len {i t n : Int} (hi : 0 ≤ i ∧ i ≤ 18446744073709551615) (ht : 0 ≤ t ∧ t ≤ 18446744073709551615) (hn : in64 n) : (entryB (ent1 i t n)).length ≤ 141 := by
  obtain ⟨h1, h2, h3⟩ := ent1_ok hi ht hn
  have l1 := fB_len entryK _ h1
  have l2 := flat_len stepK _ h3
  have l3 : (nb 1).length = 1 := by rw [nb_lt (by decide)]; rfl
  unfold entryB stepsB listB
  simp only [List.length_append]
  have l4 : (ent1 i t n).2.length = 1 := rfl
  rw [l4, show stepK.length = 10 from rfl] at l2
  rw [l4]
  rw [show entryK.length = 4 from rfl] at l1
  omega
theorem ent1_eok {i t n : Int} (hi : 0 ≤ i ∧ i ≤ 18446744073709551615) (ht : 0 ≤ t ∧ t ≤ 18446744073709551615) (hn : in64 n) : EOk (ent1 i t n) := by
  have h := ent1_ok hi ht hn
  have hl := ent1_len hi ht hn
  exact ⟨i, t, 1, i, rfl, h.1.1, h.1.2.1, h.1.2.2.1, h.1.2.2.2.1, h.2.2, h.2.1, by omega, fun c hc => cod_entry.byt _ h c hc⟩
theorem ent1_frame {i t n : Int} (hi : 0 ≤ i ∧ i ≤ 18446744073709551615) (ht : 0 ≤ t ∧ t ≤ 18446744073709551615) (hn : in64 n) : (efB (ent1 i t n)).length ≤ 150 := by
  have hl := ent1_len hi ht hn
  have h3 := nb_len_le 1 (entryB (ent1 i t n)).length (by omega)
  unfold efB
  rw [frameB_len]; omega
theorem tstep_info : (Tryd.prog.info? 59).map (·.size) = some 5 := by kernel_rfl

set_option maxHeartbeats 1000000 in
set_option maxRecDepth 100000 in
theorem lentry_any (i t n : Int) (w : World) : Calls Tryd.prog 17 #[.int .u64 i, .int .u64 t, .int .i64 n] w fun e w' => ∃ g, e = .returned (.agg #[.int .u64 i, .int .u64 t, .int .u8 1, .int .u64 i, .slice (some ⟨g, 0, none⟩) 1 1]) ∧ w.heap.size ≤ g ∧ Blk w' g 107 (stC n) ∧ Below w.heap.size w w' := by
  go_enter Tryd.func17, Tryd.ntmps17
  go_wp2
  have k1 := Blk.new (w.alloc (.cells #[.int .u64 i, .int .u64 t, .int .u8 1, .int .u64 i, .slice (some ⟨w.heap.size + 1, 0, none⟩) 1 1] 59)) 107 (stC n)
  rw [show (w.alloc (.cells #[.int .u64 i, .int .u64 t, .int .u8 1, .int .u64 i, .slice (some ⟨w.heap.size + 1, 0, none⟩) 1 1] 59)).heap.size = w.heap.size + 1 from by simp] at k1
  refine bodyPost_ret (res_cell1 Tryd.results17 ((Blk.new w 59 #[.int .u64 i, .int .u64 t, .int .u8 1, .int .u64 i, .slice (some ⟨w.heap.size + 1, 0, none⟩) 1 1]).alloc (.cells (stC n) 107)) rfl Tryd.underlying59 tstep_info) rfl ?_
  exact ⟨w.heap.size + 1, rfl, by omega, k1, below_alloc2_ w _ _⟩
end Go.Proofs.YtnegondlkfeleaaDoor

/- logs: entries written out; what a row of entries leaves; a disk that burns nothing. -/
namespace Go.Proofs.YtnegondlkfeleaaDoor
open Go.RowKit

/-- An entry of the law (index, term, number), and its steps' block. -/
abbrev Lit := (Int × Int × Int) × Nat
def litE (x : Lit) : Ent := ent1 x.1.1 x.1.2.1 x.1.2.2
def litS (x : Lit) : Value := .slice (some ⟨x.2, 0, none⟩) 1 1
def litC (l : List Lit) : List Value := l.flatMap fun x => [.int .u64 x.1.1, .int .u64 x.1.2.1, .int .u8 1, .int .u64 x.1.1, litS x]
def litO (x : Lit) : Nat × Obj := (x.2, .cells (stC x.1.2.2) 107)
theorem litC_len (l : List Lit) : (litC l).length = l.length * 5 := by
  induction l with
  | nil => rfl
  | cons a l ih => simp only [litC, List.flatMap_cons, List.length_append, List.length_cons, List.length_nil] at ih ⊢; omega
theorem litC_zip (l : List Lit) : ((l.map litE).zip (l.map litS)).flatMap ecells = litC l := by
  induction l with
  | nil => rfl
  | cons a l ih =>
    simp only [List.map_cons, List.zip_cons_cons, List.flatMap_cons, ih, litC]
    congr 1
theorem steps_lit {w : World} {x : Lit} (h : w.heap[x.2]? = some (.cells (stC x.1.2.2) 107)) : Steps w (litS x) (litE x).2 := by
  have hk : Blk w x.2 107 (stC x.1.2.2) := h
  refine ⟨_, 1, rfl, Nat.le_refl _, rfl, .inr ⟨x.2, 0, rfl, hk.lt, fun j u hu => ?_⟩⟩
  rw [Nat.zero_add, hk.cell]
  have : (litE x).2.flatMap (fc stepK) = (stC x.1.2.2).toList := rfl
  rw [this] at hu
  simpa using hu
theorem el_lit {l : List Lit} {v : Value} {Y : List (Nat × Obj)} (hv : ∀ w' : World, Has w' Y → Rd w' 5 v l.length (litC l)) (hs : ∀ x ∈ l, litO x ∈ Y) : El v (l.map litE) Y := by
  refine ⟨l.map litS, by simp, fun w' hw => ?_, fun j h h' w' hw => ?_⟩
  · rw [litC_zip, List.length_map]; exact hv w' hw
  · rw [List.getElem_map, List.getElem_map]
    exact steps_lit (hw _ (hs _ (List.getElem_mem _)))
/-- .. in an array made for them. -/
theorem el_arr {l : List Lit} {g c : Nat} {cur : Array Value} {Y : List (Nat × Obj)} (hg : (g, Obj.cells cur 59) ∈ Y) (hs : ∀ x ∈ l, litO x ∈ Y) (hc : l.length ≤ c) (hcs : cur.toList.take (l.length * 5) = litC l) : El (.slice (some ⟨g, 0, none⟩) l.length c) (l.map litE) Y :=
  el_lit (fun w' hw => ⟨_, c, rfl, hc, litC_len l, .inr ⟨g, 0, rfl, lt_of_heap (hw _ hg), fun j u hu => by
    have hk : Blk w' g 59 cur := hw _ hg
    rw [Nat.zero_add, hk.cell]
    rw [← hcs, List.getElem?_take] at hu
    split at hu
    · simpa using hu
    · cases hu⟩⟩) hs

/-- The entries behind the first k of ns, put behind index i0. -/
def accOf (bi : Nat) (es : List Ent) (i0 : Nat) (ns : List Ent) (k : Nat) : List Ent := if k = 0 then es else es.take (i0 - bi) ++ ns.take k
def tmOf (e : Ent) : Int := e.1.tail.headD 0
theorem acc_len {bi : Nat} {es : List Ent} {i0 : Nat} {ns : List Ent} {k : Nat} (h1 : bi ≤ i0) (h2 : i0 ≤ bi + es.length) (hk : k ≤ ns.length) (h0 : 0 < k) : bi + (accOf bi es i0 ns k).length = i0 + k := by
  unfold accOf
  rw [if_neg (by omega), List.length_append, List.length_take, List.length_take]; omega
theorem acc_step {bi bt : Nat} {es : List Ent} {i0 : Nat} {ns : List Ent} (h1 : bi ≤ i0) (h2 : i0 ≤ bi + es.length) (ht0 : ∀ h : 0 < ns.length, (termP bi bt es i0).1 ≤ tmOf ns[0]) (ht : ∀ k (h : k + 1 < ns.length), tmOf ns[k] ≤ tmOf ns[k + 1]) :
    ∀ k (hk : k < ns.length), addP bi bt (accOf bi es i0 ns k) (i0 + 1 + k) (ns[k].1.tail.headD 0) ns[k] = some (accOf bi es i0 ns (k + 1)) := by
  intro k hk
  have e1 : i0 + 1 + k - 1 = i0 + k := by omega
  have e2 : i0 + 1 + k - bi - 1 = i0 - bi + k := by omega
  have hs : accOf bi es i0 ns (k + 1) = es.take (i0 - bi) ++ ns.take (k + 1) := by unfold accOf; rw [if_neg (by omega)]
  rw [hs]
  have htk : ns.take (k + 1) = ns.take k ++ [ns[k]] := by rw [List.take_add_one, List.getElem?_eq_getElem hk]; rfl
  unfold addP
  rcases Nat.eq_zero_or_pos k with h0 | h0
  · subst h0
    have ha : accOf bi es i0 ns 0 = es := if_pos rfl
    rw [ha, if_neg (by omega), e1, e2, Nat.add_zero, Nat.add_zero, if_neg (by have := ht0 hk; unfold tmOf at this; omega), htk]
    simp
  · have hl := acc_len h1 h2 (Nat.le_of_lt hk) h0 (ns := ns)
    rw [if_neg (by omega), e1, e2]
    have hac : accOf bi es i0 ns k = es.take (i0 - bi) ++ ns.take k := by unfold accOf; rw [if_neg (by omega)]
    have hterm : (termP bi bt (accOf bi es i0 ns k) (i0 + k)).1 = tmOf ns[k - 1] := by
      unfold termP
      rw [if_neg (by omega), if_neg (by omega)]
      unfold tmE
      have hix : (accOf bi es i0 ns k)[i0 + k - bi - 1]? = some ns[k - 1] := by
        rw [hac, List.getElem?_append_right (by rw [List.length_take]; omega), List.length_take, show i0 + k - bi - 1 - min (i0 - bi) es.length = k - 1 by omega, List.getElem?_take, if_pos (by omega)]
        exact List.getElem?_eq_getElem _
      rw [hix]; rfl
    rw [hterm, if_neg (by
      have := ht (k - 1) (by omega)
      simp only [show k - 1 + 1 = k by omega] at this
      unfold tmOf at *; omega), htk]
    have htt : (accOf bi es i0 ns k).take (i0 - bi + k) = es.take (i0 - bi) ++ ns.take k := by
      rw [← hac]; exact List.take_of_length_le (by omega)
    rw [htt, List.append_assoc]
theorem lok_acc {bi bt : Nat} {es : List Ent} {i0 : Nat} {ns : List Ent} (hL : Lok bi bt es) (h1 : bi ≤ i0) (h2 : i0 ≤ bi + es.length) (hn : Wf i0 ns) (hok : ∀ e ∈ ns, EOk e) (hi0 : i0 + ns.length ≤ 250) (h0 : 0 < ns.length) : Lok bi bt (accOf bi es i0 ns ns.length) := by
  have hl := acc_len h1 h2 (Nat.le_refl _) h0 (ns := ns)
  have hac : accOf bi es i0 ns ns.length = es.take (i0 - bi) ++ ns := by unfold accOf; rw [if_neg (by omega), List.take_length]
  refine ⟨fun j hj => ?_, fun e he => ?_, by omega, hL.bt⟩
  · have hlt : (es.take (i0 - bi)).length = i0 - bi := by rw [List.length_take]; omega
    have gen : ∀ (l : List Ent) (hl : l = es.take (i0 - bi) ++ ns) (hj : j < l.length), ∃ t c n : Int, l[j].1 = [((bi + 1 + j : Nat) : Int), t, c, n] := fun l hl hj => by
      subst hl
      rcases Nat.lt_or_ge j (i0 - bi) with hlt' | hge
      · rw [List.getElem_append_left (by omega), List.getElem_take]
        exact hL.wf j (by omega)
      · rw [List.getElem_append_right (by omega)]
        obtain ⟨t, c, n, e⟩ := hn (j - (es.take (i0 - bi)).length) (by rw [List.length_append] at hj; omega)
        exact ⟨t, c, n, by rw [e, hlt, show bi + 1 + j = i0 + 1 + (j - (i0 - bi)) by omega]⟩
    exact gen _ hac hj
  · rw [hac] at he
    rcases List.mem_append.1 he with he | he
    · exact hL.ok e (List.mem_of_mem_take he)
    · exact hok e he
theorem Lok.nil : Lok 0 0 [] := ⟨fun j h => by simp at h, by simp, by simp, by omega⟩

/-- A disk that burns nothing. -/
theorem does_free {o : Option (List Int × Nat)} (q : List Int × Nat) (n : Int) (hn : n ≤ 1048576) (m : Bool) (hm : m = true ∨ o ≠ none) : doesS ⟨o, -1, false⟩ n m (fun _ => some q) = (⟨some q, -1, false⟩, 0) := by
  have h1 : ¬ (1048576 : Int) < n := by omega
  have h2 : ¬ (o = none ∧ m = false) := by rcases hm with h | h <;> simp [h]
  unfold doesS
  rw [if_neg (by simp), if_neg h2, if_neg h1, if_neg (by simp)]
  simp [burnS]
theorem addS_free (xs : List Int) (su : Nat) (bs : List Int) (hn : xs.length + bs.length ≤ 1048576) : addS ⟨some (xs, su), -1, false⟩ bs = (⟨some (xs ++ bs, (xs ++ bs).length), -1, false⟩, 0) := by
  have h1 : ¬ (1048576 : Int) < ((sizeS ⟨some (xs, su), -1, false⟩ : Nat) + (bs.length : Nat) : Int) := by simp [sizeS]; omega
  have hd : doesS ⟨some (xs, su), -1, false⟩ ((sizeS ⟨some (xs, su), -1, false⟩ : Nat) + (bs.length : Nat) : Int) true (fun q => some (q.1 ++ bs, q.2)) = (⟨some (xs ++ bs, su), -1, false⟩, 0) := by
    unfold doesS
    rw [if_neg (by simp), if_neg (by simp), if_neg h1, if_neg (by simp)]
    simp [burnS]
  unfold addS
  rw [hd, if_pos rfl]
  unfold doesS
  rw [if_neg (by simp), if_neg (by simp), if_neg (by simp), if_neg (by simp)]
  simp [burnS]
end Go.Proofs.YtnegondlkfeleaaDoor
