/- Rows behind rows; a twin: rows with two marks behind them, that the slice does not reach. -/
import Derived.Test.YtenobcfgapolhaaPuz
import Derived.OwnWalk
namespace Go.Proofs.Ytenobcfgapolhaa
open Go.RowKit

/-- 'out = append(out, xs...)', the operation alone. -/
theorem wp_ow_rows {o : Oper} {a : Act} {K : Act → World → Prop} {Q : Exit → Act → World → Prop} (s x : Operand) (t e : TypeId) (z : Value) (size bytes : Nat)
    (ho : o.op = .call { callee := .builtin .append, args := #[s, x], argTypes := #[t, t] }) (ht : Try.prog.underlying t = some (.slice e))
    (hinf : (Try.prog.info? e).map (fun i => (i.zero, i.size, i.bytes)) = some (some z, size, bytes)) (hzs : z.cells.size = size) (hsz : 0 < size)
    {B n m : Nat} {v y : Value} {xs ys : List Value} (hs : a.eval s = v) {w0 : World} (hown : Ow B w0 e size v n xs) (hB : B ≤ w0.heap.size) (hy : Rd w0 size y m ys) (h1 : ∀ u ∈ ys, u.oneCell' = true)
    (hx : a.eval x = y) (hlen : (n + m) * bytes ≤ 140737488355328) (hlen2 : n + m ≤ maxLen)
    (h : ∀ v' w', Ow B w' e size v' (n + m) (xs ++ ys) → Grew w0 w' v v' → K (a.put o.dst v') w') : Oper.wp Try.prog o a w0 K Q := by
  obtain ⟨i0, hi, hz0, hz1, hz2⟩ := info_parts hinf
  obtain ⟨A, c, rfl, hc, hl, hh⟩ := hy
  cases A with
  | none =>
    rcases hh with h0 | ⟨g, o', hA, _⟩
    · subst h0
      have hys : ys = [] := List.eq_nil_of_length_eq_zero (by simpa using hl)
      subst hys
      rcases Nat.eq_zero_or_pos c with rfl | hcp
      · have hr := run_append_ow_none (P := Try.prog) w0 B t o.type e i0 size ht hi v _ _ hown
        unfold Oper.wp
        simp [execOp, ho, resolve, invoke, builtin, hs, hx, hr, Result.andThen]
        exact (h v w0 (by rw [List.append_nil]; exact hown) (Grew.same _ _))
      · rcases hown with ⟨rfl, h0, hx0⟩ | ⟨g, cap, cur, rfl, hBg, hg, hcc, hrest⟩
        · have hr : (Builtin.append_ #[t, t] o.type #[.slice none 0 0, .slice none 0 c]).run Try.prog w0 = .ok (.slice none 0 0) w0 := by simp [Builtin.append_, run_underlying ht, sizeOf, typeInfo, hi, Builtin.lenOf, Builtin.firstCells]
          unfold Oper.wp
          simp [execOp, ho, resolve, invoke, builtin, hs, hx, hr, Result.andThen]
          subst h0; subst hx0
          exact (h _ w0 (.inl ⟨rfl, rfl, rfl⟩) (Grew.same _ _))
        · have hr : (Builtin.append_ #[t, t] o.type #[.slice (some ⟨g, 0, none⟩) n cap, .slice none 0 c]).run Try.prog w0 = .ok (.slice (some ⟨g, 0, none⟩) n cap) w0 := by simp [Builtin.append_, run_underlying ht, sizeOf, typeInfo, hi, Builtin.lenOf, Builtin.firstCells, hcc, storeCells]
          unfold Oper.wp
          simp [execOp, ho, resolve, invoke, builtin, hs, hx, hr, Result.andThen]
          exact (h _ w0 (by rw [List.append_nil]; exact .inr ⟨g, cap, cur, rfl, hBg, hg, hcc, hrest⟩) (Grew.same _ _))
    · cases hA
  | some ad =>
    have hnews : ∀ j u, ys[j]? = some u → w0.cell? (ad.add j) = some u := by
      intro j u hj
      rcases hh with h0 | ⟨g, o', hA, hg, hcell⟩
      · subst h0
        have hys : ys = [] := List.eq_nil_of_length_eq_zero (by simpa using hl)
        subst hys
        cases hj
      · obtain rfl : ad = ⟨g, o', none⟩ := Option.some.inj hA
        rw [Addr.add_lit]
        exact hcell j u hj
    obtain ⟨v', w', hr, h2, h3, h4⟩ := run_append_ow (P := Try.prog) w0 B t o.type e i0 z size bytes ht hi hz0 hz1 hz2 hzs hsz v _ _ hown ad m c ys hl hnews h1 hlen2 hlen hB
    unfold Oper.wp
    simp [execOp, ho, resolve, invoke, builtin, hs, hx, hr, Result.andThen]
    exact h v' w' h2 (Grew.of_ (Below.refl _ _) h3 h4)
theorem wpList_ow_rows {ops : Array Oper} {rest : List Oper} {o : Oper} {a : Act} {Q : Exit → Act → World → Prop} (hgd : o.guard = none) (s x : Operand) (t e : TypeId) (z : Value) (size bytes : Nat)
    (ho : o.op = .call { callee := .builtin .append, args := #[s, x], argTypes := #[t, t] }) (ht : Try.prog.underlying t = some (.slice e))
    (hinf : (Try.prog.info? e).map (fun i => (i.zero, i.size, i.bytes)) = some (some z, size, bytes)) (hzs : z.cells.size = size) (hsz : 0 < size)
    {B n m : Nat} {v y : Value} {xs ys : List Value} (hs : a.eval s = v) {w0 : World} (hown : Ow B w0 e size v n xs) (hB : B ≤ w0.heap.size) (hy : Rd w0 size y m ys) (h1 : ∀ u ∈ ys, u.oneCell' = true)
    (hx : a.eval x = y) (hlen : (n + m) * bytes ≤ 140737488355328) (hlen2 : n + m ≤ maxLen)
    (h : ∀ v' w', Ow B w' e size v' (n + m) (xs ++ ys) → Grew w0 w' v v' → wpList Try.prog ops Q rest (a.put o.dst v') w') : wpList Try.prog ops Q (o :: rest) a w0 :=
  wpList_plain hgd fun _ hK => wp_ow_rows s x t e z size bytes ho ht hinf hzs hsz hs hown hB hy h1 hx hlen hlen2 fun v' w' h1 h2 => hK _ _ (h v' w' h1 h2)
theorem step_ow_rows {ops : Array Oper} {o : Oper} {a : Act} {K : Act → World → Prop} {E : Prop} {Q : Exit → Act → World → Prop} (hgd : o.guard = none) (s x : Operand) (t e : TypeId) (z : Value) (size bytes : Nat)
    (ho : o.op = .call { callee := .builtin .append, args := #[s, x], argTypes := #[t, t] }) (ht : Try.prog.underlying t = some (.slice e))
    (hinf : (Try.prog.info? e).map (fun i => (i.zero, i.size, i.bytes)) = some (some z, size, bytes)) (hzs : z.cells.size = size) (hsz : 0 < size)
    {B n m : Nat} {v y : Value} {xs ys : List Value} (hs : a.eval s = v) {w0 : World} (hown : Ow B w0 e size v n xs) (hB : B ≤ w0.heap.size) (hy : Rd w0 size y m ys) (h1 : ∀ u ∈ ys, u.oneCell' = true)
    (hx : a.eval x = y) (hlen : (n + m) * bytes ≤ 140737488355328) (hlen2 : n + m ≤ maxLen)
    (h : ∀ v' w', Ow B w' e size v' (n + m) (xs ++ ys) → Grew w0 w' v v' → K (a.put o.dst v') w') :
    if Region.wanted o (yielded ops a.tmps) = true then Oper.wp Try.prog o a w0 K Q else E := by
  have hw : Region.wanted o (yielded ops a.tmps) = true := by simp [Region.wanted, hgd]
  rw [if_pos hw]
  exact wp_ow_rows s x t e z size bytes ho ht hinf hzs hsz hs hown hB hy h1 hx hlen hlen2 h

theorem rows_one (ks : List IntKind) (r : List (List Int)) : ∀ u ∈ r.flatMap (fc ks), u.oneCell' = true := by
  intro u hu
  obtain ⟨q, _, hq⟩ := List.mem_flatMap.1 hu
  exact fc_one ks q u hq
theorem below_grown_own_ {w0 w w' : World} {e : TypeId} {size n : Nat} {v : Value} {xs : List Value} (h : Below w0.heap.size w0 w) (hg : w.grownBy w' v.ownBlock) (ho : Ow w0.heap.size w e size v n xs) : Below w0.heap.size w0 w' :=
  h.grown hg h.size (fun k hk => ho.blk_lt k hk)
theorem Ow.sl_ {B : Nat} {w : World} {e : TypeId} {size n : Nat} {v : Value} {xs : List Value} (h : Ow B w e size v n xs) : ∃ A c, v = .slice A n c := by
  obtain ⟨A, c, hv, _⟩ := h.clip; exact ⟨A, c, hv⟩
/-- Rows in a new block read as they were written. -/
theorem Rd.lits (w : World) (e : TypeId) (size n : Nat) (cs : List Value) (hl : cs.length = n * size) : Rd (w.alloc (.cells cs.toArray e)) size (.slice (some ⟨w.heap.size, 0, none⟩) n n) n cs := by
  have hk := Blk.new w e cs.toArray
  refine ⟨_, _, rfl, Nat.le_refl _, hl, .inr ⟨w.heap.size, 0, rfl, by simp, fun j u hu => ?_⟩⟩
  rw [Nat.zero_add, hk.cell]
  simpa using hu
/-- The slice value v of n rows, in a block of its own from B on, with the two rows ms behind them. -/
def Tw (B : Nat) (w : World) (e : TypeId) (size : Nat) (v : Value) (n : Nat) (xs ms : List Value) : Prop :=
  ∃ A c, v = .slice A n c ∧ n + 2 ≤ c ∧ xs.length = n * size ∧ Ow B w e size (.slice A (n + 2) c) (n + 2) (xs ++ ms)
theorem Tw.room {B : Nat} {w : World} {e : TypeId} {size n : Nat} {v : Value} {xs ms : List Value} (h : Tw B w e size v n xs ms) :
    ∃ g c, v = .slice (some ⟨g, 0, none⟩) n c ∧ n + 2 ≤ c ∧ B ≤ g ∧ g < w.heap.size ∧ (∀ j u, xs[j]? = some u → w.cell? ⟨g, j, none⟩ = some u) ∧ ∀ j u, ms[j]? = some u → w.cell? ⟨g, n * size + j, none⟩ = some u := by
  obtain ⟨A, c, rfl, hc, hl, h⟩ := h
  have hr := h.rd
  rcases h with ⟨_, h0, _⟩ | ⟨g, c', cur, hv, hB, hg, -⟩
  · omega
  injection hv with hA hn hc'
  subst hA
  obtain ⟨A', c2, hv2, hc2, hl2, h0 | ⟨g2, o2, hA2, hg2, hcell⟩⟩ := hr
  · omega
  injection hv2 with hA' _ _
  rw [← hA'] at hA2
  injection hA2 with hA2
  injection hA2 with hA3 hA4
  subst hA3; subst hA4
  refine ⟨g, c, rfl, hc, hB, hg.lt, fun j u hj => ?_, fun j u hj => ?_⟩
  · have := hcell j u (by rw [List.getElem?_append_left (by
      rcases Nat.lt_or_ge j xs.length with h | h
      · exact h
      · rw [List.getElem?_eq_none h] at hj; cases hj)]; exact hj)
    rwa [Nat.zero_add] at this
  · have := hcell (n * size + j) u (by rw [List.getElem?_append_right (by omega), hl, Nat.add_sub_cancel_left]; exact hj)
    rwa [Nat.zero_add] at this
theorem Tw.rd {B : Nat} {w : World} {e : TypeId} {size n : Nat} {v : Value} {xs ms : List Value} (h : Tw B w e size v n xs ms) : Rd w size v n xs := by
  have hl : xs.length = n * size := by obtain ⟨_, _, _, _, hl, _⟩ := h; exact hl
  obtain ⟨g, c, rfl, hc, _, hg, hx, _⟩ := h.room
  exact ⟨_, c, rfl, by omega, hl, .inr ⟨g, 0, rfl, hg, fun j u hj => by rw [Nat.zero_add]; exact hx j u hj⟩⟩
theorem Tw.below {B : Nat} {w w' : World} {e : TypeId} {size n : Nat} {v : Value} {xs ms : List Value} (h : Tw B w e size v n xs ms) (hb : Below w.heap.size w w') : Tw B w' e size v n xs ms := by
  obtain ⟨A, c, rfl, hc, hl, h⟩ := h
  exact ⟨A, c, rfl, hc, hl, h.below hb⟩
theorem Tw.mk_ {B : Nat} {w : World} {e : TypeId} {size n : Nat} {A : Option Addr} {c : Nat} {xs ms : List Value} (h : Ow B w e size (.slice A (n + 2) c) (n + 2) (xs ++ ms)) (hl : xs.length = n * size) : n + 2 ≤ c ∧ Tw B w e size (.slice A n c) n xs ms := by
  have hc : n + 2 ≤ c := by
    obtain ⟨A', c', hv, hc, _⟩ := h.rd
    injection hv with _ _ h3
    omega
  exact ⟨hc, A, c, rfl, hc, hl, h⟩
theorem Tw.le_ {B B' : Nat} {w : World} {e : TypeId} {size n : Nat} {v : Value} {xs ms : List Value} (h : Tw B w e size v n xs ms) (hb : B' ≤ B) : Tw B' w e size v n xs ms := by
  obtain ⟨A, c, rfl, hc, hl, h⟩ := h
  exact ⟨A, c, rfl, hc, hl, h.le hb⟩
theorem Tw.aside {B : Nat} {w : World} {e : TypeId} {size n : Nat} {v : Value} {xs ms : List Value} (h : Tw B w e size v n xs ms) {b t' : Nat} {cs' : Array Value} (hb : Blk w b t' cs') (hne : e ≠ t') (i : Nat) (u : Value) : Tw B (w.setCell ⟨b, i, none⟩ u) e size v n xs ms := by
  obtain ⟨A, c, rfl, hc, hl, h⟩ := h
  exact ⟨A, c, rfl, hc, hl, h.aside hb hne i u⟩
/-- Four cells stored. -/
def four (w : World) (b : Nat) (c0 c1 c2 c3 : Value) : World := (((w.setCell ⟨b, 0, none⟩ c0).setCell ⟨b, 1, none⟩ c1).setCell ⟨b, 2, none⟩ c2).setCell ⟨b, 3, none⟩ c3
theorem four_blk {w : World} {b t : Nat} {a0 a1 a2 a3 : Value} (hk : Blk w b t #[a0, a1, a2, a3]) (c0 c1 c2 c3 : Value) : Blk (four w b c0 c1 c2 c3) b t #[c0, c1, c2, c3] := by
  unfold four
  have := (((hk.set_ 0 c0).set_ 1 c1).set_ 2 c2).set_ 3 c3
  simpa using this
theorem four_tw {w : World} {b t : Nat} {a0 a1 a2 a3 : Value} (hk : Blk w b t #[a0, a1, a2, a3]) (c0 c1 c2 c3 : Value) {B : Nat} {e : TypeId} {size n : Nat} {v : Value} {xs ms : List Value} (h : Tw B w e size v n xs ms) (hne : e ≠ t) : Tw B (four w b c0 c1 c2 c3) e size v n xs ms :=
  (((h.aside hk hne 0 c0).aside (hk.set_ 0 c0) hne 1 c1).aside ((hk.set_ 0 c0).set_ 1 c1) hne 2 c2).aside (((hk.set_ 0 c0).set_ 1 c1).set_ 2 c2) hne 3 c3
theorem four_bel {W w : World} {b B : Nat} (h : Below B W w) (hb : B ≤ b) (c0 c1 c2 c3 : Value) : Below B W (four w b c0 c1 c2 c3) := (((h.setCell hb c0).setCell hb c1).setCell hb c2).setCell hb c3
/-- What a twin's own block is. -/
theorem Tw.own {B : Nat} {w : World} {e : TypeId} {size n : Nat} {v : Value} {xs ms : List Value} (h : Tw B w e size v n xs ms) : ∀ k, v.ownBlock = some k → B ≤ k := by
  obtain ⟨g, c, rfl, _, hB, _⟩ := h.room
  intro k hk
  simp [Value.ownBlock] at hk
  omega
end Go.Proofs.Ytenobcfgapolhaa
