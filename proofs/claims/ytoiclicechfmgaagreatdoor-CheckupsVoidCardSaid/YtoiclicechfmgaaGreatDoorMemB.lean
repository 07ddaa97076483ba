/- Appending to a slice in a block of its own, whatever room it has; a buffer of bytes, carried from append to append. -/
import Derived.Test.YtoiclicechfmgaaGreatDoorMem
import Derived.Laws.AppendOwnNone
import Derived.ArgAppend
namespace Go.Proofs.YtoiclicechfmgaaGreatDoor
open Go.RowKit

section
variable {P : Program}
theorem run_append_ow (w : World) (B : Nat) (t ty e : TypeId) (i : TypeInfo) (z : Value) (size bytes : Nat) (ht : P.underlying t = some (.slice e)) (hi : P.info? e = some i) (hz : i.zero = some z)
    (hsize : i.size = size) (hby : i.bytes = bytes) (hzs : z.cells.size = size) (hsz : 0 < size) (v : Value) (n : Nat) (xs : List Value) (h : Ow B w e size v n xs)
    (a : Addr) (m c : Nat) (news : List Value) (hl : news.length = m * size) (hnews : ∀ j u, news[j]? = some u → w.cell? (a.add j) = some u) (h1 : ∀ u ∈ news, u.oneCell' = true)
    (h63 : n + m ≤ maxLen) (hbytes : (n + m) * bytes ≤ 140737488355328) (hB : B ≤ w.heap.size) :
    ∃ v' w', (Builtin.append_ #[t, t] ty #[v, .slice (some a) m c]).run P w = .ok v' w' ∧ Ow B w' e size v' (n + m) (xs ++ news) ∧ w.grownBy w' v.ownBlock ∧ (v'.ownBlock = v.ownBlock ∨ ∀ k, v'.ownBlock = some k → w.heap.size ≤ k) := by
  rcases h with ⟨rfl, rfl, rfl⟩ | ⟨g, cap, cur, rfl, hBg, hg, hc, hlx, hs, ht'⟩
  · obtain ⟨v', w', hr, h2, h3, _⟩ := run_append_own (P := P) w w.heap.size t ty e i z size bytes ht hi hz hsize hby hzs hsz (.slice none 0 0) 0 [] (World.ownsRow_nil w _ e size) a m c news hl hnews h1 h63 hbytes (Nat.le_refl _)
    exact ⟨v', w', hr, (Ow.of_own h2).le hB, h3, .inr fun k hk => (h2.lt k hk).1⟩
  · by_cases hroom : n + m ≤ cap
    · subst hsize
      have hfit : n * i.size + news.length ≤ cur.size := by rw [hl, ← Nat.add_mul]; exact Nat.le_trans (Nat.mul_le_mul_right _ hroom) hs
      have hr := run_append_room (P := P) w t ty e i ht hi g n cap cur hg a m c news hl hnews h1 hroom hfit
      refine ⟨_, _, hr, .inr ⟨g, cap, _, rfl, hBg, setRow_heap w g cur _ e _ hg, hroom, ?_, ?_, ?_⟩, ⟨rfl, rfl, rfl, by simp, fun k hk hne => setRow_other w g k _ (fun e => hne (by simp [Value.ownBlock, e]))⟩, .inl rfl⟩
      · rw [List.length_append, hlx, hl, Nat.add_mul]
      · simp only [List.size_toArray, List.length_append, List.length_take, List.length_drop, Array.length_toList]
        omega
      · have hlen : (xs ++ news).length = (n + m) * i.size := by rw [List.length_append, hlx, hl, Nat.add_mul]
        rw [ht', ← hlen]
        exact List.take_left
    · have holds : ∀ j u, xs[j]? = some u → w.cell? ((⟨g, 0, none⟩ : Addr).add j) = some u := fun j u hu => by
        have hj : j < n * size := by
          rcases Nat.lt_or_ge j (n * size) with h | h
          · exact h
          · rw [List.getElem?_eq_none (by omega)] at hu; cases hu
        rw [← ht', List.getElem?_take, if_pos hj] at hu
        rw [Addr.add_lit, Nat.zero_add, hg.cell]
        simpa using hu
      obtain ⟨v', w', hr, h2, h3⟩ := run_append_arg_grows (P := P) w t ty e i z size bytes ht hi hz hsize hby hzs hsz ⟨g, 0, none⟩ n cap xs hlx holds a m c news hl hnews (by omega) h63 hbytes
      exact ⟨v', w', hr, (Ow.of_own h2).le hB, ⟨h3.os, h3.tape, h3.output, h3.size, fun k hk _ => h3.block k hk (by simp)⟩, .inr fun k hk => (h2.lt k hk).1⟩

theorem run_append_ow_none (w : World) (B : Nat) (t ty e : TypeId) (i : TypeInfo) (size : Nat) (ht : P.underlying t = some (.slice e)) (hi : P.info? e = some i)
    (v : Value) (n : Nat) (xs : List Value) (h : Ow B w e size v n xs) :
    (Builtin.append_ #[t, t] ty #[v, .slice none 0 0]).run P w = .ok v w := by
  rcases h with ⟨rfl, rfl, rfl⟩ | ⟨g, cap, cur, rfl, _, _, hnc, _⟩
  · simp [Builtin.append_, run_underlying ht, sizeOf, typeInfo, hi, Builtin.lenOf, Builtin.firstCells]
  · simp [Builtin.append_, run_underlying ht, sizeOf, typeInfo, hi, Builtin.lenOf, Builtin.firstCells, hnc, storeCells]
end

theorem byt_info : (Tryz.prog.info? 5).map (fun i => (i.zero, i.size, i.bytes)) = some (some (.int .u8 0), 1, 1) := by kernel_rfl

def byt (c : Int) : Prop := 0 ≤ c ∧ c ≤ 255
/-- Bytes' cells. -/
def bc (xs : List Int) : List Value := xs.map (.int .u8 ·)
@[simp] theorem bc_len (xs : List Int) : (bc xs).length = xs.length := by simp [bc]
theorem bc_append (xs ys : List Int) : bc (xs ++ ys) = bc xs ++ bc ys := by simp [bc]
theorem bc_one (xs : List Int) : ∀ u ∈ bc xs, u.oneCell' = true := by
  intro u hu
  obtain ⟨x, _, rfl⟩ := List.mem_map.1 hu
  rfl
/-- The slice value v reads as these bytes. -/
def Bs (w : World) (v : Value) (xs : List Int) : Prop := Rd w 1 v xs.length (bc xs)
theorem Bs.below {w w' : World} {v : Value} {xs : List Int} (h : Bs w v xs) (hb : Below w.heap.size w w') : Bs w' v xs := Rd.below h hb
/-- .. in a block of its own from B on. -/
def Bo (B : Nat) (w : World) (v : Value) (xs : List Int) : Prop := Ow B w 5 1 v xs.length (bc xs)
theorem Bo.bs {B : Nat} {w : World} {v : Value} {xs : List Int} (h : Bo B w v xs) : Bs w v xs := Ow.rd h
theorem Bo.below {B : Nat} {w w' : World} {v : Value} {xs : List Int} (h : Bo B w v xs) (hb : Below w.heap.size w w') : Bo B w' v xs := Ow.below h hb
theorem Bo.le {B B' : Nat} {w : World} {v : Value} {xs : List Int} (h : Bo B w v xs) (hb : B' ≤ B) : Bo B' w v xs := Ow.le h hb
theorem Bo.nil_ (B : Nat) (w : World) : Bo B w (.slice none 0 0) [] := .inl ⟨rfl, rfl, rfl⟩
theorem Bo.clip {B : Nat} {w : World} {v : Value} {xs : List Int} (h : Bo B w v xs) : ∃ A c, v = .slice A xs.length c ∧ xs.length ≤ c ∧ Bo B w (.slice A xs.length xs.length) xs := Ow.clip h

/-- A buffer: bytes of its own from B on; below B nothing has turned since W0. -/
structure Bf (B : Nat) (W0 w : World) (v : Value) (xs : List Int) : Prop where
  own : Bo B w v xs
  bel : Below B W0 w
  le : B ≤ w.heap.size
theorem Ow.blk_lt {w : World} {B e size n : Nat} {v : Value} {xs : List Value} (h : Ow B w e size v n xs) : ∀ k, v.ownBlock = some k → B ≤ k := by
  intro k hk
  rcases h with ⟨rfl, _⟩ | ⟨g, cap, cur, rfl, hb, _⟩
  · simp [Value.ownBlock] at hk
  · simp [Value.ownBlock] at hk; omega
theorem Bf.grown {B : Nat} {W0 w w' : World} {v v' : Value} {xs xs' : List Int} (h : Bf B W0 w v xs) (ho : Bo B w' v' xs') (hg : w.grownBy w' v.ownBlock) : Bf B W0 w' v' xs' :=
  ⟨ho, h.bel.grown hg h.le (fun k hk => Ow.blk_lt h.own k hk), Nat.le_trans h.le hg.size⟩
theorem Bf.below {B : Nat} {W0 w w' : World} {v : Value} {xs : List Int} (h : Bf B W0 w v xs) (hb : Below w.heap.size w w') : Bf B W0 w' v xs :=
  ⟨h.own.below hb, h.bel.trans (hb.mono h.le), Nat.le_trans h.le hb.size⟩
theorem Bf.alloc {B : Nat} {W0 w : World} {v : Value} {xs : List Int} (h : Bf B W0 w v xs) (o : Obj) : Bf B W0 (w.alloc o) v xs := h.below (below_alloc_ w o)

/-- A block of another type is no row's own. -/
theorem Ow.notat {w : World} {B e size n g : Nat} {t : TypeId} {v : Value} {xs : List Value} {cs : Array Value} (h : Ow B w e size v n xs) (hk : Blk w g t cs) (hne : t ≠ e) : v.ownBlock ≠ some g := by
  rcases h with ⟨rfl, _⟩ | ⟨g', cap, cur, rfl, _, hg', _⟩
  · simp [Value.ownBlock]
  · intro hh
    simp [Value.ownBlock] at hh
    exact hk.ne_ hg' hne hh.symm
/-- What an append to v turns: v's own block alone; the new value lies there, or in a new block. -/
def Grew (w w' : World) (v v' : Value) : Prop := w.grownBy w' v.ownBlock ∧ (v'.ownBlock = v.ownBlock ∨ ∀ k, v'.ownBlock = some k → w.heap.size ≤ k)
theorem Grew.same (w : World) (v : Value) : Grew w w v v := ⟨grown_refl_ _ _, .inl rfl⟩
theorem Grew.of_ {w0 w w' : World} {v v' : Value} (hb : Below w0.heap.size w0 w) (h : w.grownBy w' v.ownBlock) (h2 : v'.ownBlock = v.ownBlock ∨ ∀ k, v'.ownBlock = some k → w.heap.size ≤ k) : Grew w0 w' v v' :=
  ⟨below_then_grown_ hb h, h2.imp id fun h k hk => Nat.le_trans hb.size (h k hk)⟩

/-- 'buf = append(buf, c)'. -/
theorem wpList_bf_byteK {ops : Array Oper} {rest : List Oper} {o : Oper} {a : Act} {Q : Exit → Act → World → Prop} (hgd : o.guard = none) (s x : Operand) (t : TypeId)
    (ho : o.op = .call { callee := .builtin .append, args := #[s, x], argTypes := #[t, t] }) (ht : Tryz.prog.underlying t = some (.slice 5))
    {B : Nat} {v : Value} {xs : List Int} (hs : a.eval s = v) {W0 w0 : World} {c : Int} (hb : Bf B W0 w0 v xs)
    (hx : a.eval x = .slice (some ⟨w0.heap.size, 0, none⟩) 1 1) (hlen : xs.length + 1 ≤ 140737488355328)
    (h : ∀ v' w', Bf B W0 w' v' (xs ++ [c]) → Grew w0 w' v v' → wpList Tryz.prog ops Q rest (a.put o.dst v') w') : wpList Tryz.prog ops Q (o :: rest) a (w0.alloc (.cells #[.int .u8 c] 5)) := by
  refine wpList_plain hgd fun K hK => ?_
  obtain ⟨i0, hi, hz0, hz1, hz2⟩ := info_parts byt_info
  have hb' := hb.alloc (.cells #[.int .u8 c] 5)
  obtain ⟨v', w', hr, h2, h3, h4⟩ := run_append_ow (P := Tryz.prog) _ B t o.type 5 i0 (.int .u8 0) 1 1 ht hi hz0 hz1 hz2 rfl (by decide) v _ _ hb'.own ⟨w0.heap.size, 0, none⟩ 1 1 [.int .u8 c] rfl (by
    intro j u hj
    match j, hj with
    | 0, hj => simp at hj; subst hj; simp [Addr.add]
    | (j + 1), hj => simp at hj) (by simp [Value.oneCell']) (by unfold maxLen; omega) (by omega) hb'.le
  unfold Oper.wp
  simp [execOp, ho, resolve, invoke, builtin, hs, hx, hr, Result.andThen]
  refine hK _ _ (h v' w' (hb'.grown ?_ h3) (Grew.of_ (below_alloc_ _ _) h3 h4))
  unfold Bo
  rw [bc_append, List.length_append]
  exact h2

/-- 'buf = append(buf, xs...)', the operation alone. -/
theorem wp_bf_bytesK {o : Oper} {a : Act} {K : Act → World → Prop} {Q : Exit → Act → World → Prop} (s x : Operand) (t : TypeId)
    (ho : o.op = .call { callee := .builtin .append, args := #[s, x], argTypes := #[t, t] }) (ht : Tryz.prog.underlying t = some (.slice 5))
    {B : Nat} {v : Value} {xs : List Int} (hs : a.eval s = v) {W0 w0 : World} {y : Value} {ys : List Int} (hb : Bf B W0 w0 v xs) (hy : Bs w0 y ys)
    (hx : a.eval x = y) (hlen : xs.length + ys.length ≤ 140737488355328)
    (h : ∀ v' w', Bf B W0 w' v' (xs ++ ys) → Grew w0 w' v v' → K (a.put o.dst v') w') : Oper.wp Tryz.prog o a w0 K Q := by
  obtain ⟨i0, hi, hz0, hz1, hz2⟩ := info_parts byt_info
  obtain ⟨A, c, rfl, hc, hl, hh⟩ := hy
  cases A with
  | none =>
    rcases hh with h0 | ⟨g, o', hA, _⟩
    · have hys : ys = [] := List.eq_nil_of_length_eq_zero h0
      subst hys
      rcases Nat.eq_zero_or_pos c with rfl | hcp
      · have hr := run_append_ow_none (P := Tryz.prog) w0 B t o.type 5 i0 1 ht hi v _ _ hb.own
        unfold Oper.wp
        simp [execOp, ho, resolve, invoke, builtin, hs, hx, hr, Result.andThen]
        exact (h v w0 (by rw [List.append_nil]; exact hb) (Grew.same _ _))
      · rcases hb.own with ⟨rfl, h0, hx0⟩ | ⟨g, cap, cur, rfl, hBg, hg, hcc, _⟩
        · have hr : (Builtin.append_ #[t, t] o.type #[.slice none 0 0, .slice none 0 c]).run Tryz.prog w0 = .ok (.slice none 0 0) w0 := by simp [Builtin.append_, run_underlying ht, sizeOf, typeInfo, hi, Builtin.lenOf, Builtin.firstCells]
          unfold Oper.wp
          simp [execOp, ho, resolve, invoke, builtin, hs, hx, hr, Result.andThen]
          exact (h _ w0 (by rw [List.append_nil]; exact hb) (Grew.same _ _))
        · have hr : (Builtin.append_ #[t, t] o.type #[.slice (some ⟨g, 0, none⟩) xs.length cap, .slice none 0 c]).run Tryz.prog w0 = .ok (.slice (some ⟨g, 0, none⟩) xs.length cap) w0 := by simp [Builtin.append_, run_underlying ht, sizeOf, typeInfo, hi, Builtin.lenOf, Builtin.firstCells, hcc, storeCells]
          unfold Oper.wp
          simp [execOp, ho, resolve, invoke, builtin, hs, hx, hr, Result.andThen]
          exact (h _ w0 (by rw [List.append_nil]; exact hb) (Grew.same _ _))
    · cases hA
  | some ad =>
    have hnews : ∀ j u, (bc ys)[j]? = some u → w0.cell? (ad.add j) = some u := by
      intro j u hj
      rcases hh with h0 | ⟨g, o', hA, hg, hcell⟩
      · have hys : ys = [] := List.eq_nil_of_length_eq_zero h0
        subst hys
        rw [show bc [] = ([] : List Value) from rfl, List.getElem?_nil] at hj
        cases hj
      · obtain rfl : ad = ⟨g, o', none⟩ := Option.some.inj hA
        rw [Addr.add_lit]
        exact hcell j u hj
    obtain ⟨v', w', hr, h2, h3, h4⟩ := run_append_ow (P := Tryz.prog) w0 B t o.type 5 i0 (.int .u8 0) 1 1 ht hi hz0 hz1 hz2 rfl (by decide) v _ _ hb.own ad ys.length c (bc ys) (by simp) hnews (bc_one _) (by unfold maxLen; omega) (by omega) hb.le
    unfold Oper.wp
    simp [execOp, ho, resolve, invoke, builtin, hs, hx, hr, Result.andThen]
    refine (h v' w' (hb.grown ?_ h3) (Grew.of_ (Below.refl _ _) h3 h4))
    unfold Bo
    rw [bc_append, List.length_append]
    exact h2
/-- 'buf = append(buf, xs...)'. -/
theorem wpList_bf_bytesK {ops : Array Oper} {rest : List Oper} {o : Oper} {a : Act} {Q : Exit → Act → World → Prop} (hgd : o.guard = none) (s x : Operand) (t : TypeId)
    (ho : o.op = .call { callee := .builtin .append, args := #[s, x], argTypes := #[t, t] }) (ht : Tryz.prog.underlying t = some (.slice 5))
    {B : Nat} {v : Value} {xs : List Int} (hs : a.eval s = v) {W0 w0 : World} {y : Value} {ys : List Int} (hb : Bf B W0 w0 v xs) (hy : Bs w0 y ys)
    (hx : a.eval x = y) (hlen : xs.length + ys.length ≤ 140737488355328)
    (h : ∀ v' w', Bf B W0 w' v' (xs ++ ys) → Grew w0 w' v v' → wpList Tryz.prog ops Q rest (a.put o.dst v') w') : wpList Tryz.prog ops Q (o :: rest) a w0 := by
  exact wpList_plain hgd fun K hK => wp_bf_bytesK s x t ho ht hs hb hy hx hlen fun v' w' h1 h2 => hK _ _ (h v' w' h1 h2)
/-- The same, as one step of a region that draws. -/
theorem step_bf_bytes {ops : Array Oper} {o : Oper} {a : Act} {K : Act → World → Prop} {E : Prop} {Q : Exit → Act → World → Prop} (hgd : o.guard = none) (s x : Operand) (t : TypeId)
    (ho : o.op = .call { callee := .builtin .append, args := #[s, x], argTypes := #[t, t] }) (ht : Tryz.prog.underlying t = some (.slice 5))
    {B : Nat} {v : Value} {xs : List Int} (hs : a.eval s = v) {W0 w0 : World} {y : Value} {ys : List Int} (hb : Bf B W0 w0 v xs) (hy : Bs w0 y ys)
    (hx : a.eval x = y) (hlen : xs.length + ys.length ≤ 140737488355328)
    (h : ∀ v' w', Bf B W0 w' v' (xs ++ ys) → Grew w0 w' v v' → K (a.put o.dst v') w') :
    if Region.wanted o (yielded ops a.tmps) = true then Oper.wp Tryz.prog o a w0 K Q else E := by
  have hw : Region.wanted o (yielded ops a.tmps) = true := by simp [Region.wanted, hgd]
  rw [if_pos hw]
  exact wp_bf_bytesK s x t ho ht hs hb hy hx hlen h
theorem wpList_bf_byte {ops : Array Oper} {rest : List Oper} {o : Oper} {a : Act} {Q : Exit → Act → World → Prop} (hgd : o.guard = none) (s x : Operand) (t : TypeId)
    (ho : o.op = .call { callee := .builtin .append, args := #[s, x], argTypes := #[t, t] }) (ht : Tryz.prog.underlying t = some (.slice 5))
    {B : Nat} {v : Value} {xs : List Int} (hs : a.eval s = v) {W0 w0 : World} {c : Int} (hb : Bf B W0 w0 v xs)
    (hx : a.eval x = .slice (some ⟨w0.heap.size, 0, none⟩) 1 1) (hlen : xs.length + 1 ≤ 140737488355328)
    (h : ∀ v' w', Bf B W0 w' v' (xs ++ [c]) → wpList Tryz.prog ops Q rest (a.put o.dst v') w') : wpList Tryz.prog ops Q (o :: rest) a (w0.alloc (.cells #[.int .u8 c] 5)) :=
  wpList_bf_byteK hgd s x t ho ht hs hb hx hlen fun v' w' h1 _ => h v' w' h1
theorem wpList_bf_bytes {ops : Array Oper} {rest : List Oper} {o : Oper} {a : Act} {Q : Exit → Act → World → Prop} (hgd : o.guard = none) (s x : Operand) (t : TypeId)
    (ho : o.op = .call { callee := .builtin .append, args := #[s, x], argTypes := #[t, t] }) (ht : Tryz.prog.underlying t = some (.slice 5))
    {B : Nat} {v : Value} {xs : List Int} (hs : a.eval s = v) {W0 w0 : World} {y : Value} {ys : List Int} (hb : Bf B W0 w0 v xs) (hy : Bs w0 y ys)
    (hx : a.eval x = y) (hlen : xs.length + ys.length ≤ 140737488355328)
    (h : ∀ v' w', Bf B W0 w' v' (xs ++ ys) → wpList Tryz.prog ops Q rest (a.put o.dst v') w') : wpList Tryz.prog ops Q (o :: rest) a w0 :=
  wpList_bf_bytesK hgd s x t ho ht hs hb hy hx hlen fun v' w' h1 _ => h v' w' h1
theorem Bo.sl {B : Nat} {w : World} {v : Value} {xs : List Int} (h : Bo B w v xs) : ∃ A n c, v = .slice A n c := by
  obtain ⟨A, c, hv, _⟩ := h.clip; exact ⟨A, _, c, hv⟩
theorem Bo.lt {B : Nat} {w : World} {v : Value} {xs : List Int} (h : Bo B w v xs) : ∀ k, v.ownBlock = some k → k < w.heap.size := by
  intro k hk
  rcases h with ⟨rfl, _⟩ | ⟨g, cap, cur, rfl, _, hg, _⟩
  · simp [Value.ownBlock] at hk
  · simp [Value.ownBlock] at hk; subst hk; exact hg.lt
/-- 'out = append(out, x)', x a struct of cells 'news'. -/
theorem wpList_ow {ops : Array Oper} {rest : List Oper} {o : Oper} {a : Act} {Q : Exit → Act → World → Prop} (hgd : o.guard = none) (s x : Operand) (t e : TypeId) (z : Value) (size bytes : Nat)
    (ho : o.op = .call { callee := .builtin .append, args := #[s, x], argTypes := #[t, t] }) (ht : Tryz.prog.underlying t = some (.slice e))
    (hinf : (Tryz.prog.info? e).map (fun i => (i.zero, i.size, i.bytes)) = some (some z, size, bytes)) (hzs : z.cells.size = size) (hsz : 0 < size)
    {B n : Nat} {v : Value} {xs : List Value} (hs : a.eval s = v) {w0 : World} (news : Array Value) (hown : Ow B w0 e size v n xs) (hB : B ≤ w0.heap.size) (hnl : news.size = size) (h1 : ∀ u ∈ news.toList, u.oneCell' = true)
    (hx : a.eval x = .slice (some ⟨w0.heap.size, 0, none⟩) 1 1) (hlen : (n + 1) * bytes ≤ 140737488355328) (hlen2 : n + 1 ≤ maxLen)
    (h : ∀ v' w', Ow B w' e size v' (n + 1) (xs ++ news.toList) → Grew w0 w' v v' → wpList Tryz.prog ops Q rest (a.put o.dst v') w') : wpList Tryz.prog ops Q (o :: rest) a (w0.alloc (.cells news e)) := by
  refine wpList_plain hgd fun K hK => ?_
  obtain ⟨i0, hi, hz0, hz1, hz2⟩ := info_parts hinf
  have hown' := hown.below (below_alloc_ w0 (.cells news e))
  have hk := Blk.new w0 e news
  obtain ⟨v', w', hr, h2, h3, h4⟩ := run_append_ow (P := Tryz.prog) _ B t o.type e i0 z size bytes ht hi hz0 hz1 hz2 hzs hsz v _ _ hown' ⟨w0.heap.size, 0, none⟩ 1 1 news.toList (by simp [hnl]) (by
    intro j u hj
    rw [Addr.add_lit, Nat.zero_add, hk.cell]
    simpa using hj) h1 hlen2 hlen (by simp; omega)
  unfold Oper.wp
  simp [execOp, ho, resolve, invoke, builtin, hs, hx, hr, Result.andThen]
  exact hK _ _ (h v' w' h2 (Grew.of_ (below_alloc_ _ _) h3 h4))
end Go.Proofs.YtoiclicechfmgaaGreatDoor
