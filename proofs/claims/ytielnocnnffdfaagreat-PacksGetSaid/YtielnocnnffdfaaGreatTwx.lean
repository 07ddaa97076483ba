/- law01: a twin of bytes, with the room that it has. -/
import Derived.Test.YtielnocnnffdfaaGreatTwb
namespace Go.Proofs.YtielnocnnffdfaaGreat
open Go.RowKit

/-- 'out = append(out, xs...)' where there is room. -/
theorem wp_ow_room {o : Oper} {a : Act} {K : Act → World → Prop} {Q : Exit → Act → World → Prop} (s x : Operand) (t e : TypeId) (z : Value) (size bytes : Nat)
    (ho : o.op = .call { callee := .builtin .append, args := #[s, x], argTypes := #[t, t] }) (ht : Tryz.prog.underlying t = some (.slice e))
    (hinf : (Tryz.prog.info? e).map (fun i => (i.zero, i.size, i.bytes)) = some (some z, size, bytes))
    {B n m cap g : Nat} {y : Value} {xs ys : List Value} (hs : a.eval s = .slice (some ⟨g, 0, none⟩) n cap) {w0 : World} (hown : Ow B w0 e size (.slice (some ⟨g, 0, none⟩) n cap) n xs) (hy : Rd w0 size y m ys) (h1 : ∀ u ∈ ys, u.oneCell' = true)
    (hx : a.eval x = y) (hroom : n + m ≤ cap)
    (h : ∀ w', Ow B w' e size (.slice (some ⟨g, 0, none⟩) (n + m) cap) (n + m) (xs ++ ys) → w0.grownBy w' (some g) → K (a.put o.dst (.slice (some ⟨g, 0, none⟩) (n + m) cap)) w') : Oper.wp Tryz.prog o a w0 K Q := by
  obtain ⟨i0, hi, hz0, hz1, hz2⟩ := info_parts hinf
  obtain ⟨A, c, rfl, hc, hl, hh⟩ := hy
  rcases id hown with ⟨hv, _⟩ | ⟨g', c', cur, hv, hBg, hg, hcc, hlx, hsz, htk⟩
  · cases hv
  injection hv with e1 e2 e3
  injection e1 with e1
  injection e1 with e1
  subst e1; subst e3
  cases A with
  | none =>
    rcases hh with h0 | ⟨g2, o', hA, _⟩
    · subst h0
      have hys : ys = [] := List.eq_nil_of_length_eq_zero (by simpa using hl)
      subst hys
      have hr : (Builtin.append_ #[t, t] o.type #[.slice (some ⟨g, 0, none⟩) n cap, .slice none 0 c]).run Tryz.prog w0 = .ok (.slice (some ⟨g, 0, none⟩) n cap) w0 := by
        simp [Builtin.append_, run_underlying ht, sizeOf, typeInfo, hi, Builtin.lenOf, Builtin.firstCells, hcc, storeCells]
      unfold Oper.wp
      simp [execOp, ho, resolve, invoke, builtin, hs, hx, hr, Result.andThen]
      exact h w0 (by rw [List.append_nil]; exact hown) (grown_refl_ _ _)
    · cases hA
  | some ad =>
    have hnews : ∀ j u, ys[j]? = some u → w0.cell? (ad.add j) = some u := by
      intro j u hj
      rcases hh with h0 | ⟨g2, o', hA, hg2, hcell⟩
      · subst h0
        have hys : ys = [] := List.eq_nil_of_length_eq_zero (by simpa using hl)
        subst hys
        cases hj
      · obtain rfl : ad = ⟨g2, o', none⟩ := Option.some.inj hA
        rw [Addr.add_lit]
        exact hcell j u hj
    subst hz1
    have hfit : n * i0.size + ys.length ≤ cur.size := by rw [hl, ← Nat.add_mul]; exact Nat.le_trans (Nat.mul_le_mul_right _ hroom) hsz
    have hr := run_append_room (P := Tryz.prog) w0 t o.type e i0 ht hi g n cap cur hg ad m c ys hl hnews h1 hroom hfit
    unfold Oper.wp
    simp [execOp, ho, resolve, invoke, builtin, hs, hx, hr, Result.andThen]
    refine h _ (.inr ⟨g, cap, _, rfl, hBg, setRow_heap w0 g cur _ e _ hg, hroom, ?_, ?_, ?_⟩) ⟨rfl, rfl, rfl, by simp, fun k hk hne => setRow_other w0 g k _ (fun e => hne (by rw [e]))⟩
    · rw [List.length_append, hlx, hl, Nat.add_mul]
    · simp only [List.size_toArray, List.length_append, List.length_take, List.length_drop, Array.length_toList]
      omega
    · have hlen : (xs ++ ys).length = (n + m) * i0.size := by rw [List.length_append, hlx, hl, Nat.add_mul]
      rw [htk, ← hlen]
      show List.take _ (xs ++ (ys ++ _)) = _
      rw [← List.append_assoc]
      exact List.take_left
theorem wpList_ow_room {ops : Array Oper} {rest : List Oper} {o : Oper} {a : Act} {Q : Exit → Act → World → Prop} (hgd : o.guard = none) (s x : Operand) (t e : TypeId) (z : Value) (size bytes : Nat)
    (ho : o.op = .call { callee := .builtin .append, args := #[s, x], argTypes := #[t, t] }) (ht : Tryz.prog.underlying t = some (.slice e))
    (hinf : (Tryz.prog.info? e).map (fun i => (i.zero, i.size, i.bytes)) = some (some z, size, bytes))
    {B n m cap g : Nat} {y : Value} {xs ys : List Value} (hs : a.eval s = .slice (some ⟨g, 0, none⟩) n cap) {w0 : World} (hown : Ow B w0 e size (.slice (some ⟨g, 0, none⟩) n cap) n xs) (hy : Rd w0 size y m ys) (h1 : ∀ u ∈ ys, u.oneCell' = true)
    (hx : a.eval x = y) (hroom : n + m ≤ cap)
    (h : ∀ w', Ow B w' e size (.slice (some ⟨g, 0, none⟩) (n + m) cap) (n + m) (xs ++ ys) → w0.grownBy w' (some g) → wpList Tryz.prog ops Q rest (a.put o.dst (.slice (some ⟨g, 0, none⟩) (n + m) cap)) w') : wpList Tryz.prog ops Q (o :: rest) a w0 :=
  wpList_plain hgd fun _ hK => wp_ow_room s x t e z size bytes ho ht hinf hs hown hy h1 hx hroom fun w' h1 h2 => hK _ _ (h w' h1 h2)
set_option maxHeartbeats 2000000 in
set_option maxRecDepth 100000 in
theorem twin_bytec (v : Value) (r : List Int) (w : World) (hv : Bs w v r) (hn : r.length ≤ 1000000) :
    Calls Tryz.prog 30 #[v, .int .u8 195] w fun e w' => ∃ g, e = .returned (.slice (some ⟨g, 0, none⟩) r.length (r.length + 2)) ∧ Tw w.heap.size w' 5 1 (.slice (some ⟨g, 0, none⟩) r.length (r.length + 2)) r.length (bc r) [.int .u8 195, .int .u8 195] ∧ Below w.heap.size w w' := by
  obtain ⟨i0, hi, hz0, hz1, hz2⟩ := info_parts byt_info
  have hcl : (bc r).length = r.length * 1 := (by simp)
  have H1 := Lib.hid (bc_one r)
  have HL := Lib.hid hcl
  obtain ⟨A, c, rfl, -⟩ := id hv
  obtain ⟨cs, hcs⟩ : ∃ cs, cs = (bc r) := ⟨_, rfl⟩
  rw [← hcs] at HL H1 ⊢
  have hv' : Rd w 1 (.slice A r.length c) r.length cs := by rw [hcs]; exact hv
  clear hv hcl
  obtain ⟨n, hnn⟩ : ∃ n, n = r.length := ⟨_, rfl⟩
  rw [← hnn] at hv' hn HL ⊢
  have hn' : (n : Int) ≤ 1000000 := by omega
  have HV := Lib.hid hv'
  clear hv' hcs hnn
  go_enter Tryz.func30, Tryz.ntmps30
  go_upto_region 2 with (at_make; refine wpList_make_own _ rfl _ _ 22 rfl w.heap.size 5 i0 (.int .u8 0) 1 Tryz.underlying22 hi hz0 hz1 .i64 .i64 _ (n + 2) rfl rfl (by simp) (by rw [hz2]; omega) (by unfold maxLen; omega) (by simp) ?_; intro w1 ho1 hg1)
  have O1 := Lib.hid ((Ow.of_own ho1).le (B' := w.heap.size) (by omega))
  have B1 := Lib.hid (below_of_grown_ hg1)
  have HV1 := Lib.hid (HV.out.below (below_of_grown_ hg1))
  clear ho1 hg1
  go_upto_region 3 with (at_builtin; refine wpList_ow_room (n := 0) (m := n) (cap := n + 2) rfl _ _ 22 5 (.int .u8 0) 1 1 rfl Tryz.underlying22 byt_info rfl O1.out HV1.out H1.out rfl (by omega) ?_; intro w2 ho2 hg2)
  have B2 := Lib.hid (below_grown_own_ B1.out hg2 O1.out)
  have O2 := Lib.hid ho2
  clear ho2 hg2 O1 B1 HV1
  rw [Nat.zero_add, List.nil_append] at O2
  go_wp2_with (at_builtin; refine wpList_ow_room (n := n) (m := 2) (cap := n + 2) rfl _ _ 22 5 (.int .u8 0) 1 1 rfl Tryz.underlying22 byt_info rfl (O2.out.below (below_alloc_ w2 (.cells #[.int .u8 195, .int .u8 195] 5))) (Rd.lits w2 5 1 2 [.int .u8 195, .int .u8 195] rfl) (by decide) rfl (Nat.le_refl _) ?_; intro w3 ho3 hg3)
  have B3 := Lib.hid (below_grown_own_ (B2.out.trans ((below_alloc_ w2 (.cells #[.int .u8 195, .int .u8 195] 5)).mono B2.out.size)) hg3 (O2.out.below (below_alloc_ w2 (.cells #[.int .u8 195, .int .u8 195] 5))))
  obtain ⟨hc3, ht⟩ := Tw.mk_ ho3 HL.out
  have T3 := Lib.hid ht
  clear ho3 hg3 ht O2 B2
  have hc3' : (n : Int) ≤ (n : Int) + 2 := by omega
  go_wp2
  go_ret
  exact ⟨_, rfl, T3.out, B3.out⟩
theorem Twin_bytec (v : Value) (r : List Int) (w : World) (hv : Bs w v r) (hn : r.length ≤ 1000000) :
    Calls Tryz.prog 5 #[v] w fun e w' => ∃ g, e = .returned (.slice (some ⟨g, 0, none⟩) r.length (r.length + 2)) ∧ Tw w.heap.size w' 5 1 (.slice (some ⟨g, 0, none⟩) r.length (r.length + 2)) r.length (bc r) [.int .u8 195, .int .u8 195] ∧ Below w.heap.size w w' := by
  have C := Lib.hid (twin_bytec v r w hv hn)
  obtain ⟨A, c, rfl, -⟩ := id hv
  clear hv
  go_enter Tryz.func5, Tryz.ntmps5
  go_wp2_with fail
  refine C.out.mono ?_
  rintro e w1 ⟨g1, rfl, hT, hB⟩
  have T1 := Lib.hid hT
  have B1 := Lib.hid hB
  clear hT hB
  go_wp2
  go_ret
  exact ⟨g1, rfl, T1.out, B1.out⟩
end Go.Proofs.YtielnocnnffdfaaGreat
