/- frames.Read: all frames of bytes, in a slice. -/
import Derived.Test.YtglghlfmjokgdaaDoorRdf
namespace Go.Proofs.YtglghlfmjokgdaaDoor
open Go.RowKit Go.Shelf
attribute [local go_sem] Oper.semAt_some

theorem sl_info : (Tryd.prog.info? 23).map (fun i => (i.zero, i.size, i.bytes)) = some (some (.slice none 0 0), 1, 24) := by kernel_rfl

theorem lclip_any (A : Option Addr) (n c : Nat) (w : World) (hc : n ≤ c) (hn : n ≤ 4611686018427387904) :
    Calls Tryd.prog 105 #[.slice A n c] w fun e w' => e = .returned (.slice A n n) ∧ w = w' := by
  have h1 : (n : Int) ≤ (c : Int) := by omega
  have h2 : (n : Int) ≤ 4611686018427387904 := by omega
  have h3 : ¬ (c : Int) < (n : Int) := by omega
  go_enter Tryd.func105, Tryd.ntmps105
  go_wp2
  go_ret
  exact ⟨by cases A <;> simp, rfl⟩

/-- 'out = append(out, x)' inside a fence. -/
theorem wpListIn_ow {F : Fence} {m : Nat} {ops : Array Oper} {rest : List Oper} {o : Oper} {a : Act} {Q : Exit → Act → World → Prop} (hgd : o.guard = none) (s x : Operand) (t e : TypeId) (z : Value) (size bytes : Nat)
    (ho : o.op = .call { callee := .builtin .append, args := #[s, x], argTypes := #[t, t] }) (ht : Tryd.prog.underlying t = some (.slice e))
    (hinf : (Tryd.prog.info? e).map (fun i => (i.zero, i.size, i.bytes)) = some (some z, size, bytes)) (hzs : z.cells.size = size) (hsz : 0 < size)
    {B n : Nat} {v : Value} {xs : List Value} (hs : a.eval s = v) {w0 : World} (news : Array Value) (hown : Ow B w0 e size v n xs) (hB : B ≤ w0.heap.size) (hnl : news.size = size) (h1 : ∀ u ∈ news.toList, u.oneCell' = true)
    (hx : a.eval x = .slice (some ⟨w0.heap.size, 0, none⟩) 1 1) (hlen : (n + 1) * bytes ≤ 140737488355328) (hlen2 : n + 1 ≤ maxLen)
    (h : ∀ v' w', Ow B w' e size v' (n + 1) (xs ++ news.toList) → Grew w0 w' v v' → wpListIn F m Tryd.prog ops Q rest (a.put o.dst v') w') : wpListIn F m Tryd.prog ops Q (o :: rest) a (w0.alloc (.cells news e)) := by
  refine wpListIn_plain hgd fun K hK => ?_
  obtain ⟨i0, hi, hz0, hz1, hz2⟩ := info_parts hinf
  have hown' := hown.below (below_alloc_ w0 (.cells news e))
  have hk := Blk.new w0 e news
  obtain ⟨v', w', hr, h2, h3, h4⟩ := run_append_ow (P := Tryd.prog) _ B t o.type e i0 z size bytes ht hi hz0 hz1 hz2 hzs hsz v _ _ hown' ⟨w0.heap.size, 0, none⟩ 1 1 news.toList (by simp [hnl]) (by
    intro j u hj
    rw [Addr.add_lit, Nat.zero_add, hk.cell]
    simpa using hj) h1 hlen2 hlen (by simp; omega)
  unfold Oper.wpIn
  refine ⟨?_, ?_⟩
  · simp [Oper.about, ho, resolve, Target.leads, Sem.run_pure]
  · rw [Oper.semAt_plain F _ _ (by rw [ho]; intro c hc'; cases hc')]
    simp [execOp, ho, resolve, invoke, builtin, hs, hx, hr, Result.andThen]
    exact hK _ _ (h v' w' h2 (Grew.of_ (below_alloc_ _ _) h3 h4))

/-- The bodies behind these, in the boxes N, N + 1. -/
def RdI (w1 : World) (pre : List Bod) (W : World) : Prop :=
  ∃ A c, Blk W w1.heap.size 74 #[.slice A pre.length c] ∧ Blk W (w1.heap.size + 1) 3 #[.int .i64 (lastTo pre : Nat)] ∧ Ow (w1.heap.size + 3) W 23 1 (.slice A pre.length c) pre.length (pre.map bodV) ∧ Below w1.heap.size w1 W ∧ w1.heap.size + 3 ≤ W.heap.size
theorem Blk.ownfrom {W W' : World} {g t B : Nat} {cs : Array Value} {row : Option Nat} (h : Blk W g t cs) (hg : W.grownBy W' row) (hr : ∀ r, row = some r → B ≤ r ∧ ∃ o : Obj, W.heap[r]? = some o ∧ o.isCells = false) : Blk W' g t cs := by
  refine h.grown hg fun e => ?_
  obtain ⟨_, o, ho, hc⟩ := hr _ e.symm
  unfold Blk at h
  rw [h] at ho; cases ho; cases hc
theorem Ow.ownfrom {W W' : World} {B0 t n B : Nat} {v : Value} {xs : List Value} {row : Option Nat} (h : Ow B0 W t 1 v n xs) (hg : W.grownBy W' row) (hr : ∀ r, row = some r → B ≤ r ∧ ∃ o : Obj, W.heap[r]? = some o ∧ o.isCells = false) : Ow B0 W' t 1 v n xs := by
  rcases h with h | ⟨g, c', cur, hv, hBg, hk, hh⟩
  · exact .inl h
  · exact .inr ⟨g, c', cur, hv, hBg, hk.ownfrom hg hr, hh⟩
theorem rdI_own {w1 : World} {B : Nat} (hB : w1.heap.size ≤ B) : OwnFrom B (RdI w1) := by
  rintro s W W' row ⟨A, c, k1, k2, h, b, hs⟩ hg hr
  exact ⟨A, c, k1.ownfrom hg hr, k2.ownfrom hg hr, h.ownfrom hg hr, b.grown hg b.size (fun j e => Nat.le_trans hB (hr j e).1), Nat.le_trans hs hg.size⟩

theorem Ow.row {B e size n : Nat} {w : World} {v : Value} {xs : List Value} (h : Ow B w e size v n xs) {k : Nat} (hk : v.ownBlock = some k) : B ≤ k ∧ ∃ cur, Blk w k e cur := by
  rcases h with ⟨rfl, _⟩ | ⟨g, cap, cur, rfl, hB, hg, _⟩
  · simp [Value.ownBlock] at hk
  · simp [Value.ownBlock] at hk
    subst hk
    exact ⟨hB, cur, hg⟩
theorem Blk.of_grew {B e size n g t : Nat} {W wx : World} {v v' : Value} {xs : List Value} {cs : Array Value} (hk : Blk W g t cs) (h : Ow B W e size v n xs) (hG : Grew W wx v v') (hne : t ≠ e ∨ g < B) : Blk wx g t cs := by
  refine hk.grown hG.1 fun e => ?_
  obtain ⟨h1, cur, h2⟩ := h.row e.symm
  rcases hne with hne | hne
  · exact Blk.ne_ hk h2 hne rfl
  · omega
theorem rdI_step {w1 W wx : World} {pre : List Bod} {x : Bod} {A A' : Option Addr} {c c' : Nat} (k1 : Blk W w1.heap.size 74 #[.slice A pre.length c]) (k2 : Blk W (w1.heap.size + 1) 3 #[.int .i64 (lastTo pre : Nat)])
    (h : Ow (w1.heap.size + 3) W 23 1 (.slice A pre.length c) pre.length (pre.map bodV)) (b : Below w1.heap.size w1 W) (hs : w1.heap.size + 3 ≤ W.heap.size)
    (hO : Ow (w1.heap.size + 3) wx 23 1 (.slice A' (pre.length + 1) c') (pre.length + 1) (pre.map bodV ++ [bodV x])) (hG : Grew W wx (.slice A pre.length c) (.slice A' (pre.length + 1) c')) :
    let Z := (wx.setCell ⟨w1.heap.size, 0, none⟩ (.slice A' (pre.length + 1) c')).setCell ⟨w1.heap.size + 1, 0, none⟩ (.int .i64 (x.2.2 : Int))
    KeepsFrom (w1.heap.size + 3) W Z ∧ Kb w1.heap.size (w1.heap.size + 2) W Z ∧ RdI w1 (pre ++ [x]) Z := by
  intro Z
  have x1 : Blk wx w1.heap.size 74 _ := k1.of_grew h hG (.inl (by decide))
  have x2 : Blk wx (w1.heap.size + 1) 3 _ := k2.of_grew h hG (.inl (by decide))
  have bx : Below w1.heap.size W wx := (Below.refl _ W).grown hG.1 b.size (fun k e => by have := (h.row e).1; omega)
  have bz : Below w1.heap.size W Z := (bx.setCell (p := ⟨w1.heap.size, 0, none⟩) (Nat.le_refl _) _).setCell (p := ⟨w1.heap.size + 1, 0, none⟩) (Nat.le_succ _) _
  refine ⟨?_, ⟨bz, fun g cs hb => ?_, fun t cs hb => ?_⟩, A', c', ?_, ?_, ?_, b.trans bz, Nat.le_trans hs bz.size⟩
  · refine KeepsFrom.trans ⟨hG.1.size, fun k o _ ho hc => (hG.1.block k (Array.getElem?_eq_some_iff.1 ho).1 fun e => ?_).trans ho⟩ (((KeepsOthers.setCell _ _ _).trans (KeepsOthers.setCell _ _ _)).from _)
    obtain ⟨_, cur, hk⟩ := h.row e.symm
    unfold Blk at hk
    rw [hk] at ho; cases ho; cases hc
  · have hx : Blk wx g 5 cs := hb.of_grew h hG (.inl (by decide))
    exact (hx.far (Blk.ne_ hx x1 (by decide)) _).far (Blk.ne_ hx x2 (by decide)) _
  · have hx : Blk wx _ t cs := hb.of_grew h hG (.inr (by omega))
    exact (hx.far (by simp) _).far (by simp) _
  · rw [List.length_append]
    exact (x1.set_ 0 _).far (by simp) _
  · rw [lastTo_app]
    exact (x2.far (by simp) _).set_ 0 _
  · rw [List.length_append, List.map_append]
    exact (hO.aside x1 (by decide) 0 _).aside (x2.far (by simp) _) (by decide) 0 _

theorem results_cc {fn : Func} (h : fn.results = #[.cell 2 74, .cell 3 3]) (tmps : Array Value) (w : World) (p q : Addr) (v1 v2 : Value) (h2 : tmps.getD 2 undef = .pointer (some p)) (h3 : tmps.getD 3 undef = .pointer (some q)) (c1 : w.cell? p = some v1) (c2 : w.cell? q = some v2) :
    (results fn tmps).run Tryd.prog w = .ok (.tuple #[v1, v2]) w := by
  simp only [Array.getD_eq_getD_getElem?] at h2 h3
  simp [results, h, h2, h3, go_sem, Tryd.underlying74, Tryd.underlying3, c1, c2]

/-- The end: both boxes set, the deferred block taken. -/
theorem rdI_end {w W : World} {ys : List Bod} {A : Option Addr} {c D : Nat} {ls : List (List Int)} {good : Int} (k1 : Blk W w.heap.size 74 #[.slice A ys.length c]) (k2 : Blk W (w.heap.size + 1) 3 #[.int .i64 (lastTo ys : Nat)])
    (h : Ow (w.heap.size + 3) W 23 1 (.slice A ys.length c) ys.length (ys.map bodV)) (b : Below w.heap.size w W) (hR : Rds w.heap.size W ys ls) (hD : w.heap.size ≤ D) (hK : W.heap[D]? = some (.deferred (some []))) :
    let Z := ((W.setCell ⟨w.heap.size, 0, none⟩ (.slice A ys.length ys.length)).setCell ⟨w.heap.size + 1, 0, none⟩ (.int .i64 good)).drew
    Z.heap[D]? = some (.deferred (some [])) ∧ Z.cell? ⟨w.heap.size, 0, none⟩ = some (.slice A ys.length ys.length) ∧ Z.cell? ⟨w.heap.size + 1, 0, none⟩ = some (.int .i64 good) ∧
    ∀ o, Ow w.heap.size (Z.putObj D o) 23 1 (.slice A ys.length ys.length) ys.length (ys.map bodV) ∧ Rds w.heap.size (Z.putObj D o) ys ls ∧ Below w.heap.size w (Z.putObj D o) ∧
      (Z.putObj D o).cell? ⟨w.heap.size, 0, none⟩ = some (.slice A ys.length ys.length) ∧ (Z.putObj D o).cell? ⟨w.heap.size + 1, 0, none⟩ = some (.int .i64 good) := by
  intro Z
  have hz := (KeepsOthers.setCell W ⟨w.heap.size, 0, none⟩ (.slice A ys.length ys.length)).trans (KeepsOthers.setCell (W.setCell ⟨w.heap.size, 0, none⟩ (.slice A ys.length ys.length)) ⟨w.heap.size + 1, 0, none⟩ (.int .i64 good))
  have hKZ : Z.heap[D]? = some (.deferred (some [])) := hz.same D _ hK rfl
  have z1 : Blk Z w.heap.size 74 #[.slice A ys.length ys.length] := (k1.set_ 0 _).far (by simp) _
  have z2 : Blk Z (w.heap.size + 1) 3 #[.int .i64 good] := (k2.far (by simp) _).set_ 0 _
  obtain ⟨A', c', e, hc, h'⟩ := h.clip
  cases e
  have hO : Ow (w.heap.size + 3) Z 23 1 (.slice A ys.length ys.length) ys.length (ys.map bodV) := (h'.aside k1 (by decide) 0 _).aside (k2.far (by simp) _) (by decide) 0 _
  have bz : Below w.heap.size w Z := ((b.setCell (p := ⟨w.heap.size, 0, none⟩) (Nat.le_refl _) _).setCell (p := ⟨w.heap.size + 1, 0, none⟩) (Nat.le_succ _) _).drew
  have k5 : ∀ g cs, Blk W g 5 cs → Blk Z g 5 cs := fun g cs hb => (hb.far (Blk.ne_ hb k1 (by decide)) _).far (Blk.ne_ hb k2 (by decide)) _
  have hput : ∀ (o : Obj) {g t : Nat} {cs : Array Value}, Blk Z g t cs → Blk (Z.putObj D o) g t cs := fun o g t cs hb => by
    refine (World.putObj_heap_other fun e => ?_).trans hb
    subst e
    unfold Blk at hb
    rw [hKZ] at hb
    cases hb
  refine ⟨hKZ, by have := z1.cell 0; simpa using this, by have := z2.cell 0; simpa using this, fun o => ⟨?_, (hR.kb k5).kb fun g cs hb => hput o hb, ?_, by have := (hput o z1).cell 0; simpa using this, by have := (hput o z2).cell 0; simpa using this⟩⟩
  · refine Ow.le (B := w.heap.size + 3) ?_ (by omega)
    rcases hO with h0 | ⟨g, c', cur, hv, hBg, hk, hh⟩
    · exact .inl h0
    · exact .inr ⟨g, c', cur, hv, hBg, hput o hk, hh⟩
  · exact bz.trans ⟨rfl, rfl, rfl, by simp [World.putObj], fun i hi => World.putObj_heap_other (by omega)⟩

set_option maxRecDepth 100000 in
set_option maxHeartbeats 1000000 in
theorem fread_any (bs : List Int) (A : Option Addr) (c : Nat) (w : World) (hby : ∀ c ∈ bs, byt c) (hl : bs.length ≤ 1000000000000) (T : Tab w) (hB : Bs w (.slice A bs.length c) bs) (h0A : bs.length = 0 → A = none ∨ ∃ g o, A = some ⟨g, o, none⟩) :
    Calls Tryd.prog 78 #[.slice A bs.length c] w fun e w' => ∃ (P : Option Addr) (ys : List Bod), e = .returned (.tuple #[.slice P ys.length ys.length, .int .i64 ((rdF bs).2 : Nat)]) ∧
      Ow w.heap.size w' 23 1 (.slice P ys.length ys.length) ys.length (ys.map bodV) ∧ Rds w.heap.size w' ys (rdF bs).1 ∧ Below w.heap.size w w' := by
  have hmix : Tryd.prog.follows .mixedOrders = true := by kernel_rfl
  have BY := Lib.hid hby
  have TT := Lib.hid T
  have HB := Lib.hid hB
  have H0 := Lib.hid h0A
  have HL := Lib.hid hl
  have B3 := Lib.hid (below_alloc3_ w (.cells #[.slice none 0 0] 74) (.cells #[.int .i64 0] 3) (.cells #[.slice A bs.length c] 23))
  clear hby T hB h0A hl
  refine (callsIn_wide (n := 5)).1 (callsIn_of_wp_marks Tryd.func78 rfl trivial ?_ rfl)
  simp only [Tryd.ntmps78, List.size_toArray, List.length_cons, List.length_nil, Nat.reduceAdd, Nat.reduceSub, Array.replicate_succ, Array.replicate_zero, List.push_toArray, List.append_toArray, List.nil_append, List.cons_append]
  refine wpIn_wide.2 ?_
  go_wp2_with fail
  refine (frames_any A bs.length c _).mono ?_
  rintro e w' ⟨rfl, rfl⟩
  go_wp2_with fail
  have hBx : Blk (((w.alloc (.cells #[.slice none 0 0] 74)).alloc (.cells #[.int .i64 0] 3)).alloc (.cells #[.slice A bs.length c] 23)) (w.heap.size + 2) 23 #[.slice A bs.length c] := by
    have := Blk.new ((w.alloc (.cells #[.slice none 0 0] 74)).alloc (.cells #[.int .i64 0] 3)) 23 #[.slice A bs.length c]
    simpa using this
  refine (wpIn_wide (n := 5)).1 ?_
  refine wp_rangeW (n := 5) (by omega) (gf := 121) (lb := #[.pointer (some ⟨w.heap.size + 2, 0, none⟩)]) rfl (enters_of Tryd.func121 (by kernel_rfl) rfl)
    (frames1_seq 4 (by omega) bs A c (w.heap.size + 2) w _ BY.out (by have := HL.out; omega) TT.out HB.out H0.out B3.out hBx)
    Kb.trans (fun W l o o' hl h hc _ => Kb.put W l o o' (by simp at hl; omega) h hc) (Below.refl _ _) (fun _ => rfl)
    (RdI w) (rdI_own (by simp; omega)) (rds_own (fun _ => (rdF bs).1) (fun ys => lastTo ys = (rdF bs).2))
    ⟨none, 0, ((Blk.new w 74 _).alloc _).alloc _, ?b2, .inl ⟨rfl, rfl, rfl⟩, B3.out, by simp⟩
    (fun x => { tmps := #[.slice A bs.length c, undef, .pointer (some ⟨w.heap.size, 0, none⟩), .pointer (some ⟨w.heap.size + 1, 0, none⟩), bodV x, .int .i64 (x.2.2 : Int), .slice A bs.length c,
      .func (.func 121) #[] #[.pointer (some ⟨w.heap.size + 2, 0, none⟩)], bodV x, .int .i64 (x.2.2 : Int), undef, undef, undef, undef, undef, undef, undef, undef], defers := [] })
    ?assign ?body ?done
  case b2 =>
    have := (Blk.new (w.alloc (.cells #[.slice none 0 0] 74)) 3 #[.int .i64 0]).alloc (.cells #[.slice A bs.length c] 23)
    simpa [lastTo] using this
  case assign =>
    intro l x W K hK
    unfold bodA
    gi_wp2
    exact hK
  case body =>
    intro l pre x W hI hlt
    obtain ⟨A1, c1, k1, k2, h1, b1, hs1⟩ := hI
    have HS := Lib.hid hs1
    have d1 := k1.cell 0
    have d2 := k2.cell 0
    simp at d1 d2
    have K1 := Lib.hid k1
    have K2 := Lib.hid k2
    have H1 := Lib.hid h1
    have BB := Lib.hid b1
    have hpl : pre.length < 1000000000000 := by have := HL.out; omega
    have PL := Lib.hid hpl
    clear k1 k2 h1 b1 hlt hpl hs1
    unfold bodV
    gi_wp2_with (gi_at_builtin; refine wpListIn_ow rfl _ _ 74 23 (.slice none 0 0) 1 24 rfl Tryd.underlying74 sl_info rfl (by decide) rfl #[bodV x] H1.out ?hsz rfl (by intro u hu; simp at hu; subst hu; rfl) rfl ?hl1 ?hl2 ?hk)
    case hsz => exact HS.out
    case hl1 => have := PL.out; omega
    case hl2 => have := PL.out; unfold maxLen; omega
    case hk =>
      intro v' wx hO hG
      obtain ⟨A', c', rfl, -, -⟩ := hO.clip
      have x1 := K1.out.of_grew H1.out hG (.inl (by decide))
      have x2 := K2.out.of_grew H1.out hG (.inl (by decide))
      have e1 := x1.cell 0
      have e2 := x2.cell 0
      have f1 := x1.free 0
      have f2 := x2.free 0
      simp at e1 e2
      have FIN := Lib.hid (rdI_step K1.out K2.out H1.out BB.out HS.out hO hG)
      clear x1 x2 hO hG
      gi_wp2
      exact FIN.out
  case done =>
    intro D ys W hD hS hI hK
    obtain ⟨A1, c1, k1, k2, h1, b1, hs1⟩ := hI
    have d1 := k1.cell 0
    have d2 := k2.cell 0
    have f1 := k1.free 0
    have f2 := k2.free 0
    simp at d1 d2
    have K1 := Lib.hid k1
    have K2 := Lib.hid k2
    have H1 := Lib.hid h1
    have BB := Lib.hid b1
    have KD := Lib.hid hK
    have DD := Lib.hid hD
    have HSS := Lib.hid hS
    have hcl : ys.length ≤ c1 := by obtain ⟨_, _, e, h, -⟩ := h1.clip; cases e; exact h
    have hyl : ys.length ≤ 4611686018427387904 := by
      have := hS.1.len
      have := (rdF_le bs.length bs (Nat.le_refl _)).2.1
      have := HL.out
      omega
    rw [hS.2] at d2
    clear k1 k2 h1 b1 hs1 hS hD hK
    have CL := Lib.hid (fun w => lclip_any A1 ys.length c1 w hcl hyl)
    clear hcl hyl
    go_wp2_with fail
    have END := Lib.hid (rdI_end (ls := (rdF bs).1) (good := ((rdF bs).2 : Nat)) K1.out K2.out H1.out BB.out HSS.out.1 (by have := DD.out; simp at this; omega) KD.out)
    go_region_with (go_simp; go_at_call 105; refine (CL.out _).mono ?_; rintro e w' ⟨rfl, rfl⟩)
    go_wp2
    all_goals
      obtain ⟨z1, z2, z3, z4⟩ := END.out
      refine ⟨by simp, .inl ⟨_, _, rfl, run_takeDeferred z1, ?_⟩⟩
      obtain ⟨y1, y2, y3, y4, y5⟩ := z4 (.deferred none)
      exact ⟨_, results_cc rfl _ _ _ _ _ _ rfl rfl y4 y5, _, _, rfl, y1, y2, y3⟩
end Go.Proofs.YtglghlfmjokgdaaDoor
