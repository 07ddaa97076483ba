import Derived.Test.YtnegondlkfeleaaDoorLqa
import Derived.Test.YtnegondlkfeleaaDoorRdz
import Derived.Test.YtnegondlkfeleaaDoorPdz
/- logs: the base that a body is; an entry's body is read. -/
namespace Go.Proofs.YtnegondlkfeleaaDoor
open Go.RowKit

/-- What frames.Read gave, read. -/
theorem rds_at {N : Nat} {w : World} {g c : Nat} {ys : List Bod} {ls : List (List Int)} (ho : Ow N w 25 1 (.slice (some ⟨g, 0, none⟩) ys.length c) ys.length (ys.map bodV)) (hR : Rds N w ys ls) (j : Nat) (hj : j < ls.length) :
    ∃ A, w.cell? ⟨g, j, none⟩ = some (.slice A ls[j].length ls[j].length) ∧ Bo N w (.slice A ls[j].length ls[j].length) ls[j] := by
  have hl := hR.len
  have hb := hR.at_ j (by omega) hj
  obtain ⟨A0, c0, hv, hc0, -⟩ := hb.clip
  unfold bodV at hv
  injection hv with _ ee _
  refine ⟨ys[j].1, ?_, by unfold bodV at hb; rwa [ee] at hb⟩
  rcases ho with ⟨e, -⟩ | ⟨g', c', cur, e, -, hk, -, -, -, hcur⟩
  · cases e
  · injection e with e1 e2 e3
    injection e1 with e1
    injection e1 with e1 _
    subst e1
    rw [hk.cell]
    have h1 : (ys.map bodV)[j]? = some (bodV ys[j]) := by rw [List.getElem?_map, List.getElem?_eq_getElem (by omega)]; rfl
    rw [← hcur, List.getElem?_take, if_pos (by omega)] at h1
    rw [← Array.getElem?_toList, h1]
    unfold bodV
    rw [ee]
theorem mark_size : (Tryd.prog.info? 32).map (·.size) = some 2 := by kernel_rfl
theorem results_mark {fn : Func} (h : fn.results = #[.cell 2 32, .tmp 3]) (tmps : Array Value) (w : World) (g : Nat) (a b v3 : Value) (hk : Blk w g 32 #[a, b]) (h2 : tmps.getD 2 undef = .pointer (some ⟨g, 0, none⟩)) (h3 : tmps.getD 3 undef = v3) :
    (results fn tmps).run Tryd.prog w = .ok (.tuple #[.agg #[a, b], v3]) w := by
  have hr := run_loadVar_row (P := Tryd.prog) w g 32 32 #[a, b] (0, 0) _ hk Tryd.underlying32 rfl mark_size
  rw [results_cell_tmp h, h2, h3]
  simp [asAddr, hr, Result.andThen]

set_option maxRecDepth 100000 in
set_option maxHeartbeats 1000000 in
theorem lmarked_any (bi bt : Nat) (A0 : Option Addr) (w : World) (hT : bi < 18446744073709551616) (hV : bt < 18446744073709551616) (h0 : Bs w (.slice A0 (nb bi ++ nb bt).length (nb bi ++ nb bt).length) (nb bi ++ nb bt)) :
    Calls Tryd.prog 70 #[.slice A0 (nb bi ++ nb bt).length (nb bi ++ nb bt).length] w fun e w' => e = .returned (.tuple #[.agg #[.int .u64 bi, .int .u64 bt], .bool true]) ∧ Below w.heap.size w w' := by
  have ba := below_alloc_ w (.cells #[.int .u64 0, .int .u64 0] 32)
  have h0' := h0.below ba
  have hn1 := nb_ten hT
  have hnV := nb_ten hV
  have hn1p := nb_len_pos bi
  have hnVp := nb_len_pos bt
  have TK1 := Take_any _ (nb bi ++ nb bt) _ h0' (fun c hc => by rcases List.mem_append.1 hc with hc | hc <;> exact nb_byt _ c hc) (by rw [List.length_append]; omega)
  rw [tk_nb hT] at TK1
  obtain ⟨g0, o0, rfl⟩ : ∃ g0 o0, A0 = some ⟨g0, o0, none⟩ := h0.some_ (by rw [List.length_append]; omega)
  have h5 := h0'.sub (nb bi).length (nb bt).length (nb bt).length (by rw [List.length_append]; omega) (Nat.le_refl _)
  rw [List.drop_left, List.take_length] at h5
  have TK2 := Take_any _ (nb bt) _ h5 (nb_byt bt) (by omega)
  rw [show nb bt = nb bt ++ [] from (List.append_nil _).symm, tk_nb hV, List.append_nil] at TK2
  rw [List.length_append] at TK1 ⊢
  obtain ⟨n1, e1⟩ : ∃ n, n = (nb bi).length := ⟨_, rfl⟩
  obtain ⟨nV, eV⟩ : ∃ n, n = (nb bt).length := ⟨_, rfl⟩
  rw [← e1] at TK1 TK2 hn1 hn1p
  rw [← eV] at TK1 TK2 hnV hnVp
  rw [← e1, ← eV]
  obtain ⟨n0, e0⟩ : ∃ n, n = n1 + nV := ⟨_, rfl⟩
  rw [← e0] at TK1 ⊢
  have T1 := Lib.hid TK1
  have T2 := Lib.hid TK2
  have z1 : (n1 : Int) ≤ 10 := by omega
  have z2 : (nV : Int) ≤ 10 := by omega
  have z3 : (0 : Int) < (n1 : Int) := by omega
  have z4 : (0 : Int) < (nV : Int) := by omega
  have z3a : 0 < n1 := hn1p
  have z4a : 0 < nV := hnVp
  have z3b : decide ((0 : Int) < (n1 : Int)) = true := decide_eq_true z3
  have z4b : decide ((0 : Int) < (nV : Int)) = true := decide_eq_true z4
  have z5 : (n1 : Int) + (nV : Int) = (n0 : Int) := by omega
  have z6 : (n1 : Int) ≤ (n0 : Int) := by omega
  have z7 : ¬ n0 = n1 := by omega
  have z8 : n0 - n1 = nV := by omega
  have K0 := Lib.hid (Blk.new w 32 #[.int .u64 0, .int .u64 0])
  have BA := Lib.hid ba
  have hz : w.heap.size < (w.alloc (.cells #[.int .u64 0, .int .u64 0] 32)).heap.size := by simp
  have KN := Lib.hid (Blk.new w 32 #[.int .u64 bi, .int .u64 bt])
  have BN := Lib.hid (below_alloc_ w (.cells #[.int .u64 bi, .int .u64 bt] 32))
  clear TK1 TK2 h0 h0' h5 ba hn1 hnV e1 eV e0 hT hV hz hn1p hnVp
  go_enter Tryd.func70, Tryd.ntmps70
  go_wp2_with fail
  refine T1.out.mono ?_
  rintro e w' ⟨rfl, rfl⟩
  go_wp2_with fail
  refine T2.out.mono ?_
  rintro e w' ⟨rfl, rfl⟩
  go_wp2
  refine bodyPost_ret (results_mark rfl _ _ _ _ _ (.bool true) KN.out rfl rfl) rfl ?_
  exact ⟨rfl, BN.out⟩
end Go.Proofs.YtnegondlkfeleaaDoor

/- logs: an entry's body is read. -/
namespace Go.Proofs.YtnegondlkfeleaaDoor
open Go.RowKit

theorem AddR.lift {w W2 w' : World} {p bi bt : Nat} {X : List (Nat × Obj)} {es' : List Ent} {e : Ending} (b : Below w.heap.size w W2) (h : AddR W2 p bi bt X (some es') e w') : AddR w p bi bt X (some es') e w' := by
  obtain ⟨he, ev', Y, h1, h2, h3, h4⟩ := h
  exact ⟨he, ev', Y, h1, fun q hq => ⟨Nat.le_trans b.size (h2 q hq).1, (h2 q hq).2⟩, below_then_grown_ b h3, h4⟩
set_option maxRecDepth 100000 in
set_option maxHeartbeats 1000000 in
theorem lstay_any (p bi bt i : Nat) (ev v : Value) (es es' : List Ent) (X : List (Nat × Obj)) (t x n : Int) (st : List (List Int)) (w : World) (hk : Blk w p 34 #[.int .u64 bi, .int .u64 bt, ev]) (hE : El ev es X) (hX : Has w X) (hw : Wf bi es) (hl : es.length ≤ 100000)
    (hi : i < 18446744073709551616) (hb : bi + es.length < 18446744073709551615) (hok : EOk ([(i : Int), t, x, n], st)) (hadd : addP bi bt es i t ([(i : Int), t, x, n], st) = some es') (hd : i - bi ≤ 256) (hv : Bs w v (entryB ([(i : Int), t, x, n], st))) :
    Calls Tryd.prog 71 #[v, .pointer (some ⟨p, 0, none⟩)] w (AddR w p bi bt X (some es')) := by
  obtain ⟨y0, y1, y2, y3, hy, f0, f1, f2, f3, fin, f8, fl, fb⟩ := hok
  simp only [List.cons.injEq, and_true] at hy
  obtain ⟨rfl, rfl, rfl, rfl⟩ := hy
  have hx : entryP (entryB ([(i : Int), t, x, n], st)) = .ok (([(i : Int), t, x, n], st), []) := by
    have := cod_entry.get ([(i : Int), t, x, n], st) [] ⟨⟨f0, f1, f2, f3, rfl⟩, f8, fin⟩
    rwa [List.append_nil] at this
  have GE := Lib.hid (Get_entry_any v _ w hv fb (by omega))
  have h1 := (addP_ok hadd).1
  have HX := Lib.hid hx
  have HK := Lib.hid hk
  have AD := Lib.hid (fun A4 (W2 : World) (b2 : Below w.heap.size w W2) hs => ladd_any p bi bt i ev es X t x n (.slice A4 st.length st.length) st W2 (hk.below b2 hk.lt) hE (fun q hq => (b2.block _ (lt_of_heap (hX q hq))).trans (hX q hq)) hw hl hi hb hs (by simp only at f8; omega))
  rw [hadd] at AD
  obtain ⟨d, hd0⟩ : ∃ d, d = i - bi := ⟨_, rfl⟩
  have n1 : (i : Int) - (bi : Int) = (d : Int) := by omega
  have n2 : IntKind.u64.wrap (d : Int) = (d : Int) := IntWalk.u64_in _ (by omega)
  have n3 : (d : Int) ≤ 256 := by omega
  have n4 : decide ((d : Int) ≤ 256) = true := decide_eq_true n3
  obtain ⟨m, hm⟩ : ∃ m, m = st.length := ⟨_, rfl⟩
  have MM := Lib.hid hm
  clear hk hE hX hw hl hi hb hadd hd hv f0 f1 f2 f3 fin f8 fl fb hx h1 hd0 hm
  go_enter Tryd.func71, Tryd.ntmps71
  go_wp2_with fail
  refine GE.out.mono ?_
  intro e w1 hG
  unfold GPost at hG
  rw [HX.out] at hG
  obtain ⟨v1, rfl, ⟨A4, rfl, h4⟩, b1⟩ := hG
  rw [← MM.out]
  obtain ⟨w2, hw2⟩ : ∃ w2, w2 = w1.alloc (.cells #[.int .u64 i, .int .u64 t, .int .u8 x, .int .u64 n, .slice A4 m m] 59) := ⟨_, rfl⟩
  have ka := Blk.new w1 59 #[.int .u64 i, .int .u64 t, .int .u8 x, .int .u64 n, .slice A4 m m]
  have b2 := below_alloc_ w1 (.cells #[.int .u64 i, .int .u64 t, .int .u8 x, .int .u64 n, .slice A4 m m] 59)
  rw [← hw2] at ka b2
  have B2 := Lib.hid (bel2 b1 b2)
  have CA := Lib.hid (AD.out A4 w2 B2.out (Rd.below h4.rd b2))
  rw [← MM.out] at CA
  have kp := HK.out.below B2.out HK.out.lt
  have c0 := ka.cell 0
  have c1 := ka.cell 1
  have c2 := ka.cell 2
  have c3 := ka.cell 3
  have c4 := ka.cell 4
  have p0 := kp.cell 0
  simp at c0 c1 c2 c3 c4 p0
  have W2 := Lib.hid hw2
  clear h4 b1 b2 ka kp hw2
  go_upto_region 2 with fail
  rw [← W2.out]
  go_wp2_with fail
  refine CA.out.mono ?_
  intro e w3 hA
  have hA' := AddR.lift B2.out hA
  obtain ⟨he, R⟩ := hA'
  have RR := Lib.hid R
  subst he
  clear hA R
  go_wp2
  go_ret
  exact ⟨rfl, RR.out⟩
end Go.Proofs.YtnegondlkfeleaaDoor

/- logs.read at a log's file. -/
namespace Go.Proofs.YtnegondlkfeleaaDoor
open Go.RowKit

/-- What read leaves, behind k entries. -/
structure RdS (N : Nat) (w2 : World) (bi bt : Nat) (es : List Ent) (wr : World) : Prop where
  ex : ∃ ev Y, Blk wr N 34 #[.int .u64 bi, .int .u64 bt, ev] ∧ El ev es Y ∧ ∀ q ∈ Y, w2.heap.size ≤ q.1 ∧ wr.heap[q.1]? = some q.2
  g : w2.grownBy wr (some N)
  lt : N < w2.heap.size
theorem RdS.step {N : Nat} {w2 wr w7 : World} {bi bt : Nat} {es' : List Ent} {Y : List (Nat × Obj)} {e : Ending} (hY : ∀ q ∈ Y, w2.heap.size ≤ q.1 ∧ wr.heap[q.1]? = some q.2) (hg : w2.grownBy wr (some N)) (hlt : N < w2.heap.size)
    (h : AddR wr N bi bt Y (some es') e w7) : RdS N w2 bi bt es' w7 := by
  obtain ⟨-, ev', Y', h1, h2, h3, h4⟩ := h
  refine ⟨⟨ev', Y' ++ Y, h4, h1, fun q hq => ?_⟩, grown_trans_ hg h3, hlt⟩
  rcases List.mem_append.1 hq with hq | hq
  · exact ⟨Nat.le_trans hg.size (h2 q hq).1, (h2 q hq).2⟩
  · obtain ⟨a, b⟩ := hY q hq
    exact ⟨a, (h3.block _ (lt_of_heap b) (by simp; omega)).trans b⟩
/-- What the bodies of a file add up to. -/
structure Adds (bi bt : Nat) (ns : List Ent) (acc : Nat → List Ent) : Prop where
  a0 : acc 0 = []
  ok : ∀ e ∈ ns, EOk e
  st : ∀ k (h : k < ns.length), ∃ (i : Nat) (t x n : Int), ns[k].1 = [(i : Int), t, x, n] ∧ i ≤ bi + 256 ∧ addP bi bt (acc k) i t ns[k] = some (acc (k + 1))
  bi : bi ≤ 1000000
  bt : bt < 18446744073709551616
theorem Adds.wf {bi bt : Nat} {ns : List Ent} {acc : Nat → List Ent} (h : Adds bi bt ns acc) : ∀ k, k ≤ ns.length → Wf bi (acc k) ∧ (acc k).length ≤ 256 := by
  intro k
  induction k with
  | zero => intro _; rw [h.a0]; exact ⟨fun j hj => by simp at hj, by simp⟩
  | succ k ih =>
    intro hk
    obtain ⟨h1, h2⟩ := ih (by omega)
    obtain ⟨i, t, x, n, he, hi, ha⟩ := h.st k (by omega)
    have hl := addP_len ha
    exact ⟨addP_wf ha h1 he, by omega⟩

set_option maxRecDepth 100000 in
set_option maxHeartbeats 2000000 in
theorem lread_ok (fb : List Int) (bi bt : Nat) (ns : List Ent) (acc : Nat → List Ent) (good : Nat) (A : Option Addr) (c : Nat) (w : World) (hF : rdF fb = ((nb bi ++ nb bt) :: ns.map entryB, good)) (hA : Adds bi bt ns acc) (hby : ∀ c ∈ fb, byt c) (hl : fb.length ≤ 2000000) (T : Tab w) (h : Bs w (.slice A fb.length c) fb) :
    Calls Tryd.prog 35 #[.slice A fb.length c] w fun e w' => ∃ ev Y, e = .returned (.tuple #[.agg #[.int .u64 bi, .int .u64 bt, ev], .bool (decide (good = fb.length))]) ∧ El ev (acc ns.length) Y ∧ (∀ q ∈ Y, w.heap.size ≤ q.1 ∧ w'.heap[q.1]? = some q.2) ∧ Below w.heap.size w w' := by
  have hbp : fb.length ≠ 0 := by
    intro e
    have e0 : fb = [] := List.eq_nil_of_length_eq_zero e
    rw [e0, rdF_bad getF_none] at hF
    exact List.cons_ne_nil _ _ (congrArg Prod.fst hF).symm
  have hgood : good ≤ fb.length := by have := (rdF_le fb.length fb (Nat.le_refl _)).1; rw [hF] at this; exact this
  have NM := Lib.hid (show ns.length + 1 ≤ 2000000 from by have := (rdF_le fb.length fb (Nat.le_refl _)).2.1; rw [hF] at this; simp at this; omega)
  have hk0 := Blk.new w 34 #[.int .u64 0, .int .u64 0, .slice none 0 0]
  have b0 := below_alloc_ w (.cells #[.int .u64 0, .int .u64 0, .slice none 0 0] 34)
  have FR := Lib.hid (fread_any fb A c (w.alloc (.cells #[.int .u64 0, .int .u64 0, .slice none 0 0] 34)) hby (by omega) (T.below b0) (h.below b0) (fun e => absurd e hbp))
  rw [hF] at FR
  have K0 := Lib.hid hk0
  have B0 := Lib.hid b0
  have HA := Lib.hid hA
  obtain ⟨L, hL⟩ : ∃ L, L = fb.length := ⟨_, rfl⟩
  have LL := Lib.hid hL
  have hL2 : (L : Int) ≤ 2000000 := by omega
  have hg2 : (good : Int) ≤ (L : Int) := by omega
  obtain ⟨wh, hwh⟩ : ∃ b, b = decide (good = fb.length) := ⟨_, rfl⟩
  have WH := Lib.hid hwh
  have hgl : ((good : Int) == (L : Int)) = wh := by rw [hwh, hL]; rcases Nat.decEq good fb.length with h | h <;> simp [h] <;> omega
  have hgl2 : decide ((good : Int) = (L : Int)) = wh := by rw [hwh, hL]; exact decide_eq_decide.2 Int.ofNat_inj
  have hgl3 : decide (good = L) = wh := by rw [hwh, hL]
  rw [← hL] at FR
  rw [← hL, hgl3]
  clear hF h T hby hl hbp hgood hk0 b0 hA hL hwh
  go_enter Tryd.func35, Tryd.ntmps35
  go_wp2_with fail
  refine FR.out.mono ?_
  rintro e w2 ⟨P, ys, rfl, hO, hR, b2⟩
  have N2 := Lib.hid (show w.heap.size < w2.heap.size from by have := b2.size; simp at this; omega)
  have BW := Lib.hid (bel2 B0.out b2)
  have kn := K0.out.below b2 K0.out.lt
  obtain ⟨g, rfl⟩ : ∃ g, P = some ⟨g, 0, none⟩ := by
    have hl := hR.len
    rcases hO with ⟨-, h0, -⟩ | ⟨g, _, _, e, -⟩
    · rw [h0] at hl; cases hl
    · injection e with e; exact ⟨g, e⟩
  have AT := Lib.hid (fun wr (hg : w2.grownBy wr (some w.heap.size)) j hj => rds_at (hO.grown hg kn (by decide)) (hR.kb fun g cs hb => hb.grown hg (fun e => Blk.ne_ hb kn (by decide) (by injection e))) j hj)
  obtain ⟨M, hM⟩ : ∃ M, M = ys.length := ⟨_, rfl⟩
  have hMK : M = ns.length + 1 := by rw [hM, hR.len]; simp
  rw [← hM]
  have KN := Lib.hid kn
  obtain ⟨A0, d0, h0⟩ : ∃ A, w2.cell? ⟨g, 0, none⟩ = some (.slice A (nb bi ++ nb bt).length (nb bi ++ nb bt).length) ∧ Bo _ w2 (.slice A (nb bi ++ nb bt).length (nb bi ++ nb bt).length) (nb bi ++ nb bt) := AT.out w2 (grown_refl_ _ _) 0 (by simp)
  have MKD := Lib.hid (lmarked_any bi bt A0 w2 (by have := HA.out.bi; omega) HA.out.bt h0.bs)
  obtain ⟨hn, hhn⟩ : ∃ n, n = (nb bi ++ nb bt).length := ⟨_, rfl⟩
  rw [← hhn] at d0 MKD
  have z9 : (0 : Int) < (M : Int) := by omega
  have z10 : ¬ (M : Int) = 0 := by omega
  have zb : ((M : Int) == 0) = false := beq_eq_false_iff_ne.2 z10
  have MK := Lib.hid hMK
  clear hO hR b2 kn hM hMK h0 hhn
  go_wp2_with fail
  refine MKD.out.mono ?_
  rintro e w3 ⟨rfl, b3⟩
  obtain ⟨w4, hw4⟩ : ∃ w4, w4 = w3.alloc (.cells #[.int .u64 bi, .int .u64 bt] 32) := ⟨_, rfl⟩
  have b4 := below_alloc_ w3 (.cells #[.int .u64 bi, .int .u64 bt] 32)
  have km := Blk.new w3 32 #[.int .u64 bi, .int .u64 bt]
  rw [← hw4] at b4 km
  have B4 := Lib.hid (bel2 b3 b4)
  have kn4 := KN.out.below B4.out KN.out.lt
  have q0 := kn4.cell 0
  have q1 := kn4.cell 1
  have q2 := kn4.cell 2
  have f0 := kn4.free 0
  have f1 := kn4.free 1
  have f2 := kn4.free 2
  have m0 := km.cell 0
  have m1 := km.cell 1
  simp at q0 q1 q2 m0 m1
  have KN4 := Lib.hid kn4
  have W4 := Lib.hid hw4
  have hmf : ∀ (fn : Fn) (first cap : Array Value) (w : World), (Instr.makeFunc fn first cap).run Tryd.prog w = .ok (.func fn first cap) w := fun _ _ _ _ => rfl
  clear b3 b4 kn4 d0 hw4 km
  go_upto_region 7 with fail
  rw [← W4.out]
  go_upto_region 9 with fail
  have K8 := Lib.hid (show Blk ((w4.setCell ⟨w.heap.size, 0, none⟩ (.int .u64 bi)).setCell ⟨w.heap.size, 1, none⟩ (.int .u64 bt)) w.heap.size 34 #[.int .u64 bi, .int .u64 bt, .slice none 0 0] from (KN4.out.set_ 0 (.int .u64 bi)).set_ 1 (.int .u64 bt))
  have G8 := Lib.hid (below_then_grown_ B4.out (grown_trans_ (grown_set_ w4 w.heap.size 0 (.int .u64 bi)) (grown_set_ _ w.heap.size 1 (.int .u64 bt))))
  generalize (w4.setCell ⟨w.heap.size, 0, none⟩ (.int .u64 bi)).setCell ⟨w.heap.size, 1, none⟩ (.int .u64 bt) = W8 at *
  clear q0 q1 q2 f0 f1 f2 m0 m1
  have I0 := Lib.hid (show RdS w.heap.size w2 bi bt (acc 0) W8 from ⟨⟨_, [], K8.out, by rw [HA.out.a0]; exact El.nil _, by simp⟩, G8.out, N2.out⟩)
  have M1 : (1 : Int) ≤ (M : Int) := by omega
  obtain ⟨n0, hn0⟩ : ∃ n0, n0 = ns.length := ⟨_, rfl⟩
  have hM1 : M - 1 = n0 := by have := MK.out; omega
  have NS := Lib.hid hn0
  have END : ∀ wr, RdS w.heap.size w2 bi bt (acc n0) wr → ∃ ev Y, Blk wr w.heap.size 34 #[.int .u64 bi, .int .u64 bt, ev] ∧ (∃ A n c, ev = .slice A n c) ∧ El ev (acc ns.length) Y ∧ (∀ q ∈ Y, w.heap.size < q.1 ∧ wr.heap[q.1]? = some q.2) ∧ Below w.heap.size w wr := fun wr h => by
    obtain ⟨⟨ev, Y, k, hE, hY⟩, hg, hlt⟩ := h
    refine ⟨ev, Y, k, ?_, by rw [← hn0]; exact hE, fun q hq => ⟨by have := (hY q hq).1; omega, (hY q hq).2⟩, below_grown_ BW.out hg (by omega) (Nat.le_refl _)⟩
    obtain ⟨_, _, ⟨A, c, e, -⟩, -⟩ := hE.ents (w := wr) (fun q hq => (hY q hq).2)
    exact ⟨A, _, c, e⟩
  have EN := Lib.hid END
  clear END hn0
  by_cases hz : n0 = 0
  · have hMe : M = 1 := by omega
    subst hMe
    go_wp2_with fail
    go_loopw [36] (fun i wr => i = .int .i64 0 ∧ wr = W8) (fun _ _ => 0)
    case atStart => exact ⟨rfl, rfl⟩
    case round =>
      obtain ⟨rfl, rfl⟩ := hrel
      obtain ⟨ev, Y, k, ⟨Ae, ne, ce, rfl⟩, hE, hY, hb⟩ := EN.out _ (by rw [hz]; exact I0.out)
      have FIN := Lib.hid (And.intro hE (And.intro hY hb))
      have r0 := k.cell 0
      have r1 := k.cell 1
      have r2 := k.cell 2
      have f0 := k.free 0
      have f1 := k.free 1
      have f2 := k.free 2
      have KE := Lib.hid k
      simp at r0 r1 r2
      clear hE hY hb k
      go_wp2
      refine bodyPost_ret (results_cont rfl _ _ _ _ _ _ (.bool wh) (((KE.out.set_ 0 _).set_ 1 _).set_ 2 _) rfl rfl) rfl ?_
      exact ⟨_, Y, rfl, FIN.out.1, fun q hq => ⟨Nat.le_of_lt (FIN.out.2.1 q hq).1, (((heap_setCell_other _ ⟨w.heap.size, 2, none⟩ q.1 _ (by have := (FIN.out.2.1 q hq).1; show q.1 ≠ w.heap.size; omega)).trans (heap_setCell_other _ ⟨w.heap.size, 1, none⟩ q.1 _ (by have := (FIN.out.2.1 q hq).1; show q.1 ≠ w.heap.size; omega))).trans (heap_setCell_other _ ⟨w.heap.size, 0, none⟩ q.1 _ (by have := (FIN.out.2.1 q hq).1; show q.1 ≠ w.heap.size; omega))).trans (FIN.out.2.1 q hq).2⟩,
        ((FIN.out.2.2.setCell (p := ⟨w.heap.size, 0, none⟩) (Nat.le_refl _) _).setCell (p := ⟨w.heap.size, 1, none⟩) (Nat.le_refl _) _).setCell (p := ⟨w.heap.size, 2, none⟩) (Nat.le_refl _) _⟩
  · have hM2 : ¬ (M : Int) = 1 := by have := MK.out; have := NS.out; omega
    have hM3 : ¬ M = 1 := by have := MK.out; have := NS.out; omega
    have hn63 : (M : Int) ≤ 2000001 := by have := NM.out; have := MK.out; omega
    go_wp2_with fail
    go_loopw [36] (fun i wr => ∃ k : Nat, i = .int .i64 (k : Int) ∧ k ≤ n0 ∧ RdS w.heap.size w2 bi bt (acc k) wr) (fun i _ => n0 - (intOf i).toNat)
    case atStart => exact ⟨0, rfl, Nat.zero_le _, I0.out⟩
    case round =>
      obtain ⟨k, rfl, hk, hR⟩ := hrel
      by_cases hlt : k < n0
      · have hks : k < ns.length := by have := NS.out; omega
        obtain ⟨⟨evk, Yk, kb, hEk, hYk⟩, hgk, -⟩ := hR
        obtain ⟨Ak, dk, hbk⟩ := AT.out wr hgk (k + 1) (by simp; exact hks)
        simp only [List.getElem_cons_succ, List.getElem_map] at dk hbk
        obtain ⟨ii, t, x, n, hx, hib, hadd⟩ := HA.out.st k hks
        have hek : ns[k] = ([(ii : Int), t, x, n], ns[k].2) := by rw [← hx]
        obtain ⟨st, hst⟩ : ∃ st, st = ns[k].2 := ⟨_, rfl⟩
        have heok := HA.out.ok _ (List.getElem_mem hks)
        obtain ⟨wf, wl⟩ := HA.out.wf k (by omega)
        rw [← hst] at hek
        rw [hek] at dk hbk hadd heok
        have ST := Lib.hid (lstay_any w.heap.size bi bt ii evk _ (acc k) _ Yk t x n st wr kb hEk (fun q hq => (hYk q hq).2) wf (by omega) (by have := HA.out.bi; omega) (by have := HA.out.bi; omega) heok hadd (by omega) hbk.bs)
        have SP := Lib.hid (fun (w7 : World) (e : Ending) (h : AddR wr w.heap.size bi bt Yk (some (acc (k + 1))) e w7) => RdS.step hYk hgk N2.out h)
        obtain ⟨mb, hmb⟩ : ∃ mb, mb = (entryB ([(ii : Int), t, x, n], st)).length := ⟨_, rfl⟩
        rw [← hmb] at dk ST
        have LT := Lib.hid hlt
        have hlt' : (k : Int) < (n0 : Int) := by omega
        have dk2 : wr.cell? ⟨g, 1 + k, none⟩ = some (.slice Ak mb mb) := by rw [Nat.add_comm]; exact dk
        clear hks kb hEk hYk hgk hbk hx hib hadd hek hst heok wf wl hmb hk
        go_wp2_with fail
        refine ST.out.mono ?_
        intro e w7 hA
        have RR := Lib.hid (SP.out w7 e hA)
        obtain ⟨he, -⟩ := hA
        subst he
        clear dk dk2
        go_wp2
        go_roundw
        case rel => exact ⟨k + 1, by go_num, LT.out, RR.out⟩
        case measure => have := LT.out; simp [intOf]; omega
      · obtain rfl : k = n0 := by omega
        obtain ⟨ev, Y, k, ⟨Ae, ne, ce, rfl⟩, hE, hY, hb⟩ := EN.out _ hR
        have FIN := Lib.hid (And.intro hE (And.intro hY hb))
        have r0 := k.cell 0
        have r1 := k.cell 1
        have r2 := k.cell 2
        have f0 := k.free 0
        have f1 := k.free 1
        have f2 := k.free 2
        have KE := Lib.hid k
        simp at r0 r1 r2
        clear hE hY hb k
        go_wp2
        refine bodyPost_ret (results_cont rfl _ _ _ _ _ _ (.bool wh) (((KE.out.set_ 0 _).set_ 1 _).set_ 2 _) rfl rfl) rfl ?_
        exact ⟨_, Y, rfl, FIN.out.1, fun q hq => ⟨Nat.le_of_lt (FIN.out.2.1 q hq).1, (((heap_setCell_other _ ⟨w.heap.size, 2, none⟩ q.1 _ (by have := (FIN.out.2.1 q hq).1; show q.1 ≠ w.heap.size; omega)).trans (heap_setCell_other _ ⟨w.heap.size, 1, none⟩ q.1 _ (by have := (FIN.out.2.1 q hq).1; show q.1 ≠ w.heap.size; omega))).trans (heap_setCell_other _ ⟨w.heap.size, 0, none⟩ q.1 _ (by have := (FIN.out.2.1 q hq).1; show q.1 ≠ w.heap.size; omega))).trans (FIN.out.2.1 q hq).2⟩,
          ((FIN.out.2.2.setCell (p := ⟨w.heap.size, 0, none⟩) (Nat.le_refl _) _).setCell (p := ⟨w.heap.size, 1, none⟩) (Nat.le_refl _) _).setCell (p := ⟨w.heap.size, 2, none⟩) (Nat.le_refl _) _⟩
end Go.Proofs.YtnegondlkfeleaaDoor
