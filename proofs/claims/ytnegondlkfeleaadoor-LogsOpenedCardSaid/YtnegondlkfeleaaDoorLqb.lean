/- logs: Add, where all entries may be. -/
import Derived.Test.YtnegondlkfeleaaDoorLqa
import Derived.Lib.SliceRun
import Derived.StillTailTactics
namespace Go.Proofs.YtnegondlkfeleaaDoor
open Go.RowKit

/-- The loop of Add, behind k entries. -/
structure AddI (w : World) (bi bt : Nat) (Z : List (Nat × Obj)) (es : List Ent) (bs : List Int) (b : Value) (wr : World) : Prop where
  sl : ∃ A n c, b = .slice A n c
  ex : ∃ ev Y, Blk wr w.heap.size 34 #[.int .u64 bi, .int .u64 bt, ev] ∧ El ev es (Y ++ Z) ∧ ∀ q ∈ Y, w.heap.size < q.1 ∧ wr.heap[q.1]? = some q.2 ∧ some q.1 ≠ b.ownBlock
  own : Bo (w.heap.size + 1) wr b bs
  bel : Below w.heap.size w wr
theorem AddI.blk_lt {w wr : World} {bi bt : Nat} {Z : List (Nat × Obj)} {es : List Ent} {bs : List Int} {b : Value} (h : AddI w bi bt Z es bs b wr) : w.heap.size + 1 ≤ wr.heap.size := by
  obtain ⟨ev, Y, hb, -⟩ := h.ex
  exact hb.lt
theorem AddI.below {w wr w' : World} {bi bt : Nat} {Z : List (Nat × Obj)} {es : List Ent} {bs : List Int} {b : Value} (h : AddI w bi bt Z es bs b wr) (hb : Below wr.heap.size wr w') : AddI w bi bt Z es bs b w' := by
  have hl := h.blk_lt
  obtain ⟨h1, ⟨ev, Y, k, hE, hY⟩, h3, h4⟩ := h
  exact ⟨h1, ⟨ev, Y, k.below hb k.lt, hE, fun q hq => ⟨(hY q hq).1, (hb.block _ (lt_of_heap (hY q hq).2.1)).trans (hY q hq).2.1, (hY q hq).2.2⟩⟩, h3.below hb, h4.trans (hb.mono (by omega))⟩
theorem AddI.has {w wr : World} {Z : List (Nat × Obj)} {b : Value} {Y : List (Nat × Obj)} (hbel : Below w.heap.size w wr) (hZ : Has w Z) (hY : ∀ q ∈ Y, w.heap.size < q.1 ∧ wr.heap[q.1]? = some q.2 ∧ some q.1 ≠ b.ownBlock) : Has wr (Y ++ Z) := by
  intro q hq
  rcases List.mem_append.1 hq with hq | hq
  · exact (hY q hq).2.1
  · exact (hbel.block _ (lt_of_heap (hZ q hq))).trans (hZ q hq)
/-- An entry is added to the content, its frame to the bytes. -/
theorem AddI.step {w wr w7 w8 : World} {bi bt : Nat} {Z Y Y7 : List (Nat × Obj)} {es' : List Ent} {bs bs' : List Int} {b b' ev ev7 : Value} {wm : World} (hY : ∀ q ∈ Y, w.heap.size < q.1 ∧ wr.heap[q.1]? = some q.2 ∧ some q.1 ≠ b.ownBlock) (hkr : Blk wr w.heap.size 34 #[.int .u64 bi, .int .u64 bt, ev]) (ho : Bo (w.heap.size + 1) wr b bs) (hbw : Below w.heap.size w wr)
    (hm : Below wr.heap.size wr wm) (hE : El ev7 es' (Y7 ++ (Y ++ Z))) (hY7 : ∀ q ∈ Y7, wm.heap.size ≤ q.1 ∧ w7.heap[q.1]? = some q.2) (g7 : wm.grownBy w7 (some w.heap.size)) (k7 : Blk w7 w.heap.size 34 #[.int .u64 bi, .int .u64 bt, ev7])
    (hsl : ∃ A n c, b' = .slice A n c) (ho8 : Bo (w.heap.size + 1) w8 b' bs') (hG : Grew w7 w8 b b') : AddI w bi bt Z es' bs' b' w8 := by
  have h0 := hkr.lt
  have hsz : wr.heap.size ≤ w7.heap.size := Nat.le_trans hm.size g7.size
  have hob : ∀ k, b.ownBlock = some k → w.heap.size < k ∧ k < wr.heap.size := fun k hk => by
    rcases ho with ⟨rfl, _⟩ | ⟨g, cap, cur, rfl, hB, hg, _⟩
    · simp [Value.ownBlock] at hk
    · simp [Value.ownBlock] at hk; subst hk; exact ⟨hB, hg.lt⟩
  have hne : ∀ q : Nat × Obj, w7.heap[q.1]? = some q.2 → some q.1 ≠ b.ownBlock → w8.heap[q.1]? = some q.2 := fun q hq hn => (hG.1.block _ (lt_of_heap hq) hn).trans hq
  refine ⟨hsl, ⟨ev7, Y7 ++ Y, ?_, by rw [List.append_assoc]; exact hE, fun q hq => ?_⟩, ho8, ?_⟩
  · refine k7.grown hG.1 fun e => ?_
    have := hob _ e.symm; omega
  · have hlast : w7.heap[q.1]? = some q.2 → some q.1 ≠ b.ownBlock → some q.1 ≠ b'.ownBlock := fun hq' hn => by
      rcases hG.2 with e | e
      · rw [e]; exact hn
      · intro e'; have := e _ e'.symm; have := lt_of_heap hq'; omega
    rcases List.mem_append.1 hq with hq | hq
    · obtain ⟨h1, h2⟩ := hY7 q hq
      have hn : some q.1 ≠ b.ownBlock := fun e => by have := hob _ e.symm; have := hm.size; omega
      have := hm.size
      exact ⟨by omega, hne q h2 hn, hlast h2 hn⟩
    · obtain ⟨h1, h2, h3⟩ := hY q hq
      have h2' : w7.heap[q.1]? = some q.2 := (g7.block _ (Nat.lt_of_lt_of_le (lt_of_heap h2) hm.size) (by simp; omega)).trans ((hm.block _ (lt_of_heap h2)).trans h2)
      exact ⟨h1, hne q h2' h3, hlast h2' h3⟩
  · have h1 : Below w.heap.size w wm := hbw.trans (hm.mono (by omega))
    have h2 : Below w.heap.size w w7 := h1.grown g7 (by have := hm.size; omega) (fun k e => by cases e; exact Nat.le_refl _)
    exact h2.grown hG.1 (by omega) (fun k e => by have := hob k e; omega)
theorem Bo.some_ {B : Nat} {w : World} {v : Value} {xs : List Int} (h : Bo B w v xs) (h0 : 0 < xs.length) : ∃ g n c, v = .slice (some ⟨g, 0, none⟩) n c := by
  rcases h with ⟨-, -, hx⟩ | ⟨g, cap, cur, rfl, -⟩
  · have : (bc xs).length = 0 := by rw [hx]; rfl
    simp at this; subst this; simp at h0
  · exact ⟨g, _, _, rfl⟩

set_option maxHeartbeats 4000000 in
set_option maxRecDepth 100000 in
theorem lAdd_any {Z : List (Nat × Obj)} {B : Nat} {W w : World} {p d bi bt : Nat} {ev : Value} {size : Nat} {s : Dst} {es : List Ent} (s1 : Dst) (r : Int) (i0 : Nat) (av : Value) (ns : List Ent) (acc : Nat → List Ent)
    (h : On ((p, lgO bi bt ev d size false) :: Z) B W w d nmL s) (hp : B ≤ p) (hZ : ∀ q ∈ Z, q.1 ≠ p) (hE : El ev es Z) (hw : Wf bi es) (hA : El av ns Z) (hn : Wf i0 ns) (h0 : 0 < ns.length) (hok : ∀ e ∈ ns, EOk e)
    (ha0 : acc 0 = es) (hacc : ∀ k (hk : k < ns.length), addP bi bt (acc k) (i0 + 1 + k) (ns[k].1.tail.headD 0) ns[k] = some (acc (k + 1))) (hi0 : i0 + ns.length ≤ 250) (hbi : bi + es.length ≤ 250)
    (hsz : size + (bsOf ns).length ≤ 262144) (hB0 : 0 < B) (T : Tab W) (hd : addS s (bsOf ns) = (s1, r)) :
    Calls Tryd.prog 12 #[.pointer (some ⟨p, 0, none⟩), av] w fun e w' => ∃ ev' Y, El ev' (acc ns.length) (Y ++ Z) ∧ (∀ q ∈ Y, w.heap.size ≤ q.1) ∧ e = .returned (.int .i64 (rvOf r)) ∧
      On ((p, pick2 r (lgO bi bt ev' d (size + (bsOf ns).length) false) (lgO bi bt ev d size true)) :: (Y ++ Z)) B W w' d nmL s1 := by
  have KL := Lib.hid (show Blk w p 37 (lgC bi bt ev d size false) from h.keep (p, _) (List.mem_cons_self ..))
  have HZW := Lib.hid (show Has w Z from fun q hq => h.keep q (List.mem_cons_of_mem _ hq))
  have NE := Lib.hid (hA.ents HZW.out)
  obtain ⟨Ae, ne, ce, hve⟩ : ∃ A n c, ev = .slice A n c := by obtain ⟨_, _, ⟨A, c, e, -⟩, -⟩ := hE.ents HZW.out; exact ⟨A, _, c, e⟩
  subst hve
  have AS := Lib.hid (lasked_any p bi bt d _ size false w KL.out)
  have hwk : ∀ k, k ≤ ns.length → Wf bi (acc k) ∧ bi + (acc k).length ≤ 250 := by
    intro k
    induction k with
    | zero => intro _; rw [ha0]; exact ⟨hw, hbi⟩
    | succ k ih =>
      intro hk
      obtain ⟨h1, h2⟩ := ih (by omega)
      obtain ⟨t, c, n, he⟩ := hn k (by omega)
      exact ⟨addP_wf (hacc k (by omega)) h1 he, by rw [addP_len (hacc k (by omega))]; omega⟩
  have WK := Lib.hid hwk
  have ACC := Lib.hid hacc
  have OK := Lib.hid hok
  have HN := Lib.hid hn
  have HO := Lib.hid h
  have HP := Lib.hid hp
  have HZ := Lib.hid hZ
  have TW := Lib.hid (tab_at T hB0 h.bel)
  have HS := Lib.hid hsz
  have HD := Lib.hid hd
  have HI := Lib.hid hi0
  have TT := Lib.hid T
  have HB0 := Lib.hid hB0
  have a0 := KL.out.cell 0
  have a1 := KL.out.cell 1
  have a2 := KL.out.cell 2
  simp [lgC] at a0 a1 a2
  obtain ⟨ssn, -, ⟨An, cn, hav, hcn, -⟩, -⟩ := id NE.out
  subst hav
  obtain ⟨L, hL⟩ : ∃ L, L = ns.length := ⟨_, rfl⟩
  have LL := Lib.hid hL
  have nL : ¬ ((L : Int) = 0) := by omega
  have nLb : ((L : Int) == 0) = false := beq_eq_false_iff_ne.2 nL
  have nLl : (L : Int) ≤ 250 := by omega
  have cnL : (L : Int) ≤ (cn : Int) := by omega
  have K0 := Blk.new w 34 #[.int .u64 bi, .int .u64 bt, .slice Ae ne ce]
  have I0 := Lib.hid (show AddI w bi bt Z (acc 0) (bsOf (ns.take 0)) (.slice none 0 0) (w.alloc (.cells #[.int .u64 bi, .int .u64 bt, .slice Ae ne ce] 34)) from
    ⟨⟨_, _, _, rfl⟩, ⟨_, [], K0, by rw [ha0]; exact hE, by simp⟩, Bo.nil_ _ _, below_alloc_ w _⟩)
  rw [← hL]
  clear h hZ hE hw hA hn h0 hok ha0 hacc hi0 hbi hsz T hd hwk hL hcn K0
  have qs := fun (w : World) (a : Option Addr) (n c n' c' : Nat) => Lib.run_eql_slice_nil (P := Tryd.prog) w _ _ a n c n' c' Tryd.underlying25
  go_enter Tryd.func12, Tryd.ntmps12
  go_wp2_with fail
  refine AS.out.mono ?_
  rintro e w1 ⟨rfl, rfl⟩
  go_wp2_with fail
  go_loopw [7, 27] (fun s7 s27 wr => ∃ k : Nat, s27 = .int .i64 (k : Int) ∧ k ≤ L ∧ AddI w bi bt Z (acc k) (bsOf (ns.take k)) s7 wr) (fun _ s27 _ => L - (intOf s27).toNat)
  case atStart => exact ⟨0, rfl, Nat.zero_le _, I0.out⟩
  case round =>
    obtain ⟨k, rfl, hk, hI⟩ := hrel
    have II := Lib.hid hI
    obtain ⟨Ab, nb, cb, hsb⟩ := hI.sl
    subst hsb
    clear hI
    by_cases hlt : k < L
    · have hkn : k < ns.length := by have := LL.out; omega
      obtain ⟨g, o, c', hv, hc', hg, hh⟩ := NE.out.at_ (by omega)
      injection hv with hv1 hv2 hv3
      subst hv1
      obtain ⟨sv, hs, hcell⟩ := hh k hkn
      obtain ⟨x0, x1, x2, x3, hx, f0, f1, f2, f3, fin, f8, fl, fb⟩ := OK.out _ (List.getElem_mem hkn)
      obtain ⟨t, xc, xn, hx'⟩ := HN.out k hkn
      obtain ⟨i, hi⟩ : ∃ i, i = i0 + 1 + k := ⟨_, rfl⟩
      rw [← hi] at hx'
      have hxx := hx.symm.trans hx'
      simp only [List.cons.injEq, and_true] at hxx
      obtain ⟨rfl, rfl, rfl, rfl⟩ := hxx
      have hec : ecells (ns[k], sv) = [.int .u64 (i : Int), .int .u64 x1, .int .u8 x2, .int .u64 x3, sv] := by simp [ecells, hx, entryK, fc]
      rw [hec] at hcell
      have he2 : ns[k] = ([(i : Int), x1, x2, x3], ns[k].2) := by rw [← hx]
      have hac := ACC.out k hkn
      rw [← hi, show ns[k].1.tail.headD 0 = x1 from by rw [hx]; rfl] at hac
      have d0 : wr.cell? ⟨g, o + k * 5, none⟩ = some (.int .u64 (i : Int)) := cell_on II.out.bel hg (by have := hcell 0 (.int .u64 (i : Int)) (by omega) rfl; simpa using this)
      have d1 := cell_on II.out.bel hg (hcell 1 (.int .u64 x1) (by omega) rfl)
      have d2 := cell_on II.out.bel hg (hcell 2 (.int .u8 x2) (by omega) rfl)
      have d3 := cell_on II.out.bel hg (hcell 3 (.int .u64 x3) (by omega) rfl)
      have d4 := cell_on II.out.bel hg (hcell 4 sv (by omega) rfl)
      obtain ⟨Asv, csv, rfl, -⟩ := id hs
      obtain ⟨q, hq⟩ : ∃ q, q = ns[k].2 := ⟨_, rfl⟩
      rw [← hq] at hs d4 he2 fin f8
      rw [he2] at hac
      have STP := Lib.hid (hs : Steps w (.slice Asv q.length csv) q)
      obtain ⟨m, hm⟩ : ∃ m, m = q.length := ⟨_, rfl⟩
      rw [← hm] at hs d4
      have MM := Lib.hid hm
      have hef : efB ns[k] = frameB (entryB ([(i : Int), x1, x2, x3], q)) := by rw [he2]; rfl
      obtain ⟨wa, hwa⟩ : ∃ wa, wa = wr.alloc (.cells #[.int .u64 (i : Int), .int .u64 x1, .int .u8 x2, .int .u64 x3, .slice Asv m csv] 59) := ⟨_, rfl⟩
      have ba : Below wr.heap.size wr wa := by rw [hwa]; exact below_alloc_ wr _
      have ka : Blk wa wr.heap.size 59 #[.int .u64 (i : Int), .int .u64 x1, .int .u8 x2, .int .u64 x3, .slice Asv m csv] := by rw [hwa]; exact Blk.new wr _ _
      have hle : w.heap.size ≤ wr.heap.size := by have := II.out.blk_lt; omega
      have bwa : Below w.heap.size w wa := II.out.bel.trans (ba.mono hle)
      have FR := Lib.hid (lframe_any (i : Int) x1 x2 x3 (.slice Asv m csv) q f0 f1 f2 f3 fin wa (Rd.below hs bwa) f8 (by rw [← he2]; exact fl) (by rw [← he2]; exact fb) (TW.out.below bwa))
      have SN := Lib.hid (show bsOf (ns.take (k + 1)) = bsOf (ns.take k) ++ frameB (entryB ([(i : Int), x1, x2, x3], q)) from by rw [bsOf_take hkn, hef])
      have FL := Lib.hid (show (bsOf (ns.take k)).length + (frameB (entryB ([(i : Int), x1, x2, x3], q))).length ≤ 140737488355328 from by
        have h1 := bsOf_le (ns := ns) (k + 1)
        rw [SN.out, List.length_append] at h1
        have := HS.out; omega)
      have WA := Lib.hid hwa
      have BA := Lib.hid ba
      have KA := Lib.hid ka
      have BWA := Lib.hid bwa
      have LT := Lib.hid hlt
      have FPOS := Lib.hid (show 0 < (frameB (entryB ([(i : Int), x1, x2, x3], q))).length from by rw [← hef]; exact efB_pos _)
      obtain ⟨evk, Yk, kb, hEk, hYk⟩ := II.out.ex
      obtain ⟨wk1, wk2⟩ := WK.out k (by omega)
      have hi64 : i < 18446744073709551616 := by have := HI.out; omega
      have AD := Lib.hid (fun W' hk' hX' hs' => ladd_any w.heap.size bi bt i evk (acc k) (Yk ++ Z) x1 x2 x3 (.slice Asv q.length csv) q W' hk' hEk hX' wk1 (by omega) hi64 (by omega) hs' (by omega))
      rw [hac] at AD
      have HXR := Lib.hid (AddI.has II.out.bel HZW.out hYk)
      have KB := Lib.hid kb
      have YK := Lib.hid hYk
      have hlt' : (k : Int) < (L : Int) := by omega
      have GL := Lib.hid hg
      have HCE := Lib.hid (fun j hj => hh j hj)
      have I250 := Lib.hid (show i ≤ 250 by have := HI.out; omega)
      have PREV : ∀ k', k = k' + 1 → w.cell? ⟨g, o + k' * 5, none⟩ = some (.int .u64 ((i0 + 1 + k' : Nat) : Int)) := fun k' hk' => by
        obtain ⟨s', -, hc2⟩ := HCE.out k' (by omega)
        obtain ⟨t', c2, n2, he'⟩ := HN.out k' (by omega)
        have := hc2 0 (.int .u64 ((i0 + 1 + k' : Nat) : Int)) (by omega) (by simp [ecells, he', entryK, fc])
        simpa using this
      have PV := Lib.hid PREV
      have IE := Lib.hid hi
      clear hkn hh hs hcell hx hx' f0 f1 f2 f3 fin f8 fl fb hec he2 hm hef hk hc' hv2 hv3 hg hac ba ka bwa hle kb hEk hYk wk1 wk2 hi64 PREV hi hwa hq
      go_wp2_with fail
      rw [← WA.out]
      refine FR.out.mono ?_
      rintro e w5 ⟨v5, rfl, h5, b5⟩
      have B5 := Lib.hid (show Below wr.heap.size wr w5 from BA.out.trans (b5.mono BA.out.size))
      have H5 := Lib.hid h5
      have kx := KA.out.below b5 KA.out.lt
      have c0 := kx.cell 0
      have c1 := kx.cell 1
      have c2 := kx.cell 2
      have c3 := kx.cell 3
      have c4 := kx.cell 4
      simp at c0 c1 c2 c3 c4
      obtain ⟨g5, n5, c5, rfl⟩ := h5.some_ FPOS.out
      have KB5 := Lib.hid (KB.out.below B5.out KB.out.lt)
      have HX5 := Lib.hid (show Has w5 (Yk ++ Z) from fun q hq => (B5.out.block _ (lt_of_heap (HXR.out q hq))).trans (HXR.out q hq))
      have ST5 := Lib.hid (show Steps w5 (.slice Asv q.length csv) q from Rd.below STP.out (II.out.bel.trans (B5.out.mono (by have := II.out.blk_lt; omega))))
      rw [← MM.out] at ST5 AD
      have RL := Lib.hid (show w.heap.size < wr.heap.size from by have := II.out.blk_lt; omega)
      have nw : wr.heap.size ≠ w.heap.size := by have := RL.out; omega
      have ngw : g ≠ w.heap.size := by have := GL.out; omega
      have NW := Lib.hid nw
      have NGW := Lib.hid ngw
      clear h5 b5 kx d0 d1 d2 d3 d4 nw ngw
      by_cases hk0 : k = 0
      · subst hk0
        have n0 : ¬ ((0 : Int) < ((0 : Nat) : Int)) := by omega
        go_wp2_with fail
        have B6 := Lib.hid (show Below wr.heap.size wr w5.drew from B5.out.drew)
        have H6 := Lib.hid (show Bo wa.heap.size w5.drew (.slice (some ⟨g5, 0, none⟩) n5 c5) _ from H5.out.below ((Below.refl _ w5).drew))
        have KB6 := Lib.hid (show Blk w5.drew w.heap.size 34 #[.int .u64 bi, .int .u64 bt, evk] from KB5.out.drew)
        have HX6 := Lib.hid (show Has w5.drew (Yk ++ Z) from HX5.out)
        have ST6 := Lib.hid (show Steps w5.drew (.slice Asv m csv) q from Rd.drew ST5.out)
        obtain ⟨F, hF⟩ : ∃ F : Nat → World, ∀ n, F n = w5.drew := ⟨fun _ => w5.drew, fun _ => rfl⟩
        replace c0 := cell_F hF c0
        replace c1 := cell_F hF c1
        replace c2 := cell_F hF c2
        replace c3 := cell_F hF c3
        replace c4 := cell_F hF c4
        refine wp_region_quiet_tail F 0 20 hF (by kernel_rfl) (by kernel_rfl) ?_
        clear hF
        simp only [List.take_succ_cons, List.take_zero, List.drop_succ_cons, List.drop_zero]
        repeat (go_big_quiet_step (fail))
        refine wpQuiet_nil ?_
        clear B5 H5 KB5 HX5 ST5
        generalize w5.drew = w6 at *
        go_wp2_with fail
        refine (AD.out w6 KB6.out HX6.out ST6.out).mono ?_
        rintro e w7 ⟨rfl, ev7, Y7, hE7, hY7, g7, k7⟩
        have G7 := Lib.hid g7
        have Y7H := Lib.hid hY7
        have E7 := Lib.hid hE7
        have K7 := Lib.hid k7
        have BF := Lib.hid (show Bf (w.heap.size + 1) w7 w7 (.slice Ab nb cb) (bsOf (ns.take 0)) from ⟨(II.out.own.below B6.out).grown G7.out KB6.out (by decide), Below.refl _ _, by have := G7.out.size; have := B6.out.size; have := RL.out; omega⟩)
        have Y5 := Lib.hid (show Bs w7 (.slice (some ⟨g5, 0, none⟩) n5 c5) _ from Bo.bs (H6.out.grown G7.out KB6.out (by decide)))
        clear hE7 hY7 g7 k7 c0 c1 c2 c3 c4
        go_wp2_with (at_builtin; refine wpList_bf_bytesK rfl _ _ 25 rfl Tryd.underlying25 rfl BF.out Y5.out rfl FL.out ?_; intro v6 w8 hB6 hG6; have B8 := Lib.hid hB6; have G8 := Lib.hid hG6; obtain ⟨A6, n6, c6, rfl⟩ := hB6.own.sl; clear hB6 hG6)
        go_roundw
        case rel => exact ⟨0 + 1, by go_num, LT.out, AddI.step YK.out KB.out II.out.own II.out.bel B6.out E7.out Y7H.out G7.out K7.out ⟨_, _, _, rfl⟩ (by rw [SN.out]; exact B8.out.own) G8.out⟩
        case measure => have := LT.out; simp [intOf]; omega
      · obtain ⟨k', hkI⟩ : ∃ k', k = k' + 1 := ⟨k - 1, by omega⟩
        obtain ⟨j1, hj1⟩ : ∃ j1, j1 = i0 + 1 + k' := ⟨_, rfl⟩
        have cp0 := (II.out.bel.cell (block_lt_of_cell (PV.out k' hkI))).trans (PV.out k' hkI)
        have cp := (B5.out.cell (block_lt_of_cell cp0)).trans cp0
        clear cp0
        rw [← hj1] at cp
        have n1 : IntKind.u64.wrap ((j1 : Int) + 1) = (i : Int) := (IntWalk.u64_in _ (by have := I250.out; have := IE.out; omega)).trans (by have := IE.out; omega)
        have n2 : (k : Int) - 1 = (k' : Int) := by omega
        have n3 : (0 : Int) < (k : Int) := by omega
        have n3a : 0 < k := by omega
        have n3b : decide ((0 : Int) < (k : Int)) = true := decide_eq_true n3
        have n3c : ¬ k = 0 := by omega
        have n4 : (k' : Int) < (L : Int) := by omega
        have n6 : (k : Int) < (L : Int) := by omega
        clear hkI hj1 hk0
        go_wp2_with fail
        have B6 := Lib.hid (show Below wr.heap.size wr w5.drew from B5.out.drew)
        have H6 := Lib.hid (show Bo wa.heap.size w5.drew (.slice (some ⟨g5, 0, none⟩) n5 c5) _ from H5.out.below ((Below.refl _ w5).drew))
        have KB6 := Lib.hid (show Blk w5.drew w.heap.size 34 #[.int .u64 bi, .int .u64 bt, evk] from KB5.out.drew)
        have HX6 := Lib.hid (show Has w5.drew (Yk ++ Z) from HX5.out)
        have ST6 := Lib.hid (show Steps w5.drew (.slice Asv m csv) q from Rd.drew ST5.out)
        obtain ⟨F, hF⟩ : ∃ F : Nat → World, ∀ n, F n = w5.drew := ⟨fun _ => w5.drew, fun _ => rfl⟩
        replace c0 := cell_F hF c0
        replace c1 := cell_F hF c1
        replace c2 := cell_F hF c2
        replace c3 := cell_F hF c3
        replace c4 := cell_F hF c4
        replace cp := cell_F hF cp
        refine wp_region_quiet_tail F 0 20 hF (by kernel_rfl) (by kernel_rfl) ?_
        clear hF
        simp only [List.take_succ_cons, List.take_zero, List.drop_succ_cons, List.drop_zero]
        repeat (go_big_quiet_step (fail))
        refine wpQuiet_nil ?_
        clear B5 H5 KB5 HX5 ST5
        generalize w5.drew = w6 at *
        go_wp2_with fail
        refine (AD.out w6 KB6.out HX6.out ST6.out).mono ?_
        rintro e w7 ⟨rfl, ev7, Y7, hE7, hY7, g7, k7⟩
        have G7 := Lib.hid g7
        have Y7H := Lib.hid hY7
        have E7 := Lib.hid hE7
        have K7 := Lib.hid k7
        have BF := Lib.hid (show Bf (w.heap.size + 1) w7 w7 (.slice Ab nb cb) (bsOf (ns.take k)) from ⟨(II.out.own.below B6.out).grown G7.out KB6.out (by decide), Below.refl _ _, by have := G7.out.size; have := B6.out.size; have := RL.out; omega⟩)
        have Y5 := Lib.hid (show Bs w7 (.slice (some ⟨g5, 0, none⟩) n5 c5) _ from Bo.bs (H6.out.grown G7.out KB6.out (by decide)))
        clear hE7 hY7 g7 k7 c0 c1 c2 c3 c4 cp
        go_wp2_with (at_builtin; refine wpList_bf_bytesK rfl _ _ 25 rfl Tryd.underlying25 rfl BF.out Y5.out rfl FL.out ?_; intro v6 w8 hB6 hG6; have B8 := Lib.hid hB6; have G8 := Lib.hid hG6; obtain ⟨A6, n6, c6, rfl⟩ := hB6.own.sl; clear hB6 hG6)
        go_roundw
        case rel => exact ⟨k + 1, by go_num, LT.out, AddI.step YK.out KB.out II.out.own II.out.bel B6.out E7.out Y7H.out G7.out K7.out ⟨_, _, _, rfl⟩ (by rw [SN.out]; exact B8.out.own) G8.out⟩
        case measure => have := LT.out; simp [intOf]; omega
    · obtain rfl : k = L := by omega
      obtain ⟨evk, Yk, kb, hEk, hYk⟩ := II.out.ex
      have HXR := AddI.has II.out.bel HZW.out hYk
      obtain ⟨Ak, nk, ck, hvk⟩ : ∃ A n c, evk = .slice A n c := by obtain ⟨_, _, ⟨A, c, e, -⟩, -⟩ := hEk.ents HXR; exact ⟨A, _, c, e⟩
      have hnk : nk = (acc k).length := by
        obtain ⟨_, _, ⟨A, c, e, -⟩, -⟩ := hEk.ents HXR
        rw [hvk] at e; injection e
      subst hvk
      have hnl : (nk : Int) ≤ 250 := by have := (WK.out k (by have := LL.out; omega)).2; omega
      have hnl2 : ¬ (256 : Int) < (nk : Int) := by omega
      obtain ⟨bs, hbs⟩ : ∃ bs, bs = bsOf ns := ⟨_, rfl⟩
      have hown := II.out.own
      rw [LL.out, List.take_length, ← hbs] at hown
      obtain ⟨Ab', cb', hvb, -⟩ := hown.clip
      injection hvb with hb1 hb2 hb3
      have hby := hbs ▸ bsOf_byt OK.out
      have hs0 := HS.out
      have hd0 := HD.out
      rw [← hbs] at hs0 hd0
      obtain ⟨mb, hmb⟩ : ∃ mb, mb = bs.length := ⟨_, rfl⟩
      have hbl : bs.length ≤ 4611686018427387904 := by omega
      have O1 := Lib.hid ((HO.out.addNew (Y := (w.heap.size, .cells #[.int .u64 bi, .int .u64 bt, .slice Ak nk ck] 34) :: Yk) II.out.bel (fun q hq => by
        rcases List.mem_cons.1 hq with rfl | hq
        · exact ⟨Nat.le_refl _, kb⟩
        · exact ⟨Nat.le_of_lt (hYk q hq).1, (hYk q hq).2.1⟩)).mono (Y := (w.heap.size, .cells #[.int .u64 bi, .int .u64 bt, .slice Ak nk ck] 34) :: (p, lgO bi bt (.slice Ae ne ce) d size false) :: (Yk ++ Z)) (fun q hq => by
        simp only [List.mem_cons, List.mem_append] at hq ⊢
        rcases hq with h | h | h | h <;> simp [h]))
      have YN := Lib.hid (show ∀ q ∈ Yk, w.heap.size ≤ q.1 from fun q hq => Nat.le_of_lt (hYk q hq).1)
      have NEP := Lib.hid (show ∀ q ∈ Yk ++ Z, q.1 ≠ p from fun q hq => by
        rcases List.mem_append.1 hq with hq | hq
        · have h1 := (hYk q hq).1
          have h2 := KL.out.lt
          omega
        · exact HZ.out q hq)
      have EK := Lib.hid hEk
      have hn1 : ¬ ((size : Int) + (mb : Int) > 262144) := by omega
      have wsz : IntKind.i64.wrap ((size : Int) + (mb : Int)) = ((size + mb : Nat) : Int) := (IntWalk.i64_in _ (by omega)).trans (by omega)
      obtain ⟨sm, hsm⟩ : ∃ sm, sm = size + mb := ⟨_, rfl⟩
      rw [← hsm] at wsz
      have hsm1 : ¬ (262144 : Int) < (sm : Int) := by omega
      obtain ⟨sa, ra, hda⟩ : ∃ sa ra, doesS s ((sizeS s : Nat) + (bs.length : Nat) : Int) true (fun q => some (q.1 ++ bs, q.2)) = (sa, ra) := ⟨_, _, rfl⟩
      unfold addS at hd0
      rw [hda] at hd0
      have AA := Lib.hid (on_add sa ra nm_log (.slice Ab nb cb) bs hby hbl O1.out hown.bs hda)
      have kc := (show Blk wr w.heap.size 34 #[.int .u64 bi, .int .u64 bt, .slice Ak nk ck] from kb)
      have kl := (show Blk wr p 37 (lgC bi bt (.slice Ae ne ce) d size false) from O1.out.keep (p, _) (List.mem_cons_of_mem _ (List.mem_cons_self ..)))
      have e0 := kc.cell 0
      have e1 := kc.cell 1
      have e2 := kc.cell 2
      have b3 := kl.cell 3
      have b4 := kl.cell 4
      simp [lgC] at e0 e1 e2 b3 b4
      rw [← hmb] at hb2
      have MB := Lib.hid hb2
      subst hb2
      have SMM := Lib.hid hsm
      have MBB := Lib.hid hmb
      have HBS := Lib.hid hbs
      have HD0 := Lib.hid hd0
      have NKK := Lib.hid hnk
      clear hd0 hda hs0 hbl hbs hmb hby hown hb1 hb3 kc kl hEk hYk kb HXR hk hlt hsm hnk
      by_cases hra : ra = 0
      · have hd1 := HD0.out
        rw [if_pos hra] at hd1
        subst hra
        have HD1 := Lib.hid hd1
        clear hd1
        go_wp2_with fail
        refine AA.out.mono ?_
        rintro e w2 ⟨rfl, o2⟩
        have O2 := Lib.hid o2
        have SU := Lib.hid (on_sure s1 r nm_log O2.out HD1.out)
        have kl := (show Blk w2 p 37 (lgC bi bt (.slice Ae ne ce) d size false) from o2.keep (p, _) (List.mem_cons_of_mem _ (List.mem_cons_self ..)))
        have g3 := kl.cell 3
        simp [lgC] at g3
        clear o2 kl e0 e1 e2 b3 b4
        go_wp2_with fail
        refine SU.out.mono ?_
        rintro e w3 ⟨rfl, o3⟩
        have O3 := Lib.hid o3
        have KL3 := Lib.hid (show Blk w3 p 37 (lgC bi bt (.slice Ae ne ce) d size false) from o3.keep (p, _) (List.mem_cons_of_mem _ (List.mem_cons_self ..)))
        have kc := (show Blk w3 w.heap.size 34 #[.int .u64 bi, .int .u64 bt, .slice Ak nk ck] from o3.keep (w.heap.size, _) (List.mem_cons_self ..))
        have OZ := Lib.hid (o3.mono (Y := (p, lgO bi bt (.slice Ae ne ce) d size false) :: (Yk ++ Z)) (fun q hq => List.mem_cons_of_mem _ hq))
        have e0 := kc.cell 0
        have e1 := kc.cell 1
        have e2 := kc.cell 2
        have a0 := KL3.out.cell 0
        have a1 := KL3.out.cell 1
        have a2 := KL3.out.cell 2
        have a4 := KL3.out.cell 4
        have a5 := KL3.out.cell 5
        have f0 := KL3.out.free 0
        have f1 := KL3.out.free 1
        have f2 := KL3.out.free 2
        have f4 := KL3.out.free 4
        have f5 := KL3.out.free 5
        simp [lgC] at e0 e1 e2 a0 a1 a2 a4 a5
        clear o3 kc g3
        by_cases hr : r = 0
        · subst hr
          go_wp2_with fail
          go_region
          go_wp2
          go_ret
          refine ⟨_, Yk, EK.out, YN.out, by simp [rvOf], ?_⟩
          unfold pick2
          rw [if_pos rfl, ← HBS.out, ← MBB.out, show ((size : Int) + (nb : Int)) = ((sm : Nat) : Int) from by have := SMM.out; omega]
          exact (OZ.out.turn _ (((((Kp.refl _ [p]).setCell (.inl (by simp)) _).setCell (.inl (by simp)) _).setCell (.inl (by simp)) _).setCell (.inl (by simp)) _) ((((KL3.out.set_ 0 (.int .u64 bi)).set_ 1 (.int .u64 bt)).set_ 2 (.slice Ak nk ck)).set_ 4 (.int .i64 sm)) NEP.out HP.out).below ((Below.refl _ _).drew)
        · have hrb : (r != 0) = true := by simp [hr]
          go_wp2
          go_ret
          refine ⟨_, Yk, EK.out, YN.out, by simp [rvOf, hr], ?_⟩
          unfold pick2
          rw [if_neg hr]
          exact OZ.out.turn _ ((Kp.refl _ [p]).setCell (.inl (by simp)) _) (KL3.out.set_ 5 _) NEP.out HP.out
      · have hd1 := HD0.out
        rw [if_neg hra] at hd1
        obtain ⟨rfl, rfl⟩ := Prod.mk.inj hd1
        have hrb : (ra != 0) = true := by simp [hra]
        clear hd1
        go_wp2_with fail
        refine AA.out.mono ?_
        rintro e w3 ⟨rfl, o3⟩
        have KL3 := Lib.hid (show Blk w3 p 37 (lgC bi bt (.slice Ae ne ce) d size false) from o3.keep (p, _) (List.mem_cons_of_mem _ (List.mem_cons_self ..)))
        have OZ := Lib.hid (o3.mono (Y := (p, lgO bi bt (.slice Ae ne ce) d size false) :: (Yk ++ Z)) (fun q hq => List.mem_cons_of_mem _ hq))
        have a5 := KL3.out.cell 5
        have f5 := KL3.out.free 5
        simp [lgC] at a5
        clear o3 e0 e1 e2 b3 b4
        go_wp2
        go_ret
        refine ⟨_, Yk, EK.out, YN.out, by simp [rvOf, hra], ?_⟩
        unfold pick2
        rw [if_neg hra]
        exact OZ.out.turn _ ((Kp.refl _ [p]).setCell (.inl (by simp)) _) (KL3.out.set_ 5 _) NEP.out HP.out
end Go.Proofs.YtnegondlkfeleaaDoor
