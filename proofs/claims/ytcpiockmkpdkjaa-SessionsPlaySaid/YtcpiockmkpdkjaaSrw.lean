/- SessionsRise: walk. -/
import Derived.Test.YtcpiockmkpdkjaaSac
import Derived.Test.YtcpiockmkpdkjaaSpu
import Derived.Test.YtcpiockmkpdkjaaQbl
import Derived.Deep.CutBlock
namespace Go.Proofs.Ytcpiockmkpdkjaa
open Go.RowKit

/-- What holds between the rounds: the book B, the arrays of C. -/
structure RiI (W : World) (b l r : Nat) (wr : World) (B C : Nat → Sp) (V : Nat → Value) : Prop where
  bk : IsBk (fun k => k ≠ l ∧ k ≠ r) wr b B
  la : Blk wr l 29 (laC C).toArray
  re : Blk wr r 34 (reC C V).toArray
  got : ∀ m, m < 9 → Gots W (V m) (C m).gs
  bel : Below W.heap.size W wr
  bl : b ≠ l
  br : b ≠ r
  lr : l < r
  b0 : W.heap.size ≤ b
  l0 : W.heap.size ≤ l
theorem RiI.below {W : World} {b l r : Nat} {w w' : World} {B C : Nat → Sp} {V : Nat → Value} (h : RiI W b l r w B C V) (hb : Below w.heap.size w w') : RiI W b l r w' B C V :=
  ⟨h.bk.below hb, h.la.below hb h.la.lt, h.re.below hb h.re.lt, h.got, h.bel.trans (hb.mono h.bel.size), h.bl, h.br, h.lr, h.b0, h.l0⟩
theorem RiI.note {W : World} {b l r : Nat} {w w' : World} {B C B' : Nat → Sp} {V : Nat → Value} (h : RiI W b l r w B C V) (hbk : IsBk (fun k => (k ≠ l ∧ k ≠ r) ∨ w.heap.size ≤ k) w' b B') (hg : w.grownBy w' (some b)) : RiI W b l r w' B' C V :=
  ⟨hbk.mono fun k hk => hk.elim id fun hk => by have := h.re.lt; have := h.la.lt; omega, h.la.grown hg (fun e => h.bl (Option.some.inj e).symm), h.re.grown hg (fun e => h.br (Option.some.inj e).symm), h.got,
    below_grown_ h.bel hg h.bel.size h.b0, h.bl, h.br, h.lr, h.b0, h.l0⟩
theorem RiI.store {W : World} {b l r : Nat} {w : World} {B C : Nat → Sp} {V : Nat → Value} (h : RiI W b l r w B C V) (m : Nat) (hm : m < 9) (p : Sp) (v : Value) (hv : Gots W v p.gs) :
    RiI W b l r ((((w.setCell ⟨l, m, none⟩ (.int .u64 p.num)).setCell ⟨r, m * 3, none⟩ (.int .i64 p.e)).setCell ⟨r, m * 3 + 1, none⟩ (.int .i64 p.a)).setCell ⟨r, m * 3 + 2, none⟩ v) B (fun k => if k = m then p else C k) (fun k => if k = m then v else V k) := by
  have hlr := h.lr
  have h0 := h.l0
  have hr0 : W.heap.size ≤ r := by omega
  refine ⟨?_, ?_, ?_, fun k hk => ?_, ?_, h.bl, h.br, h.lr, h.b0, h.l0⟩
  · refine (((h.bk.keep (grown_set_ w l m _) h.bl (by simp)).keep (grown_set_ _ r _ _) h.br (by simp)).keep (grown_set_ _ r _ _) h.br (by simp)).keep (grown_set_ _ r _ _) h.br (by simp)
  · have h1 := h.la.set_ m (.int .u64 p.num)
    rw [laC_set _ _ hm] at h1
    exact ((h1.far (p := ⟨r, m * 3, none⟩) (by simp; omega) _).far (p := ⟨r, m * 3 + 1, none⟩) (by simp; omega) _).far (p := ⟨r, m * 3 + 2, none⟩) (by simp; omega) _
  · have h1 := (((h.re.far (p := ⟨l, m, none⟩) (by simp; omega) (.int .u64 p.num)).set_ (m * 3) (.int .i64 p.e)).set_ (m * 3 + 1) (.int .i64 p.a)).set_ (m * 3 + 2) v
    rw [reC_set _ _ _ hm] at h1
    exact h1
  · show Gots W (if k = m then v else V k) (if k = m then p else C k).gs
    by_cases hkm : k = m
    · rw [if_pos hkm, if_pos hkm]; exact hv
    · rw [if_neg hkm, if_neg hkm]; exact h.got k hk
  · exact (((h.bel.setCell (p := ⟨l, m, none⟩) h0 _).setCell (p := ⟨r, m * 3, none⟩) hr0 _).setCell (p := ⟨r, m * 3 + 1, none⟩) hr0 _).setCell (p := ⟨r, m * 3 + 2, none⟩) hr0 _
theorem partB_byt {B : Nat → Sp} {i : Nat} (h : SpOk (B i)) (hi : i < 8) : ∀ c ∈ partB B i, byt c := by
  unfold partB
  split
  · intro c hc; cases hc
  · intro c hc
    rcases List.mem_cons.1 hc with rfl | hc
    · simp only [byt]; omega
    · unfold pB at hc
      rcases List.mem_append.1 hc with hc | hc
      · rcases List.mem_append.1 hc with hc | hc
        · exact nb_byt _ c hc
        · exact nb_byt _ c hc
      · exact cod_reply.byt _ (rB_ok h) c hc
theorem uptoB_byt {B : Nat → Sp} (h : ∀ i, i < 8 → SpOk (B i)) : ∀ k, k ≤ 8 → ∀ c ∈ uptoB B k, byt c
  | 0, _, c, hc => by simp [uptoB] at hc
  | k + 1, hk, c, hc => by
    rw [uptoB_succ] at hc
    rcases List.mem_append.1 hc with hc | hc
    · exact uptoB_byt h k (by omega) c hc
    · exact partB_byt (h k (by omega)) (by omega) c hc
theorem bookB_byt {B : Nat → Sp} (h : ∀ i, i < 8 → SpOk (B i)) : ∀ c ∈ bookB B, byt c := by
  intro c hc
  rcases List.mem_cons.1 hc with rfl | hc
  · have := manyB_le B 8; simp only [byt]; omega
  · exact uptoB_byt h 8 (by omega) c hc
theorem bookB_len {B : Nat → Sp} (h : ∀ i, i < 8 → SpOk (B i)) : (bookB B).length ≤ 1000000 := by
  have := uptoB_len h 8 (by omega)
  unfold bookB; simp only [List.length_cons]; omega
theorem of_book (v : Value) (B : Nat → Sp) (w : World) (hv : Bs w v (bookB B)) (hB : ∀ i, i < 8 → SpOk (B i)) :
    Calls Try.prog 22 #[v] w fun e w' => ∃ B', e = .returned (.tuple #[.pointer (some ⟨w.heap.size, 0, none⟩), .int .i64 0]) ∧ (∀ i, i < 8 → B' i = B i) ∧ IsBk (fun k => w.heap.size ≤ k) w' w.heap.size B' ∧ Below w.heap.size w w' := by
  obtain ⟨B', h1, h2⟩ := bookP_get hB
  refine (of_any v _ w hv (bookB_byt hB) (bookB_len hB)).mono ?_
  rintro e w' ⟨hb, h⟩
  rw [h1] at h
  exact ⟨B', h.1, h2, h.2, hb⟩
theorem askR_0 {B : Nat → Sp} {m : Nat} (hm : 1 ≤ m ∧ m ≤ 8) (h : (shB B m).num = 0) : askR B m 0 = ((0, 0, []), false, 18) := by
  have e1 : ((m : Int) - 1).toNat = m - 1 := by omega
  have a1 : ¬ ((m : Int) < 1 ∨ 8 < (m : Int)) := by omega
  have a2 : ¬ m = 0 := by omega
  unfold shB at h
  rw [if_neg a2] at h
  unfold askR
  rw [if_neg a1, e1, h, if_neg (by omega), if_pos (by omega)]
theorem askR_is {B : Nat → Sp} {m : Nat} {L : Int} (hm : 1 ≤ m ∧ m ≤ 8) (h : (shB B m).num = L) (h0 : ¬ L = 0) : askR B m L = (((shB B m).e, (shB B m).a, (shB B m).gs), true, 0) := by
  have e1 : ((m : Int) - 1).toNat = m - 1 := by omega
  have a1 : ¬ ((m : Int) < 1 ∨ 8 < (m : Int)) := by omega
  have a2 : ¬ m = 0 := by omega
  unfold shB at h ⊢
  rw [if_neg a2] at h ⊢
  unfold askR
  rw [if_neg a1, e1, h, if_neg (by omega), if_neg (by omega)]
theorem askR_up {B : Nat → Sp} {m : Nat} {n : Int} (hm : 1 ≤ m ∧ m ≤ 8) (h : (shB B m).num < n) : askR B m n = ((0, 0, []), false, 0) := by
  have e1 : ((m : Int) - 1).toNat = m - 1 := by omega
  have a1 : ¬ ((m : Int) < 1 ∨ 8 < (m : Int)) := by omega
  have a2 : ¬ m = 0 := by omega
  unfold shB at h
  rw [if_neg a2] at h
  unfold askR
  rw [if_neg a1, e1, if_pos h]
theorem samer_same (E A : Int) (v u : Value) (gs : List (List Int)) (w : World) (hg : ∀ q ∈ gs, fok gotK q) (hn : gs.length ≤ 8) (hv : Gots w v gs) (hu : Gots w u gs) :
    Calls Try.prog 11 #[.agg #[.int .i64 E, .int .i64 A, v], .agg #[.int .i64 E, .int .i64 A, u]] w fun e w' => e = .returned (.bool true) ∧ Below w.heap.size w w' := by
  have h2 : ∀ q ∈ gs, q.length = 2 := fun q hq => by obtain ⟨x0, x1, rfl, -⟩ := got_fok (hg q hq); rfl
  refine (samer_any E A E A v u gs gs h2 h2 w hv hu (by omega)).mono ?_
  rintro e w' ⟨rfl, hb⟩
  exact ⟨by simp, hb⟩
theorem shB_ok {B : Nat → Sp} (h : ∀ i, i < 8 → SpOk (B i)) (m : Nat) (hm : m < 9) : SpOk (shB B m) := by
  unfold shB
  split
  · exact SpOk.zero
  · exact h _ (by omega)
theorem noteE_m {B : Nat → Sp} {m : Nat} {n : Int} {k : Nat} (hm : 1 ≤ m ∧ m ≤ 8) : noteE B m n k = 0 ↔ ¬ 8 < k ∧ (shB B m).num < n := by
  have e1 : ((m : Int) - 1).toNat = m - 1 := by omega
  unfold noteE shB
  have a1 : ¬ ((m : Int) < 1 ∨ 8 < (m : Int)) := by omega
  have a2 : ¬ m = 0 := by omega
  rw [if_neg a1, if_neg a2, e1]
  by_cases h8 : 8 < k
  · rw [if_pos h8]; constructor
    · intro h; cases h
    · intro h; exact absurd h8 h.1
  · rw [if_neg h8]
    by_cases hn : n ≤ (B (m - 1)).num
    · rw [if_pos hn]; constructor
      · intro h; cases h
      · intro h; omega
    · rw [if_neg hn]; constructor
      · intro _; exact ⟨h8, by omega⟩
      · intro _; rfl
set_option maxHeartbeats 8000000 in
set_option maxRecDepth 100000 in
theorem srise_walk (v : Value) (rs : List SaR) (w : World) (h : Sas w v rs) :
    Calls Try.prog 5 #[v] w fun e w' => e = .returned (.bool true) ∧ Below w.heap.size w w' := by
  have H := Lib.hid h
  obtain ⟨A, c, rfl, -⟩ := h.shape
  clear h
  go_enter Try.func5, Try.ntmps5
  go_wp2_with fail
  refine (sgreat_any _ rs w H.out).mono ?_
  rintro e w1 ⟨⟨b, rfl, hlen⟩, rfl⟩
  have LE := Lib.hid hlen
  clear hlen
  cases b
  case true =>
    go_wp2_with fail
    refine (slives _).mono ?_
    rintro e w2 ⟨rfl, hb⟩
    go_wp2
    go_ret
    exact ⟨rfl, hb⟩
  case false =>
    go_wp2_with fail
    refine (new_any _).mono ?_
    rintro e w2 ⟨rfl, hbk, hbe⟩
    have HBK := Lib.hid hbk
    have HBE := Lib.hid hbe
    clear hbk hbe
    go_wp2
    obtain ⟨n, hn⟩ : ∃ n, n = rs.length := ⟨_, rfl⟩
    have N := Lib.hid hn
    rw [← hn]
    have hn150 : n ≤ 150 := by have := LE.out trivial; omega
    clear hn
    go_loopg [6] n (fun g c6 wr => ∃ (i : Nat) (B : Nat → Sp) (V : Nat → Value), i ≤ n ∧ g = n - i ∧ c6 = .int .i64 i ∧ RiI w w.heap.size w2.heap.size (w2.heap.size + 1) wr B (shB B) V)
    case atStart =>
      refine ⟨0, fun _ => Sp.zero, fun _ => .slice none 0 0, by omega, rfl, rfl, ?_⟩
      have e0 : shB (fun _ => Sp.zero) = fun _ => Sp.zero := by funext m; unfold shB; split <;> rfl
      have hl : w.heap.size < w2.heap.size := HBK.out.lt
      refine ⟨?_, ?_, ?_, ?_, ?_, by omega, by omega, by omega, by omega, by omega⟩
      · exact ((HBK.out.below (below_alloc_ _ _)).below (below_alloc_ _ _)).mono (fun _ h => h.elim)
      · rw [e0]; exact (Blk.new w2 29 _).alloc _
      · rw [e0]
        have := Blk.new (w2.alloc (.cells (laC fun _ => Sp.zero).toArray 29)) 34 (reC (fun _ => Sp.zero) (fun _ => .slice none 0 0)).toArray
        rw [World.size_alloc] at this
        exact this
      · intro m _; rw [e0]; exact ⟨none, 0, rfl, Nat.le_refl _, rfl, .inl rfl⟩
      · exact HBE.out.trans ((below_alloc2_ w2 _ _).mono HBE.out.size)
    case round =>
      obtain ⟨i, B, V, hi, hg, rfl, hR⟩ := hrel
      have G := Lib.hid hg
      have R := Lib.hid hR
      clear hg hR
      by_cases hin : i < n
      · have hib : i < rs.length := by have := N.out; omega
        obtain ⟨g0, o0, rfl, -, c0, c1, c2, c3, c4, c5⟩ := (show Sas _ (.slice A n c) rs from by have := H.out.below R.out.bel; rw [← N.out] at this; exact this).at_ i hib
        have OK := Lib.hid (H.out.ok _ (List.getElem_mem hib))
        obtain ⟨r, hr⟩ : ∃ r, r = rs[i] := ⟨_, rfl⟩
        rw [← hr] at c0 c1 c2 c3 c4 c5 OK
        clear hr
        obtain ⟨nt, cl, num, E, AA, v, gs⟩ := r
        simp only at c0 c1 c2 c3 c4 c5
        obtain ⟨AG, cG, hv, -⟩ := id OK.out.v
        simp only at hv
        subst hv
        have hcl := OK.out.cl
        simp only [byt] at hcl
        obtain ⟨j, hj⟩ : ∃ j : Nat, cl.tmod 8 = j := ⟨(cl.tmod 8).toNat, by rw [Int.tmod_eq_emod_of_nonneg hcl.1]; omega⟩
        have hj8 : j < 8 := by rw [Int.tmod_eq_emod_of_nonneg hcl.1] at hj; omega
        clear hcl
        go_wp2_with fail
        obtain ⟨m, hm⟩ : ∃ m : Nat, 1 + (j : Int) = m := ⟨1 + j, by omega⟩
        have hm1 : 1 ≤ m ∧ m ≤ 8 := by omega
        rw [hm]
        clear hm hj c0 c1 c2 c3 c4 c5 hib
        have HK := Lib.hid (Blk.new wr 38 #[.bool nt, .int .u8 cl, .int .u64 num, .int .i64 E, .int .i64 AA, .slice AG gs.length cG])
        have R1 := Lib.hid (R.out.below (below_alloc_ wr (.cells #[.bool nt, .int .u8 cl, .int .u64 num, .int .i64 E, .int .i64 AA, .slice AG gs.length cG] 38)))
        have GV := Lib.hid (Rd.alloc (Rd.below OK.out.v R.out.bel) (.cells #[.bool nt, .int .u8 cl, .int .u64 num, .int .i64 E, .int .i64 AA, .slice AG gs.length cG] 38))
        refine (note_any w.heap.size B m num E AA _ gs _ R1.out.bk GV.out OK.out.num.2 OK.out.e OK.out.a OK.out.gs).mono ?_
        rintro e w3 ⟨rfl, hbk3, hg3⟩
        have R3 := Lib.hid (R1.out.note hbk3 hg3)
        have HK3 := Lib.hid (HK.out.grown hg3 (by have := R.out.bk.lt; simp; omega))
        have hm9 : m < 9 := by omega
        have hm9i : (m : Int) < 9 := by omega
        obtain ⟨L, hL⟩ : ∃ L, L = (shB B m).num := ⟨_, rfl⟩
        have cl0 := R3.out.la.cell m
        rw [laC_get _ _ hm9, ← hL] at cl0
        have d2 := HK3.out.cell 2
        have d3 := HK3.out.cell 3
        have d4 := HK3.out.cell 4
        have d5 := HK3.out.cell 5
        simp only [List.getElem?_toArray, List.getElem?_cons_zero, List.getElem?_cons_succ] at d2 d3 d4 d5
        obtain ⟨RR, hRR⟩ : ∃ RR, RR = noteE B m num gs.length := ⟨_, rfl⟩
        have hiff := noteE_m (B := B) (n := num) (k := gs.length) hm1
        rw [← hRR, ← hL] at hiff
        rw [← hRR]
        have IFF := Lib.hid hiff
        have HRR := Lib.hid hRR
        have HL := Lib.hid hL
        obtain ⟨k, hk⟩ : ∃ k, k = gs.length := ⟨_, rfl⟩
        rw [← hk] at d5 IFF HK3
        have KK := Lib.hid hk
        clear hbk3 hg3 hL hRR hiff hk
        go_upto_region 12 with fail
        go_cut [56] (fun s56 wx => s56 = .bool false ∧ ∃ q, wx = w3.drewN q)
        case first =>
          by_cases h0 : RR = 0
          · obtain ⟨h8, hlt⟩ := IFF.out.1 h0
            have h8i : (k : Int) ≤ 8 := by omega
            subst h0
            clear HRR IFF h8
            go_quiet (fail)
            go_wp2
            go_meet
            exact ⟨rfl, _, rfl⟩
          · have h0b : (RR == 0) = false := beq_eq_false_iff_ne.2 h0
            by_cases hlt : L < num
            · have h8 : ¬ (k : Int) ≤ 8 := fun h => h0 (IFF.out.2 ⟨by omega, hlt⟩)
              go_quiet (fail)
              go_wp2
              go_meet
              exact ⟨rfl, _, rfl⟩
            · go_quiet (fail)
              go_wp2
              go_meet
              exact ⟨rfl, _, rfl⟩
        case rest =>
          obtain ⟨rfl, q, rfl⟩ := hcut
          go_upto_if 58 with fail
          go_cut [] (fun wx => ∃ B' V', RiI w w.heap.size w2.heap.size (w2.heap.size + 1) wx B' (shB B') V')
          case first =>
            by_cases h0 : RR = 0
            · obtain ⟨h8, hlt⟩ := IFF.out.1 h0
              have HR0 := Lib.hid (show noteE B m num gs.length = 0 by rw [← HRR.out, h0])
              subst h0
              have f1 := R3.out.la.free
              have f2 := R3.out.re.free
              have n1 : wr.heap.size ≠ w2.heap.size := fun e => by have := R.out.la.lt; omega
              have n2 : wr.heap.size ≠ w2.heap.size + 1 := fun e => by have := R.out.re.lt; omega
              have n3 : w2.heap.size ≠ wr.heap.size := n1.symm
              have n4 : w2.heap.size + 1 ≠ wr.heap.size := n2.symm
              have n5 : w2.heap.size ≠ w2.heap.size + 1 := by omega
              obtain ⟨r0, r1, r2⟩ := reC_get (shB B) V m hm9
              rw [← R3.out.re.cell] at r0 r1 r2
              clear HRR IFF h8
              go_wp2
              go_meet
              have hS := (R3.out.below (below_drewN_ _ _ q)).store m hm9 ⟨num, E, AA, gs⟩ (.slice AG gs.length cG) OK.out.v
              refine ⟨noteB B m num E AA gs, fun k => if k = m then .slice AG gs.length cG else V k, ?_⟩
              have e1 : shB (noteB B m num E AA gs) = fun k => if k = m then ⟨num, E, AA, gs⟩ else shB B k := by
                unfold noteB
                rw [if_pos HR0.out, shB_upd, show ((m : Int) - 1).toNat + 1 = m from by omega]
              rw [e1]
              rw [← KK.out] at hS ⊢
              exact hS
            · have h0b : (RR == 0) = false := beq_eq_false_iff_ne.2 h0
              go_wp2
              go_meet
              refine ⟨B, V, ?_⟩
              have e1 : noteB B m num E AA gs = B := by
                unfold noteB
                rw [if_neg (by rw [← HRR.out]; exact h0)]
              have := R3.out.below (below_drewN_ _ _ q)
              rw [e1] at this
              exact this
          case rest =>
            obtain ⟨B', V', hR'⟩ := hcut
            have R' := Lib.hid hR'
            clear hR' cl0 d2 d3 d4 d5
            go_wp2_with fail
            refine (put_any w.heap.size B' wc R'.out.bk).mono ?_
            rintro e w4 ⟨v4, rfl, hbo, hb4⟩
            have R4 := Lib.hid (R'.out.below hb4)
            have BO4 := Lib.hid hbo
            obtain ⟨A4, n4, k4, rfl⟩ := hbo.sl
            clear hbo hb4
            go_wp2_with fail
            refine (of_book _ B' w4 BO4.out.bs (fun i hi => R'.out.bk.ok i hi)).mono ?_
            rintro e w5 ⟨B5, rfl, hB5, hbk5, hb5⟩
            have R5 := Lib.hid (R4.out.below hb5)
            have D5 := Lib.hid hbk5
            have E5 := Lib.hid hB5
            have OKB := Lib.hid (fun i hi => R'.out.bk.ok i hi)
            clear hbk5 hb5 hB5 R4 BO4
            go_wp2_with fail
            go_loopg [12] 8 (fun g c12 ws => ∃ (m : Nat), 1 ≤ m ∧ m ≤ 9 ∧ g = 9 - m ∧ c12 = .int .u8 m ∧ Below w5.heap.size w5 ws)
            case atStart => exact ⟨1, by omega, by omega, rfl, rfl, Below.refl _ _⟩
            case round =>
              obtain ⟨m', hm1', hm9', hg', rfl, hbe'⟩ := hrel
              have BE6 := Lib.hid hbe'
              have G' := Lib.hid hg'
              clear hbe' hg'
              by_cases hmm : m' ≤ 8
              · have hm98 : 1 ≤ m' ∧ m' ≤ 8 := ⟨hm1', hmm⟩
                have hm99 : m' < 9 := by omega
                have hm99i : (m' : Int) < 9 := by omega
                have hm88i : (m' : Int) ≤ 8 := by omega
                have R6 := Lib.hid (R5.out.below BE6.out)
                have D6 := Lib.hid (D5.out.below BE6.out)
                obtain ⟨LL, hLL⟩ : ∃ LL, LL = (shB B' m').num := ⟨_, rfl⟩
                have x0 := R6.out.la.cell m'
                rw [laC_get _ _ hm99, ← hLL] at x0
                have hsp := shB_ok OKB.out m' hm99
                have hlo : 0 ≤ LL := by rw [hLL]; exact hsp.lo
                have hhi : LL ≤ 18446744073709551615 := by rw [hLL]; exact hsp.hi
                have e5 : shB B5 m' = shB B' m' := by
                  have h0 : ¬ m' = 0 := by omega
                  unfold shB; rw [if_neg h0, if_neg h0]; exact E5.out _ (by omega)
                obtain ⟨E1, A1, gs1, is1, er1, hask, hcase⟩ : ∃ E1 A1 gs1 is1 er1, askR B5 m' LL = ((E1, A1, gs1), is1, er1) ∧ (LL = 0 ∧ is1 = false ∧ er1 = 18 ∨ ¬ LL = 0 ∧ is1 = true ∧ er1 = 0 ∧ E1 = (shB B' m').e ∧ A1 = (shB B' m').a ∧ gs1 = (shB B' m').gs) := by
                  by_cases h0 : LL = 0
                  · have := askR_0 (B := B5) hm98 (by rw [e5, ← hLL]; exact h0)
                    rw [h0]
                    exact ⟨_, _, _, _, _, this, .inl ⟨rfl, rfl, rfl⟩⟩
                  · have := askR_is (B := B5) (L := LL) hm98 (by rw [e5, ← hLL]) h0
                    exact ⟨_, _, _, _, _, this, .inr ⟨h0, rfl, rfl, by rw [e5], by rw [e5], by rw [e5]⟩⟩
                have HC := Lib.hid hcase
                have LO := Lib.hid hlo
                have HI := Lib.hid hhi
                have EL := Lib.hid hLL
                have AK := Lib.hid hask
                have SP := Lib.hid hsp
                clear hcase hlo hhi hLL hask hsp e5
                go_wp2_with fail
                refine (ask_at w4.heap.size B5 m' LL E1 A1 er1 gs1 is1 _ D6.out AK.out).mono ?_
                rintro e w7 ⟨P7, rfl, ho7, hb7⟩
                obtain ⟨wk, hwk⟩ : ∃ wk, wk = w7.alloc (.cells #[.int .i64 E1, .int .i64 A1, .slice P7 gs1.length gs1.length] 33) := ⟨_, rfl⟩
                have hbk : Below wr.heap.size wr wk := by rw [hwk]; exact hb7.trans ((below_alloc_ w7 _).mono hb7.size)
                have K7 := Lib.hid (show Blk wk w7.heap.size 33 #[.int .i64 E1, .int .i64 A1, .slice P7 gs1.length gs1.length] by rw [hwk]; exact Blk.new _ _ _)
                have O7 := Lib.hid (show Gots wk (.slice P7 gs1.length gs1.length) gs1 by rw [hwk]; exact Rd.alloc ho7.rd _)
                have R7 := Lib.hid (R6.out.below hbk)
                have BK7 := Lib.hid (BE6.out.trans (hbk.mono BE6.out.size))
                clear hb7 ho7 hbk x0
                go_upto_region 24 with fail
                rw [← hwk]
                clear hwk
                have x0 := R7.out.la.cell m'
                rw [laC_get _ _ hm99, ← EL.out] at x0
                go_cut [118] (fun s118 wx => s118 = .bool false ∧ Below wk.heap.size wk wx)
                case first =>
                  rcases HC.out with ⟨rfl, rfl, rfl⟩ | ⟨h0, rfl, rfl, rfl, rfl, rfl⟩
                  · go_quiet (fail)
                    go_wp2
                    go_meet
                    exact ⟨rfl, below_drewN_ _ _ nq⟩
                  · obtain ⟨E1, hE1⟩ : ∃ x, x = (shB B' m').e := ⟨_, rfl⟩
                    obtain ⟨A1, hA1⟩ : ∃ x, x = (shB B' m').a := ⟨_, rfl⟩
                    obtain ⟨gs1, hgs1⟩ : ∃ x, x = (shB B' m').gs := ⟨_, rfl⟩
                    obtain ⟨r0, r1, r2⟩ := reC_get (shB B') V' m' hm99
                    rw [← R7.out.re.cell] at r0 r1 r2
                    have hgo := R7.out.got m' hm99
                    rw [← hE1] at r0 K7
                    rw [← hA1] at r1 K7
                    rw [← hgs1] at hgo K7 O7
                    rw [← hE1, ← hA1, ← hgs1]
                    obtain ⟨PV, cV, hV, -⟩ := id hgo
                    rw [hV] at hgo r2
                    have hgf : ∀ q ∈ gs1, fok gotK q := by rw [hgs1]; exact SP.out.gs
                    have hgl : gs1.length ≤ 8 := by rw [hgs1]; exact SP.out.few
                    have GF := Lib.hid hgf
                    have VG := Lib.hid (Rd.below hgo R7.out.bel)
                    have k0 := K7.out.cell 0
                    have k1 := K7.out.cell 1
                    have k2 := K7.out.cell 2
                    simp only [List.getElem?_toArray, List.getElem?_cons_zero, List.getElem?_cons_succ] at k0 k1 k2
                    have hLp : 0 < LL := by have := LO.out; omega
                    have hLb : (LL == 0) = false := beq_eq_false_iff_ne.2 h0
                    have GL := Lib.hid hgl
                    have q0 := Bel.cell R7.out.la.lt x0
                    have q1 := Bel.cell K7.out.lt k0
                    have q2 := Bel.cell K7.out.lt k1
                    have q3 := Bel.cell K7.out.lt k2
                    have q4 := Bel.cell R7.out.re.lt r0
                    have q5 := Bel.cell R7.out.re.lt r1
                    have q6 := Bel.cell R7.out.re.lt r2
                    clear hE1 hA1 hgs1 hV hgo hgf hgl h0 x0 k0 k1 k2 r0 r1 r2
                    refine wp_region_bel (by kernel_rfl) (by kernel_rfl) ?_
                    repeat (quiet_step (first
                      | (go_at_call 11; refine Calls.bel (samer_same E1 A1 _ _ gs1 _ GF.out GL.out (Rd.below O7.out (Bel.h _)) (Rd.below VG.out (Bel.h _))))))
                    refine wpQuiet_nil ?_
                    rintro _ ⟨⟨wq, hq⟩, rfl⟩
                    go_wp2
                    go_meet
                    exact ⟨rfl, hq⟩
                case rest =>
                  obtain ⟨rfl, hbx⟩ := hcut
                  have R8 := Lib.hid (R7.out.below hbx)
                  have BK8 := Lib.hid (BK7.out.trans (hbx.mono BK7.out.size))
                  clear hbx x0
                  have x0 := R8.out.la.cell m'
                  rw [laC_get _ _ hm99, ← EL.out] at x0
                  by_cases hmax : LL = 18446744073709551615
                  · subst hmax
                    obtain ⟨E2, A2, gs2, is2, er2, hask2⟩ : ∃ E2 A2 gs2 is2 er2, askR B' m' 0 = ((E2, A2, gs2), is2, er2) := ⟨_, _, _, _, _, rfl⟩
                    go_wp2_with fail
                    refine (ask_at w.heap.size B' m' 0 E2 A2 er2 gs2 is2 _ R8.out.bk hask2).mono ?_
                    rintro e w9 ⟨P9, rfl, -, hb9⟩
                    have y0 := (hb9.cell R8.out.la.lt).trans x0
                    have BK9 := Lib.hid (BK8.out.trans (hb9.mono BK8.out.size))
                    clear hb9 hask2 x0
                    go_wp2_with fail
                    go_roundg (9 - (m' + 1))
                    case measure => have := G'.out; omega
                    case rel => exact ⟨m' + 1, by omega, by omega, rfl, by go_num, (by first | exact BK9.out | exact BK9.out.trans (below_drewN_ _ _ _))⟩
                  · have hlo := LO.out
                    have hup : LL + 1 ≤ 18446744073709551615 := by have := HI.out; omega
                    have hpo : 0 < LL + 1 := by omega
                    have hask2 := askR_up (B := B') (n := LL + 1) hm98 (by rw [← EL.out]; omega)
                    have AK2 := Lib.hid hask2
                    clear hask2 hmax
                    go_wp2_with fail
                    refine (ask_at w.heap.size B' m' (LL + 1) 0 0 0 [] false _ R8.out.bk AK2.out).mono ?_
                    rintro e w9 ⟨P9, rfl, -, hb9⟩
                    have y0 := (hb9.cell R8.out.la.lt).trans x0
                    have BK9 := Lib.hid (BK8.out.trans (hb9.mono BK8.out.size))
                    clear hb9 x0
                    go_wp2_with fail
                    go_roundg (9 - (m' + 1))
                    case measure => have := G'.out; omega
                    case rel => exact ⟨m' + 1, by omega, by omega, rfl, by go_num, (by first | exact BK9.out | exact BK9.out.trans (below_drewN_ _ _ _))⟩
              · obtain rfl : m' = 9 := by omega
                go_wp2
                go_roundg (n - (i + 1))
                case measure => have := G.out; omega
                case rel => exact ⟨i + 1, B', V', by omega, rfl, by go_num, R5.out.below BE6.out⟩
      · obtain rfl : i = n := by omega
        go_wp2_with fail
        refine (slives _).mono ?_
        rintro e w3 ⟨rfl, hb⟩
        go_wp2
        go_ret
        exact ⟨rfl, R.out.bel.trans (hb.mono R.out.bel.size)⟩
end Go.Proofs.Ytcpiockmkpdkjaa
