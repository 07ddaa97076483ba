/- The document's Of. -/
import Derived.Test.YtcpiockmkpdkjaaSrb
import Derived.Test.YtcpiockmkpdkjaaTky
import Derived.Test.YtcpiockmkpdkjaaMmc
namespace Go.Proofs.Ytcpiockmkpdkjaa
open Go.RowKit

/-- A book off what a taker has. -/
def ofS (m : Nat) (s : TS) (bf : Int) (B : Nat → Sp) : Option (Nat → Sp) := match s with
  | .ok left => ofGo m left bf B
  | .error _ => none
theorem ofS_book (xs : List Int) : bookP xs = ofS (run byteP 0 (.ok xs)).1.toNat (run byteP 0 (.ok xs)).2 0 (fun _ => Sp.zero) := by
  cases xs <;> rfl
theorem ofS_bad {m : Nat} {s s1 s2 : TS} {c bf k : Int} {n l : Nat} {B : Nat → Sp} (h1 : run byteP 0 s = (c, s1)) (h2 : run numP 0 s1 = (n, s2)) (h3 : run numP 0 s2 = (l, .error k)) : ofS (m + 1) s bf B = none := by
  match s, h1 with
  | .error j, _ => rfl
  | .ok [], _ => show ofGo (m + 1) [] bf B = none; rw [ofGo, oneB_nil]
  | .ok (c' :: r), h1 =>
    have e : c' = c ∧ (.ok r : TS) = s1 := by simpa [run, byteP] using h1
    obtain ⟨rfl, rfl⟩ := e
    show ofGo (m + 1) (c' :: r) bf B = none
    rcases hn : numP r with q | ⟨n1, r1⟩
    · rw [ofGo, oneB_none (oneP_bad1 hn)]
    · have e : n1 = n ∧ (.ok r1 : TS) = s2 := by simpa [run, hn] using h2
      obtain ⟨rfl, rfl⟩ := e
      rcases hl : numP r1 with q | ⟨n2, r2⟩
      · rw [ofGo, oneB_none (oneP_bad2 hn hl)]
      · simp [run, hl] at h3
theorem ofS_good {s s1 s2 : TS} {c : Int} {n l : Nat} {r2 : List Int} (h1 : run byteP 0 s = (c, s1)) (h2 : run numP 0 s1 = (n, s2)) (h3 : run numP 0 s2 = (l, .ok r2)) : ∃ r r1, s = .ok (c :: r) ∧ numP r = .ok (n, r1) ∧ numP r1 = .ok (l, r2) := by
  match s, h1 with
  | .error j, h1 =>
    have e : 0 = c ∧ (.error j : TS) = s1 := by simpa [run] using h1
    obtain ⟨rfl, rfl⟩ := e
    have e : 0 = n ∧ (.error j : TS) = s2 := by simpa [run] using h2
    obtain ⟨rfl, rfl⟩ := e
    simp [run] at h3
  | .ok [], h1 =>
    have e : 0 = c ∧ (.error 5 : TS) = s1 := by simpa [run, byteP] using h1
    obtain ⟨rfl, rfl⟩ := e
    have e : 0 = n ∧ (.error 5 : TS) = s2 := by simpa [run] using h2
    obtain ⟨rfl, rfl⟩ := e
    simp [run] at h3
  | .ok (c' :: r), h1 =>
    have e : c' = c ∧ (.ok r : TS) = s1 := by simpa [run, byteP] using h1
    obtain ⟨rfl, rfl⟩ := e
    rcases hn : numP r with q | ⟨n1, r1⟩
    · have e : 0 = n ∧ (.error q : TS) = s2 := by simpa [run, hn] using h2
      obtain ⟨rfl, rfl⟩ := e
      simp [run] at h3
    · have e : n1 = n ∧ (.ok r1 : TS) = s2 := by simpa [run, hn] using h2
      obtain ⟨rfl, rfl⟩ := e
      rcases hl : numP r1 with q | ⟨n2, r3⟩
      · simp [run, hl] at h3
      · have e : n2 = l ∧ r3 = r2 := by simpa [run, hl] using h3
        obtain ⟨rfl, rfl⟩ := e
        exact ⟨r, r1, rfl, hn, hl⟩
theorem noteE_0 {B : Nat → Sp} {c : Int} {k : Nat} (hB : ∀ i, i < 8 → SpOk (B i)) : ¬ noteE B c 0 k = 0 := by
  unfold noteE
  split
  · decide
  · rename_i hc
    split
    · decide
    · have := (hB (c - 1).toNat (by omega)).lo
      rw [if_pos this]; decide
theorem replyP_nil : allP (replyP []) = .error 5 := by rfl
/-- What a round answers. -/
theorem ofS_round {m : Nat} {s s1 s2 : TS} {c bf : Int} {n l : Nat} {r2 : List Int} {B : Nat → Sp} (hB : ∀ i, i < 8 → SpOk (B i)) (h1 : run byteP 0 s = (c, s1)) (h2 : run numP 0 s1 = (n, s2)) (h3 : run numP 0 s2 = (l, .ok r2)) :
    (c ≤ bf → ofS (m + 1) s bf B = none) ∧ (r2.length < l → ofS (m + 1) s bf B = none) ∧ (∀ q, ¬ r2.length < l → allP (replyP (r2.take l)) = .error q → ofS (m + 1) s bf B = none) ∧
      (∀ E A gs, ¬ c ≤ bf → ¬ r2.length < l → allP (replyP (r2.take l)) = .ok ([E, A], gs) → ofS (m + 1) s bf B = if noteE B c n gs.length = 0 then ofS m (.ok (r2.drop l)) c (noteB B c n E A gs) else none) := by
  obtain ⟨r, r1, rfl, hn, hl⟩ := ofS_good h1 h2 h3
  refine ⟨fun hc => ?_, fun hlt => ?_, fun q hlt hq => ?_, fun E A gs hc hlt ha => ?_⟩
  · show ofGo (m + 1) (c :: r) bf B = none
    rw [ofGo]
    rcases ho : oneB B (c :: r) with - | ⟨c', B', rest⟩
    · rfl
    · simp only
      have : c' = c := by
        unfold oneB at ho
        split at ho
        · rename_i c1 num E A gs rest' hp
          have h1 : c1 = c := by
            by_cases hz : n = 0 ∨ r2.length < l
            · rw [oneP_bad3 hn hl hz] at hp; cases hp
            · rcases hr : allP (replyP (r2.take l)) with q | a
              · rw [oneP_bad4 hn hl hz hr] at hp; cases hp
              · rw [oneP_ok hn hl hz hr] at hp
                injection hp with hp
                injection hp with hp
                exact hp.symm
          split at ho
          · injection ho with ho
            injection ho with ho _
            rw [← ho, h1]
          · cases ho
        · cases ho
      rw [this, if_pos hc]
  · show ofGo (m + 1) (c :: r) bf B = none
    rw [ofGo, oneB_none (oneP_bad3 hn hl (.inr hlt))]
  · show ofGo (m + 1) (c :: r) bf B = none
    by_cases hz : n = 0 ∨ r2.length < l
    · rw [ofGo, oneB_none (oneP_bad3 hn hl hz)]
    · rw [ofGo, oneB_none (oneP_bad4 hn hl hz hq)]
  · show ofGo (m + 1) (c :: r) bf B = _
    by_cases hz : n = 0 ∨ r2.length < l
    · have h0 : n = 0 := hz.elim id (fun h => absurd h hlt)
      subst h0
      rw [ofGo, oneB_none (oneP_bad3 hn hl hz), if_neg (by exact_mod_cast noteE_0 hB)]
    · rw [ofGo, oneB_some (oneP_ok hn hl hz ha)]
      by_cases he : noteE B c n gs.length = 0
      · rw [if_pos he, if_pos he]
        simp only
        rw [if_neg hc]
        rfl
      · rw [if_neg he, if_neg he]

/-- How the document's Of ends. -/
def ROfPost (x : Option (Nat → Sp)) (w : World) (e : Ending) (w' : World) : Prop :=
  Below w.heap.size w w' ∧ match x with
    | some B => ∃ b, e = .returned (.tuple #[.pointer (some ⟨b, 0, none⟩), .int .i64 0]) ∧ IsRb (fun k => w.heap.size ≤ k) w' b B
    | none => e = .returned (.tuple #[.pointer none, .int .i64 4])
theorem rofpost_none {x : Option (Nat → Sp)} {w w' : World} (h : Below w.heap.size w w') (hx : x = none) : ROfPost x w (.returned (.tuple #[.pointer none, .int .i64 4])) w' := by subst hx; exact ⟨h, rfl⟩
theorem rofpost_some {x : Option (Nat → Sp)} {w w' : World} {b : Nat} {B : Nat → Sp} (h : Below w.heap.size w w') (hx : x = some B) (hb : IsRb (fun k => w.heap.size ≤ k) w' b B) : ROfPost x w (.returned (.tuple #[.pointer (some ⟨b, 0, none⟩), .int .i64 0])) w' := by subst hx; exact ⟨h, b, rfl, hb⟩

set_option maxHeartbeats 8000000 in
set_option maxRecDepth 100000 in
theorem rof_any (v : Value) (xs : List Int) (w : World) (hv : Bs w v xs) (hby : ∀ c ∈ xs, byt c) (hl : xs.length ≤ 1000000) :
    Calls Try.prog 23 #[v] w (ROfPost (bookP xs) w) := by
  have t0 := (Ts.new_ hv hby (by omega)).below (below_alloc_ (w.alloc (.cells #[v, .int .i64 0] 84)) (.cells (rbCells (fun _ => Sp.zero) (fun _ => .slice none 0 0)).toArray 36))
  have r0 := IsRb.new_ (Blk.new (w.alloc (.cells #[v, .int .i64 0] 84)) 36 (rbCells (fun _ => Sp.zero) (fun _ => .slice none 0 0)).toArray)
  rw [World.size_alloc] at r0
  have T0 := Lib.hid t0
  have R0 := Lib.hid r0
  have B0 := Lib.hid (below_alloc2_ w (.cells #[v, .int .i64 0] 84) (.cells (rbCells (fun _ => Sp.zero) (fun _ => .slice none 0 0)).toArray 36))
  have HBK := Lib.hid (ofS_book xs)
  obtain ⟨c0, s0, hr0⟩ : ∃ c s, run byteP 0 (.ok xs) = (c, s) := ⟨_, _, rfl⟩
  have hn0 : ∃ n : Nat, c0 = n ∧ n ≤ 255 := by
    cases xs with
    | nil => have e : 0 = c0 ∧ (.error 5 : TS) = s0 := by simpa [run, byteP] using hr0
             exact ⟨0, e.1.symm, by omega⟩
    | cons x r => have e : x = c0 ∧ (.ok r : TS) = s0 := by simpa [run, byteP] using hr0
                  have hb := hby x (List.mem_cons_self ..)
                  unfold byt at hb
                  exact ⟨x.toNat, by omega, by omega⟩
  obtain ⟨n, rfl, hn255⟩ := hn0
  have HR0 := Lib.hid hr0
  obtain ⟨A, cv, rfl, -⟩ := id hv
  clear t0 r0 hr0 hv hby
  go_enter Try.func23, Try.ntmps23
  go_wp2_with fail
  refine (rd_u8 w.heap.size (.ok xs) s0 n _ T0.out HR0.out).mono ?_
  rintro e w1 ⟨rfl, ht1, hg1⟩
  have T1 := Lib.hid ht1
  have R1 := Lib.hid ((R0.out.keep hg1 (by omega) (by simp)).mono (G := fun k => w.heap.size < k) (by simp))
  have B1 := Lib.hid (below_grown_ B0.out hg1 (by simp; omega) (Nat.le_refl _))
  clear ht1 hg1 hl
  have hw0 : IntKind.i64.wrap (n : Int) = n := by rw [IntWalk.i64_in _ (by omega)]
  go_wp2_with fail
  go_loopg [7, 8] n (fun q x y wr => ∃ (i : Nat) (bf : Int) (s : TS) (B : Nat → Sp), i ≤ n ∧ q = n - i ∧ x = .int .u8 bf ∧ y = .int .i64 i ∧ Ts wr w.heap.size s ∧ IsRb (fun k => w.heap.size < k) wr (w.heap.size + 1) B ∧ Below w.heap.size w wr ∧ ofS (n - i) s bf B = bookP xs)
  case atStart => exact ⟨0, 0, s0, _, by omega, rfl, rfl, rfl, T1.out, R1.out, B1.out, by have := HBK.out; rw [HR0.out] at this; rw [this]; simp⟩
  case round =>
    obtain ⟨i, bf, s, B, hi, hq, rfl, rfl, hT, hR, hB, hof⟩ := hrel
    have HT := Lib.hid hT
    have HR := Lib.hid hR
    have HB := Lib.hid hB
    have HOF := Lib.hid hof
    have Q := Lib.hid hq
    clear hT hR hB hof hq T0 R0 B0 T1 R1 B1
    by_cases hin : i < n
    · have hini : (i : Int) < n := by omega
      obtain ⟨c, s1, h1⟩ : ∃ c s1, run byteP 0 s = (c, s1) := ⟨_, _, rfl⟩
      obtain ⟨num, s2, h2⟩ : ∃ a b, run numP 0 s1 = (a, b) := ⟨_, _, rfl⟩
      obtain ⟨l, s3, h3⟩ : ∃ a b, run numP 0 s2 = (a, b) := ⟨_, _, rfl⟩
      obtain ⟨m, hm⟩ : ∃ m, n - i = m + 1 := ⟨n - i - 1, by omega⟩
      have H1 := Lib.hid h1
      have H2 := Lib.hid h2
      have H3 := Lib.hid h3
      have M := Lib.hid hm
      clear h1 h2 h3 hm
      go_wp2_with fail
      refine (rd_u8 w.heap.size s s1 c _ HT.out H1.out).mono ?_
      rintro e wa ⟨rfl, hta, hga⟩
      have TA := Lib.hid hta
      have RA := Lib.hid (HR.out.keep hga (by omega) (by simp))
      have BA := Lib.hid (below_grown_ HB.out hga HB.out.size (Nat.le_refl _))
      clear hta hga HT HR HB
      go_wp2_with fail
      refine (tnum_at w.heap.size s1 s2 num _ TA.out H2.out).mono ?_
      rintro e wb ⟨rfl, hta, hga⟩
      have hnum := run_lt TA.out
      rw [H2.out] at hnum
      have NM := Lib.hid hnum
      have TB := Lib.hid hta
      have RB := Lib.hid (RA.out.keep hga (by omega) (by simp))
      have BB := Lib.hid (below_grown_ BA.out hga BA.out.size (Nat.le_refl _))
      clear hta hga hnum TA RA BA
      go_wp2_with fail
      refine (tnum_at w.heap.size s2 s3 l _ TB.out H3.out).mono ?_
      rintro e wc ⟨rfl, hta, hga⟩
      have TC := Lib.hid hta
      have RC := Lib.hid (RB.out.keep hga (by omega) (by simp))
      have BC := Lib.hid (below_grown_ BB.out hga BB.out.size (Nat.le_refl _))
      clear hta hga TB RB BB
      rcases s3 with k | r2
      · have HX := Lib.hid (show bookP xs = none by rw [← HOF.out, M.out]; exact ofS_bad H1.out H2.out H3.out)
        obtain ⟨hk0, u, hku⟩ := (show Ts wc w.heap.size (.error k) from TC.out)
        have c1 := hku.cell 1
        simp only [List.getElem?_toArray, List.getElem?_cons_zero, List.getElem?_cons_succ] at c1
        have hk : (k == 0) = false := beq_eq_false_iff_ne.2 hk0
        clear hku
        go_wp2
        go_ret2
        exact rofpost_none BC.out HX.out
      · obtain ⟨⟨u, hku, hbs, hoff⟩, hbyt, hlen⟩ := (show Ts wc w.heap.size (.ok r2) from TC.out)
        have c0 := hku.cell 0
        have c1 := hku.cell 1
        simp only [List.getElem?_toArray, List.getElem?_cons_zero, List.getElem?_cons_succ] at c0 c1
        have hr := ofS_round (m := m) (bf := bf) (fun i hi => RC.out.ok i hi) H1.out H2.out H3.out
        rw [← M.out, HOF.out] at hr
        obtain ⟨q1, q2, q3, q4⟩ := hr
        obtain ⟨Au, cu, rfl, hcu, -⟩ := id hbs
        have BS := Lib.hid hbs
        have HBY := Lib.hid hbyt
        have KU := Lib.hid hku
        have OFF := Lib.hid hoff
        obtain ⟨lr, hlr⟩ : ∃ k, k = r2.length := ⟨_, rfl⟩
        have HLR := Lib.hid hlr
        have hwl : IntKind.u64.wrap (lr : Int) = lr := IntWalk.u64_in _ (by omega)
        rw [← hlr] at q2 q3 q4 c0 hcu hlen
        have Q1 := Lib.hid q1
        have Q2 := Lib.hid q2
        have Q3 := Lib.hid q3
        have Q4 := Lib.hid q4
        clear hbs hbyt hku hoff hlr q1 q2 q3 q4
        by_cases hc : c ≤ bf
        · go_wp2
          go_ret2
          exact rofpost_none BC.out (Q1.out hc)
        · by_cases hlt : lr < l
          · have hlti : (lr : Int) < l := by omega
            go_wp2
            go_ret2
            exact rofpost_none BC.out (Q2.out hlt)
          · have hlti : ¬ (lr : Int) < l := by omega
            have hlcu : l ≤ cu := by omega
            have hlci : (l : Int) ≤ cu := by omega
            have hl0 : (0 : Int) ≤ l := by omega
            go_wp2_with fail
            have TK := Lib.hid (BS.out.takes l cu (by have := HLR.out; omega) hlcu)
            refine (rget_reply (.slice Au l cu) (r2.take l) _ TK.out (fun c hc => HBY.out c (List.mem_of_mem_take hc)) (by rw [List.length_take]; have := HLR.out; omega)).mono ?_
            rintro e wd ⟨u2, kk, rfl, hbd, hm2⟩
            have TD := Lib.hid (TC.out.below hbd)
            have RD := Lib.hid (RC.out.below hbd)
            have BD := Lib.hid (BC.out.trans (hbd.mono BC.out.size))
            clear hbd c0 c1 TC RC BC BS KU TK
            rcases hra : allP (replyP (r2.take l)) with q | a
            · rw [hra] at hm2
              obtain ⟨rfl, rfl⟩ := hm2
              have hq1 : ¬ kk = 0 := by have := allP_bad cod_reply hra; omega
              have hq0 : (kk == 0) = false := beq_eq_false_iff_ne.2 hq1
              have HX := Lib.hid (Q3.out _ hlt hra)
              clear hra
              go_wp2
              go_ret2
              exact rofpost_none (BD.out.trans ((below_alloc_ wd _).mono BD.out.size)) HX.out
            · rw [hra] at hm2
              obtain ⟨rfl, E, F, Ag, cg, ha1, rfl, hgo⟩ := hm2
              obtain ⟨a1, gs⟩ := a
              simp only at ha1 hgo
              subst ha1
              have OKR := Lib.hid (cod_all cod_reply (fun c hc => HBY.out c (List.mem_of_mem_take hc)) hra).2
              have X4 := Lib.hid (Q4.out E F gs hc hlt hra)
              have hne : r2 ≠ [] := fun h => by rw [h, List.take_nil] at hra; cases hra
              have NE := Lib.hid hne
              have ba := below_alloc_ wd (.cells #[.int .i64 E, .int .i64 F, .slice Ag gs.length cg] 33)
              have GO := Lib.hid (Rd.below hgo ba)
              have RE := Lib.hid (RD.out.below ba)
              have TE := Lib.hid (TD.out.below ba)
              have BE := Lib.hid (BD.out.trans (ba.mono BD.out.size))
              have hnm := NM.out
              clear hra hgo hne ba TD RD BD
              go_wp2_with fail
              refine (rnote_any (w.heap.size + 1) B c num E F _ gs _ RE.out GO.out (by omega) OKR.out.1.1 OKR.out.1.2.1 OKR.out.2.2).mono ?_
              rintro e wf ⟨rfl, hrf, hgf⟩
              have hT := TE.out.grown hgf (fun k e => by have := Option.some.inj e; omega)
              have RF := Lib.hid (hrf.mono (G := fun k => w.heap.size < k) fun k hk => hk.elim id fun hk => by have := RE.out.lt; omega)
              have BF := Lib.hid (below_grown_ BE.out hgf BE.out.size (by omega))
              obtain ⟨RR, hRR⟩ : ∃ R, R = noteE B c num gs.length := ⟨_, rfl⟩
              rw [← hRR]
              have HRR := Lib.hid hRR
              have TF := Lib.hid hT
              clear hrf hgf hT hRR hnm RE TE BE
              by_cases h0 : RR = 0
              · subst h0
                have X5 := Lib.hid (X4.out.trans (if_pos HRR.out.symm))
                obtain ⟨⟨u', hku, hbs, hoff⟩, hbyt, hlen'⟩ := (show Ts wf w.heap.size (.ok r2) from TF.out)
                obtain ⟨Au', cu', rfl, hcu', -, hAu⟩ := id hbs
                rcases hAu with hz | ⟨g', o', rfl, -, -⟩
                · exact absurd (List.eq_nil_of_length_eq_zero hz) NE.out
                have c0 := hku.cell 0
                have f0 := hku.free
                simp only [List.getElem?_toArray, List.getElem?_cons_zero] at c0
                have lrr := HLR.out
                rw [← lrr] at c0 hcu'
                obtain ⟨A6, hA6, hB6⟩ := hbs.from_ l (by omega)
                rw [← lrr] at hB6
                have KF := Lib.hid hku
                have BS6 := Lib.hid hB6
                have HA6 := Lib.hid hA6
                have OFF := Lib.hid hoff
                clear hku hbs hoff hbyt hB6 hA6 lrr hlen'
                have hlcu' : l ≤ cu' := by omega
                have hlci' : (l : Int) ≤ cu' := by omega
                have hlri : (l : Int) ≤ lr := by omega
                by_cases hcl : cu' = l
                · rw [if_pos hcl] at HA6
                  rw [show cu' - l = 0 from by omega] at BS6
                  have e6 := HA6.out
                  subst e6
                  clear HA6
                  go_wp2_with fail
                  go_roundg (n - (i + 1))
                  case measure => have := Q.out; omega
                  case rel =>
                    refine ⟨i + 1, c, .ok (r2.drop l), noteB B c num E F gs, by omega, rfl, rfl, by go_num, ?_, ?_, ?_, ?_⟩
                    · refine Ts.store KF.out BS6.out (fun c hc => HBY.out c (List.mem_of_mem_drop hc)) (by rw [List.length_drop]; have := HLR.out; omega) ?_
                      rcases OFF.out with hz | hz
                      · exact .inl (by rw [List.length_drop, hz]; omega)
                      · exact .inr (fun k hk => hz k (by simpa [Value.ownBlock] using hk))
                    · exact RF.out.keep (grown_set_ wf w.heap.size 0 _) (by omega) (by omega)
                    · exact BF.out.setCell (Nat.le_refl _) _
                    · rw [X5.out]; have := M.out; rw [show n - (i + 1) = m from by omega]
                · rw [if_neg hcl] at HA6
                  have e6 := HA6.out
                  subst e6
                  clear HA6
                  go_wp2_with fail
                  go_roundg (n - (i + 1))
                  case measure => have := Q.out; omega
                  case rel =>
                    refine ⟨i + 1, c, .ok (r2.drop l), noteB B c num E F gs, by omega, rfl, rfl, by go_num, ?_, ?_, ?_, ?_⟩
                    · refine Ts.store KF.out BS6.out (fun c hc => HBY.out c (List.mem_of_mem_drop hc)) (by rw [List.length_drop]; have := HLR.out; omega) ?_
                      rcases OFF.out with hz | hz
                      · exact .inl (by rw [List.length_drop, hz]; omega)
                      · exact .inr (fun k hk => hz k (by simpa [Value.ownBlock] using hk))
                    · exact RF.out.keep (grown_set_ wf w.heap.size 0 _) (by omega) (by omega)
                    · exact BF.out.setCell (Nat.le_refl _) _
                    · rw [X5.out]; have := M.out; rw [show n - (i + 1) = m from by omega]
              · have h0b : (RR == 0) = false := beq_eq_false_iff_ne.2 h0
                have HX := Lib.hid (X4.out.trans (if_neg (by rw [← HRR.out]; exact h0)))
                go_wp2
                go_ret2
                exact rofpost_none BF.out HX.out
    · obtain rfl : i = n := by omega
      have e0 := HOF.out
      rw [Nat.sub_self] at e0
      have E0 := Lib.hid e0
      clear e0
      go_wp2_with fail
      refine (done_any _ s _ HT.out).mono ?_
      rintro e wx ⟨rfl, rfl⟩
      obtain ⟨d, hd⟩ : ∃ d, d = dn s := ⟨_, rfl⟩
      rw [← hd]
      have D := Lib.hid hd
      clear hd
      by_cases hd0 : d = 0
      · subst hd0
        go_wp2
        go_ret2
        refine rofpost_some HB.out (B := B) ?_ (HR.out.mono fun k hk => Nat.le_of_lt hk)
        rw [← E0.out]
        have := D.out
        rcases s with k | left
        · have h := HT.out.1; simp only [dn] at this; exact absurd this.symm h
        · cases left with
          | nil => rfl
          | cons y ys => simp [dn] at this
      · have hd1 : (d == 0) = false := beq_eq_false_iff_ne.2 hd0
        go_wp2
        go_ret2
        refine rofpost_none HB.out ?_
        rw [← E0.out]
        rcases s with k | left
        · rfl
        · cases left with
          | nil => have := D.out; simp only [dn] at this; exact absurd this hd0
          | cons y ys => rfl
end Go.Proofs.Ytcpiockmkpdkjaa
