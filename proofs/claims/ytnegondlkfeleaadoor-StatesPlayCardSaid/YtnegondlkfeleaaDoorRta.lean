/- The document's promise: Open. -/
import Derived.Test.YtnegondlkfeleaaDoorRse
import Derived.Test.YtnegondlkfeleaaDoorRdo
import Derived.Test.YtnegondlkfeleaaDoorOneP
import Derived.Test.YtnegondlkfeleaaDoorRdO
namespace Go.Proofs.YtnegondlkfeleaaDoor
open Go.RowKit

/-- What the document's taker takes of a promise's frame. -/
def rv1 (g : List Int) : Nat × TS := run numP 0 (.ok g)
def rv2 (g : List Int) : Nat × TS := run numP 0 (rv1 g).2
theorem run_tk (xs : List Int) : run numP 0 (.ok xs) = if (tk xs).2.2 = 0 then ((tk xs).1, .ok (xs.drop (tk xs).2.1)) else (0, .error (tk xs).2.2) := by
  by_cases h : (tk xs).2.2 = 0
  · rw [if_pos h, run_num_ok h]
  · rw [if_neg h, run_num_bad h]
theorem dn_nz {k : Int} (h : k ≠ 0) : ¬ dn (.error k) = 0 := h
/-- Bytes that are one frame: they are a promise just where the document takes one. -/
theorem readV_rv (xs : List Int) (h3 : (getF xs).2.2 = 0) (h2 : (getF xs).2.1 = xs.length) :
    ((readV xs).2.2 = true ↔ dn (rv2 (getF xs).1).2 = 0 ∧ (rv2 (getF xs).1).1 ≤ 255) ∧ ((readV xs).2.2 = true → (readV xs).1 = (rv1 (getF xs).1).1 ∧ (readV xs).2.1 = (rv2 (getF xs).1).1) := by
  have hr : readV xs = ((tk (getF xs).1).1, (tk ((getF xs).1.drop (tk (getF xs).1).2.1)).1 % 256,
    decide (0 < (tk (getF xs).1).2.1) && decide (0 < (tk ((getF xs).1.drop (tk (getF xs).1).2.1)).2.1) &&
      decide ((tk (getF xs).1).2.1 + (tk ((getF xs).1.drop (tk (getF xs).1).2.1)).2.1 = (getF xs).1.length) && decide ((tk ((getF xs).1.drop (tk (getF xs).1).2.1)).1 ≤ 255)) := by
    unfold readV
    rw [if_neg (by rw [h3, h2]; simp)]
  rw [hr]
  generalize (getF xs).1 = g
  unfold rv2 rv1
  rw [run_tk g]
  have e1 := tk_err g
  have z1 := tk_size g
  by_cases k1 : (tk g).2.2 = 0
  · rw [if_pos k1]
    simp only
    rw [run_tk (g.drop (tk g).2.1)]
    have e2 := tk_err (g.drop (tk g).2.1)
    have z2 := tk_size (g.drop (tk g).2.1)
    have p1 : 0 < (tk g).2.1 := by omega
    by_cases k2 : (tk (g.drop (tk g).2.1)).2.2 = 0
    · rw [if_pos k2]
      simp only
      have p2 : 0 < (tk (g.drop (tk g).2.1)).2.1 := by omega
      generalize hm : tk (g.drop (tk g).2.1) = m at *
      rw [decide_eq_true p1, decide_eq_true p2]
      rw [List.length_drop] at z2
      have hd : dn (.ok ((g.drop (tk g).2.1).drop m.2.1)) = 0 ↔ (tk g).2.1 + m.2.1 = g.length := by
        rw [List.drop_drop]
        cases hx : g.drop ((tk g).2.1 + m.2.1) with
        | nil =>
          have := congrArg List.length hx
          rw [List.length_drop] at this
          simp [dn] at this ⊢
          omega
        | cons a b =>
          have := congrArg List.length hx
          rw [List.length_drop] at this
          simp [dn] at this ⊢
          omega
      rw [hd]
      simp only [Bool.true_and, Bool.and_eq_true, decide_eq_true_eq]
      refine ⟨trivial, fun h => ⟨trivial, ?_⟩⟩
      omega
    · rw [if_neg k2]
      have p2 : ¬ 0 < (tk (g.drop (tk g).2.1)).2.1 := by omega
      rw [decide_eq_false p2]
      simp only [Bool.and_false, Bool.false_and]
      exact ⟨⟨fun h => (by cases h), fun h => absurd h.1 k2⟩, fun h => by cases h⟩
  · rw [if_neg k1]
    have p1 : ¬ 0 < (tk g).2.1 := by omega
    rw [decide_eq_false p1]
    simp only [Bool.false_and, run]
    exact ⟨⟨fun h => (by cases h), fun h => absurd h.1 k1⟩, fun h => by cases h⟩
theorem readV_bad (xs : List Int) (h : ¬ ((getF xs).2.2 = 0 ∧ (getF xs).2.1 = xs.length)) : (readV xs).2.2 = false := by
  unfold readV
  rw [if_pos]
  by_cases h3 : (getF xs).2.2 = 0
  · exact .inr fun h2 => h ⟨h3, h2⟩
  · exact .inl h3
/-- What is answered of bytes that are no promise. -/
theorem openS_17 {s : Dst} (h : (readS s).2 = 17) : openS s = (0, 0, 17) := by unfold openS; rw [h]; rfl
theorem openS_7 {s : Dst} (h : readS s = ([], 7)) : openS s = (0, 0, 0) := by unfold openS; rw [h]; rfl
theorem openS_no {s : Dst} {xs : List Int} (h : readS s = (xs, 0)) (hv : (readV xs).2.2 = false) : openS s = (0, 0, 4) := by unfold openS; rw [h]; simp [hv]
theorem openS_yes {s : Dst} {xs : List Int} (h : readS s = (xs, 0)) (hv : (readV xs).2.2 = true) : openS s = ((readV xs).1, (readV xs).2.1, 0) := by unfold openS; rw [h]; simp [hv]
/-- A promise's block in the document. -/
def rpC (m : Nat) (t v : Nat) (lost : Bool) : Array Value := #[.pointer (some ⟨m, 0, none⟩), .int .u64 t, .int .u8 v, .bool lost]
/-- What Open answers. -/
def ROpen (w : World) (m : Nat) (o : Nat × Nat × Int) (e : Ending) (w' : World) : Prop :=
  Below w.heap.size w w' ∧ ((o.2.2 = 0 ∧ ∃ q, e = .returned (.tuple #[.pointer (some ⟨q, 0, none⟩), .int .i64 0]) ∧ w.heap.size ≤ q ∧ Blk w' q 81 (rpC m o.1 o.2.1 false)) ∨ (¬ o.2.2 = 0 ∧ e = .returned (.tuple #[.pointer none, .int .i64 o.2.2])))

set_option maxHeartbeats 1000000 in
set_option maxRecDepth 100000 in
theorem ropen_any (m : Nat) (s : Dst) (F : List Nat) (w : World) (h : RDk w m ⟨#[115, 116, 97, 116, 101]⟩ s F) : Calls Tryd.prog 22 #[.pointer (some ⟨m, 0, none⟩)] w (ROpen w m (openS s)) := by
  have RD := Lib.hid (rread_any ⟨#[115, 116, 97, 116, 101]⟩ (by decide +kernel) m s F w h)
  rcases readS_cases s with h17 | h7 | ⟨xs, su, hf, hr⟩
  · rw [openS_17 h17]
    rw [h17] at RD
    clear h h17
    go_enter Tryd.func22, Tryd.ntmps22
    go_wp2_with fail
    refine RD.out.mono ?_
    rintro e w1 ⟨u, rfl, -, hb⟩
    have HB := Lib.hid hb
    clear hb
    go_wp2
    go_ret2
    exact ⟨HB.out, .inr ⟨by decide, rfl⟩⟩
  · rw [openS_7 h7]
    rw [h7] at RD
    clear h h7
    go_enter Tryd.func22, Tryd.ntmps22
    go_wp2_with fail
    refine RD.out.mono ?_
    rintro e w1 ⟨u, rfl, -, hb⟩
    have HB := Lib.hid hb
    clear hb
    go_wp2
    go_ret2
    exact ⟨HB.out.trans ((below_alloc_ w1 _).mono HB.out.size), .inl ⟨rfl, w1.heap.size, rfl, HB.out.size, Blk.new w1 _ _⟩⟩
  · have hxs : (∀ c ∈ xs, byt c) ∧ xs.length ≤ 1048576 := by
      rcases h.ex with ⟨hf2, -⟩ | ⟨xs2, su2, _, _, _, _, hf2, -, -, -, -, -, -, -, hb, -, hl, -⟩
      · rw [hf] at hf2; cases hf2
      · rw [hf] at hf2; cases hf2; exact ⟨hb, hl⟩
    rw [hr] at RD
    have X := Lib.hid hxs
    have R := Lib.hid hr
    clear h hf hr hxs
    by_cases hok : (getF xs).2.2 = 0 ∧ (getF xs).2.1 = xs.length
    · obtain ⟨g, hg⟩ : ∃ g, g = (getF xs).1 := ⟨_, rfl⟩
      have hrec : recF xs = ([g], xs.length) := (recF_one xs g).2 ⟨hok.1, hok.2, hg.symm⟩
      have RV := Lib.hid (readV_rv xs hok.1 hok.2)
      have GL := Lib.hid (getF_len (bs := xs))
      have GB := Lib.hid (getF_byt X.out.1)
      rw [← hg] at RV GL GB
      obtain ⟨n1, s1, h1⟩ : ∃ n1 s1, run numP 0 (.ok g) = (n1, s1) := ⟨_, _, rfl⟩
      obtain ⟨n2, s2, h2⟩ : ∃ n2 s2, run numP 0 s1 = (n2, s2) := ⟨_, _, rfl⟩
      have e1 : rv1 g = (n1, s1) := h1
      have e2 : rv2 g = (n2, s2) := by unfold rv2; rw [e1]; exact h2
      rw [e1, e2] at RV
      have R1 := Lib.hid h1
      have R2 := Lib.hid h2
      obtain ⟨L, hL⟩ : ∃ L, L = xs.length := ⟨_, rfl⟩
      have LL := Lib.hid hL
      have RC := Lib.hid hrec
      have HOK := Lib.hid hok
      clear hg hrec h1 h2 e1 e2 hok hL
      go_enter Tryd.func22, Tryd.ntmps22
      go_wp2_with fail
      refine RD.out.mono ?_
      rintro e w1 ⟨u, rfl, ho, hb⟩
      obtain ⟨A1, c1, rfl, -⟩ := id ho.clip
      have HB := Lib.hid hb
      have RF := Lib.hid (rfread_any _ xs w1 (ho.le (Nat.zero_le _)) X.out.1 (by have := X.out.2; omega))
      rw [RC.out] at RF
      rw [← LL.out] at RF ⊢
      clear hb ho
      go_wp2_with fail
      refine RF.out.mono ?_
      rintro e w2 ⟨u2, vs, rfl, ho2, hr2, hb2⟩
      obtain ⟨v0, rfl⟩ : ∃ v0, vs = [v0] := List.length_eq_one_iff.1 hr2.len
      have hv0 : Bo w1.heap.size w2 v0 g := hr2.at_ 0 (by simp) (by simp)
      obtain ⟨g2, c2, rfl, hc2, hcell⟩ : ∃ g2 c2, u2 = .slice (some ⟨g2, 0, none⟩) 1 c2 ∧ 1 ≤ c2 ∧ w2.cell? ⟨g2, 0, none⟩ = some v0 := by
        rcases ho2 with ⟨_, h0, _⟩ | ⟨g2, c2, cur, rfl, -, hk, hc, -, hsz, ht⟩
        · simp at h0
        · refine ⟨g2, c2, rfl, hc, ?_⟩
          rw [hk.cell]
          have := congrArg (fun l : List Value => l[0]?) ht
          simp only [List.getElem?_take] at this
          rw [if_pos (by simp)] at this
          simpa using this
      have HB2 := Lib.hid (HB.out.trans (hb2.mono HB.out.size))
      have T0 := Lib.hid (Ts.new_ hv0.bs GB.out (by have := GL.out; have := X.out.2; omega))
      obtain ⟨A0, c0, rfl, -⟩ := id hv0.clip
      clear ho2 hr2 hv0 hb2
      go_wp2_with fail
      refine (tnum_at w2.heap.size _ _ _ _ T0.out R1.out).mono ?_
      rintro e w3 ⟨rfl, t3, g3⟩
      have T3 := Lib.hid t3
      have B3 := Lib.hid (below_grown_ (below_alloc_ w2 _) g3 (by simp) (Nat.le_refl _))
      have Z3 := Lib.hid g3.size
      clear t3 g3
      go_wp2_with fail
      refine (tnum_at w2.heap.size _ _ _ _ T3.out R2.out).mono ?_
      rintro e w4 ⟨rfl, t4, g4⟩
      have T4 := Lib.hid t4
      have B4 := Lib.hid (below_grown_ B3.out g4 (Nat.le_trans (by simp) Z3.out) (Nat.le_refl _))
      clear t4 g4
      have BW := Lib.hid (HB2.out.trans (B4.out.mono HB2.out.size))
      obtain ⟨dd, hdd⟩ : ∃ dd, dd = dn s2 := ⟨_, rfl⟩
      have DD := Lib.hid hdd
      by_cases hgood : dd = 0 ∧ n2 ≤ 255
      · obtain ⟨rfl, hn2⟩ := hgood
        have hv := RV.out.1.2 ⟨hdd.symm, hn2⟩
        have EO := Lib.hid (show openS s = (n1, n2, 0) from by rw [openS_yes R.out hv, (RV.out.2 hv).1, (RV.out.2 hv).2])
        have hn2' : ¬ (255 : Int) < (n2 : Int) := by omega
        have wn : IntKind.u8.wrap (n2 : Int) = (n2 : Int) := by rw [u8_wrap_nat]; omega
        have DA := Lib.hid (done_any w2.heap.size _ _ T4.out)
        rw [← DD.out] at DA
        clear hdd hv hn2 DD RV
        go_wp2_with fail
        refine DA.out.mono ?_
        rintro e w5 ⟨rfl, rfl⟩
        go_wp2
        go_ret2
        show ROpen w m (openS s) _ _
        rw [EO.out]
        exact ⟨BW.out.trans ((below_alloc_ w4 _).mono BW.out.size), .inl ⟨rfl, w4.heap.size, rfl, BW.out.size, Blk.new w4 _ _⟩⟩
      · have hv : (readV xs).2.2 = false := by
          cases h : (readV xs).2.2 with
          | false => rfl
          | true =>
            have h2 := RV.out.1.1 h
            exact absurd ⟨hdd.trans h2.1, h2.2⟩ hgood
        have EO := Lib.hid (openS_no R.out hv)
        have DA := Lib.hid (done_any w2.heap.size _ _ T4.out)
        rw [← DD.out] at DA
        clear hdd hv DD RV
        by_cases hd0 : dd = 0
        · subst hd0
          have hn2 : (255 : Int) < (n2 : Int) := by
            rcases Nat.lt_or_ge 255 n2 with h | h
            · omega
            · exact absurd ⟨rfl, h⟩ hgood
          clear hgood
          go_wp2_with fail
          refine DA.out.mono ?_
          rintro e w5 ⟨rfl, rfl⟩
          go_wp2
          go_ret2
          show ROpen w m (openS s) _ _
          rw [EO.out]
          exact ⟨BW.out, .inr ⟨by decide, rfl⟩⟩
        · have hd0' : (dd != 0) = true := by simpa using hd0
          clear hgood hd0
          go_wp2_with fail
          refine DA.out.mono ?_
          rintro e w5 ⟨rfl, rfl⟩
          go_wp2
          go_ret2
          show ROpen w m (openS s) _ _
          rw [EO.out]
          exact ⟨BW.out, .inr ⟨by decide, rfl⟩⟩
    · have EO := Lib.hid (openS_no R.out (readV_bad xs hok))
      rw [EO.out]
      have NO := Lib.hid (show ¬ ((recF xs).1.length = 1 ∧ (recF xs).2 = xs.length) from fun ⟨h1, h2⟩ => by
        obtain ⟨l, hl⟩ := List.length_eq_one_iff.1 h1
        have := (recF_one xs l).1 (Prod.ext hl h2)
        exact hok ⟨this.1, this.2.1⟩)
      obtain ⟨L, hL⟩ : ∃ L, L = xs.length := ⟨_, rfl⟩
      have LL := Lib.hid hL
      obtain ⟨rf, hrf⟩ : ∃ rf, rf = recF xs := ⟨_, rfl⟩
      have RFE := Lib.hid hrf
      rw [← hrf, ← hL] at NO
      clear hok hL hrf
      go_enter Tryd.func22, Tryd.ntmps22
      go_wp2_with fail
      refine RD.out.mono ?_
      rintro e w1 ⟨u, rfl, ho, hb⟩
      obtain ⟨A1, c1, rfl, -⟩ := id ho.clip
      have HB := Lib.hid hb
      have RF := Lib.hid (rfread_any _ xs w1 (ho.le (Nat.zero_le _)) X.out.1 (by have := X.out.2; omega))
      rw [← RFE.out] at RF
      rw [← LL.out] at RF ⊢
      clear hb ho
      go_wp2_with fail
      refine RF.out.mono ?_
      rintro e w2 ⟨u2, vs, rfl, ho2, hr2, hb2⟩
      obtain ⟨A2, c2, rfl, -⟩ := id ho2.clip
      have HB2 := Lib.hid (HB.out.trans (hb2.mono HB.out.size))
      obtain ⟨k, hk⟩ : ∃ k, k = vs.length := ⟨_, rfl⟩
      obtain ⟨q, hq⟩ : ∃ q, q = rf.2 := ⟨_, rfl⟩
      have N2 : ¬ (k = 1 ∧ q = L) := fun ⟨h1, h2⟩ => NO.out ⟨hr2.len.symm.trans (hk.symm.trans h1), hq.symm.trans h2⟩
      rw [← hk, ← hq]
      clear ho2 hr2 hb2 hk hq NO RFE RF
      by_cases hk1 : k = 1
      · subst hk1
        have hq1 : ((q : Int) != (L : Int)) = true := by
          have : ¬ q = L := fun e => N2 ⟨rfl, e⟩
          simpa using (show ¬ (q : Int) = (L : Int) by omega)
        clear N2
        go_wp2
        go_ret2
        exact ⟨HB2.out, .inr ⟨by decide, rfl⟩⟩
      · have hk2 : ((k : Int) != 1) = true := by simpa using (show ¬ (k : Int) = 1 by omega)
        clear N2 hk1
        go_wp2
        go_ret2
        exact ⟨HB2.out, .inr ⟨by decide, rfl⟩⟩
end Go.Proofs.YtnegondlkfeleaaDoor
