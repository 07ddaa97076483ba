/- The document's promise: Set. -/
import Derived.Test.YtnegondlkfeleaaDoorRtc
import Derived.Test.YtnegondlkfeleaaDoorRsx
import Derived.Test.YtnegondlkfeleaaDoorRdq
import Derived.Test.YtnegondlkfeleaaDoorSet
namespace Go.Proofs.YtnegondlkfeleaaDoor
open Go.RowKit

theorem RDk.below {w w' : World} {m : Nat} {nm : ByteArray} {s : Dst} {F : List Nat} (h : RDk w m nm s F) (hb : Below w.heap.size w w') : RDk w' m nm s F := by
  obtain ⟨R, hR, hk, hw⟩ := h.objs
  exact hw w' fun q hq => (hb.block _ (lt_of_heap (hk q hq))).trans (hk q hq)
theorem RTo.of_below {w w1 w' : World} {F : List Nat} {m : Nat} {nm : ByteArray} {s : Dst} (hb : Below w.heap.size w w1) (t : RTo w1 F m nm s w') : RTo w F m nm s w' := by
  obtain ⟨⟨F', h, hF⟩, k⟩ := t
  exact ⟨⟨F', h, fun k hk => (hF k hk).imp id (fun h => Nat.le_trans hb.size h)⟩, (Kp.of_below hb F).trans k fun _ hi => .inl hi⟩
/-- A promise's block in the document. -/
def rpI (m : Nat) (t v : Int) (lost : Bool) : Array Value := #[.pointer (some ⟨m, 0, none⟩), .int .u64 t, .int .u8 v, .bool lost]
/-- What Set leaves. -/
def RSet (w : World) (F : List Nat) (q m : Nat) (r : Int × Int × Int × Bool × Dst) (e : Ending) (w' : World) : Prop :=
  e = .returned (.int .i64 r.1) ∧ ∃ w1, RTo w F m ⟨#[115, 116, 97, 116, 101]⟩ r.2.2.2.2 w1 ∧ Kp w1 [q] w' ∧ Blk w' q 81 (rpI m r.2.1 r.2.2.1 r.2.2.2.1)
theorem rset_same {w : World} {F : List Nat} {q m : Nat} {t v k : Int} {lost : Bool} {s : Dst} (hq : Blk w q 81 (rpI m t v lost)) (h : RDk w m ⟨#[115, 116, 97, 116, 101]⟩ s F) : RSet w F q m (k, t, v, lost, s) (.returned (.int .i64 k)) w :=
  ⟨rfl, w, h.to h (Kp.refl _ _), Kp.refl _ _, hq⟩

theorem vowB_byt (T V : Nat) : ∀ c ∈ vowB T V, byt c := frameB_byt fun c hc => (List.mem_append.1 hc).elim (nb_byt T c) (nb_byt V c)
set_option maxHeartbeats 2000000 in
set_option maxRecDepth 100000 in
theorem rpset_any (q m : Nat) (t v : Int) (lost : Bool) (T V : Nat) (s : Dst) (F : List Nat) (w : World) (hq : Blk w q 81 (rpI m t v lost)) (h : RDk w m ⟨#[115, 116, 97, 116, 101]⟩ s F) (hqF : q ∉ F)
    (hT : T < 18446744073709551616) (hV : V < 256) :
    Calls Tryd.prog 30 #[.pointer (some ⟨q, 0, none⟩), .int .u64 T, .int .u8 V] w (RSet w F q m (setS t v lost s T V)) := by
  have H := Lib.hid h
  have Q := Lib.hid hq
  have c0 := hq.cell 0
  have c1 := hq.cell 1
  have c2 := hq.cell 2
  have c3 := hq.cell 3
  simp only [rpI, List.getElem?_toArray, List.getElem?_cons_zero, List.getElem?_cons_succ] at c0 c1 c2 c3
  have HQF := Lib.hid hqF
  have HT := Lib.hid hT
  have HV := Lib.hid hV
  clear h hq hqF
  cases lost with
  | true =>
    have E := Lib.hid (show setS t v true s T V = (17, t, v, true, s) from rfl)
    rw [E.out]
    clear hT hV
    go_enter Tryd.func30, Tryd.ntmps30
    go_wp2
    go_ret
    exact rset_same Q.out H.out
  | false =>
    by_cases hm : mayB t v T V = false
    · have E := Lib.hid (show setS t v false s T V = (1, t, v, false, s) from by unfold setS; rw [if_neg (by simp), if_pos hm])
      rw [E.out]
      have hm' : (T : Int) < t ∨ ((T : Int) = t ∧ ¬ v = 0 ∧ ¬ (V : Int) = v) := by
        simp [mayB] at hm
        obtain ⟨⟨h1, h2⟩, h3⟩ := hm
        by_cases e : (T : Int) = t
        · exact .inr ⟨e, h3 e, h2 e⟩
        · exact .inl (by omega)
      clear hm hT hV
      rcases hm' with h1 | ⟨h1, h2, h3⟩
      · go_enter Tryd.func30, Tryd.ntmps30
        go_wp2
        go_ret
        exact rset_same Q.out H.out
      · have h1' : ¬ (T : Int) < t := by omega
        have h2' : (v != 0) = true := by simpa using h2
        have h3' : ((V : Int) != v) = true := by simpa using h3
        have h1b : ((T : Int) == t) = true := by simpa using h1
        clear h2 h3
        go_enter Tryd.func30, Tryd.ntmps30
        go_wp2
        go_ret
        exact rset_same Q.out H.out
    · have hm1 : mayB t v T V = true := by simpa using hm
      by_cases hs : t = (T : Int) ∧ v = (V : Int)
      · have E := Lib.hid (show setS t v false s T V = (0, t, v, false, s) from by unfold setS; rw [if_neg (by simp), if_neg hm, if_pos hs])
        rw [E.out]
        obtain ⟨rfl, rfl⟩ := hs
        clear hm hm1 hT hV
        go_enter Tryd.func30, Tryd.ntmps30
        go_wp2
        all_goals
          go_ret
          exact rset_same Q.out H.out
      · have OK := Lib.hid (fun s' h3 => setS_ok (t := t) (v := v) (s := s) (s' := s') hm1 hs h3)
        have BAD := Lib.hid (fun s' r h3 hr => setS_bad (t := t) (v := v) (r := r) (s := s) (s' := s') hm1 hs h3 hr)
        have hwV : IntKind.u64.wrap (V : Int) = V := by rw [IntKind.wrap_u64]; omega
        have hc : (¬ (T : Int) < t ∧ ¬ (T : Int) = t) ∨ ((T : Int) = t ∧ v = 0 ∧ ¬ (V : Int) = v) := by
          simp [mayB] at hm1
          by_cases e : (T : Int) = t
          · refine .inr ⟨e, ?_, fun h => hs ⟨e.symm, h.symm⟩⟩
            rcases hm1 with (h | h) | h
            · omega
            · exact absurd ⟨e.symm, h.2.symm⟩ hs
            · exact h.2
          · exact .inl ⟨by omega, e⟩
        clear hm hm1 hs
        have h3 : (T : Int) = t → ((T : Int) == t) = true := fun e => by simpa using e
        have h4 : ¬ (T : Int) = t → ((T : Int) == t) = false := fun e => by simpa using e
        have h5 : ¬ (V : Int) = v → ((V : Int) == v) = false := fun e => by simpa using e
        have hT2 := HT.out
        rcases hc with ⟨h1, h2⟩ | ⟨rfl, rfl, h2⟩
        · have h6 := h4 h2
          clear h3 h4 h5 hT hV
          go_enter Tryd.func30, Tryd.ntmps30
          go_wp2_with fail
          refine (rnum_any (.slice none 0 0) [] T _ (Bo.nil_ 0 _).bs HT.out (by simp)).mono ?_
          rintro e w1 ⟨u1, rfl, ho1, hb1⟩
          rw [List.nil_append] at ho1
          have O1 := Lib.hid ho1
          have B1 := Lib.hid hb1
          clear ho1 hb1
          go_wp2_with fail
          refine (rnum_any u1 (nb T) V _ O1.out.bs (by have := HV.out; omega) (by have := nb_ten HT.out; omega)).mono ?_
          rintro e w2 ⟨u2, rfl, ho2, hb2⟩
          have O2 := Lib.hid ho2
          have B2 := Lib.hid (B1.out.trans (hb2.mono B1.out.size))
          clear ho2 hb2
          go_wp2_with fail
          refine (rfput_any (.slice none 0 0) u2 [] (nb T ++ nb V) _ (Bo.nil_ 0 _).bs O2.out.bs (fun c hc => (List.mem_append.1 hc).elim (nb_byt T c) (nb_byt V c)) (by simp) (by have := nb_ten HT.out; have := nb_ten (n := V) (by have := HV.out; omega); simp only [List.length_append]; omega)).mono ?_
          rintro e w3 ⟨u3, rfl, ho3, hb3⟩
          rw [List.nil_append] at ho3
          have O3 := Lib.hid (show Bo w2.heap.size w3 u3 (vowB T V) from ho3)
          have B3 := Lib.hid (B2.out.trans (hb3.mono B2.out.size))
          clear ho3 hb3
          have Q3 := Lib.hid (Q.out.below B3.out Q.out.lt)
          have H3 := Lib.hid (H.out.below B3.out)
          have d0 := Q3.out.cell 0
          simp only [rpI, List.getElem?_toArray, List.getElem?_cons_zero, List.getElem?_cons_succ] at d0
          obtain ⟨s', r, hd⟩ : ∃ s' r, doesS s (vowB T V).length true (fun _ => some (vowB T V, (vowB T V).length)) = (s', r) := ⟨_, _, rfl⟩
          have PU := Lib.hid (rput_any ⟨#[115, 116, 97, 116, 101]⟩ (by decide +kernel) m s F u3 (vowB T V) w3 H3.out O3.out.bs (.inr fun k hk => by
            have h1 := O3.out.blk_lt k hk
            obtain ⟨L, hL⟩ := H.out.blk
            have h2 := hL.lt
            have h3 := B2.out.size
            simp
            omega) (vowB_byt T V) (by have := vowB_len T V HT.out HV.out; omega))
          rw [hd] at PU
          have HD := Lib.hid hd
          clear hd
          go_wp2_with fail
          refine PU.out.mono ?_
          rintro e w4 ⟨rfl, t4⟩
          have T4 := Lib.hid (RTo.of_below B3.out t4)
          have Q4 := Lib.hid (t4.2.blk Q3.out HQF.out)
          have c0' := Q4.out.cell 0
          have c1' := Q4.out.cell 1
          have c2' := Q4.out.cell 2
          have c3' := Q4.out.cell 3
          have f1' := Q4.out.free 1
          have f2' := Q4.out.free 2
          have f3' := Q4.out.free 3
          simp only [rpI, List.getElem?_toArray, List.getElem?_cons_zero, List.getElem?_cons_succ] at c0' c1' c2' c3'
          clear t4
          by_cases hr : r = 0
          · subst hr
            have R := Lib.hid (OK.out s' HD.out)
            go_wp2
            go_ret
            show RSet w F q m (setS _ _ false s T V) _ _
            rw [R.out]
            refine ⟨rfl, w4, T4.out, (((Kp.refl _ _).setCell (.inl (by simp)) _).setCell (.inl (by simp)) _), ?_⟩
            have := (Q4.out.set_ 1 (.int .u64 T)).set_ 2 (.int .u8 V)
            simpa [rpI] using this
          · have R := Lib.hid (BAD.out s' r HD.out hr)
            have hr' : (r != 0) = true := by simpa using hr
            clear hr
            go_wp2
            go_ret
            show RSet w F q m (setS _ _ false s T V) _ _
            rw [R.out]
            refine ⟨rfl, w4, T4.out, (Kp.refl _ _).setCell (.inl (by simp)) _, ?_⟩
            have := Q4.out.set_ 3 (.bool true)
            simpa [rpI] using this
        · have h7 := h5 h2
          clear h3 h4 h5 hT hV
          go_enter Tryd.func30, Tryd.ntmps30
          go_wp2_with fail
          refine (rnum_any (.slice none 0 0) [] T _ (Bo.nil_ 0 _).bs HT.out (by simp)).mono ?_
          rintro e w1 ⟨u1, rfl, ho1, hb1⟩
          rw [List.nil_append] at ho1
          have O1 := Lib.hid ho1
          have B1 := Lib.hid hb1
          clear ho1 hb1
          go_wp2_with fail
          refine (rnum_any u1 (nb T) V _ O1.out.bs (by have := HV.out; omega) (by have := nb_ten HT.out; omega)).mono ?_
          rintro e w2 ⟨u2, rfl, ho2, hb2⟩
          have O2 := Lib.hid ho2
          have B2 := Lib.hid (B1.out.trans (hb2.mono B1.out.size))
          clear ho2 hb2
          go_wp2_with fail
          refine (rfput_any (.slice none 0 0) u2 [] (nb T ++ nb V) _ (Bo.nil_ 0 _).bs O2.out.bs (fun c hc => (List.mem_append.1 hc).elim (nb_byt T c) (nb_byt V c)) (by simp) (by have := nb_ten HT.out; have := nb_ten (n := V) (by have := HV.out; omega); simp only [List.length_append]; omega)).mono ?_
          rintro e w3 ⟨u3, rfl, ho3, hb3⟩
          rw [List.nil_append] at ho3
          have O3 := Lib.hid (show Bo w2.heap.size w3 u3 (vowB T V) from ho3)
          have B3 := Lib.hid (B2.out.trans (hb3.mono B2.out.size))
          clear ho3 hb3
          have Q3 := Lib.hid (Q.out.below B3.out Q.out.lt)
          have H3 := Lib.hid (H.out.below B3.out)
          have d0 := Q3.out.cell 0
          simp only [rpI, List.getElem?_toArray, List.getElem?_cons_zero, List.getElem?_cons_succ] at d0
          obtain ⟨s', r, hd⟩ : ∃ s' r, doesS s (vowB T V).length true (fun _ => some (vowB T V, (vowB T V).length)) = (s', r) := ⟨_, _, rfl⟩
          have PU := Lib.hid (rput_any ⟨#[115, 116, 97, 116, 101]⟩ (by decide +kernel) m s F u3 (vowB T V) w3 H3.out O3.out.bs (.inr fun k hk => by
            have h1 := O3.out.blk_lt k hk
            obtain ⟨L, hL⟩ := H.out.blk
            have h2 := hL.lt
            have h3 := B2.out.size
            simp
            omega) (vowB_byt T V) (by have := vowB_len T V HT.out HV.out; omega))
          rw [hd] at PU
          have HD := Lib.hid hd
          clear hd
          go_wp2_with fail
          refine PU.out.mono ?_
          rintro e w4 ⟨rfl, t4⟩
          have T4 := Lib.hid (RTo.of_below B3.out t4)
          have Q4 := Lib.hid (t4.2.blk Q3.out HQF.out)
          have c0' := Q4.out.cell 0
          have c1' := Q4.out.cell 1
          have c2' := Q4.out.cell 2
          have c3' := Q4.out.cell 3
          have f1' := Q4.out.free 1
          have f2' := Q4.out.free 2
          have f3' := Q4.out.free 3
          simp only [rpI, List.getElem?_toArray, List.getElem?_cons_zero, List.getElem?_cons_succ] at c0' c1' c2' c3'
          clear t4
          by_cases hr : r = 0
          · subst hr
            have R := Lib.hid (OK.out s' HD.out)
            go_wp2
            go_ret
            show RSet w F q m (setS _ _ false s T V) _ _
            rw [R.out]
            refine ⟨rfl, w4, T4.out, (((Kp.refl _ _).setCell (.inl (by simp)) _).setCell (.inl (by simp)) _), ?_⟩
            have := (Q4.out.set_ 1 (.int .u64 T)).set_ 2 (.int .u8 V)
            simpa [rpI] using this
          · have R := Lib.hid (BAD.out s' r HD.out hr)
            have hr' : (r != 0) = true := by simpa using hr
            clear hr
            go_wp2
            go_ret
            show RSet w F q m (setS _ _ false s T V) _ _
            rw [R.out]
            refine ⟨rfl, w4, T4.out, (Kp.refl _ _).setCell (.inl (by simp)) _, ?_⟩
            have := Q4.out.set_ 3 (.bool true)
            simpa [rpI] using this
end Go.Proofs.YtnegondlkfeleaaDoor
