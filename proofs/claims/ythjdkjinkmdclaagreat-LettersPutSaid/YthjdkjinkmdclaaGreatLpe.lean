/- Letters: putting the entries. -/
import Derived.Test.YthjdkjinkmdclaaGreatLpa
namespace Go.Proofs.YthjdkjinkmdclaaGreat
open Go.RowKit

theorem ent_len (e : Ent) (h : fok entryK e.1) (h2 : ∀ q ∈ e.2, fok stepK q) : (entryR e).1.length ≤ 65536 ∧ (textB (entryR e).1).length ≤ 70000 := by
  have h1 : (entryR e).1.length ≤ 65536 := by
    by_cases h8 : e.2.length ≤ 8
    · exact ent_small ⟨h, h8, h2⟩
    · unfold entryR; rw [if_neg h8]; simp
  refine ⟨h1, ?_⟩
  unfold textB
  have := nb_ten (n := (entryR e).1.length) (by omega)
  rw [List.length_append]; omega
theorem entry_fok {l : List Int} (h : fok entryK l) : ∃ x0 x1 x2 x3, l = [x0, x1, x2, x3] ∧ fok1 .u64 x0 ∧ fok1 .u64 x1 ∧ fok1 .u8 x2 ∧ fok1 .u64 x3 := by
  match l, h with
  | [x0, x1, x2, x3], h => exact ⟨x0, x1, x2, x3, rfl, h.1, h.2.1, h.2.2.1, h.2.2.2.1⟩
  | [], h => simp [entryK, fok] at h
  | [_], h => simp [entryK, fok] at h
  | [_, _], h => simp [entryK, fok] at h
  | [_, _, _], h => simp [entryK, fok] at h
  | _ :: _ :: _ :: _ :: _ :: _, h => simp [entryK, fok] at h
def upE (es : List Ent) (k : Nat) : List Int := (es.take k).flatMap (fun e => textB (entryR e).1)
def badE (es : List Ent) (k : Nat) : Bool := (es.take k).any (fun e => decide ((entryR e).2 ≠ 0) || decide (65536 < (entryR e).1.length))
theorem upE_len {es : List Ent} (h : ∀ e ∈ es, fok entryK e.1 ∧ ∀ q ∈ e.2, fok stepK q) : ∀ k, k ≤ es.length → (upE es k).length ≤ k * 70000
  | 0, _ => by simp [upE]
  | k + 1, hk => by
    have h1 := upE_len h k (by omega)
    have h2 := (ent_len es[k] (h _ (List.getElem_mem (by omega))).1 (h _ (List.getElem_mem (by omega))).2).2
    unfold upE at h1 ⊢
    rw [List.take_succ_eq_append_getElem (by omega), List.flatMap_append, List.length_append]
    simp only [List.flatMap_cons, List.flatMap_nil, List.append_nil]
    omega

set_option maxHeartbeats 8000000 in
set_option maxRecDepth 100000 in
theorem lents_any {W0 w : World} {p l : Nat} {cs : Array Value} {xs : List Int} {bad : Bool} (h : Lp W0 w p l cs xs bad) (g o : Nat) (ev : Value) (es : List Ent) (hg : g ≠ p) (hc : w.cell? ⟨g, o, none⟩ = some ev) (hes : Ents W0 ev es)
    (hok : ∀ e ∈ es, (fok entryK e.1 ∧ ∀ q ∈ e.2, fok stepK q) ∧ e.2.length ≤ 1000000) (hn6 : es.length ≤ 1000000) (hl : xs.length ≤ 1000000000) :
    Calls Tryz.prog 87 #[.pointer (some ⟨p, 0, none⟩), .pointer (some ⟨g, o, none⟩)] w fun e w' => e = .returned (.tuple #[]) ∧ Lp W0 w' p l cs (xs ++ (nb es.length ++ es.flatMap (fun e => textB (entryR e).1))) (bad || (decide (8 < es.length) || es.any (fun e => decide ((entryR e).2 ≠ 0) || decide (65536 < (entryR e).1.length)))) ∧ Ks w w' p := by
  have H := Lib.hid h
  have HC := Lib.hid hc
  have HE := Lib.hid hes
  have HO := Lib.hid hok
  obtain ⟨A, c, rfl, hcc⟩ : ∃ A c, ev = .slice A es.length c ∧ es.length ≤ c := by obtain ⟨_, _, ⟨A, c, hv, hcc, -⟩, -⟩ := hes; exact ⟨A, c, hv, hcc⟩
  obtain ⟨n, hn⟩ : ∃ n, n = es.length := ⟨_, rfl⟩
  have N := Lib.hid hn
  rw [← hn] at HC HE hc hn6 hcc ⊢
  have UL := Lib.hid (upE_len (fun e he => (hok e he).1))
  clear h hes hok hn
  go_enter Tryz.func87, Tryz.ntmps87
  go_upto_region 0 with fail
  go_cut [] (fun wx => Lp W0 wx p l cs xs (bad || decide (8 < n)) ∧ wx.cell? ⟨g, o, none⟩ = some (.slice A n c) ∧ Ks w wx p)
  case first =>
    obtain ⟨v, hk, hf⟩ := H.out.ex
    obtain ⟨A', m, q, rfl⟩ := hf.own.sl
    have c1 := hk.cell 1
    have fr := hk.free
    simp only [List.getElem?_toArray, List.getElem?_cons_zero, List.getElem?_cons_succ] at c1
    have FIN := Lib.hid (show ∀ b', Lp W0 (w.setCell ⟨p, 1, none⟩ (.bool b')) p l cs xs b' ∧ (w.setCell ⟨p, 1, none⟩ (.bool b')).cell? ⟨g, o, none⟩ = some (.slice A n c) ∧ Ks w (w.setCell ⟨p, 1, none⟩ (.bool b')) p from fun b' =>
      ⟨H.out.mark b', by rw [cell_far_ (by exact hg)]; exact HC.out, Ks.set _⟩)
    clear hk hf
    cases bad
    · by_cases h6 : 8 < n
      · have h6' : (8 : Int) < n := by omega
        have FN := Lib.hid (show (false || decide (8 < n)) = true by simp [h6])
        go_wp2
        go_meet
        rw [FN.out]; exact FIN.out true
      · have h6' : ¬ (8 : Int) < n := by omega
        have FN := Lib.hid (show (false || decide (8 < n)) = false by simp [h6])
        go_wp2
        go_meet
        rw [FN.out]; exact FIN.out false
    · go_wp2
      go_meet
      rw [Bool.true_or]; exact FIN.out true
  case rest =>
    obtain ⟨hP, hx, hsz⟩ := hcut
    obtain ⟨b0, hb0⟩ : ∃ b', b' = (bad || decide (8 < n)) := ⟨_, rfl⟩
    rw [← hb0] at hP
    have EB := Lib.hid hb0
    have SZ := Lib.hid hsz
    go_upto_region 1 with fail
    go_cut [] (fun wx => Lp W0 wx p l cs (xs ++ nb n) b0 ∧ wx.cell? ⟨g, o, none⟩ = some (.slice A n c) ∧ Ks w wx p)
    case first =>
      have P := Lib.hid hP.drew
      obtain ⟨v, hk, hf⟩ := hP.ex
      obtain ⟨v', hk', hf'⟩ := hP.drew.ex
      have c0 := hk.cell 0
      simp only [List.getElem?_toArray, List.getElem?_cons_zero] at c0
      obtain rfl : v' = v := by have := hk'.cell 0; simp only [List.getElem?_toArray, List.getElem?_cons_zero] at this; exact Option.some.inj (this.symm.trans c0)
      have HK := Lib.hid hk'
      have HF := Lib.hid hf'
      obtain ⟨A', m, q, rfl⟩ := hf.own.sl
      have hwl : IntKind.u64.wrap (n : Int) = n := IntWalk.u64_in _ (by omega)
      have hxd : wc.drew.cell? ⟨g, o, none⟩ = some (.slice A n c) := hx
      have HXD := Lib.hid hxd
      have hgl := Lib.hid (block_lt_of_cell hxd)
      clear hk hf hP hk' hf' hb0 hc hxd hsz
      go_region_law (go_simp; go_at_call 95; refine (num_any _ xs n _ HF.out.own.bs (by omega) (by omega)).mono ?_; rintro e w1 ⟨v1, rfl, ho, hb⟩; obtain ⟨A1, m1, k1, rfl⟩ := ho.sl; have HK1 := Lib.hid (HK.out.below hb HK.out.lt); have HO1 := Lib.hid ho; have HB1 := Lib.hid hb; have f1 := HK1.out.free; have c1 := HK1.out.cell 0; simp only [List.getElem?_toArray, List.getElem?_cons_zero] at c1; clear ho hb)
      all_goals
        go_wp2
        go_meet
        refine ⟨Lp.store HK1.out (HF.out.next HO1.out HB1.out) (P.out.lb.below HB1.out P.out.lb.lt) P.out.ne P.out.p0 P.out.l0, ?_, ?_⟩
        · rw [cell_far_ (by exact hg)]; exact (HB1.out.cell hgl.out).trans HXD.out
        · exact ((SZ.out.trans (Ks.drew wc p)).trans (Ks.below HB1.out p)).trans (Ks.set _)
    case rest =>
      obtain ⟨hP, hx, hsz⟩ := hcut
      obtain ⟨ys, hys⟩ : ∃ ys, ys = xs ++ nb n := ⟨_, rfl⟩
      rw [← hys] at hP
      have hyl : ys.length ≤ 1000000010 := by rw [hys, List.length_append]; have := nb_ten (n := n) (by omega); omega
      have YS := Lib.hid hys
      have P1 := Lib.hid hP
      have SZ1 := Lib.hid hsz
      clear hP hsz hys hc hb0 SZ
      go_wp2_with fail
      go_loopg [39] n (fun q c39 wr => ∃ k : Nat, k ≤ n ∧ q = n - k ∧ c39 = .int .i64 k ∧ Lp W0 wr p l cs (ys ++ upE es k) (b0 || badE es k) ∧ Ks w wr p)
      case atStart => exact ⟨0, Nat.zero_le _, by omega, rfl, by simpa [upE, badE] using P1.out, SZ1.out⟩
      case round =>
        obtain ⟨k, hk, hq, rfl, hP, hsz⟩ := hrel
        have Q := Lib.hid hq
        have P := Lib.hid hP
        have SZ := Lib.hid hsz
        clear hq hP hsz P1 SZ1 hx
        by_cases hkn : k < n
        · have hkl : k < es.length := by have := N.out; omega
          have hkn' : (k : Int) < n := by omega
          obtain ⟨ge, oe, ce, hv, -, hge, hcell⟩ := (show Ents wr (.slice A n c) es from HE.out.below P.out.bel).at_ (by omega)
          injection hv with hv1 hv2 hv3
          subst hv1
          clear hv2 hv3
          obtain ⟨s, hs, hh⟩ := hcell k hkl
          obtain ⟨⟨hf, hst⟩, hl6⟩ := HO.out _ (List.getElem_mem hkl)
          have hup := UL.out k (by omega)
          have hS : upE es (k + 1) = upE es k ++ textB (entryR es[k]).1 := by
            unfold upE; rw [List.take_succ_eq_append_getElem hkl, List.flatMap_append]; simp
          have hBd : badE es (k + 1) = (badE es k || (decide ((entryR es[k]).2 ≠ 0) || decide (65536 < (entryR es[k]).1.length))) := by
            unfold badE; rw [List.take_succ_eq_append_getElem hkl, List.any_append]; simp
          obtain ⟨e, he⟩ : ∃ e, e = es[k] := ⟨_, rfl⟩
          rw [← he] at hs hh hf hst hl6 hS hBd
          obtain ⟨el1, el2⟩ := ent_len e hf hst
          obtain ⟨ef, rows⟩ := e
          obtain ⟨x0, x1, x2, x3, rfl, f0, f1, f2, f3⟩ := entry_fok hf
          simp only at hs hst hl6
          have c0 : wr.cell? ⟨ge, oe + k * 5, none⟩ = some (.int .u64 x0) := by have := hh 0 (.int .u64 x0) (by omega) rfl; simpa using this
          have c1 : wr.cell? ⟨ge, oe + k * 5 + 1, none⟩ = some (.int .u64 x1) := hh 1 (.int .u64 x1) (by omega) rfl
          have c2 : wr.cell? ⟨ge, oe + k * 5 + 2, none⟩ = some (.int .u8 x2) := hh 2 (.int .u8 x2) (by omega) rfl
          have c3 : wr.cell? ⟨ge, oe + k * 5 + 3, none⟩ = some (.int .u64 x3) := hh 3 (.int .u64 x3) (by omega) rfl
          have c4 : wr.cell? ⟨ge, oe + k * 5 + 4, none⟩ = some s := hh 4 s (by omega) rfl
          obtain ⟨As, cs', rfl, -⟩ := id hs
          obtain ⟨nr, hnr⟩ : ∃ m, m = rows.length := ⟨_, rfl⟩
          have ba := below_alloc_ wr (.cells #[.int .u64 x0, .int .u64 x1, .int .u8 x2, .int .u64 x3, .slice As rows.length cs'] 63)
          have ST := Lib.hid (Rd.below hs ba)
          have PA := Lib.hid (P.out.below ba)
          have BA := Lib.hid ba
          have HS := Lib.hid hS
          have HBd := Lib.hid hBd
          have EL1 := Lib.hid el1
          have F := Lib.hid (show (fok1 .u64 x0 ∧ fok1 .u64 x1 ∧ fok1 .u8 x2 ∧ fok1 .u64 x3) ∧ ∀ q ∈ rows, fok stepK q from ⟨⟨f0, f1, f2, f3⟩, hst⟩)
          clear hcell hh hs hf hst he ba hS hBd el1 el2 f0 f1 f2 f3 hnr
          go_wp2_with fail
          refine (Put_entry_any x0 x1 x2 x3 _ rows F.out.1.1 F.out.1.2.1 F.out.1.2.2.1 F.out.1.2.2.2 F.out.2 _ ST.out hl6).mono ?_
          rintro e w1 ⟨v1, rfl, ho, hb⟩
          obtain ⟨er, her⟩ : ∃ x, x = (entryR ([x0, x1, x2, x3], rows)).2 := ⟨_, rfl⟩
          obtain ⟨eb, heb⟩ : ∃ x, x = (entryR ([x0, x1, x2, x3], rows)).1 := ⟨_, rfl⟩
          rw [← heb] at ho HS EL1 HBd
          rw [← her] at HBd ⊢
          obtain ⟨A1, m1, rfl, -⟩ := ho.clip
          have b6 := below_alloc_ w1 (.cells #[.slice A1 eb.length m1] 25)
          have K6 := Lib.hid (Blk.new w1 25 #[.slice A1 eb.length m1])
          have Y6 := Lib.hid (ho.bs.below b6)
          have P6 := Lib.hid ((PA.out.below hb).below b6)
          obtain ⟨v, hkp, -⟩ := (PA.out.below hb).ex
          have hpl : w1.heap.size ≠ p := by have := hkp.lt; omega
          have SZ6 := Lib.hid (((SZ.out.trans (Ks.below BA.out p)).trans (Ks.below hb p)).trans (Ks.below b6 p))
          obtain ⟨w6, hw6⟩ : ∃ w6, w6 = w1.alloc (.cells #[.slice A1 eb.length m1] 25) := ⟨_, rfl⟩
          rw [← hw6] at K6 Y6 P6 SZ6
          obtain ⟨bb, hbb⟩ : ∃ b, b = (b0 || badE es k) := ⟨_, rfl⟩
          rw [← hbb] at P6
          have HBB := Lib.hid hbb
          clear ho hb b6 hkp hbb PA P ST c0 c1 c2 c3 c4 her heb
          go_upto_region 6 with fail
          rw [← hw6]
          clear hw6
          go_cut [] (fun wx => Lp W0 wx p l cs (ys ++ upE es k) (bb || decide (er ≠ 0)) ∧ wx.cell? ⟨w1.heap.size, 0, none⟩ = some (.slice A1 eb.length m1) ∧ Bs wx (.slice A1 eb.length m1) eb ∧ Ks w wx p)
          case first =>
            obtain ⟨v, hk7, hf7⟩ := P6.out.ex
            obtain ⟨A7, m7, q7, rfl⟩ := hf7.own.sl
            have d1 := hk7.cell 1
            have fr := hk7.free
            simp only [List.getElem?_toArray, List.getElem?_cons_zero, List.getElem?_cons_succ] at d1
            have K7 := Lib.hid hk7
            have FIN := Lib.hid (show ∀ b', Lp W0 (w6.setCell ⟨p, 1, none⟩ (.bool b')) p l cs (ys ++ upE es k) b' ∧ (w6.setCell ⟨p, 1, none⟩ (.bool b')).cell? ⟨w1.heap.size, 0, none⟩ = some (.slice A1 eb.length m1) ∧ Bs (w6.setCell ⟨p, 1, none⟩ (.bool b')) (.slice A1 eb.length m1) eb ∧ Ks w (w6.setCell ⟨p, 1, none⟩ (.bool b')) p from fun b' =>
              ⟨P6.out.mark b', by rw [cell_far_ (by exact hpl)]; exact (K6.out.cell 0).trans rfl, Bs.set_ K7.out (put_cells _ _ (by simp)) Y6.out 1 _, SZ6.out.trans (Ks.set _)⟩)
            clear hk7 hf7
            cases bb
            · by_cases h6 : er = 0
              · subst h6
                go_wp2
                go_meet
                exact FIN.out false
              · have h6' : (er == 0) = false := beq_eq_false_iff_ne.2 h6
                have FN := Lib.hid (show (false || decide (er ≠ 0)) = true by simp [h6])
                have FM := Lib.hid (show (er != 0) = true by simp [h6])
                go_wp2
                go_meet
                rw [FN.out, FM.out]; exact FIN.out true
            · go_wp2
              go_meet
              rw [Bool.true_or]; exact FIN.out true
          case rest =>
            obtain ⟨hP7, hx7, hb7, hs7⟩ := hcut
            have P7 := Lib.hid hP7
            have B7 := Lib.hid hb7
            have S7 := Lib.hid hs7
            have X7 := Lib.hid hx7
            have hel := EL1.out
            have hyl2 : (ys ++ upE es k).length ≤ 1000000000000 := by
              rw [List.length_append]
              have : k * 70000 ≤ 1000000 * 70000 := Nat.mul_le_mul_right _ (by omega)
              omega
            have YL2 := Lib.hid hyl2
            clear hP7 hb7 hs7 hx7 hyl2
            go_wp2_with fail
            refine (ltext_any P7.out w1.heap.size 0 _ eb hpl X7.out B7.out YL2.out (by omega)).mono ?_
            rintro e w8 ⟨rfl, h8, k8⟩
            have P8 := Lib.hid h8
            have S8 := Lib.hid (S7.out.trans k8)
            clear h8 k8
            go_wp2
            go_roundg (n - (k + 1))
            case measure => have := Q.out; omega
            case rel =>
              refine ⟨k + 1, by omega, rfl, by go_num, ?_, S8.out⟩
              rw [HS.out, HBd.out, ← List.append_assoc, ← Bool.or_assoc, ← HBB.out, ← Bool.or_assoc]
              exact P8.out
        · obtain rfl : k = n := by omega
          go_wp2
          refine bodyPost_end (results_none rfl _ _ _) rfl ⟨rfl, ?_, SZ.out⟩
          have h1 : upE es k = es.flatMap (fun e => textB (entryR e).1) := by unfold upE; rw [N.out, List.take_length]
          have h2 : badE es k = es.any (fun e => decide ((entryR e).2 ≠ 0) || decide (65536 < (entryR e).1.length)) := by unfold badE; rw [N.out, List.take_length]
          rw [← h1, ← h2, ← List.append_assoc, ← YS.out, ← Bool.or_assoc, ← EB.out]
          exact P.out
end Go.Proofs.YthjdkjinkmdclaaGreat
