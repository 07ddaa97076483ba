import Derived.Test.YthjdkjinkmdclaaGreatMemB
import Derived.Laws.BytesArg
import Derived.Test.YthjdkjinkmdclaaGreatLpa
import Derived.Test.YthjdkjinkmdclaaGreatLpl
import Derived.MapKept
import Derived.WideMake
import Derived.Maps.Own
import Derived.Shelf.Abstract
import Derived.Test.YthjdkjinkmdclaaGreatClp
/- Bytes as a string. -/
namespace Go.Proofs.YthjdkjinkmdclaaGreat
open Go.RowKit

/-- Bytes as a string. -/
theorem str_inj {xs ys : List Int} (hx : ∀ c ∈ xs, byt c) (hy : ∀ c ∈ ys, byt c) (h : strOfNums xs = strOfNums ys) : xs = ys := by
  have h1 : (xs.map fun n => UInt8.ofNat n.toNat) = (ys.map fun n => UInt8.ofNat n.toNat) := by
    rw [← strOfNums_data, ← strOfNums_data, h]
  clear h
  induction xs generalizing ys with
  | nil => cases ys with
    | nil => rfl
    | cons y ys => simp at h1
  | cons x xs ih => cases ys with
    | nil => simp at h1
    | cons y ys =>
      simp only [List.map_cons, List.cons.injEq] at h1
      have e1 : x = y := by
        have h2 := congrArg UInt8.toNat h1.1
        have := hx x (by simp)
        have := hy y (by simp)
        simp only [byt] at *
        rw [UInt8.toNat_ofNat', UInt8.toNat_ofNat'] at h2
        omega
      rw [e1, ih (fun c hc => hx c (by simp [hc])) (fun c hc => hy c (by simp [hc])) h1.2]
theorem run_convert_bs {P : Program} {w : World} {v : Value} {xs : List Int} (h : Bs w v xs) (src e dst : TypeId) (hs : P.underlying src = some (.slice e)) (he : P.underlying e = some (.int .u8)) (hd : P.underlying dst = some .string) :
    (convert src dst v).run P w = .ok (.string (strOfNums xs)) w := by
  obtain ⟨A, c, rfl, hc, hl, hh⟩ := h
  cases A with
  | none =>
    rcases hh with h0 | ⟨g, o, hA, _⟩
    · rw [run_convert_bytes_nil w src e hs he _ _ dst hd]
      rw [List.eq_nil_of_length_eq_zero h0]; rfl
    · cases hA
  | some ad =>
    rcases hh with h0 | ⟨g, o, hA, hg, hcell⟩
    · obtain ⟨b, o, x⟩ := ad
      rw [run_convert_bytes_string w src dst e _ _ c hs he hd, run_bytesToString w _ _ c xs (by
        rw [List.eq_nil_of_length_eq_zero h0]
        exact run_loadCells_list (P := P) w ⟨b, o, x⟩ [] (fun j v hj => by simp at hj)), foldl_push_bytes]
      rw [List.eq_nil_of_length_eq_zero h0]; rfl
    · injection hA with hA
      subst hA
      exact run_convert_bytes_arg w src e hs he g o xs.length c xs rfl (fun i hi => by
        refine hcell i _ ?_
        simp [bc, List.getD, List.getElem?_eq_getElem hi]) dst hd
end Go.Proofs.YthjdkjinkmdclaaGreat

/- Small facts on bytes that the packs' laws share. -/
namespace Go.Proofs.YthjdkjinkmdclaaGreat
open Go.RowKit

/-- Bytes, written out. -/
theorem Bs.lits (w : World) (bs : List Int) : Bs (w.alloc (.cells (bc bs).toArray 5)) (.slice (some ⟨w.heap.size, 0, none⟩) bs.length bs.length) bs := by
  have hk := Blk.new w 5 (bc bs).toArray
  refine ⟨_, _, rfl, Nat.le_refl _, by simp, .inr ⟨w.heap.size, 0, rfl, by simp, fun j u hu => ?_⟩⟩
  rw [Nat.zero_add, hk.cell]
  simpa using hu
theorem Bs.nils (w : World) (A : Option Addr) (c : Nat) : Bs w (.slice A 0 c) [] := ⟨A, c, rfl, Nat.zero_le _, rfl, .inl rfl⟩
theorem Bf.begin_ (w : World) : Bf w.heap.size w w (.slice none 0 0) [] := ⟨Bo.nil_ _ _, Below.refl _ _, Nat.le_refl _⟩
/-- One byte at least. -/
theorem Bo.one {B : Nat} {w : World} {v : Value} {x : Int} {xs : List Int} (h : Bo B w v (x :: xs)) : ∃ g c, v = .slice (some ⟨g, 0, none⟩) (xs.length + 1) c ∧ xs.length + 1 ≤ c ∧ B ≤ g ∧ w.cell? ⟨g, 0, none⟩ = some (.int .u8 x) := by
  rcases h with ⟨_, h0, _⟩ | ⟨g, c, cur, rfl, hB, hg, hc, hl, hs, ht⟩
  · simp at h0
  · refine ⟨g, c, rfl, by simpa using hc, hB, ?_⟩
    rw [hg.cell]
    have h1 : (cur.toList.take ((x :: xs).length * 1))[0]? = some (.int .u8 x) := by rw [ht]; rfl
    rw [List.getElem?_take, if_pos (by simp)] at h1
    simpa using h1
/-- The first ones. -/
theorem Bs.takes {w : World} {A : Option Addr} {n c : Nat} {xs : List Int} (h : Bs w (.slice A n c) xs) (k c' : Nat) (hk : k ≤ n) (hc : k ≤ c') : Bs w (.slice A k c') (xs.take k) := by
  obtain ⟨A', c0, hv, hc0, hl, hh⟩ := h
  injection hv with h1 h2 h3
  subst h1; subst h2; subst h3
  have hkl : (xs.take k).length = k := by rw [List.length_take]; omega
  refine ⟨_, c', by rw [hkl], by omega, by simp, ?_⟩
  rcases hh with h0 | ⟨g, o, hA, hg, hcell⟩
  · left; omega
  · refine .inr ⟨g, o, hA, hg, fun j u hu => hcell j u ?_⟩
    rw [← hu]
    have hj : j < k := by
      rcases Nat.lt_or_ge j k with h | h
      · exact h
      · rw [List.getElem?_eq_none (by rw [bc_len]; omega)] at hu; cases hu
    simp [bc, hj]
theorem str_ne {xs ys : List Int} (hx : ∀ c ∈ xs, byt c) (hy : ∀ c ∈ ys, byt c) (h : xs ≠ ys) : strOfNums xs ≠ strOfNums ys := fun e => h (str_inj hx hy e)
theorem str_nbeq {S1 S2 : ByteArray} (h : S1 ≠ S2) : (S1.toList == S2.toList) = false := by
  rw [ByteArray.toList_eq, ByteArray.toList_eq]
  refine beq_eq_false_iff_ne.2 fun e => h ?_
  obtain ⟨d1⟩ := S1
  obtain ⟨d2⟩ := S2
  have e' : d1 = d2 := Array.toList_inj.1 e
  rw [e']
end Go.Proofs.YthjdkjinkmdclaaGreat

/- Letters: putting the entries. -/
namespace Go.Proofs.YthjdkjinkmdclaaGreat
open Go.RowKit

theorem ent_len (e : Ent) (h : fok entryK e.1) (h2 : ∀ q ∈ e.2, fok stepK q) : (entryR e).1.length ≤ 65536 ∧ (textB (entryR e).1).length ≤ 70000 := by
  have h1 : (entryR e).1.length ≤ 65536 := by
    by_cases h8 : e.2.length ≤ 8
    · exact ent_small ⟨h, h8, h2⟩
    · unfold entryR; rw [if_neg h8]; simp
  refine ⟨h1, ?_⟩
  unfold textB
  have := nb_ten (n := (entryR e).1.length) (by omega)
  rw [List.length_append]; omega
theorem entry_fok {l : List Int} (h : fok entryK l) : ∃ x0 x1 x2 x3, l = [x0, x1, x2, x3] ∧ fok1 .u64 x0 ∧ fok1 .u64 x1 ∧ fok1 .u8 x2 ∧ fok1 .u64 x3 := by
  match l, h with
  | [x0, x1, x2, x3], h => exact ⟨x0, x1, x2, x3, rfl, h.1, h.2.1, h.2.2.1, h.2.2.2.1⟩
  | [], h => simp [entryK, fok] at h
  | [_], h => simp [entryK, fok] at h
  | [_, _], h => simp [entryK, fok] at h
  | [_, _, _], h => simp [entryK, fok] at h
  | _ :: _ :: _ :: _ :: _ :: _, h => simp [entryK, fok] at h
def upE (es : List Ent) (k : Nat) : List Int := (es.take k).flatMap (fun e => textB (entryR e).1)
def badE (es : List Ent) (k : Nat) : Bool := (es.take k).any (fun e => decide ((entryR e).2 ≠ 0) || decide (65536 < (entryR e).1.length))
theorem upE_len {es : List Ent} (h : ∀ e ∈ es, fok entryK e.1 ∧ ∀ q ∈ e.2, fok stepK q) : ∀ k, k ≤ es.length → (upE es k).length ≤ k * 70000
  | 0, _ => by simp [upE]
  | k + 1, hk => by
    have h1 := upE_len h k (by omega)
    have h2 := (ent_len es[k] (h _ (List.getElem_mem (by omega))).1 (h _ (List.getElem_mem (by omega))).2).2
    unfold upE at h1 ⊢
    rw [List.take_succ_eq_append_getElem (by omega), List.flatMap_append, List.length_append]
    simp only [List.flatMap_cons, List.flatMap_nil, List.append_nil]
    omega

set_option maxHeartbeats 8000000 in
set_option maxRecDepth 100000 in
theorem lents_any {W0 w : World} {p l : Nat} {cs : Array Value} {xs : List Int} {bad : Bool} (h : Lp W0 w p l cs xs bad) (g o : Nat) (ev : Value) (es : List Ent) (hg : g ≠ p) (hc : w.cell? ⟨g, o, none⟩ = some ev) (hes : Ents W0 ev es)
    (hok : ∀ e ∈ es, (fok entryK e.1 ∧ ∀ q ∈ e.2, fok stepK q) ∧ e.2.length ≤ 1000000) (hn6 : es.length ≤ 1000000) (hl : xs.length ≤ 1000000000) :
    Calls Tryz.prog 87 #[.pointer (some ⟨p, 0, none⟩), .pointer (some ⟨g, o, none⟩)] w fun e w' => e = .returned (.tuple #[]) ∧ Lp W0 w' p l cs (xs ++ (nb es.length ++ es.flatMap (fun e => textB (entryR e).1))) (bad || (decide (8 < es.length) || es.any (fun e => decide ((entryR e).2 ≠ 0) || decide (65536 < (entryR e).1.length)))) ∧ Ks w w' p := by
  have H := Lib.hid h
  have HC := Lib.hid hc
  have HE := Lib.hid hes
  have HO := Lib.hid hok
  obtain ⟨A, c, rfl, hcc⟩ : ∃ A c, ev = .slice A es.length c ∧ es.length ≤ c := by obtain ⟨_, _, ⟨A, c, hv, hcc, -⟩, -⟩ := hes; exact ⟨A, c, hv, hcc⟩
  obtain ⟨n, hn⟩ : ∃ n, n = es.length := ⟨_, rfl⟩
  have N := Lib.hid hn
  rw [← hn] at HC HE hc hn6 hcc ⊢
  have UL := Lib.hid (upE_len (fun e he => (hok e he).1))
  clear h hes hok hn
  go_enter Tryz.func87, Tryz.ntmps87
  go_upto_region 0 with fail
  go_cut [] (fun wx => Lp W0 wx p l cs xs (bad || decide (8 < n)) ∧ wx.cell? ⟨g, o, none⟩ = some (.slice A n c) ∧ Ks w wx p)
  case first =>
    obtain ⟨v, hk, hf⟩ := H.out.ex
    obtain ⟨A', m, q, rfl⟩ := hf.own.sl
    have c1 := hk.cell 1
    have fr := hk.free
    simp only [List.getElem?_toArray, List.getElem?_cons_zero, List.getElem?_cons_succ] at c1
    have FIN := Lib.hid (show ∀ b', Lp W0 (w.setCell ⟨p, 1, none⟩ (.bool b')) p l cs xs b' ∧ (w.setCell ⟨p, 1, none⟩ (.bool b')).cell? ⟨g, o, none⟩ = some (.slice A n c) ∧ Ks w (w.setCell ⟨p, 1, none⟩ (.bool b')) p from fun b' =>
      ⟨H.out.mark b', by rw [cell_far_ (by exact hg)]; exact HC.out, Ks.set _⟩)
    clear hk hf
    cases bad
    · by_cases h6 : 8 < n
      · have h6' : (8 : Int) < n := by omega
        have FN := Lib.hid (show (false || decide (8 < n)) = true by simp [h6])
        go_wp2
        go_meet
        rw [FN.out]; exact FIN.out true
      · have h6' : ¬ (8 : Int) < n := by omega
        have FN := Lib.hid (show (false || decide (8 < n)) = false by simp [h6])
        go_wp2
        go_meet
        rw [FN.out]; exact FIN.out false
    · go_wp2
      go_meet
      rw [Bool.true_or]; exact FIN.out true
  case rest =>
    obtain ⟨hP, hx, hsz⟩ := hcut
    obtain ⟨b0, hb0⟩ : ∃ b', b' = (bad || decide (8 < n)) := ⟨_, rfl⟩
    rw [← hb0] at hP
    have EB := Lib.hid hb0
    have SZ := Lib.hid hsz
    go_upto_region 1 with fail
    go_cut [] (fun wx => Lp W0 wx p l cs (xs ++ nb n) b0 ∧ wx.cell? ⟨g, o, none⟩ = some (.slice A n c) ∧ Ks w wx p)
    case first =>
      have P := Lib.hid hP.drew
      obtain ⟨v, hk, hf⟩ := hP.ex
      obtain ⟨v', hk', hf'⟩ := hP.drew.ex
      have c0 := hk.cell 0
      simp only [List.getElem?_toArray, List.getElem?_cons_zero] at c0
      obtain rfl : v' = v := by have := hk'.cell 0; simp only [List.getElem?_toArray, List.getElem?_cons_zero] at this; exact Option.some.inj (this.symm.trans c0)
      have HK := Lib.hid hk'
      have HF := Lib.hid hf'
      obtain ⟨A', m, q, rfl⟩ := hf.own.sl
      have hwl : IntKind.u64.wrap (n : Int) = n := IntWalk.u64_in _ (by omega)
      have hxd : wc.drew.cell? ⟨g, o, none⟩ = some (.slice A n c) := hx
      have HXD := Lib.hid hxd
      have hgl := Lib.hid (block_lt_of_cell hxd)
      clear hk hf hP hk' hf' hb0 hc hxd hsz
      go_region_law (go_simp; go_at_call 95; refine (num_any _ xs n _ HF.out.own.bs (by omega) (by omega)).mono ?_; rintro e w1 ⟨v1, rfl, ho, hb⟩; obtain ⟨A1, m1, k1, rfl⟩ := ho.sl; have HK1 := Lib.hid (HK.out.below hb HK.out.lt); have HO1 := Lib.hid ho; have HB1 := Lib.hid hb; have f1 := HK1.out.free; have c1 := HK1.out.cell 0; simp only [List.getElem?_toArray, List.getElem?_cons_zero] at c1; clear ho hb)
      all_goals
        go_wp2
        go_meet
        refine ⟨Lp.store HK1.out (HF.out.next HO1.out HB1.out) (P.out.lb.below HB1.out P.out.lb.lt) P.out.ne P.out.p0 P.out.l0, ?_, ?_⟩
        · rw [cell_far_ (by exact hg)]; exact (HB1.out.cell hgl.out).trans HXD.out
        · exact ((SZ.out.trans (Ks.drew wc p)).trans (Ks.below HB1.out p)).trans (Ks.set _)
    case rest =>
      obtain ⟨hP, hx, hsz⟩ := hcut
      obtain ⟨ys, hys⟩ : ∃ ys, ys = xs ++ nb n := ⟨_, rfl⟩
      rw [← hys] at hP
      have hyl : ys.length ≤ 1000000010 := by rw [hys, List.length_append]; have := nb_ten (n := n) (by omega); omega
      have YS := Lib.hid hys
      have P1 := Lib.hid hP
      have SZ1 := Lib.hid hsz
      clear hP hsz hys hc hb0 SZ
      go_wp2_with fail
      go_loopg [39] n (fun q c39 wr => ∃ k : Nat, k ≤ n ∧ q = n - k ∧ c39 = .int .i64 k ∧ Lp W0 wr p l cs (ys ++ upE es k) (b0 || badE es k) ∧ Ks w wr p)
      case atStart => exact ⟨0, Nat.zero_le _, by omega, rfl, by simpa [upE, badE] using P1.out, SZ1.out⟩
      case round =>
        obtain ⟨k, hk, hq, rfl, hP, hsz⟩ := hrel
        have Q := Lib.hid hq
        have P := Lib.hid hP
        have SZ := Lib.hid hsz
        clear hq hP hsz P1 SZ1 hx
        by_cases hkn : k < n
        · have hkl : k < es.length := by have := N.out; omega
          have hkn' : (k : Int) < n := by omega
          obtain ⟨ge, oe, ce, hv, -, hge, hcell⟩ := (show Ents wr (.slice A n c) es from HE.out.below P.out.bel).at_ (by omega)
          injection hv with hv1 hv2 hv3
          subst hv1
          clear hv2 hv3
          obtain ⟨s, hs, hh⟩ := hcell k hkl
          obtain ⟨⟨hf, hst⟩, hl6⟩ := HO.out _ (List.getElem_mem hkl)
          have hup := UL.out k (by omega)
          have hS : upE es (k + 1) = upE es k ++ textB (entryR es[k]).1 := by
            unfold upE; rw [List.take_succ_eq_append_getElem hkl, List.flatMap_append]; simp
          have hBd : badE es (k + 1) = (badE es k || (decide ((entryR es[k]).2 ≠ 0) || decide (65536 < (entryR es[k]).1.length))) := by
            unfold badE; rw [List.take_succ_eq_append_getElem hkl, List.any_append]; simp
          obtain ⟨e, he⟩ : ∃ e, e = es[k] := ⟨_, rfl⟩
          rw [← he] at hs hh hf hst hl6 hS hBd
          obtain ⟨el1, el2⟩ := ent_len e hf hst
          obtain ⟨ef, rows⟩ := e
          obtain ⟨x0, x1, x2, x3, rfl, f0, f1, f2, f3⟩ := entry_fok hf
          simp only at hs hst hl6
          have c0 : wr.cell? ⟨ge, oe + k * 5, none⟩ = some (.int .u64 x0) := by have := hh 0 (.int .u64 x0) (by omega) rfl; simpa using this
          have c1 : wr.cell? ⟨ge, oe + k * 5 + 1, none⟩ = some (.int .u64 x1) := hh 1 (.int .u64 x1) (by omega) rfl
          have c2 : wr.cell? ⟨ge, oe + k * 5 + 2, none⟩ = some (.int .u8 x2) := hh 2 (.int .u8 x2) (by omega) rfl
          have c3 : wr.cell? ⟨ge, oe + k * 5 + 3, none⟩ = some (.int .u64 x3) := hh 3 (.int .u64 x3) (by omega) rfl
          have c4 : wr.cell? ⟨ge, oe + k * 5 + 4, none⟩ = some s := hh 4 s (by omega) rfl
          obtain ⟨As, cs', rfl, -⟩ := id hs
          obtain ⟨nr, hnr⟩ : ∃ m, m = rows.length := ⟨_, rfl⟩
          have ba := below_alloc_ wr (.cells #[.int .u64 x0, .int .u64 x1, .int .u8 x2, .int .u64 x3, .slice As rows.length cs'] 63)
          have ST := Lib.hid (Rd.below hs ba)
          have PA := Lib.hid (P.out.below ba)
          have BA := Lib.hid ba
          have HS := Lib.hid hS
          have HBd := Lib.hid hBd
          have EL1 := Lib.hid el1
          have F := Lib.hid (show (fok1 .u64 x0 ∧ fok1 .u64 x1 ∧ fok1 .u8 x2 ∧ fok1 .u64 x3) ∧ ∀ q ∈ rows, fok stepK q from ⟨⟨f0, f1, f2, f3⟩, hst⟩)
          clear hcell hh hs hf hst he ba hS hBd el1 el2 f0 f1 f2 f3 hnr
          go_wp2_with fail
          refine (Put_entry_any x0 x1 x2 x3 _ rows F.out.1.1 F.out.1.2.1 F.out.1.2.2.1 F.out.1.2.2.2 F.out.2 _ ST.out hl6).mono ?_
          rintro e w1 ⟨v1, rfl, ho, hb⟩
          obtain ⟨er, her⟩ : ∃ x, x = (entryR ([x0, x1, x2, x3], rows)).2 := ⟨_, rfl⟩
          obtain ⟨eb, heb⟩ : ∃ x, x = (entryR ([x0, x1, x2, x3], rows)).1 := ⟨_, rfl⟩
          rw [← heb] at ho HS EL1 HBd
          rw [← her] at HBd ⊢
          obtain ⟨A1, m1, rfl, -⟩ := ho.clip
          have b6 := below_alloc_ w1 (.cells #[.slice A1 eb.length m1] 25)
          have K6 := Lib.hid (Blk.new w1 25 #[.slice A1 eb.length m1])
          have Y6 := Lib.hid (ho.bs.below b6)
          have P6 := Lib.hid ((PA.out.below hb).below b6)
          obtain ⟨v, hkp, -⟩ := (PA.out.below hb).ex
          have hpl : w1.heap.size ≠ p := by have := hkp.lt; omega
          have SZ6 := Lib.hid (((SZ.out.trans (Ks.below BA.out p)).trans (Ks.below hb p)).trans (Ks.below b6 p))
          obtain ⟨w6, hw6⟩ : ∃ w6, w6 = w1.alloc (.cells #[.slice A1 eb.length m1] 25) := ⟨_, rfl⟩
          rw [← hw6] at K6 Y6 P6 SZ6
          obtain ⟨bb, hbb⟩ : ∃ b, b = (b0 || badE es k) := ⟨_, rfl⟩
          rw [← hbb] at P6
          have HBB := Lib.hid hbb
          clear ho hb b6 hkp hbb PA P ST c0 c1 c2 c3 c4 her heb
          go_upto_region 6 with fail
          rw [← hw6]
          clear hw6
          go_cut [] (fun wx => Lp W0 wx p l cs (ys ++ upE es k) (bb || decide (er ≠ 0)) ∧ wx.cell? ⟨w1.heap.size, 0, none⟩ = some (.slice A1 eb.length m1) ∧ Bs wx (.slice A1 eb.length m1) eb ∧ Ks w wx p)
          case first =>
            obtain ⟨v, hk7, hf7⟩ := P6.out.ex
            obtain ⟨A7, m7, q7, rfl⟩ := hf7.own.sl
            have d1 := hk7.cell 1
            have fr := hk7.free
            simp only [List.getElem?_toArray, List.getElem?_cons_zero, List.getElem?_cons_succ] at d1
            have K7 := Lib.hid hk7
            have FIN := Lib.hid (show ∀ b', Lp W0 (w6.setCell ⟨p, 1, none⟩ (.bool b')) p l cs (ys ++ upE es k) b' ∧ (w6.setCell ⟨p, 1, none⟩ (.bool b')).cell? ⟨w1.heap.size, 0, none⟩ = some (.slice A1 eb.length m1) ∧ Bs (w6.setCell ⟨p, 1, none⟩ (.bool b')) (.slice A1 eb.length m1) eb ∧ Ks w (w6.setCell ⟨p, 1, none⟩ (.bool b')) p from fun b' =>
              ⟨P6.out.mark b', by rw [cell_far_ (by exact hpl)]; exact (K6.out.cell 0).trans rfl, Bs.set_ K7.out (put_cells _ _ (by simp)) Y6.out 1 _, SZ6.out.trans (Ks.set _)⟩)
            clear hk7 hf7
            cases bb
            · by_cases h6 : er = 0
              · subst h6
                go_wp2
                go_meet
                exact FIN.out false
              · have h6' : (er == 0) = false := beq_eq_false_iff_ne.2 h6
                have FN := Lib.hid (show (false || decide (er ≠ 0)) = true by simp [h6])
                have FM := Lib.hid (show (er != 0) = true by simp [h6])
                go_wp2
                go_meet
                rw [FN.out, FM.out]; exact FIN.out true
            · go_wp2
              go_meet
              rw [Bool.true_or]; exact FIN.out true
          case rest =>
            obtain ⟨hP7, hx7, hb7, hs7⟩ := hcut
            have P7 := Lib.hid hP7
            have B7 := Lib.hid hb7
            have S7 := Lib.hid hs7
            have X7 := Lib.hid hx7
            have hel := EL1.out
            have hyl2 : (ys ++ upE es k).length ≤ 1000000000000 := by
              rw [List.length_append]
              have : k * 70000 ≤ 1000000 * 70000 := Nat.mul_le_mul_right _ (by omega)
              omega
            have YL2 := Lib.hid hyl2
            clear hP7 hb7 hs7 hx7 hyl2
            go_wp2_with fail
            refine (ltext_any P7.out w1.heap.size 0 _ eb hpl X7.out B7.out YL2.out (by omega)).mono ?_
            rintro e w8 ⟨rfl, h8, k8⟩
            have P8 := Lib.hid h8
            have S8 := Lib.hid (S7.out.trans k8)
            clear h8 k8
            go_wp2
            go_roundg (n - (k + 1))
            case measure => have := Q.out; omega
            case rel =>
              refine ⟨k + 1, by omega, rfl, by go_num, ?_, S8.out⟩
              rw [HS.out, HBd.out, ← List.append_assoc, ← Bool.or_assoc, ← HBB.out, ← Bool.or_assoc]
              exact P8.out
        · obtain rfl : k = n := by omega
          go_wp2
          refine bodyPost_end (results_none rfl _ _ _) rfl ⟨rfl, ?_, SZ.out⟩
          have h1 : upE es k = es.flatMap (fun e => textB (entryR e).1) := by unfold upE; rw [N.out, List.take_length]
          have h2 : badE es k = es.any (fun e => decide ((entryR e).2 ≠ 0) || decide (65536 < (entryR e).1.length)) := by unfold badE; rw [N.out, List.take_length]
          rw [← h1, ← h2, ← List.append_assoc, ← YS.out, ← Bool.or_assoc, ← EB.out]
          exact P.out
end Go.Proofs.YthjdkjinkmdclaaGreat

/- Letters: the parts of a letter, put. -/
namespace Go.Proofs.YthjdkjinkmdclaaGreat
open Go.RowKit

/-- A letter's cells. -/
def letC (L : Lt) (ve vd vs vg : Value) : Array Value :=
  #[.int .u8 L.kind, .int .u8 L.src, .int .u8 L.dst, .int .u64 L.term, .int .u64 L.index, .int .u64 L.mark, .int .u64 L.commit, .bool L.yes, ve, vd, .int .u8 L.cl, .int .u64 L.num, vs, .int .i64 L.e, .int .i64 L.re, .int .i64 L.ra, vg]
/-- A cell of the letter is set. -/
theorem Lp.lset {W0 w : World} {p l : Nat} {cs : Array Value} {xs : List Int} {bad : Bool} (h : Lp W0 w p l cs xs bad) (i : Nat) (u : Value) : Lp W0 (w.setCell ⟨l, i, none⟩ u) p l (cs.setIfInBounds i u) xs bad := by
  obtain ⟨v, hk, hf⟩ := h.ex
  exact ⟨⟨v, hk.far (p := ⟨l, i, none⟩) h.ne.symm u, ⟨Ow.aside hf.own h.lb (by decide) i u, hf.bel.setCell h.l0 _, by have := hf.le; simpa [World.setCell] using this⟩⟩, h.lb.set_ i u, h.p0, h.l0⟩
theorem pm_num (p : Nat) : ∀ W, (method 306 65 (.pointer (some ⟨p, 0, none⟩)) "countinghouse/letters.num").run Tryz.prog W = .ok (88, .pointer (some ⟨p, 0, none⟩)) W := fun _ => by kernel_rfl
theorem pn_num (p : Nat) : ∀ W, (nilAhead 306 65 (.pointer (some ⟨p, 0, none⟩)) "countinghouse/letters.num").run Tryz.prog W = .ok (some false) W := fun _ => by kernel_rfl
theorem pm_one (p : Nat) : ∀ W, (method 306 65 (.pointer (some ⟨p, 0, none⟩)) "countinghouse/letters.one").run Tryz.prog W = .ok (89, .pointer (some ⟨p, 0, none⟩)) W := fun _ => by kernel_rfl
theorem pn_one (p : Nat) : ∀ W, (nilAhead 306 65 (.pointer (some ⟨p, 0, none⟩)) "countinghouse/letters.one").run Tryz.prog W = .ok (some false) W := fun _ => by kernel_rfl
theorem pm_yes (p : Nat) : ∀ W, (method 306 65 (.pointer (some ⟨p, 0, none⟩)) "countinghouse/letters.yes").run Tryz.prog W = .ok (92, .pointer (some ⟨p, 0, none⟩)) W := fun _ => by kernel_rfl
theorem pn_yes (p : Nat) : ∀ W, (nilAhead 306 65 (.pointer (some ⟨p, 0, none⟩)) "countinghouse/letters.yes").run Tryz.prog W = .ok (some false) W := fun _ => by kernel_rfl
theorem pm_text (p : Nat) : ∀ W, (method 306 65 (.pointer (some ⟨p, 0, none⟩)) "countinghouse/letters.text").run Tryz.prog W = .ok (91, .pointer (some ⟨p, 0, none⟩)) W := fun _ => by kernel_rfl
theorem pn_text (p : Nat) : ∀ W, (nilAhead 306 65 (.pointer (some ⟨p, 0, none⟩)) "countinghouse/letters.text").run Tryz.prog W = .ok (some false) W := fun _ => by kernel_rfl
theorem pm_entries (p : Nat) : ∀ W, (method 306 65 (.pointer (some ⟨p, 0, none⟩)) "countinghouse/letters.entries").run Tryz.prog W = .ok (87, .pointer (some ⟨p, 0, none⟩)) W := fun _ => by kernel_rfl
theorem pn_entries (p : Nat) : ∀ W, (nilAhead 306 65 (.pointer (some ⟨p, 0, none⟩)) "countinghouse/letters.entries").run Tryz.prog W = .ok (some false) W := fun _ => by kernel_rfl
theorem pm_command (p : Nat) : ∀ W, (method 306 65 (.pointer (some ⟨p, 0, none⟩)) "countinghouse/letters.command").run Tryz.prog W = .ok (86, .pointer (some ⟨p, 0, none⟩)) W := fun _ => by kernel_rfl
theorem pn_command (p : Nat) : ∀ W, (nilAhead 306 65 (.pointer (some ⟨p, 0, none⟩)) "countinghouse/letters.command").run Tryz.prog W = .ok (some false) W := fun _ => by kernel_rfl
theorem pm_reply (p : Nat) : ∀ W, (method 306 65 (.pointer (some ⟨p, 0, none⟩)) "countinghouse/letters.reply").run Tryz.prog W = .ok (90, .pointer (some ⟨p, 0, none⟩)) W := fun _ => by kernel_rfl
theorem pn_reply (p : Nat) : ∀ W, (nilAhead 306 65 (.pointer (some ⟨p, 0, none⟩)) "countinghouse/letters.reply").run Tryz.prog W = .ok (some false) W := fun _ => by kernel_rfl
/-- What a letter's fields read as, in the world W0, and that they are small enough. -/
structure Lw (W0 : World) (L : Lt) (ve vd vs vg : Value) : Prop where
  es : Ents W0 ve L.es
  data : Bs W0 vd L.data
  steps : Steps W0 vs L.steps
  gots : Gots W0 vg L.gots
  ok : LtOk L
  e6 : L.es.length ≤ 1000
  s6 : ∀ e ∈ L.es, e.2.length ≤ 1000000
  d6 : L.data.length ≤ 1000000
  t6 : L.steps.length ≤ 1000000
  g6 : L.gots.length ≤ 1000000

set_option maxHeartbeats 2000000 in
set_option maxRecDepth 100000 in
theorem pp_index {W0 w : World} {p l : Nat} {L : Lt} {ve vd vs vg : Value} {xs : List Int} {bad : Bool} (h : Lp W0 w p l (letC L ve vd vs vg) xs bad) (hw : Lw W0 L ve vd vs vg) (hl : xs.length ≤ 1000000000) :
    Calls Tryz.prog 57 #[.iface 65 (.pointer (some ⟨p, 0, none⟩)), .pointer (some ⟨l, 0, none⟩)] w fun e w' => e = .returned (.tuple #[]) ∧ Lp W0 w' p l (letC L ve vd vs vg) (xs ++ (putPc L .index).1) (bad || (putPc L .index).2) ∧ Ks w w' p := by
  have hm := pm_num p
  have hn := pn_num p
  obtain ⟨hx1, hx2⟩ := toNat_u64 hw.ok.index
  have c0 : w.cell? ⟨l, 4, none⟩ = some (.int .u64 (L.index.toNat : Int)) := by rw [h.lb.cell, hx2]; rfl
  have CN := Lib.hid (lnum_any h.drew l 4 _ c0 hx1 (by omega))
  clear hx1 hx2
  clear h hw c0
  go_enter Tryz.func57, Tryz.ntmps57
  go_wp2_with fail
  go_region_law (go_simp; go_at_call 88; refine CN.out.mono ?_; rintro e w' ⟨rfl, h1, k1⟩)
  all_goals
    refine bodyPost_end (results_none rfl _ _ _) rfl ⟨rfl, ?_, (Ks.drew w p).trans k1⟩
    rw [show (bad || (putPc L .index).2) = bad from Bool.or_false _]
    exact h1
set_option maxHeartbeats 2000000 in
set_option maxRecDepth 100000 in
theorem pp_mark {W0 w : World} {p l : Nat} {L : Lt} {ve vd vs vg : Value} {xs : List Int} {bad : Bool} (h : Lp W0 w p l (letC L ve vd vs vg) xs bad) (hw : Lw W0 L ve vd vs vg) (hl : xs.length ≤ 1000000000) :
    Calls Tryz.prog 58 #[.iface 65 (.pointer (some ⟨p, 0, none⟩)), .pointer (some ⟨l, 0, none⟩)] w fun e w' => e = .returned (.tuple #[]) ∧ Lp W0 w' p l (letC L ve vd vs vg) (xs ++ (putPc L .mark).1) (bad || (putPc L .mark).2) ∧ Ks w w' p := by
  have hm := pm_num p
  have hn := pn_num p
  obtain ⟨hx1, hx2⟩ := toNat_u64 hw.ok.mark
  have c0 : w.cell? ⟨l, 5, none⟩ = some (.int .u64 (L.mark.toNat : Int)) := by rw [h.lb.cell, hx2]; rfl
  have CN := Lib.hid (lnum_any h.drew l 5 _ c0 hx1 (by omega))
  clear hx1 hx2
  clear h hw c0
  go_enter Tryz.func58, Tryz.ntmps58
  go_wp2_with fail
  go_region_law (go_simp; go_at_call 88; refine CN.out.mono ?_; rintro e w' ⟨rfl, h1, k1⟩)
  all_goals
    refine bodyPost_end (results_none rfl _ _ _) rfl ⟨rfl, ?_, (Ks.drew w p).trans k1⟩
    rw [show (bad || (putPc L .mark).2) = bad from Bool.or_false _]
    exact h1
set_option maxHeartbeats 2000000 in
set_option maxRecDepth 100000 in
theorem pp_commit {W0 w : World} {p l : Nat} {L : Lt} {ve vd vs vg : Value} {xs : List Int} {bad : Bool} (h : Lp W0 w p l (letC L ve vd vs vg) xs bad) (hw : Lw W0 L ve vd vs vg) (hl : xs.length ≤ 1000000000) :
    Calls Tryz.prog 60 #[.iface 65 (.pointer (some ⟨p, 0, none⟩)), .pointer (some ⟨l, 0, none⟩)] w fun e w' => e = .returned (.tuple #[]) ∧ Lp W0 w' p l (letC L ve vd vs vg) (xs ++ (putPc L .commit).1) (bad || (putPc L .commit).2) ∧ Ks w w' p := by
  have hm := pm_num p
  have hn := pn_num p
  obtain ⟨hx1, hx2⟩ := toNat_u64 hw.ok.commit
  have c0 : w.cell? ⟨l, 6, none⟩ = some (.int .u64 (L.commit.toNat : Int)) := by rw [h.lb.cell, hx2]; rfl
  have CN := Lib.hid (lnum_any h.drew l 6 _ c0 hx1 (by omega))
  clear hx1 hx2
  clear h hw c0
  go_enter Tryz.func60, Tryz.ntmps60
  go_wp2_with fail
  go_region_law (go_simp; go_at_call 88; refine CN.out.mono ?_; rintro e w' ⟨rfl, h1, k1⟩)
  all_goals
    refine bodyPost_end (results_none rfl _ _ _) rfl ⟨rfl, ?_, (Ks.drew w p).trans k1⟩
    rw [show (bad || (putPc L .commit).2) = bad from Bool.or_false _]
    exact h1
set_option maxHeartbeats 2000000 in
set_option maxRecDepth 100000 in
theorem pp_num {W0 w : World} {p l : Nat} {L : Lt} {ve vd vs vg : Value} {xs : List Int} {bad : Bool} (h : Lp W0 w p l (letC L ve vd vs vg) xs bad) (hw : Lw W0 L ve vd vs vg) (hl : xs.length ≤ 1000000000) :
    Calls Tryz.prog 64 #[.iface 65 (.pointer (some ⟨p, 0, none⟩)), .pointer (some ⟨l, 0, none⟩)] w fun e w' => e = .returned (.tuple #[]) ∧ Lp W0 w' p l (letC L ve vd vs vg) (xs ++ (putPc L .num).1) (bad || (putPc L .num).2) ∧ Ks w w' p := by
  have hm := pm_num p
  have hn := pn_num p
  obtain ⟨hx1, hx2⟩ := toNat_u64 hw.ok.num
  have c0 : w.cell? ⟨l, 11, none⟩ = some (.int .u64 (L.num.toNat : Int)) := by rw [h.lb.cell, hx2]; rfl
  have CN := Lib.hid (lnum_any h.drew l 11 _ c0 hx1 (by omega))
  clear hx1 hx2
  clear h hw c0
  go_enter Tryz.func64, Tryz.ntmps64
  go_wp2_with fail
  go_region_law (go_simp; go_at_call 88; refine CN.out.mono ?_; rintro e w' ⟨rfl, h1, k1⟩)
  all_goals
    refine bodyPost_end (results_none rfl _ _ _) rfl ⟨rfl, ?_, (Ks.drew w p).trans k1⟩
    rw [show (bad || (putPc L .num).2) = bad from Bool.or_false _]
    exact h1
set_option maxHeartbeats 2000000 in
set_option maxRecDepth 100000 in
theorem pp_client {W0 w : World} {p l : Nat} {L : Lt} {ve vd vs vg : Value} {xs : List Int} {bad : Bool} (h : Lp W0 w p l (letC L ve vd vs vg) xs bad) (_hw : Lw W0 L ve vd vs vg) (hl : xs.length ≤ 1000000000) :
    Calls Tryz.prog 63 #[.iface 65 (.pointer (some ⟨p, 0, none⟩)), .pointer (some ⟨l, 0, none⟩)] w fun e w' => e = .returned (.tuple #[]) ∧ Lp W0 w' p l (letC L ve vd vs vg) (xs ++ (putPc L .client).1) (bad || (putPc L .client).2) ∧ Ks w w' p := by
  have hm := pm_one p
  have hn := pn_one p
  have c0 : w.cell? ⟨l, 10, none⟩ = some (.int .u8 L.cl) := by rw [h.lb.cell]; rfl
  have CN := Lib.hid (lone_any h.drew l 10 _ c0 (by omega))
  clear h c0
  go_enter Tryz.func63, Tryz.ntmps63
  go_wp2_with fail
  go_region_law (go_simp; go_at_call 89; refine CN.out.mono ?_; rintro e w' ⟨rfl, h1, k1⟩)
  all_goals
    refine bodyPost_end (results_none rfl _ _ _) rfl ⟨rfl, ?_, (Ks.drew w p).trans k1⟩
    rw [show (bad || (putPc L .client).2) = bad from Bool.or_false _]
    exact h1
set_option maxHeartbeats 2000000 in
set_option maxRecDepth 100000 in
theorem pp_yes {W0 w : World} {p l : Nat} {L : Lt} {ve vd vs vg : Value} {xs : List Int} {bad : Bool} (h : Lp W0 w p l (letC L ve vd vs vg) xs bad) (_hw : Lw W0 L ve vd vs vg) (hl : xs.length ≤ 1000000000) :
    Calls Tryz.prog 59 #[.iface 65 (.pointer (some ⟨p, 0, none⟩)), .pointer (some ⟨l, 0, none⟩)] w fun e w' => e = .returned (.tuple #[]) ∧ Lp W0 w' p l (letC L ve vd vs vg) (xs ++ (putPc L .yes).1) (bad || (putPc L .yes).2) ∧ Ks w w' p := by
  have hm := pm_yes p
  have hn := pn_yes p
  have c0 : w.cell? ⟨l, 7, none⟩ = some (.bool L.yes) := by rw [h.lb.cell]; rfl
  have CN := Lib.hid (lyes_any h.drew l 7 _ c0 (by omega))
  clear h c0
  go_enter Tryz.func59, Tryz.ntmps59
  go_wp2_with fail
  go_region_law (go_simp; go_at_call 92; refine CN.out.mono ?_; rintro e w' ⟨rfl, h1, k1⟩)
  all_goals
    refine bodyPost_end (results_none rfl _ _ _) rfl ⟨rfl, ?_, (Ks.drew w p).trans k1⟩
    rw [show (bad || (putPc L .yes).2) = bad from Bool.or_false _]
    exact h1
set_option maxHeartbeats 2000000 in
set_option maxRecDepth 100000 in
theorem pp_data {W0 w : World} {p l : Nat} {L : Lt} {ve vd vs vg : Value} {xs : List Int} {bad : Bool} (h : Lp W0 w p l (letC L ve vd vs vg) xs bad) (hw : Lw W0 L ve vd vs vg) (hl : xs.length ≤ 1000000000) :
    Calls Tryz.prog 62 #[.iface 65 (.pointer (some ⟨p, 0, none⟩)), .pointer (some ⟨l, 0, none⟩)] w fun e w' => e = .returned (.tuple #[]) ∧ Lp W0 w' p l (letC L ve vd vs vg) (xs ++ (putPc L .data).1) (bad || (putPc L .data).2) ∧ Ks w w' p := by
  have hm := pm_text p
  have hn := pn_text p
  have c0 : w.drew.cell? ⟨l, 9, none⟩ = some vd := by rw [h.drew.lb.cell]; rfl
  have CN := Lib.hid (ltext_any h.drew l 9 _ L.data h.ne c0 (hw.data.below h.drew.bel) (by omega) (by have := hw.d6; omega))
  clear h hw c0
  go_enter Tryz.func62, Tryz.ntmps62
  go_wp2_with fail
  go_region_law (go_simp; go_at_call 91; refine CN.out.mono ?_; rintro e w' ⟨rfl, h1, k1⟩)
  all_goals
    refine bodyPost_end (results_none rfl _ _ _) rfl ⟨rfl, ?_, (Ks.drew w p).trans k1⟩
    exact h1
set_option maxHeartbeats 2000000 in
set_option maxRecDepth 100000 in
theorem pp_entries {W0 w : World} {p l : Nat} {L : Lt} {ve vd vs vg : Value} {xs : List Int} {bad : Bool} (h : Lp W0 w p l (letC L ve vd vs vg) xs bad) (hw : Lw W0 L ve vd vs vg) (hl : xs.length ≤ 1000000000) :
    Calls Tryz.prog 61 #[.iface 65 (.pointer (some ⟨p, 0, none⟩)), .pointer (some ⟨l, 0, none⟩)] w fun e w' => e = .returned (.tuple #[]) ∧ Lp W0 w' p l (letC L ve vd vs vg) (xs ++ (putPc L .entries).1) (bad || (putPc L .entries).2) ∧ Ks w w' p := by
  have hm := pm_entries p
  have hn := pn_entries p
  have c0 : w.drew.cell? ⟨l, 8, none⟩ = some ve := by rw [h.drew.lb.cell]; rfl
  have CN := Lib.hid (lents_any h.drew l 8 _ L.es h.ne c0 hw.es (fun e he => ⟨hw.ok.es e he, hw.s6 e he⟩) (by have := hw.e6; omega) hl)
  clear h hw c0
  go_enter Tryz.func61, Tryz.ntmps61
  go_wp2_with fail
  go_region_law (go_simp; go_at_call 87; refine CN.out.mono ?_; rintro e w' ⟨rfl, h1, k1⟩)
  all_goals
    refine bodyPost_end (results_none rfl _ _ _) rfl ⟨rfl, ?_, (Ks.drew w p).trans k1⟩
    exact h1
set_option maxHeartbeats 2000000 in
set_option maxRecDepth 100000 in
theorem pp_command {W0 w : World} {p l : Nat} {L : Lt} {ve vd vs vg : Value} {xs : List Int} {bad : Bool} (h : Lp W0 w p l (letC L ve vd vs vg) xs bad) (hw : Lw W0 L ve vd vs vg) (hl : xs.length ≤ 1000000000) :
    Calls Tryz.prog 65 #[.iface 65 (.pointer (some ⟨p, 0, none⟩)), .pointer (some ⟨l, 0, none⟩)] w fun e w' => e = .returned (.tuple #[]) ∧ Lp W0 w' p l (letC L ve vd vs vg) (xs ++ (putPc L .command).1) (bad || (putPc L .command).2) ∧ Ks w w' p := by
  have hm := pm_command p
  have hn := pn_command p
  have c0 : w.drew.cell? ⟨l, 12, none⟩ = some vs := by rw [h.drew.lb.cell]; rfl
  have CN := Lib.hid (lcommand_any h.drew l 12 _ L.steps c0 (Rd.below hw.steps h.drew.bel) hw.ok.steps hw.t6 (by omega))
  clear h hw c0
  go_enter Tryz.func65, Tryz.ntmps65
  go_wp2_with fail
  go_region_law (go_simp; go_at_call 86; refine CN.out.mono ?_; rintro e w' ⟨rfl, h1, k1⟩)
  all_goals
    refine bodyPost_end (results_none rfl _ _ _) rfl ⟨rfl, ?_, (Ks.drew w p).trans k1⟩
    exact h1
set_option maxHeartbeats 2000000 in
set_option maxRecDepth 100000 in
theorem pp_reply {W0 w : World} {p l : Nat} {L : Lt} {ve vd vs vg : Value} {xs : List Int} {bad : Bool} (h : Lp W0 w p l (letC L ve vd vs vg) xs bad) (hw : Lw W0 L ve vd vs vg) (hl : xs.length ≤ 1000000000) :
    Calls Tryz.prog 67 #[.iface 65 (.pointer (some ⟨p, 0, none⟩)), .pointer (some ⟨l, 0, none⟩)] w fun e w' => e = .returned (.tuple #[]) ∧ Lp W0 w' p l (letC L ve vd vs vg) (xs ++ (putPc L .reply).1) (bad || (putPc L .reply).2) ∧ Ks w w' p := by
  have hm := pm_reply p
  have hn := pn_reply p
  have c0 : w.drew.cell? ⟨l, 14, none⟩ = some (.int .i64 L.re) := by rw [h.drew.lb.cell]; rfl
  have c1 : w.drew.cell? ⟨l, 14 + 1, none⟩ = some (.int .i64 L.ra) := by rw [h.drew.lb.cell]; rfl
  have c2 : w.drew.cell? ⟨l, 14 + 2, none⟩ = some vg := by rw [h.drew.lb.cell]; rfl
  have CN := Lib.hid (lreply_any h.drew l 14 _ _ _ L.gots c0 c1 c2 (Rd.below hw.gots h.drew.bel) hw.ok.re hw.ok.ra hw.ok.gots hw.g6 (by omega))
  clear c1 c2
  clear h hw c0
  go_enter Tryz.func67, Tryz.ntmps67
  go_wp2_with fail
  go_region_law (go_simp; go_at_call 90; refine CN.out.mono ?_; rintro e w' ⟨rfl, h1, k1⟩)
  all_goals
    refine bodyPost_end (results_none rfl _ _ _) rfl ⟨rfl, ?_, (Ks.drew w p).trans k1⟩
    exact h1
set_option maxHeartbeats 2000000 in
set_option maxRecDepth 100000 in
theorem pp_wrong {W0 w : World} {p l : Nat} {L : Lt} {ve vd vs vg : Value} {xs : List Int} {bad : Bool} (h : Lp W0 w p l (letC L ve vd vs vg) xs bad) (hw : Lw W0 L ve vd vs vg) (hl : xs.length ≤ 1000000000) :
    Calls Tryz.prog 66 #[.iface 65 (.pointer (some ⟨p, 0, none⟩)), .pointer (some ⟨l, 0, none⟩)] w fun e w' => e = .returned (.tuple #[]) ∧ Lp W0 w' p l (letC L ve vd vs vg) (xs ++ (putPc L .wrong).1) (bad || (putPc L .wrong).2) ∧ Ks w w' p := by
  have hm := pm_num p
  have hn := pn_num p
  have hx := hw.ok.e
  have x1 : IntKind.u64.wrap L.e = (uns L.e : Int) := by rw [IntKind.wrap_u64]; unfold uns; omega
  have x2 : IntKind.i64.wrap (uns L.e : Int) = L.e := wrap_uns hx
  have c0 : w.cell? ⟨l, 13, none⟩ = some (.int .i64 L.e) := by rw [h.lb.cell]; rfl
  obtain ⟨n, hne⟩ : ∃ n, n = uns L.e := ⟨_, rfl⟩
  obtain ⟨x, hxe⟩ : ∃ x, x = L.e := ⟨_, rfl⟩
  have k1 := Blk.new w 23 #[.int .u64 (uns L.e : Int)]
  have b1 := below_alloc_ w (.cells #[.int .u64 (uns L.e : Int)] 23)
  have CN := Lib.hid (lnum_any (h.below b1) w.heap.size 0 (uns L.e) ((k1.cell 0).trans rfl) (uns_lt _) (by omega))
  have K1 := Lib.hid k1
  obtain ⟨v, hkp, -⟩ := h.ex
  have hpl : w.heap.size ≠ p := by have := hkp.lt; omega
  have LN := Lib.hid h.ne
  have P0 := Lib.hid h.p0
  have L0 := Lib.hid h.l0
  have PX := Lib.hid (show (putPc L .wrong).1 = nb (uns L.e) from rfl)
  have PY := Lib.hid (show (putPc L .wrong).2 = false from rfl)
  have CX := Lib.hid (show (letC L ve vd vs vg).setIfInBounds 13 (.int .i64 L.e) = letC L ve vd vs vg by simp [letC])
  have C13 := Lib.hid (show (letC L ve vd vs vg)[13]? = some (.int .i64 L.e) from rfl)
  obtain ⟨cs, hcs⟩ : ∃ cs, cs = letC L ve vd vs vg := ⟨_, rfl⟩
  rw [← hcs] at CN CX C13 h ⊢
  rw [← hne] at x1 x2 CN K1 PX
  rw [← hxe] at x1 x2 c0 CX C13
  clear hcs hkp k1 b1 hx hne hxe h hw
  go_enter Tryz.func66, Tryz.ntmps66
  go_wp2_with fail
  refine CN.out.mono ?_
  rintro e w2 ⟨rfl, h1, hk⟩
  have H1 := Lib.hid h1
  have k2 := hk.2 _ _ _ hpl (by decide) K1.out
  have d0 := k2.cell 0
  simp only [List.getElem?_toArray, List.getElem?_cons_zero] at d0
  have l13 := h1.lb.cell 13
  rw [C13.out] at l13
  have fl := h1.lb.free
  have HK := Lib.hid hk
  have KB := Lib.hid (Ks.below (below_alloc_ w (.cells #[.int .u64 (n : Int)] 23)) p)
  clear h1 hk k2 hpl c0
  go_wp2
  refine bodyPost_end (results_none rfl _ _ _) rfl ⟨rfl, ?_, (KB.out.trans HK.out).trans ?_⟩
  rotate_left
  · refine ⟨by simp [World.setCell], fun g t cs' _ _ hk => ?_⟩
    by_cases hgl : g = l
    · subst hgl
      have e := H1.out.lb
      have e2 := hk
      unfold Blk at e2 e
      rw [e2] at e
      injection e with e
      injection e with e3 e4 _
      subst e3; subst e4
      have := hk.set_ 13 (.int .i64 x)
      rw [CX.out] at this
      exact this
    · exact hk.far (p := ⟨l, 13, none⟩) hgl _
  rw [PX.out, PY.out, Bool.or_false]
  have := H1.out.lset 13 (.int .i64 x)
  rw [CX.out] at this
  exact this
end Go.Proofs.YthjdkjinkmdclaaGreat

/- Letters: the table of the kinds' parts. -/
namespace Go.Proofs.YthjdkjinkmdclaaGreat
open Go.RowKit

def pent (k : Int) (v : Value) (b : Nat) : MapEntry := { key := .int .u8 k, val := v, born := b }
/-- The world, a map laid anew. -/
def setM (w : World) (m : Nat) (o : Obj) : World := { w with heap := w.heap.setIfInBounds m o }
theorem setM_size (w : World) (m : Nat) (o : Obj) : (setM w m o).heap.size = w.heap.size := by simp [setM]
theorem setM_same {w : World} {m : Nat} (o : Obj) (h : m < w.heap.size) : (setM w m o).heap[m]? = some o := by simp [setM, Array.getElem?_setIfInBounds_self_of_lt h]
theorem setM_other {w : World} {m i : Nat} (o : Obj) (h : i ≠ m) : (setM w m o).heap[i]? = w.heap[i]? := by simp only [setM]; exact Array.getElem?_setIfInBounds_ne (fun e => h e.symm)
def ments : Nat → List (Int × List Nat) → List Value → List MapEntry
  | i, p :: L, v :: vs => pent p.1 v i :: ments (i + 1) L vs
  | _, [], _ => []
  | _, _ :: _, [] => []
theorem ments_snoc (p : Int × List Nat) (v : Value) : ∀ (i : Nat) (L : List (Int × List Nat)) (vs : List Value), vs.length = L.length → ments i (L ++ [p]) (vs ++ [v]) = ments i L vs ++ [pent p.1 v (i + L.length)]
  | i, [], [], _ => rfl
  | i, [], _ :: _, h => by simp at h
  | i, _ :: _, [], h => by simp at h
  | i, q :: L, u :: vs, h => by
    simp only [List.cons_append, ments]
    rw [ments_snoc p v (i + 1) L vs (by simpa using h)]
    simp only [List.length_cons]
    rw [show i + 1 + L.length = i + (L.length + 1) from by omega]
theorem find_none (k : Int) : ∀ (i j : Nat) (L : List (Int × List Nat)) (vs : List Value), (∀ p ∈ L, p.1 ≠ k) → Instr.findNow (.int .u8) (.int .u8 k) (ments i L vs) j = some none
  | _, _, [], _, _ => rfl
  | _, _, _ :: _, [], _ => rfl
  | i, j, p :: L, v :: vs, h => by
    have h1 : (k == p.1) = false := beq_eq_false_iff_ne.2 (fun e => h p (List.mem_cons_self ..) e.symm)
    have h2 : Instr.sameNow (.int .u8) (.int .u8 k) (pent p.1 v i).key = some false := by simp [Instr.sameNow, pent, h1]
    simp only [ments, Instr.findNow, h2]
    exact find_none k (i + 1) (j + 1) L vs (fun q hq => h q (List.mem_cons_of_mem _ hq))
theorem find_some (k : Int) : ∀ (i j : Nat) (L : List (Int × List Nat)) (vs : List Value) (n : Nat) (hn : n < L.length) (hv : n < vs.length), L[n].1 = k → (∀ m (h : m < L.length), m < n → L[m].1 ≠ k) → Instr.findNow (.int .u8) (.int .u8 k) (ments i L vs) j = some (some (j + n, vs[n]))
  | _, _, [], _, _, hn, _, _, _ => by simp at hn
  | _, _, _ :: _, [], _, _, hv, _, _ => by simp at hv
  | i, j, p :: L, v :: vs, 0, _, _, he, _ => by
    have h2 : Instr.sameNow (.int .u8) (.int .u8 k) (pent p.1 v i).key = some true := by simp [Instr.sameNow, pent]; exact he.symm
    simp only [ments, Instr.findNow, h2]
    rfl
  | i, j, p :: L, v :: vs, n + 1, hn, hv, he, hlt => by
    have h1 : (k == p.1) = false := beq_eq_false_iff_ne.2 (fun e => hlt 0 (by simp) (by omega) e.symm)
    have h2 : Instr.sameNow (.int .u8) (.int .u8 k) (pent p.1 v i).key = some false := by simp [Instr.sameNow, pent, h1]
    simp only [ments, Instr.findNow, h2]
    have := find_some k (i + 1) (j + 1) L vs n (by simpa using hn) (by simpa using hv) (by simpa using he) (fun m h h' => by have := hlt (m + 1) (by simp; omega) (by omega); simpa using this)
    rw [this, show j + 1 + n = j + (n + 1) from by omega]
    rfl
/-- A list of parts. -/
def fnV (f : Nat) : Value := .func (.func f) #[] #[]
def PVs (w : World) (v : Value) (fs : List Nat) : Prop := ∃ b, v = .slice (some ⟨b, 0, none⟩) fs.length fs.length ∧ Blk w b 124 (fs.map fnV).toArray
/-- A table under way, in block m. -/
structure Mi (w0 w : World) (m : Nat) (L : List (Int × List Nat)) : Prop where
  ex : ∃ vs, vs.length = L.length ∧ w.heap[m]? = some (.map (ments 0 L vs).toArray L.length) ∧ ∀ i (h : i < L.length) (h' : i < vs.length), PVs w vs[i] L[i].2
  bel : Below w0.heap.size w0 w
  m0 : w0.heap.size ≤ m
theorem Mi.start (w : World) : Mi w (w.alloc (.map #[] 0)) w.heap.size [] := ⟨⟨[], rfl, heap_alloc_new w _, fun i h => by simp at h⟩, below_alloc_ w _, Nat.le_refl _⟩
theorem Mi.ins {w0 w : World} {m : Nat} {L : List (Int × List Nat)} (h : Mi w0 w m L) (k : Int) (fs : List Nat) (hk : ∀ p ∈ L, p.1 ≠ k) :
    ∃ w', (Instr.mapUpdate 121 (.map (some m)) (.int .u8 k) (.slice (some ⟨w.heap.size, 0, none⟩) fs.length fs.length)).run Tryz.prog (w.alloc (.cells (fs.map fnV).toArray 124)) = .ok () w' ∧ Mi w0 w' m (L ++ [(k, fs)]) := by
  obtain ⟨⟨vs, hvl, hm, hv⟩, hb, hm0⟩ := h
  have hlt : m < w.heap.size := by
    rcases Nat.lt_or_ge m w.heap.size with h | h
    · exact h
    · rw [Array.getElem?_eq_none h] at hm; cases hm
  obtain ⟨wa, hwa⟩ : ∃ wa, wa = w.alloc (.cells (fs.map fnV).toArray 124) := ⟨_, rfl⟩
  have hsz : wa.heap.size = w.heap.size + 1 := by rw [hwa]; simp
  have hma : wa.heap[m]? = some (.map (ments 0 L vs).toArray L.length) := by rw [hwa]; exact (Below.heap_alloc w _ m hlt).trans hm
  have hka : Blk wa w.heap.size 124 (fs.map fnV).toArray := by rw [hwa]; exact Blk.new _ _ _
  have hva : ∀ i (h : i < L.length) (h' : i < vs.length), PVs wa vs[i] L[i].2 := fun i h h' => by
    obtain ⟨b, h1, h2⟩ := hv i h h'
    exact ⟨b, h1, by rw [hwa]; exact h2.alloc _⟩
  have hba : Below w0.heap.size w0 wa := by rw [hwa]; exact hb.alloc hb.size _
  have hf := find_none k 0 0 L vs hk
  have hc := MapKept.run_checkKey (P := Tryz.prog) (w := wa) (k := .int .u8 k) Tryz.underlying22 (by simp [MapKept.IsKey]) false 9999
  have hfk := MapKept.run_findKey (P := Tryz.prog) (w := wa) Tryz.underlying22 hf
  rw [← hwa]
  have keep : ∀ g t cs, Blk wa g t cs → Blk (setM wa m (.map ((ments 0 L vs).toArray.push (pent k (.slice (some ⟨w.heap.size, 0, none⟩) fs.length fs.length) L.length)) (L.length + 1))) g t cs := fun g t cs hg => by
    have hne : g ≠ m := by rintro rfl; unfold Blk at hg; rw [hma] at hg; cases hg
    exact (setM_other _ hne).trans hg
  refine ⟨setM wa m (.map ((ments 0 L vs).toArray.push (pent k (.slice (some ⟨w.heap.size, 0, none⟩) fs.length fs.length) L.length)) (L.length + 1)), ?_, ⟨vs ++ [.slice (some ⟨w.heap.size, 0, none⟩) fs.length fs.length], by simp [hvl], ?_, ?_⟩, ?_, hm0⟩
  · simp [Instr.mapUpdate, run_underlying Tryz.underlying121, MapKept.run_getObj_map hma, hc, hfk, MapKept.run_setObj_map _ hma, Result.andThen, setM, pent]
  · rw [setM_same _ (by omega), ments_snoc _ _ _ _ _ hvl]
    simp
  · intro i h h'
    rcases Nat.lt_or_ge i L.length with hi | hi
    · obtain ⟨b, h1, h2⟩ := hva i hi (by omega)
      rw [List.getElem_append_left (by omega), List.getElem_append_left hi]
      exact ⟨b, h1, keep _ _ _ h2⟩
    · have he : i = L.length := by simp at h; omega
      subst he
      rw [List.getElem_append_right (by omega), List.getElem_append_right (by omega)]
      simp only [hvl, Nat.sub_self, List.getElem_cons_zero]
      exact ⟨_, rfl, keep _ _ _ hka⟩
  · refine ⟨hba.os, hba.tape, hba.output, by rw [setM_size]; exact hba.size, fun i hi => ?_⟩
    exact (setM_other _ (by omega)).trans (hba.block i hi)
/-- A further entry, at the operation. -/
theorem wpList_ins {w0 w : World} {m : Nat} {L : List (Int × List Nat)} {ops : Array Oper} {rest : List Oper} {o : Oper} {a : Act} {Q : Exit → Act → World → Prop} (hg : o.guard = none) (x y z : Operand) (ho : o.op = Op.insert 121 x y z)
    (h : Mi w0 w m L) (k : Int) (fs : List Nat) (hk : ∀ p ∈ L, p.1 ≠ k) (hx : a.eval x = .map (some m)) (hy : a.eval y = .int .u8 k) (hz : a.eval z = .slice (some ⟨w.heap.size, 0, none⟩) fs.length fs.length)
    (hK : ∀ w', Mi w0 w' m (L ++ [(k, fs)]) → wpList Tryz.prog ops Q rest (a.put o.dst undef) w') : wpList Tryz.prog ops Q (o :: rest) a (w.alloc (.cells (fs.map fnV).toArray 124)) := by
  refine wpList_plain hg fun K' hK' => ?_
  obtain ⟨w', hrun, r1⟩ := h.ins k fs hk
  unfold Oper.wp
  simp [execOp, ho, hx, hy, hz, hrun, Result.andThen]
  exact hK' _ _ (hK w' r1)
/-- The empty table, at the operation. -/
theorem wpList_mk {w : World} {ops : Array Oper} {rest : List Oper} {o : Oper} {a : Act} {Q : Exit → Act → World → Prop} (hg : o.guard = none) (ho : o.op = Op.makeMap 121 none)
    (hK : ∀ w' m, Mi w w' m [] → wpList Tryz.prog ops Q rest (a.put o.dst (.map (some m))) w') : wpList Tryz.prog ops Q (o :: rest) a w := by
  refine wpList_plain hg fun K' hK' => ?_
  have hrun := @run_makeMap Tryz.prog 121 w
  unfold Oper.wp
  simp [execOp, ho, hrun, Result.andThen]
  exact hK' _ _ (hK _ _ (Mi.start w))
def table : List (Int × List Nat) :=
  [(1, [57, 58]), (2, [59, 57]), (3, [57, 58, 60, 61]), (4, [59, 57]), (5, [57, 58, 62]), (6, [63, 64, 65]), (7, [63, 64, 66, 57, 67])]

set_option maxHeartbeats 4000000 in
set_option maxRecDepth 100000 in
theorem parts_any (w : World) : Calls Tryz.prog 46 #[] w fun e w' => ∃ m, e = .returned (.map (some m)) ∧ Mi w w' m table := by
  go_enter Tryz.func46, Tryz.ntmps46
  go_wp2_with (first
    | (refine wpList_ins rfl _ _ _ rfl H6.out 7 [63, 64, 66, 57, 67] (by decide) rfl rfl rfl ?_; intro w7 h7; have H7 := Lib.hid h7; clear h7)
    | (refine wpList_ins rfl _ _ _ rfl H5.out 6 [63, 64, 65] (by decide) rfl rfl rfl ?_; intro w6 h6; have H6 := Lib.hid h6; clear h6)
    | (refine wpList_ins rfl _ _ _ rfl H4.out 5 [57, 58, 62] (by decide) rfl rfl rfl ?_; intro w5 h5; have H5 := Lib.hid h5; clear h5)
    | (refine wpList_ins rfl _ _ _ rfl H3.out 4 [59, 57] (by decide) rfl rfl rfl ?_; intro w4 h4; have H4 := Lib.hid h4; clear h4)
    | (refine wpList_ins rfl _ _ _ rfl H2.out 3 [57, 58, 60, 61] (by decide) rfl rfl rfl ?_; intro w3 h3; have H3 := Lib.hid h3; clear h3)
    | (refine wpList_ins rfl _ _ _ rfl H1.out 2 [59, 57] (by decide) rfl rfl rfl ?_; intro w2 h2; have H2 := Lib.hid h2; clear h2)
    | (refine wpList_ins rfl _ _ _ rfl H0.out 1 [57, 58] (by decide) rfl rfl rfl ?_; intro w1 h1; have H1 := Lib.hid h1; clear h1)
    | (refine wpList_mk rfl rfl ?_; intro w0 m h0; have H0 := Lib.hid h0; clear h0))
  go_ret
  exact ⟨m, rfl, H7.out⟩
end Go.Proofs.YthjdkjinkmdclaaGreat

/- Letters: through a letter, putting it. -/
namespace Go.Proofs.YthjdkjinkmdclaaGreat
open Go.RowKit Go.Shelf

def fnP : Pc → Nat
  | .index => 57
  | .mark => 58
  | .commit => 60
  | .yes => 59
  | .entries => 61
  | .data => 62
  | .client => 63
  | .num => 64
  | .command => 65
  | .wrong => 66
  | .reply => 67
  | _ => 0
theorem fnP_enters (pc : Pc) (h : pc ∉ heads) : ∀ args W, (callFunc (fnP pc) args).run Tryz.prog W = .ok (.enter (fnP pc) args) W := by
  cases pc
  case kind => exact absurd (by decide) h
  case src => exact absurd (by decide) h
  case dst => exact absurd (by decide) h
  case term => exact absurd (by decide) h
  case index => exact enters_of Tryz.func57 (by kernel_rfl) rfl
  case mark => exact enters_of Tryz.func58 (by kernel_rfl) rfl
  case commit => exact enters_of Tryz.func60 (by kernel_rfl) rfl
  case yes => exact enters_of Tryz.func59 (by kernel_rfl) rfl
  case entries => exact enters_of Tryz.func61 (by kernel_rfl) rfl
  case data => exact enters_of Tryz.func62 (by kernel_rfl) rfl
  case client => exact enters_of Tryz.func63 (by kernel_rfl) rfl
  case num => exact enters_of Tryz.func64 (by kernel_rfl) rfl
  case command => exact enters_of Tryz.func65 (by kernel_rfl) rfl
  case wrong => exact enters_of Tryz.func66 (by kernel_rfl) rfl
  case reply => exact enters_of Tryz.func67 (by kernel_rfl) rfl
theorem table_at {k : Int} {ps : List Pc} (h : pcs k = some ps) : ∃ n, ∃ hn : n < table.length, table[n].1 = k ∧ table[n].2 = ps.map fnP ∧ ∀ m (hm : m < table.length), m < n → table[m].1 ≠ k := by
  have key : ∀ n (hn : n < 7) (ps' : List Pc), (table[n]'hn).1 = k → (table[n]'hn).2 = ps'.map fnP → ps' = ps → (∀ m (hm : m < 7), m < n → (table[m]'hm).1 ≠ k) → ∃ n, ∃ hn : n < table.length, table[n].1 = k ∧ table[n].2 = ps.map fnP ∧ ∀ m (hm : m < table.length), m < n → table[m].1 ≠ k :=
    fun n hn ps' h1 h2 h3 h4 => ⟨n, hn, h1, by rw [← h3]; exact h2, h4⟩
  unfold pcs at h
  split at h
  · rename_i h1; subst h1; injection h with h; exact key 0 (by omega) _ rfl rfl h (fun m _ hm => by omega)
  split at h
  · rename_i h1; subst h1; injection h with h; exact key 1 (by omega) _ rfl rfl h (by decide)
  split at h
  · rename_i h1; subst h1; injection h with h; exact key 2 (by omega) _ rfl rfl h (by decide)
  split at h
  · rename_i h1; subst h1; injection h with h; exact key 3 (by omega) _ rfl rfl h (by decide)
  split at h
  · rename_i h1; subst h1; injection h with h; exact key 4 (by omega) _ rfl rfl h (by decide)
  split at h
  · rename_i h1; subst h1; injection h with h; exact key 5 (by omega) _ rfl rfl h (by decide)
  split at h
  · rename_i h1; subst h1; injection h with h; exact key 6 (by omega) _ rfl rfl h (by decide)
  · cases h
theorem table_none {k : Int} (h : pcs k = none) : ∀ p ∈ table, p.1 ≠ k := by
  intro p hp e
  subst e
  simp only [table, List.mem_cons, List.not_mem_nil, or_false] at hp
  rcases hp with rfl | rfl | rfl | rfl | rfl | rfl | rfl <;> simp [pcs] at h
theorem pcs_len {k : Int} {ps : List Pc} (h : pcs k = some ps) : ps.length ≤ 5 := by
  unfold pcs at h
  repeat' split at h
  all_goals first
    | (injection h with h; subst h; decide)
    | cases h
theorem Mi.look {w0 w : World} {m : Nat} {L : List (Int × List Nat)} (h : Mi w0 w m L) (k : Int) (n : Nat) (hn : n < L.length) (he : L[n].1 = k) (hlt : ∀ j (hj : j < L.length), j < n → L[j].1 ≠ k) :
    ∃ v, PVs w v L[n].2 ∧ (Instr.lookup 121 (.map (some m)) (.int .u8 k) true).run Tryz.prog w = .ok (.tuple #[v, .bool true]) w := by
  obtain ⟨⟨vs, hvl, hm, hv⟩, -, -⟩ := h
  have hf := find_some k 0 0 L vs n hn (by omega) he hlt
  have hc := MapKept.run_checkKey (P := Tryz.prog) (w := w) (k := .int .u8 k) Tryz.underlying22 (by simp [MapKept.IsKey]) (ments 0 L vs).toArray.isEmpty 9999
  refine ⟨vs[n]'(by omega), hv n hn (by omega), ?_⟩
  simp only [List.isEmpty_toArray] at hc
  simp [Instr.lookup, run_underlying Tryz.underlying121, MapKept.run_getObj_map hm, hc, MapKept.run_findKey Tryz.underlying22 hf, Result.andThen]
theorem Mi.look0 {w0 w : World} {m : Nat} {L : List (Int × List Nat)} (h : Mi w0 w m L) (k : Int) (hk : ∀ p ∈ L, p.1 ≠ k) :
    (Instr.lookup 121 (.map (some m)) (.int .u8 k) true).run Tryz.prog w = .ok (.tuple #[.slice none 0 0, .bool false]) w := by
  obtain ⟨⟨vs, hvl, hm, hv⟩, -, -⟩ := h
  have hf := find_none k 0 0 L vs hk
  have hc := MapKept.run_checkKey (P := Tryz.prog) (w := w) (k := .int .u8 k) Tryz.underlying22 (by simp [MapKept.IsKey]) (ments 0 L vs).toArray.isEmpty 9999
  simp only [List.isEmpty_toArray] at hc
  have hz : (zeroValue 119).run Tryz.prog w = .ok (.slice none 0 0) w := by kernel_rfl
  simp [Instr.lookup, run_underlying Tryz.underlying121, MapKept.run_getObj_map hm, hc, MapKept.run_findKey Tryz.underlying22 hf, hz, Result.andThen]

theorem pp_any (pc : Pc) (hpc : pc ∉ heads) {W0 w : World} {p l : Nat} {L : Lt} {ve vd vs vg : Value} {xs : List Int} {bad : Bool} (h : Lp W0 w p l (letC L ve vd vs vg) xs bad) (hw : Lw W0 L ve vd vs vg) (hl : xs.length ≤ 1000000000) :
    Calls Tryz.prog (fnP pc) #[.iface 65 (.pointer (some ⟨p, 0, none⟩)), .pointer (some ⟨l, 0, none⟩)] w fun e w' => e = .returned (.tuple #[]) ∧ Lp W0 w' p l (letC L ve vd vs vg) (xs ++ (putPc L pc).1) (bad || (putPc L pc).2) ∧ Ks w w' p := by
  cases pc
  case kind => exact absurd (by decide) hpc
  case src => exact absurd (by decide) hpc
  case dst => exact absurd (by decide) hpc
  case term => exact absurd (by decide) hpc
  case index => exact pp_index h hw hl
  case mark => exact pp_mark h hw hl
  case commit => exact pp_commit h hw hl
  case yes => exact pp_yes h hw hl
  case entries => exact pp_entries h hw hl
  case data => exact pp_data h hw hl
  case client => exact pp_client h hw hl
  case num => exact pp_num h hw hl
  case command => exact pp_command h hw hl
  case wrong => exact pp_wrong h hw hl
  case reply => exact pp_reply h hw hl
theorem putPc_len {W0 : World} {L : Lt} {ve vd vs vg : Value} (hw : Lw W0 L ve vd vs vg) (pc : Pc) : (putPc L pc).1.length ≤ 80000000 := by
  have one : ∀ x : Int, [x].length ≤ 80000000 := fun x => by simp
  have num : ∀ x : Int, fok1 .u64 x → (nb x.toNat).length ≤ 80000000 := fun x hx => Nat.le_trans (nb_ten (toNat_u64 hx).1) (by omega)
  cases pc
  case kind => exact one _
  case src => exact one _
  case dst => exact one _
  case client => exact one _
  case yes => exact one _
  case term => exact num _ hw.ok.term
  case index => exact num _ hw.ok.index
  case mark => exact num _ hw.ok.mark
  case commit => exact num _ hw.ok.commit
  case num => exact num _ hw.ok.num
  case wrong => exact Nat.le_trans (nb_ten (uns_lt _)) (by omega)
  case data =>
    have h1 := hw.d6
    have := nb_ten (n := L.data.length) (by omega)
    simp only [putPc, textB, List.length_append]; omega
  case entries =>
    have h1 := hw.e6
    have h2 := upE_len hw.ok.es L.es.length (Nat.le_refl _)
    unfold upE at h2
    rw [List.take_length] at h2
    have := nb_ten (n := L.es.length) (by omega)
    have h3 : L.es.length * 70000 ≤ 1000 * 70000 := Nat.mul_le_mul_right _ h1
    simp only [putPc, List.length_append]; omega
  case command =>
    simp only [putPc]; unfold cmdR; split
    · rename_i h8; exact Nat.le_trans (cmdLen h8 hw.ok.steps) (by omega)
    · simp
  case reply =>
    simp only [putPc]; unfold replyR; split
    · rename_i h8; exact Nat.le_trans (replyLen hw.ok.re hw.ok.ra h8 hw.ok.gots) (by omega)
    · simp
end Go.Proofs.YthjdkjinkmdclaaGreat

/- Letters: through a letter, putting it. -/
namespace Go.Proofs.YthjdkjinkmdclaaGreat
open Go.RowKit

theorem fm_len {α : Type} (f : α → List Int) (B : Nat) (h : ∀ x, (f x).length ≤ B) : ∀ l : List α, (l.flatMap f).length ≤ l.length * B
  | [] => by simp
  | x :: l => by
    have := fm_len f B h l
    have h2 := h x
    rw [List.flatMap_cons, List.length_append, List.length_cons, Nat.succ_mul]
    omega
set_option maxHeartbeats 8000000 in
set_option maxRecDepth 100000 in
theorem through_put {W0 w : World} {p l : Nat} {L : Lt} {ve vd vs vg : Value} {xs : List Int} {bad : Bool} (h : Lp W0 w p l (letC L ve vd vs vg) xs bad) (hw : Lw W0 L ve vd vs vg) (hl : xs.length ≤ 1000) :
    Calls Tryz.prog 24 #[.iface 65 (.pointer (some ⟨p, 0, none⟩)), .pointer (some ⟨l, 0, none⟩)] w fun e w' => e = .returned (.bool (pcs L.kind).isSome) ∧
      Lp W0 w' p l (letC L ve vd vs vg) (xs ++ (heads ++ (pcs L.kind).getD []).flatMap fun q => (putPc L q).1) (bad || (heads ++ (pcs L.kind).getD []).any fun q => (putPc L q).2) ∧ Ks w w' p := by
  have hm1 := pm_one p
  have hn1 := pn_one p
  have hm2 := pm_num p
  have hn2 := pn_num p
  have HW := Lib.hid hw
  have H := Lib.hid h
  obtain ⟨ht1, ht2⟩ := toNat_u64 hw.ok.term
  have T1 := Lib.hid ht1
  have T2 := Lib.hid ht2
  clear h hw ht1 ht2
  go_enter Tryz.func24, Tryz.ntmps24
  go_upto_region 1 with fail
  go_cut [] (fun wx => Lp W0 wx p l (letC L ve vd vs vg) (xs ++ [L.kind]) bad ∧ Ks w wx p)
  case first =>
    have CN := Lib.hid (lone_any H.out.drew l 0 _ (show w.drew.cell? ⟨l, 0, none⟩ = some (.int .u8 L.kind) by rw [H.out.drew.lb.cell]; rfl) (by omega))
    go_region_law (go_simp; go_at_call 89; refine CN.out.mono ?_; rintro e w' ⟨rfl, h1, k1⟩)
    all_goals
      go_wp2
      go_meet
      exact ⟨h1, (Ks.drew w p).trans k1⟩
  case rest =>
    obtain ⟨h1, k1⟩ := hcut
    have H1 := Lib.hid h1
    have K1 := Lib.hid k1
    clear h1 k1
    go_upto_region 2 with fail
    go_cut [] (fun wx => Lp W0 wx p l (letC L ve vd vs vg) (xs ++ [L.kind] ++ [L.src]) bad ∧ Ks w wx p)
    case first =>
      have CN := Lib.hid (lone_any H1.out.drew l 1 _ (show wc.drew.cell? ⟨l, 1, none⟩ = some (.int .u8 L.src) by rw [H1.out.drew.lb.cell]; rfl) (by simp; omega))
      go_region_law (go_simp; go_at_call 89; refine CN.out.mono ?_; rintro e w' ⟨rfl, h1, k1⟩)
      all_goals
        go_wp2
        go_meet
        exact ⟨h1, (K1.out.trans (Ks.drew wc p)).trans k1⟩
    case rest =>
      obtain ⟨h1, k1⟩ := hcut
      have H2 := Lib.hid h1
      have K2 := Lib.hid k1
      clear h1 k1 H1 K1
      go_upto_region 3 with fail
      go_cut [] (fun wx => Lp W0 wx p l (letC L ve vd vs vg) (xs ++ [L.kind] ++ [L.src] ++ [L.dst]) bad ∧ Ks w wx p)
      case first =>
        have CN := Lib.hid (lone_any H2.out.drew l 2 _ (show wc.drew.cell? ⟨l, 2, none⟩ = some (.int .u8 L.dst) by rw [H2.out.drew.lb.cell]; rfl) (by simp; omega))
        go_region_law (go_simp; go_at_call 89; refine CN.out.mono ?_; rintro e w' ⟨rfl, h1, k1⟩)
        all_goals
          go_wp2
          go_meet
          exact ⟨h1, (K2.out.trans (Ks.drew wc p)).trans k1⟩
      case rest =>
        obtain ⟨h1, k1⟩ := hcut
        have H3 := Lib.hid h1
        have K3 := Lib.hid k1
        clear h1 k1 H2 K2
        go_upto_region 4 with fail
        go_cut [] (fun wx => Lp W0 wx p l (letC L ve vd vs vg) (xs ++ [L.kind] ++ [L.src] ++ [L.dst] ++ nb L.term.toNat) bad ∧ Ks w wx p)
        case first =>
          have CN := Lib.hid (lnum_any H3.out.drew l 3 L.term.toNat (show wc.drew.cell? ⟨l, 3, none⟩ = some (.int .u64 (L.term.toNat : Int)) by rw [H3.out.drew.lb.cell, T2.out]; rfl) T1.out (by simp; omega))
          go_region_law (go_simp; go_at_call 88; refine CN.out.mono ?_; rintro e w' ⟨rfl, h1, k1⟩)
          all_goals
            go_wp2
            go_meet
            exact ⟨h1, (K3.out.trans (Ks.drew wc p)).trans k1⟩
        case rest =>
          obtain ⟨h1, k1⟩ := hcut
          have H4 := Lib.hid h1
          have K4 := Lib.hid k1
          clear h1 k1 H3 K3
          go_upto_region 5 with fail
          go_cut [5, 6] (fun s5 s6 wx => Lp W0 wx p l (letC L ve vd vs vg) (xs ++ [L.kind] ++ [L.src] ++ [L.dst] ++ nb L.term.toNat) bad ∧ Ks w wx p ∧ s6 = .bool (pcs L.kind).isSome ∧
            ((pcs L.kind = none ∧ s5 = .slice none 0 0) ∨ ∃ ps, pcs L.kind = some ps ∧ PVs wx s5 (ps.map fnP)))
          case first =>
            have HD := Lib.hid H4.out.drew
            have KD := Lib.hid (K4.out.trans (Ks.drew wc p))
            have c0 : wc.drew.cell? ⟨l, 0, none⟩ = some (.int .u8 L.kind) := by rw [H4.out.drew.lb.cell]; rfl
            have hll : l < wc.drew.heap.size := H4.out.drew.lb.lt
            rcases hps : pcs L.kind with - | ps
            · have HN := Lib.hid (table_none hps)
              have HP := Lib.hid hps
              clear hps
              go_region_law (go_simp; go_at_call 46; refine (parts_any _).mono ?_; rintro e w' ⟨m, rfl, hM⟩; have c1 := (hM.bel.cell hll).trans c0; have hlk := hM.look0 L.kind HN.out; have MM := Lib.hid hM; clear hM)
              all_goals
                go_wp2
                go_meet
                exact ⟨HD.out.below MM.out.bel, KD.out.trans (Ks.below MM.out.bel p), by rw [HP.out]; rfl, .inl ⟨HP.out, rfl⟩⟩
            · obtain ⟨n, hn, ha1, ha2, ha3⟩ := table_at hps
              have HP := Lib.hid hps
              have A2 := Lib.hid ha2
              have LK := Lib.hid (fun (w0 w' : World) (m : Nat) (h : Mi w0 w' m table) => h.look L.kind n hn ha1 ha3)
              clear hps ha1 ha2 ha3
              go_region_law (go_simp; go_at_call 46; refine (parts_any _).mono ?_; rintro e w' ⟨m, rfl, hM⟩; have c1 := (hM.bel.cell hll).trans c0; obtain ⟨v, hv, hlk⟩ := LK.out _ _ _ hM; have MM := Lib.hid hM; have VV := Lib.hid hv; clear hM hv)
              all_goals
                go_wp2
                go_meet
                exact ⟨HD.out.below MM.out.bel, KD.out.trans (Ks.below MM.out.bel p), by rw [HP.out]; rfl, .inr ⟨ps, HP.out, by rw [← A2.out]; exact VV.out⟩⟩
          case rest =>
            obtain ⟨h1, k1, rfl, hx⟩ := hcut
            obtain ⟨Y, hY⟩ : ∃ Y, Y = xs ++ [L.kind] ++ [L.src] ++ [L.dst] ++ nb L.term.toNat := ⟨_, rfl⟩
            rw [← hY] at h1
            have hYl : Y.length ≤ 1020 := by
              rw [hY]
              have := nb_ten T1.out
              simp only [List.length_append, List.length_cons, List.length_nil]
              omega
            have EY := Lib.hid (show ∀ qs : List Pc, xs ++ ((heads ++ qs).flatMap fun q => (putPc L q).1) = Y ++ (qs.flatMap fun q => (putPc L q).1) from fun qs => by rw [hY]; simp [heads, putPc, List.append_assoc])
            have EB := Lib.hid (show ∀ qs : List Pc, (bad || (heads ++ qs).any fun q => (putPc L q).2) = (bad || qs.any fun q => (putPc L q).2) from fun qs => by simp [heads, putPc])
            have H5 := Lib.hid h1
            have K5 := Lib.hid k1
            clear h1 k1 hY H4 K4
            rcases hx with ⟨hps, rfl⟩ | ⟨ps, hps, b, rfl, hb⟩
            · have HP := Lib.hid hps
              clear hps
              go_wp2_with fail
              go_loopg [52] 0 (fun q c52 wr => c52 = .int .i64 0 ∧ wr = wc)
              case atStart => exact ⟨rfl, rfl⟩
              case round =>
                obtain ⟨rfl, rfl⟩ := hrel
                go_wp2
                go_ret
                refine ⟨rfl, ?_, K5.out⟩
                rw [HP.out, EY.out, EB.out]
                simpa using H5.out
            · have HP := Lib.hid hps
              have hn5 := pcs_len hps
              have hnh := (pcs_some hps).2.2.2
              have HNH := Lib.hid hnh
              have KB := Lib.hid hb
              obtain ⟨n, hn⟩ : ∃ n, n = ps.length := ⟨_, rfl⟩
              have hn' : (ps.map fnP).length = n := by rw [List.length_map, hn]
              have N := Lib.hid hn
              rw [hn']
              rw [← hn] at hn5
              obtain ⟨v, hkp, -⟩ := H5.out.ex
              have hbp : b ≠ p := hb.ne_ hkp (by decide)
              clear hps hnh hb hn hn' hkp
              go_wp2_with fail
              go_loopg [52] n (fun q c52 wr => ∃ j : Nat, j ≤ n ∧ q = n - j ∧ c52 = .int .i64 j ∧ Lp W0 wr p l (letC L ve vd vs vg) (Y ++ (ps.take j).flatMap fun q => (putPc L q).1) (bad || (ps.take j).any fun q => (putPc L q).2) ∧ Ks w wr p ∧ Blk wr b 124 ((ps.map fnP).map fnV).toArray)
              case atStart => exact ⟨0, Nat.zero_le _, by omega, rfl, by simpa using H5.out, K5.out, KB.out⟩
              case round =>
                obtain ⟨j, hj, hq, rfl, h6, k6, b6⟩ := hrel
                have Q := Lib.hid hq
                have H6 := Lib.hid h6
                have K6 := Lib.hid k6
                have B6 := Lib.hid b6
                clear hq h6 k6 b6 H5 K5 KB
                by_cases hjn : j < n
                · have hjl : j < ps.length := by have := N.out; omega
                  have hjn' : (j : Int) < n := by omega
                  have c1 : wr.cell? ⟨b, j, none⟩ = some (.func (.func (fnP ps[j])) #[] #[]) := by
                    rw [B6.out.cell]
                    simp [fnV, hjl]
                  have hS : ((ps.take (j + 1)).flatMap fun q => (putPc L q).1) = ((ps.take j).flatMap fun q => (putPc L q).1) ++ (putPc L ps[j]).1 := by
                    rw [List.take_succ_eq_append_getElem hjl, List.flatMap_append]; simp
                  have hA : ((ps.take (j + 1)).any fun q => (putPc L q).2) = (((ps.take j).any fun q => (putPc L q).2) || (putPc L ps[j]).2) := by
                    rw [List.take_succ_eq_append_getElem hjl, List.any_append]; simp
                  have hlen : (Y ++ (ps.take j).flatMap fun q => (putPc L q).1).length ≤ 1000000000 := by
                    have h1 := fm_len (fun q => (putPc L q).1) 80000000 (putPc_len HW.out) (ps.take j)
                    have h2 : (ps.take j).length ≤ 5 := by rw [List.length_take]; omega
                    have h3 : (ps.take j).length * 80000000 ≤ 5 * 80000000 := Nat.mul_le_mul_right _ h2
                    rw [List.length_append]; omega
                  have hpc := HNH.out _ (List.getElem_mem hjl)
                  obtain ⟨pc, hpe⟩ : ∃ pc, pc = ps[j] := ⟨_, rfl⟩
                  rw [← hpe] at c1 hS hA hpc
                  obtain ⟨f, hf⟩ : ∃ f, f = fnP pc := ⟨_, rfl⟩
                  have eg := fnP_enters pc hpc
                  have CN := Lib.hid (pp_any pc hpc H6.out HW.out hlen)
                  rw [← hf] at c1 eg CN
                  have HS := Lib.hid hS
                  have HA := Lib.hid hA
                  clear hS hA hlen hpe hpc hf
                  go_wp2_with fail
                  refine CN.out.mono ?_
                  rintro e w7 ⟨rfl, h7, k7⟩
                  have H7 := Lib.hid h7
                  have K7 := Lib.hid (K6.out.trans k7)
                  have B7 := Lib.hid (k7.2 _ _ _ hbp (by decide) B6.out)
                  clear h7 k7 c1 eg
                  go_wp2
                  go_roundg (n - (j + 1))
                  case measure => have := Q.out; omega
                  case rel =>
                    refine ⟨j + 1, by omega, rfl, by go_num, ?_, K7.out, B7.out⟩
                    rw [HS.out, HA.out, ← List.append_assoc, ← Bool.or_assoc]
                    exact H7.out
                · obtain rfl : j = n := by omega
                  go_wp2
                  go_ret
                  refine ⟨by rw [HP.out]; rfl, ?_, K6.out⟩
                  rw [HP.out, EY.out, EB.out]
                  have := H6.out
                  rw [N.out, List.take_length] at this
                  exact this
end Go.Proofs.YthjdkjinkmdclaaGreat

/- Letters: Put: what it answers. -/
namespace Go.Proofs.YthjdkjinkmdclaaGreat
open Go.RowKit

/-- What a letter reads as stands in a later world. -/
theorem Lw.below {w w' : World} {L : Lt} {ve vd vs vg : Value} (h : Lw w L ve vd vs vg) (hb : Below w.heap.size w w') : Lw w' L ve vd vs vg :=
  ⟨h.es.below hb, h.data.below hb, Rd.below h.steps hb, Rd.below h.gots hb, h.ok, h.e6, h.s6, h.d6, h.t6, h.g6⟩
theorem Lp.new (w : World) (L : Lt) (ve vd vs vg : Value) (b : Bool) :
    Lp w ((w.alloc (.cells (letC L ve vd vs vg) 36)).alloc (.cells #[.slice none 0 0, .bool b] 67)) (w.heap.size + 1) w.heap.size (letC L ve vd vs vg) [] b := by
  refine ⟨⟨.slice none 0 0, ?_, ⟨Bo.nil_ _ _, below_alloc2_ w _ _, by simp only [World.size_alloc]; omega⟩⟩, (Blk.new w 36 (letC L ve vd vs vg)).alloc _, Nat.le_succ _, Nat.le_refl _⟩
  have := Blk.new (w.alloc (.cells (letC L ve vd vs vg) 36)) 67 #[.slice none 0 0, .bool b]
  rw [World.size_alloc] at this
  exact this
set_option maxHeartbeats 8000000 in
set_option maxRecDepth 100000 in
theorem Put_any {w : World} {L : Lt} {ve vd vs vg : Value} (hw : Lw w L ve vd vs vg) :
    Calls Tryz.prog 8 #[.agg (letC L ve vd vs vg)] w fun e w' => ∃ v', e = .returned (.tuple #[v', .int .i64 (putL L).2]) ∧ Bo w.heap.size w' v' (putL L).1 ∧ Below w.heap.size w w' ∧ Clp v' := by
  obtain ⟨bd, hbd⟩ : ∃ bd : Bool, bd = decide (L.e < 0 ∧ L.kind = 7) := ⟨_, rfl⟩
  have HW := Lib.hid hw
  have NEW := Lib.hid (Lp.new w L ve vd vs vg bd)
  have BD := Lib.hid hbd
  have c13 : (w.alloc (.cells (letC L ve vd vs vg) 36)).cell? ⟨w.heap.size, 13, none⟩ = some (.int .i64 L.e) := ((Blk.new w 36 (letC L ve vd vs vg)).cell 13).trans rfl
  have c0 : (w.alloc (.cells (letC L ve vd vs vg) 36)).cell? ⟨w.heap.size, 0, none⟩ = some (.int .u8 L.kind) := ((Blk.new w 36 (letC L ve vd vs vg)).cell 0).trans rfl
  have d13 : (w.alloc (.cells (letC L ve vd vs vg) 36)).drew.cell? ⟨w.heap.size, 13, none⟩ = some (.int .i64 L.e) := c13
  have d0 : (w.alloc (.cells (letC L ve vd vs vg) 36)).drew.cell? ⟨w.heap.size, 0, none⟩ = some (.int .u8 L.kind) := c0
  clear hw hbd
  go_enter Tryz.func8, Tryz.ntmps8
  go_upto_region 1 with fail
  go_cut [4] (fun s4 wx => s4 = .pointer (some ⟨w.heap.size + 1, 0, none⟩) ∧ Lp w wx (w.heap.size + 1) w.heap.size (letC L ve vd vs vg) [] bd)
  case first =>
    by_cases hE : L.e < 0
    · by_cases hK : L.kind = 7
      · have hK2 : (L.kind == 7) = true := by simp [hK]
        obtain rfl : bd = true := by rw [BD.out]; simp [hE, hK]
        go_wp2
        go_meet
        exact ⟨rfl, NEW.out⟩
      · have hK2 : (L.kind == 7) = false := beq_eq_false_iff_ne.2 hK
        obtain rfl : bd = false := by rw [BD.out]; simp [hK]
        go_wp2
        go_meet
        exact ⟨rfl, NEW.out⟩
    · obtain rfl : bd = false := by rw [BD.out]; simp [hE]
      go_wp2
      go_meet
      exact ⟨rfl, NEW.out⟩
  case rest =>
    obtain ⟨rfl, hP⟩ := hcut
    have P := Lib.hid hP
    clear hP NEW
    go_upto_region 2 with fail
    go_cut [24] (fun s24 wx => ∃ xs bb no, Lp w wx (w.heap.size + 1) w.heap.size (letC L ve vd vs vg) xs bb ∧ xs.length ≤ 1000000000 ∧ s24 = .bool no ∧ putL L = if no = true then ([], 1) else (xs, 0))
    case first =>
      rcases hps : pcs L.kind with - | ps
      · have CN := Lib.hid (through_put P.out HW.out (by simp))
        have HP := Lib.hid hps
        rw [hps] at CN
        clear hps
        go_wp2_with fail
        refine CN.out.mono ?_
        rintro e w' ⟨rfl, h1, -⟩
        have H1 := Lib.hid h1
        clear h1
        go_wp2
        go_meet
        refine ⟨_, _, true, H1.out, ?_, rfl, ?_⟩
        · have h1 := fm_len (fun q => (putPc L q).1) 80000000 (putPc_len HW.out) (heads ++ [])
          simp only [heads, Option.getD_none, List.append_nil, List.length_cons, List.length_nil, List.nil_append] at h1 ⊢
          omega
        · unfold putL
          rw [HP.out, if_pos rfl]
      · have CN := Lib.hid (through_put P.out HW.out (by simp))
        have HP := Lib.hid hps
        rw [hps] at CN
        have HE := Lib.hid (putPcs_eq L (heads ++ ps) ([], bd))
        obtain ⟨xs, hxs⟩ : ∃ xs, xs = ([] ++ (heads ++ (some ps).getD []).flatMap fun q => (putPc L q).1) := ⟨_, rfl⟩
        obtain ⟨bb, hbb⟩ : ∃ bb, bb = (bd || (heads ++ (some ps).getD []).any fun q => (putPc L q).2) := ⟨_, rfl⟩
        rw [← hxs, ← hbb] at CN
        have XE := Lib.hid hxs
        have BE := Lib.hid hbb
        have hpl : putL L = if bb = true then ([], 1) else (xs, 0) := by
          unfold putL
          rw [hps]
          simp only
          rw [← BD.out, HE.out, XE.out, BE.out]
          rfl
        have PL := Lib.hid hpl
        clear hps hxs hbb hpl HE
        go_wp2_with fail
        refine CN.out.mono ?_
        rintro e w' ⟨rfl, h1, -⟩
        obtain ⟨v1, hk1, hf1⟩ := h1.ex
        have c1 := hk1.cell 1
        simp only [List.getElem?_toArray, List.getElem?_cons_zero, List.getElem?_cons_succ] at c1
        have H1 := Lib.hid h1
        clear h1 hk1 hf1
        go_wp2
        go_meet
        refine ⟨xs, bb, bb, H1.out, ?_, rfl, PL.out⟩
        have h1 := fm_len (fun q => (putPc L q).1) 80000000 (putPc_len HW.out) (heads ++ ps)
        have h2 := pcs_len HP.out
        rw [XE.out, List.nil_append]
        simp only [heads, Option.getD_some, List.length_append, List.length_cons, List.length_nil] at h1 h2 ⊢
        omega
    case rest =>
      obtain ⟨xs, bb, no, hP2, hxl, rfl, hpl⟩ := hcut
      have P2 := Lib.hid hP2
      have PL := Lib.hid hpl
      cases no
      · obtain ⟨v1, hk1, hf1⟩ := hP2.ex
        obtain ⟨A1', cp1, rfl, hc1, hcl⟩ := hf1.own.clip
        have c0 := hk1.cell 0
        simp only [List.getElem?_toArray, List.getElem?_cons_zero] at c0
        have HO := Lib.hid hcl
        clear hP2 hpl hk1 hf1 hcl
        go_wp2_with fail
        refine (byt_clip A1' _ cp1 _ hc1 (by omega)).mono ?_
        rintro e w2 ⟨rfl, rfl⟩
        go_wp2
        refine bodyPost_ret (results_tmp2 rfl _ _ _) rfl ?_
        rw [PL.out]
        exact ⟨_, rfl, HO.out, P2.out.bel, ⟨_, _, rfl⟩⟩
      · clear hP2 hpl
        go_wp2
        refine bodyPost_ret (results_tmp2 rfl _ _ _) rfl ?_
        rw [PL.out]
        exact ⟨_, rfl, Bo.nil_ _ _, P2.out.bel, ⟨_, _, rfl⟩⟩
end Go.Proofs.YthjdkjinkmdclaaGreat
