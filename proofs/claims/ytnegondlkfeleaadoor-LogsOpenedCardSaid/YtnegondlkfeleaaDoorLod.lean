/- logs: the file of a content. -/
import Derived.Test.YtnegondlkfeleaaDoorLoc
import Derived.Test.YtnegondlkfeleaaDoorPuz
import Derived.Test.YtnegondlkfeleaaDoorShp
namespace Go.Proofs.YtnegondlkfeleaaDoor
open Go.RowKit

/-- An entry that has a frame. -/
def EOk (e : Ent) : Prop := ∃ x0 x1 x2 x3 : Int, e.1 = [x0, x1, x2, x3] ∧ fok1 .u64 x0 ∧ fok1 .u64 x1 ∧ fok1 .u8 x2 ∧ fok1 .u64 x3 ∧ (∀ q ∈ e.2, fok stepK q) ∧ e.2.length ≤ 8 ∧ (entryB e).length ≤ 8192 ∧ ∀ c ∈ entryB e, byt c
def efB (e : Ent) : List Int := frameB (entryB e)
/-- A log's file. -/
def logB (bi bt : Nat) (es : List Ent) : List Int := frameB (nb bi ++ nb bt) ++ (es.map efB).flatten
theorem logB_snoc (bi bt : Nat) (es : List Ent) (e : Ent) : logB bi bt (es ++ [e]) = logB bi bt es ++ efB e := by simp [logB, List.append_assoc]
theorem efB_len {e : Ent} (h : EOk e) : (efB e).length ≤ 8300 := by
  obtain ⟨_, _, _, _, -, -, -, -, -, -, -, h1, -⟩ := h
  have h3 := nb_ten (n := (entryB e).length) (by omega)
  unfold efB
  rw [frameB_len]; omega
theorem logB_len (bi bt : Nat) (hi : bi < 18446744073709551616) (ht : bt < 18446744073709551616) : ∀ es : List Ent, (∀ e ∈ es, EOk e) → (logB bi bt es).length ≤ 34 + 8300 * es.length := by
  intro es h
  have h1 : (frameB (nb bi ++ nb bt)).length ≤ 34 := by
    have := nb_ten hi; have := nb_ten ht
    have h2 := nb_ten (n := (nb bi ++ nb bt).length) (by rw [List.length_append]; omega)
    rw [frameB_len]; rw [List.length_append] at *; omega
  have h4 : ((es.map efB).flatten).length ≤ 8300 * es.length := by
    clear h1
    induction es with
    | nil => simp
    | cons a es ih =>
      have := ih (fun e he => h e (List.mem_cons_of_mem _ he))
      have h5 := efB_len (h a (List.mem_cons_self ..))
      simp only [List.map_cons, List.flatten_cons, List.length_append, List.length_cons]; omega
  unfold logB
  rw [List.length_append]; omega

set_option maxHeartbeats 2000000 in
set_option maxRecDepth 100000 in
theorem lfile_any (p bi bt : Nat) (ev : Value) (es : List Ent) (w : World) (h : Ct w p bi bt ev) (he : Ents w ev es) (hw : Wf bi es) (hok : ∀ e ∈ es, EOk e) (hl : es.length ≤ 100000) (hi : bi < 18446744073709551616) (ht : bt < 18446744073709551616) (T : Tab w) :
    Calls Tryd.prog 73 #[.pointer (some ⟨p, 0, none⟩)] w fun e w' => ∃ v', e = .returned v' ∧ Bo w.heap.size w' v' (logB bi bt es) ∧ Below w.heap.size w w' := by
  obtain ⟨c0, c1, c2⟩ := id h
  have CT := Lib.hid h
  have EN := Lib.hid he
  have HW := Lib.hid hw
  have OK := Lib.hid hok
  have HL := Lib.hid hl
  have HI := Lib.hid hi
  have HT := Lib.hid ht
  have TT := Lib.hid T
  have hbb : ∀ c ∈ (([] ++ nb bi) ++ nb bt), byt c := by
    intro c hc
    rw [List.nil_append] at hc
    rcases List.mem_append.1 hc with hc | hc <;> exact nb_byt _ c hc
  have BB := Lib.hid hbb
  have hbl : (([] ++ nb bi) ++ nb bt).length ≤ 20 := by have := nb_ten hi; have := nb_ten ht; simp only [List.length_append, List.length_nil]; omega
  have BL := Lib.hid hbl
  clear hbb hbl h he hw hok hl hi ht T
  go_enter Tryd.func73, Tryd.ntmps73
  go_wp2_with fail
  go_region_held3 (fun w' => w'.cell? ⟨p, 0, none⟩ = some (.int .u64 bi) ∧ w'.cell? ⟨p, 1, none⟩ = some (.int .u64 bt)) (first
    | exact ⟨c0, c1⟩
    | exact ⟨((bel2 b1 b2).cell (block_lt_of_cell c0)).trans c0, ((bel2 b1 b2).cell (block_lt_of_cell c1)).trans c1⟩
    | exact ⟨((bel2 (bel2 b1 b2) b3).cell (block_lt_of_cell c0)).trans c0, ((bel2 (bel2 b1 b2) b3).cell (block_lt_of_cell c1)).trans c1⟩
    | exact ⟨(b1.cell (block_lt_of_cell c0)).trans c0, (b1.cell (block_lt_of_cell c1)).trans c1⟩
    | fail)
    (first
    | (go_at_call 61; refine (fput_any (.slice none 0 0) _ [] _ _ (Bo.nil_ 0 _).bs h2.bs BB.out (TT.out.below (bel2 ((Below.refl _ _).drew) (bel2 b1 b2))) (by simp) (by have := BL.out; omega)).mono ?_; rintro e w3 ⟨v3, rfl, h3, b3⟩)
    | (go_at_call 62; refine (num_any _ _ bt _ h1.bs HT.out (by have := nb_ten HI.out; simp; omega)).mono ?_; rintro e w2 ⟨v2, rfl, h2, b2⟩)
    | (go_at_call 62; refine (num_any (.slice none 0 0) [] bi _ (Bo.nil_ 0 _).bs HI.out (by simp)).mono ?_; rintro e w1 ⟨v1, rfl, h1, b1⟩))
  obtain ⟨A3, n3, q3, rfl⟩ := h3.sl
  have B3 := Lib.hid (show Below w.heap.size w w3 from bel2 ((Below.refl _ _).drew) (bel2 (bel2 b1 b2) b3))
  have H3 := Lib.hid (show Bo w.heap.size w3 (.slice A3 n3 q3) (logB bi bt (es.take 0)) from by
    have h := h3.le (show w.heap.size ≤ w2.heap.size from (bel2 ((Below.refl _ w).drew) (bel2 b1 b2)).size)
    simpa [logB] using h)
  have e2 := (B3.out.cell (block_lt_of_cell c2)).trans c2
  have hsl : ∃ A c, ev = .slice A es.length c ∧ es.length ≤ c := by obtain ⟨_, _, ⟨A, c, hv, hc, -⟩, -⟩ := EN.out; exact ⟨A, c, hv, hc⟩
  obtain ⟨A, c, rfl, hc⟩ := hsl
  obtain ⟨L, hL⟩ : ∃ L, L = es.length := ⟨_, rfl⟩
  have LL := Lib.hid hL
  rw [← hL] at e2 hc
  have hLl : (L : Int) ≤ 100000 := by have := HL.out; omega
  clear h3 h2 h1 b1 b2 b3 c0 c1 c2 hL
  go_wp2_with fail
  go_loopw [3, 28] (fun s3 s28 wr => ∃ k : Nat, s28 = .int .i64 (k : Int) ∧ k ≤ L ∧ (∃ A n c, s3 = .slice A n c) ∧ Bo w.heap.size wr s3 (logB bi bt (es.take k)) ∧ Below w.heap.size w wr) (fun _ s28 _ => L - (intOf s28).toNat)
  case atStart => exact ⟨0, rfl, Nat.zero_le _, ⟨_, _, _, rfl⟩, H3.out, B3.out⟩
  case round =>
    obtain ⟨k, rfl, hk, ⟨Ak, nk, ck, rfl⟩, hB, hbw⟩ := hrel
    have HB := Lib.hid hB
    have BW := Lib.hid hbw
    clear hB hbw
    by_cases hlt : k < L
    · have hkl : k < es.length := by have := LL.out; omega
      obtain ⟨g, o, c', hv, hc', hg, hh⟩ := EN.out.at_ (by omega)
      injection hv with hv1 hv2 hv3
      subst hv1
      obtain ⟨sv, hs, hcell⟩ := hh k hkl
      obtain ⟨x0, x1, x2, x3, hx, f0, f1, f2, f3, fin, f8, fl, fb⟩ := OK.out _ (List.getElem_mem hkl)
      have hec : ecells (es[k], sv) = [.int .u64 x0, .int .u64 x1, .int .u8 x2, .int .u64 x3, sv] := by simp [ecells, hx, entryK, fc]
      rw [hec] at hcell
      have he2 : es[k] = ([x0, x1, x2, x3], es[k].2) := by rw [← hx]
      have hsn : es.take (k + 1) = es.take k ++ [es[k]] := by rw [List.take_add_one, List.getElem?_eq_getElem hkl]; rfl
      have d0 : wr.cell? ⟨g, o + k * 5, none⟩ = some (.int .u64 x0) := cell_on BW.out hg (by have := hcell 0 (.int .u64 x0) (by omega) rfl; simpa using this)
      have d1 := cell_on BW.out hg (hcell 1 (.int .u64 x1) (by omega) rfl)
      have d2 := cell_on BW.out hg (hcell 2 (.int .u8 x2) (by omega) rfl)
      have d3 := cell_on BW.out hg (hcell 3 (.int .u64 x3) (by omega) rfl)
      have d4 := cell_on BW.out hg (hcell 4 sv (by omega) rfl)
      obtain ⟨Asv, csv, rfl, -⟩ := id hs
      obtain ⟨r, hr⟩ : ∃ r, r = es[k].2 := ⟨_, rfl⟩
      rw [← hr] at hs d4 he2 fin f8
      obtain ⟨m, hm⟩ : ∃ m, m = r.length := ⟨_, rfl⟩
      rw [← hm] at hs d4
      have hef : efB es[k] = frameB (entryB ([x0, x1, x2, x3], r)) := by rw [he2]; rfl
      have FR := Lib.hid (lframe_any x0 x1 x2 x3 (.slice Asv m csv) r f0 f1 f2 f3 fin (wr.alloc (.cells #[.int .u64 x0, .int .u64 x1, .int .u8 x2, .int .u64 x3, .slice Asv m csv] 59)) (Rd.below hs (BW.out.trans ((below_alloc_ wr _).mono BW.out.size))) f8 (by rw [← he2]; exact fl) (by rw [← he2]; exact fb) (TT.out.below (BW.out.trans ((below_alloc_ wr _).mono BW.out.size))))
      have SN := Lib.hid (show logB bi bt (es.take (k + 1)) = logB bi bt (es.take k) ++ frameB (entryB ([x0, x1, x2, x3], r)) from by rw [hsn, logB_snoc, hef])
      have FL := Lib.hid (show (logB bi bt (es.take k)).length + (frameB (entryB ([x0, x1, x2, x3], r))).length ≤ 140737488355328 from by
        have h1 := logB_len bi bt HI.out HT.out (es.take k) (fun e he => OK.out e (List.mem_of_mem_take he))
        have h2 := efB_len (OK.out _ (List.getElem_mem hkl))
        rw [hef] at h2
        have h3 : (es.take k).length ≤ 100000 := by rw [List.length_take]; have := HL.out; omega
        omega)
      have LT := Lib.hid hlt
      have hlt' : (k : Int) < (L : Int) := by omega
      clear hkl hh hs hcell hx f0 f1 f2 f3 fin f8 fl fb hec he2 hsn hr hm hef hk hc' hv2 hv3 hg
      go_wp2_with fail
      refine FR.out.mono ?_
      rintro e w5 ⟨v5, rfl, h5, b5⟩
      have B5 := Lib.hid (show Below w.heap.size w w5 from BW.out.trans ((bel2 (below_alloc_ wr _) b5).mono BW.out.size))
      have BF := Lib.hid (show Bf w.heap.size w w5 (.slice Ak nk ck) (logB bi bt (es.take k)) from ⟨HB.out.below (bel2 (below_alloc_ wr _) b5), B5.out, B5.out.size⟩)
      have Y5 := Lib.hid h5.bs
      obtain ⟨A5, n5, c5, rfl⟩ := h5.sl
      clear h5 b5 d0 d1 d2 d3 d4
      go_wp2_with (at_builtin; refine wpList_bf_bytes rfl _ _ 25 rfl Tryd.underlying25 rfl BF.out Y5.out rfl FL.out ?_; intro v6 w6 hB6; have B6 := Lib.hid hB6; obtain ⟨A6, n6, c6, rfl⟩ := hB6.own.sl; clear hB6)
      exact ⟨⟨k + 1, by go_num, LT.out, ⟨_, _, _, rfl⟩, by rw [SN.out]; exact B6.out.own, B6.out.bel⟩, by have := LT.out; simp [intOf]; omega⟩
    · obtain rfl : k = L := by omega
      go_wp2
      go_ret
      exact ⟨_, rfl, by have := HB.out; rwa [LL.out, List.take_length] at this, BW.out⟩
end Go.Proofs.YtnegondlkfeleaaDoor
