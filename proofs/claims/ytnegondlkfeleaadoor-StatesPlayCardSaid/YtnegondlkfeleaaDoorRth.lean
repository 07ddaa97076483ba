/- StatesPlay: walk. -/
import Derived.Test.YtnegondlkfeleaaDoorRtg
import Derived.Deep.CutBlock
namespace Go.Proofs.YtnegondlkfeleaaDoor
open Go.RowKit

abbrev stN : ByteArray := ⟨#[115, 116, 97, 116, 101]⟩
/-- A disk without a file and the document's empty one. -/
theorem both_new {w w1 : World} (h : On [] w.heap.size w w1 (w.heap.size + 1) stN ⟨none, -1, false⟩) : Both [] w.heap.size w (w1.alloc (.cells (rm ⟨none, -1, false⟩ (.slice none 0 0)) 68)) (w.heap.size + 1) w1.heap.size stN ⟨none, -1, false⟩ ⟨none, -1, false⟩ := by
  have hk := Blk.new w1 68 (rm ⟨none, -1, false⟩ (.slice none 0 0))
  have hr : RDk (w1.alloc (.cells (rm ⟨none, -1, false⟩ (.slice none 0 0)) 68)) w1.heap.size stN ⟨none, -1, false⟩ [w1.heap.size] := ⟨by simp, by simp, .inl ⟨rfl, hk, rfl⟩⟩
  obtain ⟨R, hR, hk2, hw⟩ := hr.objs
  have ho := h.allocX (.cells (rm ⟨none, -1, false⟩ (.slice none 0 0)) 68)
  have hin : ∀ q ∈ R, q = (w1.heap.size, Obj.cells (rm ⟨none, -1, false⟩ (.slice none 0 0)) 68) := fun q hq => by
    have h1 : q.1 ∈ R.map (·.1) := List.mem_map_of_mem hq
    rw [hR] at h1
    have h1' : q.1 = w1.heap.size := by simpa using h1
    have h2 := hk2 q hq
    rw [h1'] at h2
    have h3 : (w1.alloc (.cells (rm ⟨none, -1, false⟩ (.slice none 0 0)) 68)).heap[w1.heap.size]? = some (.cells (rm ⟨none, -1, false⟩ (.slice none 0 0)) 68) := heap_alloc_new w1 _
    rw [h3] at h2
    injection h2 with h2
    exact Prod.ext h1' h2.symm
  refine ⟨R, fun w' hw' => by rw [hR]; exact hw w' hw', fun q hq => by rw [hin q hq]; exact h.le, by simp, ?_⟩
  exact ho.mono fun q hq => by simp at hq ⊢; rw [hin q hq]

/-- Where a round begins. -/
def PQ (B : Nat) (W wr : World) (d m : Nat) (c5 c6 c7 c8 : Value) : Prop :=
  ∃ (s : Dst) (er : Int), c6 = .int .i64 er ∧ c8 = .int .i64 er ∧
    ((c5 = .pointer none ∧ c7 = .pointer none ∧ Both [] B W wr d m stN s s) ∨
      ∃ (p q T V : Nat) (lost : Bool), c5 = .pointer (some ⟨p, 0, none⟩) ∧ c7 = .pointer (some ⟨q, 0, none⟩) ∧ p ≠ q ∧ B ≤ p ∧ B ≤ q ∧ T < 18446744073709551616 ∧ V < 256 ∧
        Both [(p, prO T V d lost), (q, .cells (rpI m T V lost) 81 (0, 0))] B W wr d m stN s s)

theorem openS_bound {X : List (Nat × Obj)} {B : Nat} {W w : World} {d : Nat} {s : Dst} {t v : Nat} (h : On X B W w d stN s) (he : openS s = (t, v, 0)) : t < 18446744073709551616 ∧ v < 256 := by
  rcases readS_cases s with h17 | h7 | ⟨xs, su, hf, hr⟩
  · rw [openS_17 h17] at he; simp at he
  · rw [openS_7 h7] at he
    simp at he
    omega
  · cases hv : (readV xs).2.2 with
    | false => rw [openS_no hr hv] at he; simp at he
    | true =>
      rw [openS_yes hr hv] at he
      have hb := (h.file hf).1
      injection he with e1 e2
      injection e2 with e2 _
      subst e1 e2
      unfold readV at hv ⊢
      split at hv
      · cases hv
      · rename_i hc
        rw [if_neg hc]
        exact ⟨tk_lt (getF_byt hb), Nat.mod_lt _ (by decide)⟩
theorem setS_nat {t v : Nat} {lost : Bool} {s s' : Dst} {T V : Nat} {r t' v' : Int} {lost' : Bool} (ht : t < 18446744073709551616) (hv : v < 256) (hT : T < 18446744073709551616) (hV : V < 256)
    (h : setS t v lost s T V = (r, t', v', lost', s')) : ∃ a b : Nat, t' = (a : Int) ∧ v' = (b : Int) ∧ a < 18446744073709551616 ∧ b < 256 := by
  unfold setS at h
  split at h
  · injection h with _ h; injection h with h1 h; injection h with h2 _; exact ⟨t, v, h1.symm, h2.symm, ht, hv⟩
  · split at h
    · injection h with _ h; injection h with h1 h; injection h with h2 _; exact ⟨t, v, h1.symm, h2.symm, ht, hv⟩
    · split at h
      · injection h with _ h; injection h with h1 h; injection h with h2 _; exact ⟨t, v, h1.symm, h2.symm, ht, hv⟩
      · split at h
        · injection h with _ h; injection h with h1 h; injection h with h2 _; exact ⟨T, V, h1.symm, h2.symm, hT, hV⟩
        · injection h with _ h; injection h with h1 h; injection h with h2 _; exact ⟨t, v, h1.symm, h2.symm, ht, hv⟩
/-- What PQ owes of the blocks beside. -/
theorem PQ.open_ {B : Nat} {W wr : World} {d m : Nat} {c5 c6 c7 c8 : Value} (h : PQ B W wr d m c5 c6 c7 c8) : ∃ (s : Dst) (er : Int) (X : List (Nat × Obj)), c6 = .int .i64 er ∧ c8 = .int .i64 er ∧ Both X B W wr d m stN s s ∧
    ∀ wx s', Both X B W wx d m stN s' s' → PQ B W wx d m c5 c6 c7 c8 := by
  obtain ⟨s, er, rfl, rfl, ⟨rfl, rfl, h⟩ | ⟨p, q, T, V, lost, rfl, rfl, h1, h2, h3, h4, h5, h⟩⟩ := h
  · exact ⟨s, er, _, rfl, rfl, h, fun wx s' h' => ⟨s', er, rfl, rfl, .inl ⟨rfl, rfl, h'⟩⟩⟩
  · exact ⟨s, er, _, rfl, rfl, h, fun wx s' h' => ⟨s', er, rfl, rfl, .inr ⟨p, q, T, V, lost, rfl, rfl, h1, h2, h3, h4, h5, h'⟩⟩⟩

set_option maxHeartbeats 8000000 in
set_option maxRecDepth 100000 in
theorem splay_walk (v : Value) (rs : List SAct) (w : World) (h : SActs w v rs) (T : Tab w) :
    Calls Tryd.prog 5 #[v] w fun e w' => e = .returned (.bool true) ∧ Below w.heap.size w w' := by
  have h0 : 0 < w.heap.size := block_lt_of_cell (T 0 (by decide))
  have HZ := Lib.hid h0
  have TT := Lib.hid T
  have H := Lib.hid h
  have GR := Lib.hid (sgreat_any v rs w h)
  obtain ⟨A, c, rfl, hc⟩ := h.shape
  obtain ⟨n, hn⟩ : ∃ n, n = rs.length := ⟨_, rfl⟩
  rw [← hn] at GR ⊢
  have N := Lib.hid hn
  clear h0 T h hn hc
  go_enter Tryd.func5, Tryd.ntmps5
  go_wp2_with fail
  refine GR.out.mono ?_
  rintro e w1 ⟨⟨b, rfl, hlen⟩, rfl⟩
  have LE := Lib.hid hlen
  clear hlen
  cases b with
  | true =>
    go_wp2_with fail
    refine (slives _ TT.out HZ.out).mono ?_
    rintro e w2 ⟨rfl, hb⟩
    have HB := Lib.hid hb
    clear hb
    go_wp2
    go_ret
    exact ⟨rfl, HB.out⟩
  | false =>
    have hn150 : n ≤ 150 := LE.out rfl
    clear LE
    go_wp2_with fail
    refine (on_new stN _).mono ?_
    rintro e w2 ⟨rfl, h2⟩
    have B2 := Lib.hid (both_new h2)
    clear h2
    have e2 : openS ⟨none, -1, false⟩ = (0, 0, 0) := rfl
    have E2 := Lib.hid e2
    clear e2
    go_wp2_with fail
    refine (bopen_ok B2.out E2.out TT.out HZ.out).mono ?_
    rintro e w3 ⟨p, rfl, h3, hp⟩
    have P3 := Lib.hid (Nat.le_trans B2.out.le hp)
    have B3 := Lib.hid h3
    clear h3 hp
    go_wp2_with fail
    refine (bropen_ok B3.out E2.out).mono ?_
    rintro e w4 ⟨q, rfl, h4, hq⟩
    have B4 := Lib.hid h4
    have Q4 := Lib.hid (Nat.le_trans B3.out.le hq)
    have PQ4 := Lib.hid (show p ≠ q from fun e => by
      have := lt_of_heap (B3.out.keep (p, prO (0 : Nat) (0 : Nat) (w1.heap.size + 1) false) (List.mem_cons_self ..))
      omega)
    clear h4 hq
    obtain ⟨m, hm⟩ : ∃ m, m = w2.heap.size := ⟨_, rfl⟩
    rw [← hm] at B4 ⊢
    clear hm
    go_wp2
    go_loopg [5, 6, 7, 8, 9] n (fun g c5 c6 c7 c8 c9 wr => ∃ i : Nat, i ≤ n ∧ g = n - i ∧ c9 = .int .i64 i ∧ PQ w1.heap.size w1 wr (w1.heap.size + 1) m c5 c6 c7 c8)
    case atStart => exact ⟨0, by omega, rfl, rfl, _, 0, rfl, rfl, .inr ⟨p, q, 0, 0, false, rfl, rfl, PQ4.out, P3.out, Q4.out, by decide, by decide, B4.out.mono (by simp)⟩⟩
    case round =>
      obtain ⟨i, hi, hg, rfl, hPQ⟩ := hrel
      have PR := Lib.hid hPQ
      obtain ⟨s, er, X, rfl, rfl, hBX, hback⟩ := hPQ.open_
      have G := Lib.hid hg
      have BX := Lib.hid hBX
      have BACK := Lib.hid hback
      have BEL := Lib.hid hBX.bel
      clear hg hPQ hBX hback
      by_cases hin : i < n
      · have hib : i < rs.length := by have := N.out; omega
        obtain ⟨g0, o0, rfl, -, c0, c1, c2, c3, c4, c5⟩ := (show SActs wr (.slice A n c) rs from by have := H.out.below BEL.out; rw [← N.out] at this; exact this).at_ i hib
        have OK0 := Lib.hid (H.out.ok _ (List.getElem_mem hib))
        have OK := Lib.hid ((H.out.ok _ (List.getElem_mem hib)).below BEL.out)
        obtain ⟨r, hr⟩ : ∃ r, r = rs[i] := ⟨_, rfl⟩
        rw [← hr] at c0 c1 c2 c3 c4 c5 OK OK0
        clear hr
        obtain ⟨kd, xT, xV, nn, lv, ls, bv, bs⟩ := r
        simp only at c0 c1 c2 c3 c4 c5
        obtain ⟨TX, hTX⟩ : ∃ TX : Nat, xT = (TX : Int) := ⟨xT.toNat, by have := OK.out.T; simp only at this; omega⟩
        obtain ⟨VX, hVX⟩ : ∃ VX : Nat, xV = (VX : Int) := ⟨xV.toNat, by have := OK.out.V; simp only at this; omega⟩
        subst hTX hVX
        have TXB := Lib.hid (show TX < 18446744073709551616 ∧ VX < 256 from by have h1 := OK.out.T; have h2 := OK.out.V; simp only at h1 h2; omega)
        obtain ⟨AB, cB, hbv, -⟩ := id OK.out.bv
        obtain ⟨AL, cL, hlv, -⟩ := id OK.out.lv
        simp only at hbv hlv
        subst hbv hlv
        have hkd := OK.out.kd
        simp only at hkd
        obtain ⟨k8, hk8⟩ : ∃ k8, kd.tmod 8 = k8 := ⟨_, rfl⟩
        obtain ⟨bl, hbl⟩ : ∃ bl, bl = bs.length := ⟨_, rfl⟩
        obtain ⟨ll, hll⟩ : ∃ ll, ll = ls.length := ⟨_, rfl⟩
        have KB := Lib.hid (show Both ((wr.heap.size, .cells #[.int .u8 kd, .int .u64 (TX : Nat), .int .u8 (VX : Nat), .int .i64 nn, .slice AL ll cL, .slice AB bl cB] 76 (0, 0)) :: X) w1.heap.size w1 (wr.alloc (.cells #[.int .u8 kd, .int .u64 (TX : Nat), .int .u8 (VX : Nat), .int .i64 nn, .slice AL ll cL, .slice AB bl cB] 76)) (w1.heap.size + 1) m stN s s from
          BX.out.put (below_alloc_ _ _) (Nat.le_refl _) (heap_alloc_new _ _))
        have OB := Lib.hid (show ∀ u, Below w1.heap.size w1 u → Bs u (.slice AB bl cB) bs ∧ Rd u 1 (.slice AL ll cL) ls.length (lossC ls) from fun u hu => by rw [hbl, hll]; exact ⟨OK0.out.bv.below hu, OK0.out.lv.below hu⟩)
        have BSZ := Lib.hid (show (wr.alloc (.cells #[.int .u8 kd, .int .u64 (TX : Nat), .int .u8 (VX : Nat), .int .i64 nn, .slice AL ll cL, .slice AB bl cB] 76)).heap.size = wr.heap.size + 1 from by simp)
        rw [← hbl] at c5
        rw [← hll] at c4
        clear hbl hll
        go_upto_block 2 with fail
        go_cut [5, 6, 7, 8] (fun s5 s6 s7 s8 wx => PQ w1.heap.size w1 wx (w1.heap.size + 1) m s5 s6 s7 s8)
        case first =>
          have BLL := Lib.hid (show bs.length ≤ 4611686018427387904 from OK.out.len)
          by_cases h5 : k8 = 5
          · subst h5
            go_wp2_with fail
            refine (bfuse nn OK.out.n.2 KB.out).mono ?_
            rintro e w3 ⟨rfl, h3⟩
            have H3 := Lib.hid h3
            have x3 := (show Blk w3 wr.heap.size 76 #[.int .u8 kd, .int .u64 (TX : Nat), .int .u8 (VX : Nat), .int .i64 nn, .slice AL ll cL, .slice AB bl cB] from H3.out.keep (_, _) (List.mem_cons_self ..)).cell 3
            simp at x3
            clear h3
            go_wp2_with fail
            refine (brfuse nn OK.out.n.2 H3.out).mono ?_
            rintro e w4 ⟨rfl, h4⟩
            have H4 := Lib.hid h4
            clear h4
            go_wp2
            go_meet
            exact BACK.out _ _ (H4.out.mono (fun p hp => List.mem_cons_of_mem _ hp))
          by_cases h6 : k8 = 6
          · subst h6
            go_wp2_with fail
            refine (blift (.slice AL ll cL) ls OK.out.lby KB.out (OB.out _ KB.out.bel).2).mono ?_
            rintro e w3 ⟨rfl, h3⟩
            have H3 := Lib.hid h3
            have x4 := (show Blk w3 wr.heap.size 76 #[.int .u8 kd, .int .u64 (TX : Nat), .int .u8 (VX : Nat), .int .i64 nn, .slice AL ll cL, .slice AB bl cB] from H3.out.keep (_, _) (List.mem_cons_self ..)).cell 4
            simp at x4
            clear h3
            go_wp2_with fail
            refine (brlift (.slice AL ll cL) ls OK.out.lby H3.out (OB.out _ H3.out.bel).2).mono ?_
            rintro e w4 ⟨rfl, h4⟩
            have OBB := Lib.hid (show Both [] _ _ _ _ _ _ _ _ from h4.mono (by simp))
            obtain ⟨OST, hOST⟩ : ∃ OST, OST = liftS s ls := ⟨_, rfl⟩
            rw [← hOST] at OBB
            clear h4 hOST
            by_cases hz : (openS OST).2.2 = 0
            · obtain ⟨ot, ov, hov⟩ : ∃ ot ov, openS OST = (ot, ov, 0) := ⟨_, _, Prod.ext rfl (Prod.ext rfl hz)⟩
              have OV := Lib.hid hov
              clear hz hov
              go_wp2_with fail
              refine (bopen_ok OBB.out OV.out TT.out HZ.out).mono ?_
              rintro e w7 ⟨p7, rfl, h7, hp7⟩
              have P7 := Lib.hid (Nat.le_trans OBB.out.le hp7)
              have B7 := Lib.hid h7
              clear h7 hp7
              go_wp2_with fail
              refine (bropen_ok B7.out OV.out).mono ?_
              rintro e w8 ⟨q8, rfl, h8, hq8⟩
              have B8 := Lib.hid h8
              have Q8 := Lib.hid (Nat.le_trans B7.out.le hq8)
              have N8 := Lib.hid (show p7 ≠ q8 from fun e => by
                have := lt_of_heap (B7.out.keep (p7, prO (ot : Nat) (ov : Nat) _ false) (List.mem_cons_self ..))
                omega)
              have Z8 := Lib.hid (show ot < 18446744073709551616 ∧ ov < 256 from by
                obtain ⟨R, h1, h2, h3, h4⟩ := OBB.out
                exact openS_bound h4 OV.out)
              clear h8 hq8
              go_wp2
              go_meet
              exact ⟨OST, 0, rfl, rfl, .inr ⟨p7, q8, ot, ov, false, rfl, rfl, N8.out, P7.out, Q8.out, Z8.out.1, Z8.out.2, B8.out.mono (by simp)⟩⟩
            · obtain ⟨oe, hoe⟩ : ∃ oe, (openS OST).2.2 = oe := ⟨_, rfl⟩
              rw [hoe] at hz
              have OE := Lib.hid hoe
              have HNE := Lib.hid hz
              clear hz hoe
              go_wp2_with fail
              refine (bopen_bad OBB.out OE.out HNE.out TT.out HZ.out).mono ?_
              rintro e w7 ⟨rfl, h7⟩
              have B7 := Lib.hid h7
              clear h7
              go_wp2_with fail
              refine (bropen_bad B7.out OE.out HNE.out).mono ?_
              rintro e w8 ⟨rfl, h8⟩
              have B8 := Lib.hid h8
              clear h8
              go_wp2
              go_meet
              exact ⟨OST, oe, rfl, rfl, .inl ⟨rfl, rfl, B8.out.mono (by simp)⟩⟩
          by_cases h7 : k8 = 7
          · subst h7
            by_cases hN : 0 < nn.tmod 4
            · go_upto_region 29 with fail
              go_quiet (fail)
              go_wp2
              go_roundg (n - (i + 1))
              case measure => have := G.out; omega
              case rel => exact ⟨i + 1, by omega, by omega, by go_num, BACK.out _ _ ((KB.out.below (below_drewN_ _ _ _)).mono (fun p hp => List.mem_cons_of_mem _ hp))⟩
            · obtain ⟨s', rr, hd⟩ : ∃ s' rr, doesS s bs.length true (fun _ => some (bs, bs.length)) = (s', rr) := ⟨_, _, rfl⟩
              have HD := Lib.hid hd
              clear hd c0 c1 c2 c3 c4 c5
              go_upto_region 29 with fail
              generalize wr.alloc (.cells #[.int .u8 kd, .int .u64 (TX : Nat), .int .u8 (VX : Nat), .int .i64 nn, .slice AL ll cL, .slice AB bl cB] 76) = W0 at *
              have SX := Lib.hid (fun (u : World) (sd sm : Dst) (hu : Both ((wr.heap.size, .cells #[.int .u8 kd, .int .u64 (TX : Nat), .int .u8 (VX : Nat), .int .i64 nn, .slice AL ll cL, .slice AB bl cB] 76 (0, 0)) :: X) w1.heap.size w1 u (w1.heap.size + 1) m stN sd sm) =>
                show u.cell? ⟨wr.heap.size, 5, none⟩ = some (.slice AB bl cB) ∧ u.cell? ⟨wr.heap.size, 3, none⟩ = some (.int .i64 nn) from by
                  have k := (show Blk u wr.heap.size 76 #[.int .u8 kd, .int .u64 (TX : Nat), .int .u8 (VX : Nat), .int .i64 nn, .slice AL ll cL, .slice AB bl cB] from hu.keep (_, _) (List.mem_cons_self ..))
                  exact ⟨k.cell 5, k.cell 3⟩)
              have B0 := Lib.hid (KB.out.below (Below.refl _ W0).drew)
              have S0 := Lib.hid (SX.out _ _ _ B0.out)
              go_region_held3 (fun w' => w'.cell? ⟨wr.heap.size, 5, none⟩ = some (.slice AB bl cB) ∧ w'.cell? ⟨wr.heap.size, 3, none⟩ = some (.int .i64 nn)) (first
                | (with_reducible exact S6.out)
                | (with_reducible exact S5.out)
                | (with_reducible exact S0.out)
                | fail)
                (first
                | (go_at_call 28; refine (brput s' rr (by decide +kernel) (.slice AB bl cB) bs OK.out.by_ BLL.out H5.out (OB.out _ H5.out.bel).1 HD.out).mono ?_; rintro e w6 ⟨rfl, h6⟩; have H6 := Lib.hid h6; have S6 := Lib.hid (SX.out _ _ _ h6); clear h6)
                | (go_at_call 27; refine (bput s' rr nm_state (.slice AB bl cB) bs OK.out.by_ BLL.out B0.out (OB.out _ B0.out.bel).1 HD.out).mono ?_; rintro e w5 ⟨rfl, h5⟩; have H5 := Lib.hid h5; have S5 := Lib.hid (SX.out _ _ _ h5); clear h5))
              have OBB := Lib.hid (show Both [] _ _ _ _ _ _ _ _ from H6.out.mono (by simp))
              obtain ⟨OST, hOST⟩ : ∃ OST, OST = s' := ⟨_, rfl⟩
              rw [← hOST] at OBB
              clear hOST
              by_cases hz : (openS OST).2.2 = 0
              · obtain ⟨ot, ov, hov⟩ : ∃ ot ov, openS OST = (ot, ov, 0) := ⟨_, _, Prod.ext rfl (Prod.ext rfl hz)⟩
                have OV := Lib.hid hov
                clear hz hov
                go_wp2_with fail
                refine (bopen_ok OBB.out OV.out TT.out HZ.out).mono ?_
                rintro e w7 ⟨p7, rfl, h7, hp7⟩
                have P7 := Lib.hid (Nat.le_trans OBB.out.le hp7)
                have B7 := Lib.hid h7
                clear h7 hp7
                go_wp2_with fail
                refine (bropen_ok B7.out OV.out).mono ?_
                rintro e w8 ⟨q8, rfl, h8, hq8⟩
                have B8 := Lib.hid h8
                have Q8 := Lib.hid (Nat.le_trans B7.out.le hq8)
                have N8 := Lib.hid (show p7 ≠ q8 from fun e => by
                  have := lt_of_heap (B7.out.keep (p7, prO (ot : Nat) (ov : Nat) _ false) (List.mem_cons_self ..))
                  omega)
                have Z8 := Lib.hid (show ot < 18446744073709551616 ∧ ov < 256 from by
                  obtain ⟨R, h1, h2, h3, h4⟩ := OBB.out
                  exact openS_bound h4 OV.out)
                clear h8 hq8
                go_wp2
                go_meet
                exact ⟨OST, 0, rfl, rfl, .inr ⟨p7, q8, ot, ov, false, rfl, rfl, N8.out, P7.out, Q8.out, Z8.out.1, Z8.out.2, B8.out.mono (by simp)⟩⟩
              · obtain ⟨oe, hoe⟩ : ∃ oe, (openS OST).2.2 = oe := ⟨_, rfl⟩
                rw [hoe] at hz
                have OE := Lib.hid hoe
                have HNE := Lib.hid hz
                clear hz hoe
                go_wp2_with fail
                refine (bopen_bad OBB.out OE.out HNE.out TT.out HZ.out).mono ?_
                rintro e w7 ⟨rfl, h7⟩
                have B7 := Lib.hid h7
                clear h7
                go_wp2_with fail
                refine (bropen_bad B7.out OE.out HNE.out).mono ?_
                rintro e w8 ⟨rfl, h8⟩
                have B8 := Lib.hid h8
                clear h8
                go_wp2
                go_meet
                exact ⟨OST, oe, rfl, rfl, .inl ⟨rfl, rfl, B8.out.mono (by simp)⟩⟩
          · have h5b : (k8 == 5) = false := beq_eq_false_iff_ne.2 h5
            have h6b : (k8 == 6) = false := beq_eq_false_iff_ne.2 h6
            have h7b : (k8 == 7) = false := beq_eq_false_iff_ne.2 h7
            clear h5 h6 h7
            rcases PR.out with ⟨s2, er2, e6, e8, ⟨rfl, rfl, hB⟩ | ⟨p2, q2, T2, V2, lost, rfl, rfl, hpq, hp2, hq2, hT2, hV2, hB⟩⟩
            · clear e6 e8 hB
              go_wp2
              go_roundg (n - (i + 1))
              case measure => have := G.out; omega
              case rel => exact ⟨i + 1, by omega, by omega, by go_num, BACK.out _ _ (KB.out.mono (fun p hp => List.mem_cons_of_mem _ hp))⟩
            · injection e6 with _ e6
              subst e6
              clear e8
              have KQ := Lib.hid (show Both [(p2, prO (T2 : Nat) (V2 : Nat) (w1.heap.size + 1) lost), (q2, .cells (rpI m (T2 : Nat) (V2 : Nat) lost) 81 (0, 0)), (wr.heap.size, .cells #[.int .u8 kd, .int .u64 (TX : Nat), .int .u8 (VX : Nat), .int .i64 nn, .slice AL ll cL, .slice AB bl cB] 76 (0, 0))] w1.heap.size w1 (wr.alloc (.cells #[.int .u8 kd, .int .u64 (TX : Nat), .int .u8 (VX : Nat), .int .i64 nn, .slice AL ll cL, .slice AB bl cB] 76)) (w1.heap.size + 1) m stN s2 s2 from (hB.put (below_alloc_ _ _) (Nat.le_refl _) (heap_alloc_new _ _)).mono (by intro x hx; simp at hx ⊢; rcases hx with rfl | rfl | rfl <;> simp))
              have QF := Lib.hid (And.intro hpq (And.intro hp2 (And.intro hq2 (And.intro hT2 hV2))))
              have QN := Lib.hid (show wr.heap.size ≠ p2 ∧ wr.heap.size ≠ q2 from by
                have h1 := lt_of_heap (hB.keep (p2, prO (T2 : Nat) (V2 : Nat) (w1.heap.size + 1) lost) (by simp))
                have h2 := lt_of_heap (hB.keep (q2, .cells (rpI m (T2 : Nat) (V2 : Nat) lost) 81 (0, 0)) (by simp))
                omega)
              have SX := Lib.hid (fun (Y : List (Nat × Obj)) (u : World) (sd sm : Dst) (hY : (wr.heap.size, .cells #[.int .u8 kd, .int .u64 (TX : Nat), .int .u8 (VX : Nat), .int .i64 nn, .slice AL ll cL, .slice AB bl cB] 76 (0, 0)) ∈ Y) (hu : Both Y w1.heap.size w1 u (w1.heap.size + 1) m stN sd sm) =>
                show u.cell? ⟨wr.heap.size, 2, none⟩ = some (.int .u8 (VX : Nat)) from by
                  have k := (show Blk u wr.heap.size 76 #[.int .u8 kd, .int .u64 (TX : Nat), .int .u8 (VX : Nat), .int .i64 nn, .slice AL ll cL, .slice AB bl cB] from hu.keep (_, _) hY)
                  exact k.cell 2)
              have kq := (show Blk (wr.alloc (.cells #[.int .u8 kd, .int .u64 (TX : Nat), .int .u8 (VX : Nat), .int .i64 nn, .slice AL ll cL, .slice AB bl cB] 76)) q2 81 (rpI m (T2 : Nat) (V2 : Nat) lost) from KQ.out.keep (_, _) (by simp)).cell 1
              simp only [rpI, List.getElem?_toArray, List.getElem?_cons_zero, List.getElem?_cons_succ] at kq
              obtain ⟨T1, hT1⟩ : ∃ T1 : Nat, IntKind.u64.wrap ((T2 : Int) + (TX : Int) % 3) = (T1 : Int) := ⟨(IntKind.u64.wrap ((T2 : Int) + (TX : Int) % 3)).toNat, by rw [IntKind.wrap_u64]; omega⟩
              have T1B := Lib.hid (show T1 < 18446744073709551616 from by rw [IntKind.wrap_u64] at hT1; omega)
              clear hB hpq hp2 hq2 hT2 hV2 c0 c1 c2 c3 c4 c5
              go_upto_region 15 with fail
              go_quiet (fail)
              by_cases h9 : nn.tmod 9 = 0
              · have h9' : (nn.tmod 9 == 0) = true := by simpa using h9
                go_upto_region 18 with fail
                obtain ⟨r1, t1, v1, l1, s1, hS⟩ : ∃ r1 t1 v1 l1 s1, setS (T2 : Nat) (V2 : Nat) lost s2 TX VX = (r1, t1, v1, l1, s1) := ⟨_, _, _, _, _, rfl⟩
                obtain ⟨a1, b1, rfl, rfl, ha1, hb1⟩ := setS_nat QF.out.2.2.2.1 QF.out.2.2.2.2 (TXB.out.1) TXB.out.2 hS
                have HS := Lib.hid hS
                have AB1 := Lib.hid (And.intro ha1 hb1)
                clear hS ha1 hb1
                have B0 := Lib.hid (KQ.out.below ((below_drewN_ _ _ nq).trans (Below.refl _ _).drew))
                have S0 := Lib.hid (SX.out _ _ _ _ (by simp) B0.out)
                go_region_held3 (fun w' => w'.cell? ⟨wr.heap.size, 2, none⟩ = some (.int .u8 (VX : Nat))) (first
                  | (with_reducible exact S6.out)
                  | (with_reducible exact S5.out)
                  | (with_reducible exact S0.out)
                  | fail)
                  (first
                  | (go_at_call 30; refine (brset TX VX (show Both [(q2, .cells (rpI m (T2 : Nat) (V2 : Nat) lost) 81 (0, 0)), (p2, prO (a1 : Nat) (b1 : Nat) (w1.heap.size + 1) l1), (wr.heap.size, .cells #[.int .u8 kd, .int .u64 (TX : Nat), .int .u8 (VX : Nat), .int .i64 nn, .slice AL ll cL, .slice AB bl cB] 76 (0, 0))] _ _ _ _ _ _ _ _ from H5.out.mono (by intro x hx; simp at hx ⊢; rcases hx with rfl | rfl | rfl <;> simp)) (by intro x hx; simp at hx; rcases hx with rfl | rfl; exact QF.out.1; exact QN.out.2) QF.out.2.2.1 (TXB.out.1) TXB.out.2 r1 (a1 : Nat) (b1 : Nat) l1 s1 HS.out).mono ?_; rintro e w6 ⟨rfl, h6⟩; have H6 := Lib.hid h6; have S6 := Lib.hid (SX.out _ _ _ _ (by simp) h6); clear h6)
                  | (go_at_call 29; refine (bset TX VX B0.out (by intro x hx; simp at hx; rcases hx with rfl | rfl; exact QF.out.1.symm; exact QN.out.1) QF.out.2.1 HZ.out TT.out (TXB.out.1) TXB.out.2 r1 (a1 : Nat) (b1 : Nat) l1 s1 HS.out).mono ?_; rintro e w5 ⟨rfl, h5⟩; have H5 := Lib.hid h5; have S5 := Lib.hid (SX.out _ _ _ _ (by simp) h5); clear h5))
                go_wp2
                go_meet
                exact ⟨s1, er, rfl, rfl, .inr ⟨p2, q2, a1, b1, l1, rfl, rfl, QF.out.1, QF.out.2.1, QF.out.2.2.1, AB1.out.1, AB1.out.2, H6.out.mono (by intro x hx; simp at hx ⊢; rcases hx with rfl | rfl <;> simp)⟩⟩
              · have h9' : (nn.tmod 9 == 0) = false := by simpa using h9
                clear h9
                go_upto_region 18 with fail
                obtain ⟨r1, t1, v1, l1, s1, hS⟩ : ∃ r1 t1 v1 l1 s1, setS (T2 : Nat) (V2 : Nat) lost s2 T1 VX = (r1, t1, v1, l1, s1) := ⟨_, _, _, _, _, rfl⟩
                obtain ⟨a1, b1, rfl, rfl, ha1, hb1⟩ := setS_nat QF.out.2.2.2.1 QF.out.2.2.2.2 (T1B.out) TXB.out.2 hS
                have HS := Lib.hid hS
                have AB1 := Lib.hid (And.intro ha1 hb1)
                clear hS ha1 hb1
                have B0 := Lib.hid (KQ.out.below ((below_drewN_ _ _ nq).trans (Below.refl _ _).drew))
                have S0 := Lib.hid (SX.out _ _ _ _ (by simp) B0.out)
                go_region_held3 (fun w' => w'.cell? ⟨wr.heap.size, 2, none⟩ = some (.int .u8 (VX : Nat))) (first
                  | (with_reducible exact S6.out)
                  | (with_reducible exact S5.out)
                  | (with_reducible exact S0.out)
                  | fail)
                  (first
                  | (go_at_call 30; refine (brset T1 VX (show Both [(q2, .cells (rpI m (T2 : Nat) (V2 : Nat) lost) 81 (0, 0)), (p2, prO (a1 : Nat) (b1 : Nat) (w1.heap.size + 1) l1), (wr.heap.size, .cells #[.int .u8 kd, .int .u64 (TX : Nat), .int .u8 (VX : Nat), .int .i64 nn, .slice AL ll cL, .slice AB bl cB] 76 (0, 0))] _ _ _ _ _ _ _ _ from H5.out.mono (by intro x hx; simp at hx ⊢; rcases hx with rfl | rfl | rfl <;> simp)) (by intro x hx; simp at hx; rcases hx with rfl | rfl; exact QF.out.1; exact QN.out.2) QF.out.2.2.1 (T1B.out) TXB.out.2 r1 (a1 : Nat) (b1 : Nat) l1 s1 HS.out).mono ?_; rintro e w6 ⟨rfl, h6⟩; have H6 := Lib.hid h6; have S6 := Lib.hid (SX.out _ _ _ _ (by simp) h6); clear h6)
                  | (go_at_call 29; refine (bset T1 VX B0.out (by intro x hx; simp at hx; rcases hx with rfl | rfl; exact QF.out.1.symm; exact QN.out.1) QF.out.2.1 HZ.out TT.out (T1B.out) TXB.out.2 r1 (a1 : Nat) (b1 : Nat) l1 s1 HS.out).mono ?_; rintro e w5 ⟨rfl, h5⟩; have H5 := Lib.hid h5; have S5 := Lib.hid (SX.out _ _ _ _ (by simp) h5); clear h5))
                go_wp2
                go_meet
                exact ⟨s1, er, rfl, rfl, .inr ⟨p2, q2, a1, b1, l1, rfl, rfl, QF.out.1, QF.out.2.1, QF.out.2.2.1, AB1.out.1, AB1.out.2, H6.out.mono (by intro x hx; simp at hx ⊢; rcases hx with rfl | rfl <;> simp)⟩⟩
        case rest =>
          obtain ⟨s3, er3, rfl, rfl, hst⟩ := hcut
          clear c0 c1 c2 c3 c4 c5
          rcases hst with ⟨rfl, rfl, hB⟩ | ⟨p3, q3, T3, V3, l3, rfl, rfl, hpq, hp3, hq3, hT3, hV3, hB⟩
          · have HB := Lib.hid hB
            clear hB
            go_wp2_with fail
            refine (same_any HB.out nm_state (by decide +kernel)).mono ?_
            rintro e w5 ⟨rfl, hb⟩
            have HB5 := Lib.hid (HB.out.below hb)
            clear hb
            go_upto_region 34 with fail
            go_quiet (fail)
            go_wp2
            go_roundg (n - (i + 1))
            case measure => have := G.out; omega
            case rel => exact ⟨i + 1, by omega, by omega, by go_num, s3, er3, rfl, rfl, .inl ⟨rfl, rfl, HB5.out.below (below_drewN_ _ _ _)⟩⟩
          · have HB := Lib.hid hB
            have FX := Lib.hid (And.intro hpq (And.intro hp3 (And.intro hq3 (And.intro hT3 hV3))))
            clear hB hpq hp3 hq3 hT3 hV3
            go_wp2_with fail
            refine (same_any HB.out nm_state (by decide +kernel)).mono ?_
            rintro e w5 ⟨rfl, hb⟩
            have HB5 := Lib.hid (HB.out.below hb)
            have kq := (show Blk w5 q3 81 (rpI m (T3 : Nat) (V3 : Nat) l3) from HB5.out.keep (_, _) (by simp))
            have kp := Lib.hid (show Blk w5 p3 114 (prC (T3 : Nat) (V3 : Nat) (.pointer (some ⟨w1.heap.size + 1, 0, none⟩)) l3) from HB5.out.keep (p3, prO (T3 : Nat) (V3 : Nat) (w1.heap.size + 1) l3) (by simp))
            have k1 := kq.cell 1
            have k2 := kq.cell 2
            simp only [rpI, List.getElem?_toArray, List.getElem?_cons_zero, List.getElem?_cons_succ] at k1 k2
            clear hb kq
            go_upto_region 34 with fail
            go_quiet (first
              | (go_at_call 32; exact quiet_left_ (term_any p3 _ _ _ _ _ (kp.out.drewN _)))
              | (go_at_call 33; exact quiet_left_ (vote_any p3 _ _ _ _ _ (kp.out.drewN _))))
            go_wp2
            go_roundg (n - (i + 1))
            case measure => have := G.out; omega
            case rel => exact ⟨i + 1, by omega, by omega, by go_num, s3, er3, rfl, rfl, .inr ⟨p3, q3, T3, V3, l3, rfl, rfl, FX.out.1, FX.out.2.1, FX.out.2.2.1, FX.out.2.2.2.1, FX.out.2.2.2.2, HB5.out.below (below_drewN_ _ _ _)⟩⟩
      · obtain rfl : i = n := by omega
        go_wp2_with fail
        refine (slives _ (TT.out.bel HZ.out BEL.out) (Nat.lt_of_lt_of_le HZ.out BEL.out.size)).mono ?_
        rintro e w3 ⟨rfl, hb⟩
        have HB := Lib.hid hb
        clear hb
        go_wp2
        go_ret
        exact ⟨rfl, BEL.out.trans (HB.out.mono BEL.out.size)⟩
end Go.Proofs.YtnegondlkfeleaaDoor
