/- shots.read at a shot's file. -/
import Derived.Test.YtglghlfmjokgdaaDoorRdR
import Derived.Test.YtglghlfmjokgdaaDoorTak
import Derived.Test.YtglghlfmjokgdaaDoorAls
namespace Go.Proofs.YtglghlfmjokgdaaDoor
open Go.RowKit

theorem rdF_shot (T V : Nat) (xs : List Int) (hT : T < 18446744073709551616) (hV : V < 18446744073709551616) : rdF (shotB T V xs) = ((nb T ++ nb V) :: (List.range (parts xs)).map (part xs), (shotB T V xs).length) := by
  unfold shotB
  rw [fileK_frames]
  exact rdF_frames _ (fun l hl => by
    rcases List.mem_cons.1 hl with rfl | hl
    · have := head_len T V hT hV; omega
    · obtain ⟨j, -, rfl⟩ := List.mem_map.1 hl
      rw [part_len]; omega)
theorem take_parts (xs : List Int) : xs.take (4096 * parts xs) = xs := List.take_of_length_le (by unfold parts; omega)
theorem Ow.row_ {B e size n : Nat} {w : World} {v : Value} {xs : List Value} (h : Ow B w e size v n xs) {k : Nat} (hk : v.ownBlock = some k) : B ≤ k ∧ ∃ cur, Blk w k e cur := h.row hk
theorem read_step {w2 wr w3 : World} {N : Nat} {a b sv v' : Value} {xs ys : List Int} (hN : N < w2.heap.size) (hg : w2.grownBy wr (some N)) (hb : Bo w2.heap.size wr sv xs) (hG : Grew wr w3 sv v') (hk : Blk wr N 25 #[a, b, sv]) (ho : Bo w2.heap.size w3 v' ys) :
    w2.grownBy (w3.setCell ⟨N, 2, none⟩ v') (some N) ∧ Blk (w3.setCell ⟨N, 2, none⟩ v') N 25 #[a, b, v'] ∧ Bo w2.heap.size (w3.setCell ⟨N, 2, none⟩ v') v' ys := by
  have k3 := hk.of_grew hb hG (.inl (by decide))
  have h3 : w2.grownBy w3 (some N) := ⟨hG.1.os.trans hg.os, hG.1.tape.trans hg.tape, hG.1.output.trans hg.output, Nat.le_trans hg.size hG.1.size, fun i hi hne => (hG.1.block i (Nat.lt_of_lt_of_le hi hg.size) fun e => by
    have := (hb.row e.symm).1; omega).trans (hg.block i hi hne)⟩
  exact ⟨grown_trans_ h3 (grown_set_ w3 N 2 v'), k3.set_ 2 _, Ow.aside ho k3 (by decide) 2 _⟩
/-- What frames.Read gave, read. -/
theorem rds_at {N : Nat} {w : World} {g c : Nat} {ys : List Bod} {ls : List (List Int)} (ho : Ow N w 23 1 (.slice (some ⟨g, 0, none⟩) ys.length c) ys.length (ys.map bodV)) (hR : Rds N w ys ls) (j : Nat) (hj : j < ls.length) :
    ∃ A, w.cell? ⟨g, j, none⟩ = some (.slice A ls[j].length ls[j].length) ∧ Bo N w (.slice A ls[j].length ls[j].length) ls[j] := by
  have hl := hR.len
  have hb := hR.at_ j (by omega) hj
  obtain ⟨A0, c0, hv, hc0, -⟩ := hb.clip
  unfold bodV at hv
  injection hv with _ ee _
  refine ⟨ys[j].1, ?_, by unfold bodV at hb; rwa [ee] at hb⟩
  rcases ho with ⟨e, -⟩ | ⟨g', c', cur, e, -, hk, -, -, -, hcur⟩
  · cases e
  · injection e with e1 e2 e3
    injection e1 with e1
    injection e1 with e1 _
    subst e1
    rw [hk.cell]
    have h1 : (ys.map bodV)[j]? = some (bodV ys[j]) := by rw [List.getElem?_map, List.getElem?_eq_getElem (by omega)]; rfl
    rw [← hcur, List.getElem?_take, if_pos (by omega)] at h1
    rw [← Array.getElem?_toList, h1]
    unfold bodV
    rw [ee]

theorem shot_size : (Tryd.prog.info? 25).map (·.size) = some 3 := by kernel_rfl
theorem results_ct {fn : Func} (h : fn.results = #[.cell 2 25, .tmp 3]) (tmps : Array Value) (w : World) (g : Nat) (a b c v3 : Value) (hk : Blk w g 25 #[a, b, c]) (h2 : tmps.getD 2 undef = .pointer (some ⟨g, 0, none⟩)) (h3 : tmps.getD 3 undef = v3) :
    (results fn tmps).run Tryd.prog w = .ok (.tuple #[.agg #[a, b, c], v3]) w := by
  have hr := run_loadVar_row (P := Tryd.prog) w g 25 25 #[a, b, c] (0, 0) _ hk Tryd.underlying25 rfl shot_size
  rw [results_cell_tmp h, h2, h3]
  simp [asAddr, hr, Result.andThen]
theorem read_end {w2 wr : World} {N : Nat} {a b sv : Value} {xs : List Int} (hg : w2.grownBy wr (some N)) (hb : Bo w2.heap.size wr sv xs) (hk : Blk wr N 25 #[a, b, sv]) :
    let Z := ((wr.setCell ⟨N, 0, none⟩ a).setCell ⟨N, 1, none⟩ b).setCell ⟨N, 2, none⟩ sv
    Blk Z N 25 #[a, b, sv] ∧ Bo w2.heap.size Z sv xs ∧ w2.grownBy Z (some N) := by
  intro Z
  have k1 := hk.set_ 0 a
  have k2 := k1.set_ 1 b
  exact ⟨k2.set_ 2 sv, ((Ow.aside hb hk (by decide) 0 a).aside k1 (by decide) 1 b).aside k2 (by decide) 2 sv,
    grown_trans_ hg (grown_trans_ (grown_set_ wr N 0 a) (grown_trans_ (grown_set_ _ N 1 b) (grown_set_ _ N 2 sv)))⟩

set_option maxRecDepth 100000 in
set_option maxHeartbeats 400000 in
theorem sread_ok (T V : Nat) (xs : List Int) (A : Option Addr) (c : Nat) (w : World) (hT : T < 18446744073709551616) (hV : V < 18446744073709551616) (hxl : xs.length ≤ 65536) (hby : ∀ c ∈ xs, byt c) (TB : Tab w)
    (h : Bs w (.slice A (shotB T V xs).length c) (shotB T V xs)) :
    Calls Tryd.prog 41 #[.slice A (shotB T V xs).length c] w fun e w' => ∃ A' c', e = .returned (.tuple #[.agg #[.int .u64 T, .int .u64 V, .slice A' xs.length c'], .bool true]) ∧ Bo w.heap.size w' (.slice A' xs.length c') xs ∧ Below w.heap.size w w' := by
  obtain ⟨bs, hbs⟩ : ∃ bs, bs = shotB T V xs := ⟨_, rfl⟩
  have hF := rdF_shot T V xs hT hV
  have hbl : bs.length ≤ 2000000 := by rw [hbs]; exact shotB_len hT hV (by omega)
  have hbb : ∀ c ∈ bs, byt c := by rw [hbs]; exact fileK_byt T V hby _
  rw [← hbs] at h hF ⊢
  have hbp : bs.length ≠ 0 := by
    intro e
    have e0 : bs = [] := List.eq_nil_of_length_eq_zero e
    rw [e0, rdF_bad getF_none] at hF
    exact List.cons_ne_nil _ _ (congrArg Prod.fst hF).symm
  have hk0 := Blk.new w 25 #[.int .u64 0, .int .u64 0, .slice none 0 0]
  have b0 := below_alloc_ w (.cells #[.int .u64 0, .int .u64 0, .slice none 0 0] 25)
  have FR := Lib.hid (fread_any bs A c (w.alloc (.cells #[.int .u64 0, .int .u64 0, .slice none 0 0] 25)) hbb (by omega) (TB.below b0) (h.below b0) (fun e => absurd e hbp))
  rw [hF] at FR
  have K0 := Lib.hid hk0
  have B0 := Lib.hid b0
  have BY := Lib.hid hby
  have XL := Lib.hid hxl
  have HT := Lib.hid hT
  have HV := Lib.hid hV
  have hbl' : (bs.length : Int) ≤ 2000000 := by omega
  obtain ⟨L, hL⟩ : ∃ L, L = bs.length := ⟨_, rfl⟩
  rw [← hL] at hbl' FR ⊢
  clear hF hbs h TB hbl hbb hbp hk0 b0 hby hxl hT hV hL
  go_enter Tryd.func41, Tryd.ntmps41
  go_wp2_with fail
  refine FR.out.mono ?_
  rintro e w2 ⟨P, ys, rfl, hO, hR, b2⟩
  have N2 := Lib.hid (show w.heap.size < w2.heap.size from by have := b2.size; simp at this; omega)
  have BW := Lib.hid (bch B0.out b2)
  have kn := K0.out.below b2 K0.out.lt
  obtain ⟨g, rfl⟩ : ∃ g, P = some ⟨g, 0, none⟩ := by
    have hl := hR.len
    rcases hO with ⟨-, h0, -⟩ | ⟨g, _, _, e, -⟩
    · rw [h0] at hl; cases hl
    · injection e with e; exact ⟨g, e⟩
  have AT := Lib.hid (fun wr (hg : w2.grownBy wr (some w.heap.size)) j hj => rds_at (hO.grown hg kn (by decide)) (hR.kb fun g cs hb => hb.grown hg (fun e => Blk.ne_ hb kn (by decide) (by injection e))) j hj)
  obtain ⟨M, hM⟩ : ∃ M, M = ys.length := ⟨_, rfl⟩
  have hMK : M = parts xs + 1 := by rw [hM, hR.len]; simp
  rw [← hM]
  have KN := Lib.hid kn
  obtain ⟨A0, d0, h0⟩ : ∃ A, w2.cell? ⟨g, 0, none⟩ = some (.slice A (nb T ++ nb V).length (nb T ++ nb V).length) ∧ Bo _ w2 (.slice A (nb T ++ nb V).length (nb T ++ nb V).length) (nb T ++ nb V) := AT.out w2 (grown_refl_ _ _) 0 (by simp)
  have hn1 := nb_ten HT.out
  have hnV := nb_ten HV.out
  have hn1p := nb_len_pos T
  have hnVp := nb_len_pos V
  have TK1 := Take_any _ (nb T ++ nb V) w2 h0.bs (fun c hc => by rcases List.mem_append.1 hc with hc | hc <;> exact nb_byt _ c hc) (by rw [List.length_append]; omega)
  rw [tk_nb HT.out] at TK1
  obtain ⟨g0, o0, rfl⟩ : ∃ g0 o0, A0 = some ⟨g0, o0, none⟩ := h0.bs.some_ (by rw [List.length_append]; omega)
  have h5 := h0.bs.sub (nb T).length (nb V).length (nb V).length (by rw [List.length_append]; omega) (Nat.le_refl _)
  rw [List.drop_left, List.take_length] at h5
  have TK2 := Take_any _ (nb V) w2 h5 (nb_byt V) (by omega)
  rw [show nb V = nb V ++ [] from (List.append_nil _).symm, tk_nb HV.out, List.append_nil] at TK2
  rw [List.length_append] at d0 TK1
  obtain ⟨n1, e1⟩ : ∃ n, n = (nb T).length := ⟨_, rfl⟩
  obtain ⟨nV, eV⟩ : ∃ n, n = (nb V).length := ⟨_, rfl⟩
  rw [← e1] at d0 TK1 TK2 hn1 hn1p
  rw [← eV] at d0 TK1 TK2 hnV hnVp
  obtain ⟨n0, e0⟩ : ∃ n, n = n1 + nV := ⟨_, rfl⟩
  rw [← e0] at d0 TK1
  have T1 := Lib.hid TK1
  have T2 := Lib.hid TK2
  have z1 : (n1 : Int) ≤ 10 := by omega
  have z2 : (nV : Int) ≤ 10 := by omega
  have z3 : ¬ (n1 : Int) = 0 := by omega
  have z4 : ¬ (nV : Int) = 0 := by omega
  have zb1 : ((n1 : Int) == 0) = false := by simp; omega
  have zb2 : ((nV : Int) == 0) = false := by simp; omega
  have z5 : (n1 : Int) + (nV : Int) = (n0 : Int) := by omega
  have z6 : (n1 : Int) ≤ (n0 : Int) := by omega
  have z7 : ¬ n0 = n1 := by omega
  have z8 : n0 - n1 = nV := by omega
  have z9 : (0 : Int) < (M : Int) := by omega
  have z10 : ¬ (M : Int) = 0 := by omega
  have MK := Lib.hid hMK
  have RK := Lib.hid (show parts xs ≤ 17 from by have := XL.out; unfold parts; omega)
  clear hO hR b2 kn hM hMK h0 hn1 hnV hn1p hnVp TK1 TK2 e1 eV e0 h5
  go_wp2_with fail
  refine T1.out.mono ?_
  rintro e w' ⟨rfl, rfl⟩
  go_wp2_with fail
  refine T2.out.mono ?_
  rintro e w' ⟨rfl, rfl⟩
  have q0 := KN.out.cell 0
  have q1 := KN.out.cell 1
  have q2 := KN.out.cell 2
  have f0 := KN.out.free 0
  have f1 := KN.out.free 1
  have f2 := KN.out.free 2
  simp at q0 q1 q2
  go_upto_region 9 with fail
  have K8 := Lib.hid ((KN.out.set_ 0 (.int .u64 T)).set_ 1 (.int .u64 V))
  have G8 := Lib.hid (grown_trans_ (grown_set_ w2 w.heap.size 0 (.int .u64 T)) (grown_set_ _ w.heap.size 1 (.int .u64 V)))
  generalize (w2.setCell ⟨w.heap.size, 0, none⟩ (.int .u64 T)).setCell ⟨w.heap.size, 1, none⟩ (.int .u64 V) = W8 at *
  clear q0 q1 q2 f0 f1 f2 d0
  have K8' := Lib.hid (show Blk W8 w.heap.size 25 #[.int .u64 T, .int .u64 V, .slice none 0 0] from K8.out)
  clear K8
  have FIN : ∀ (wr : World) (n : Nat) (sv : Value), Blk wr w.heap.size 25 #[.int .u64 T, .int .u64 V, sv] → Bo w2.heap.size wr sv xs → w2.grownBy wr (some w.heap.size) →
      ∃ A' c', sv = .slice A' xs.length c' ∧ Bo w.heap.size wr (.slice A' xs.length c') xs ∧ Below w.heap.size w wr := by
    intro wr n sv hk hb hg
    obtain ⟨A', c', rfl, -, -⟩ := hb.clip
    exact ⟨A', c', rfl, Bo.le hb (by have := N2.out; omega), (below_grown_ BW.out hg (by have := N2.out; omega) (Nat.le_refl _))⟩
  have FN := Lib.hid FIN
  clear FIN
  by_cases hp : parts xs = 0
  · have hM1 : M = 1 := by have := MK.out; omega
    subst hM1
    go_wp2_with fail
    have hxs : xs = [] := List.eq_nil_of_length_eq_zero (by unfold parts at hp; omega)
    go_loopw [68] (fun i wr => i = .int .i64 0 ∧ wr = W8) (fun _ _ => 0)
    case atStart => exact ⟨rfl, rfl⟩
    case round =>
      obtain ⟨rfl, rfl⟩ := hrel
      have r0 := K8'.out.cell 0
      have r1 := K8'.out.cell 1
      have r2 := K8'.out.cell 2
      have f0 := K8'.out.free 0
      have f1 := K8'.out.free 1
      have f2 := K8'.out.free 2
      simp at r0 r1 r2
      have EN := Lib.hid (read_end (xs := xs) G8.out (by rw [hxs]; exact Bo.nil_ _ _) K8'.out)
      clear hxs hp
      go_wp2
      obtain ⟨y1, y2, y3⟩ := EN.out
      obtain ⟨A', c', e, h1, h2⟩ := FN.out _ 0 _ y1 y2 y3
      refine bodyPost_ret (results_ct rfl _ _ _ _ _ _ (.bool true) y1 rfl rfl) rfl ?_
      exact ⟨A', c', by rw [e], h1, h2⟩
  · have z11 : ¬ (M : Int) = 1 := by have := MK.out; omega
    have z12 : ¬ M = 1 := by have := MK.out; omega
    have z13 : (1 : Int) ≤ (M : Int) := by omega
    go_wp2_with fail
    go_loopw [68] (fun i wr => ∃ (k : Nat) (sv : Value), i = .int .i64 (k : Int) ∧ k ≤ parts xs ∧ Blk wr w.heap.size 25 #[.int .u64 T, .int .u64 V, sv] ∧ Bo w2.heap.size wr sv (xs.take (4096 * k)) ∧ w2.grownBy wr (some w.heap.size)) (fun i _ => parts xs - (intOf i).toNat)
    case atStart => exact ⟨0, _, rfl, Nat.zero_le _, K8'.out, by rw [Nat.mul_zero, List.take_zero]; exact Bo.nil_ _ _, G8.out⟩
    case round =>
      obtain ⟨k, sv, rfl, hk, hK, hB, hG⟩ := hrel
      have KK := Lib.hid hK
      have BB := Lib.hid hB
      have GG := Lib.hid hG
      by_cases hlt : k < parts xs
      · obtain ⟨Ak, dk, hb⟩ : ∃ A, wr.cell? ⟨g, 1 + k, none⟩ = some (.slice A (part xs k).length (part xs k).length) ∧ Bo _ wr (.slice A (part xs k).length (part xs k).length) (part xs k) := by
          have := AT.out wr hG (k + 1) (by simp; omega)
          simpa [Nat.add_comm] using this
        have YB := Lib.hid hb.bs
        have hml := part_len xs k
        have hpk := parts_lt hlt
        have hmx := XL.out
        have HS := Lib.hid (show (xs.take (4096 * k)).length + (part xs k).length ≤ 140737488355328 from by rw [List.length_take]; omega)
        have BF := Lib.hid (show Bf w2.heap.size wr wr sv (xs.take (4096 * k)) from ⟨hB, Below.refl _ _, hG.size⟩)
        obtain ⟨mk, hmk⟩ : ∃ m, m = (part xs k).length := ⟨_, rfl⟩
        rw [← hmk] at dk hml
        have HM := Lib.hid hmk
        have hle : 4096 * (k + 1) ≤ xs.length ∨ k + 1 = parts xs := by
          rcases Nat.lt_or_ge (k + 1) (parts xs) with h | h
          · have := parts_lt h; omega
          · right; omega
        have q1 : (k : Int) < ((M - 1 : Nat) : Int) := by have := MK.out; omega
        have q2 : k < M - 1 := by have := MK.out; omega
        have q3 : (M : Int) ≤ 18 := by have := MK.out; have := RK.out; omega
        have q4 : ((mk : Int) == 0) = false := by simp; omega
        have q5 : ¬ (4096 : Int) < (mk : Int) := by omega
        obtain ⟨As, cs, esv, -, -⟩ := hB.clip
        obtain ⟨n, hn⟩ : ∃ n, n = (xs.take (4096 * k)).length := ⟨_, rfl⟩
        rw [← hn] at esv
        subst esv
        clear hn
        have r0 := hK.cell 0
        have r1 := hK.cell 1
        have r2 := hK.cell 2
        have f0 := hK.free 0
        have f1 := hK.free 1
        have f2 := hK.free 2
        simp at r0 r1 r2
        have LT := Lib.hid hlt
        have e10 := YB.out
        rw [← HM.out] at e10
        have YC := Lib.hid e10
        by_cases hlast : k + 1 = parts xs
        · have q6 : ((k : Int) == (M : Int) - 2) = true := by have := MK.out; simp; omega
          clear hml hpk hmx hle hlt hK hB hG hp hk hlast hb hmk e10
          go_wp2_with (at_builtin; refine wpList_bf_bytesK rfl _ _ 23 rfl Tryd.underlying23 rfl BF.out YC.out rfl HS.out ?_; intro v2 w3 hB2 hG2; obtain ⟨A2, n2, c2, rfl⟩ := hB2.own.sl; have KX := Lib.hid (KK.out.of_grew BB.out hG2 (.inl (by decide))); have BX := Lib.hid hB2; have GX := Lib.hid hG2; have r22 := KX.out.cell 2; have f22 := KX.out.free 2; simp at r22; clear hB2 hG2)
          obtain ⟨y1, y2, y3⟩ := read_step N2.out GG.out BB.out GX.out KK.out BX.out.own
          rw [← take_part] at y3
          exact ⟨⟨k + 1, _, by go_num, LT.out, y2, y3, y1⟩, by have := LT.out; simp [intOf]; omega⟩
        · have q6 : ((k : Int) == (M : Int) - 2) = false := by have := MK.out; simp; omega
          obtain rfl : mk = 4096 := by omega
          clear hml hpk hmx hle hlt hK hB hG hp hk hlast hb hmk e10
          go_wp2_with (at_builtin; refine wpList_bf_bytesK rfl _ _ 23 rfl Tryd.underlying23 rfl BF.out YC.out rfl HS.out ?_; intro v2 w3 hB2 hG2; obtain ⟨A2, n2, c2, rfl⟩ := hB2.own.sl; have KX := Lib.hid (KK.out.of_grew BB.out hG2 (.inl (by decide))); have BX := Lib.hid hB2; have GX := Lib.hid hG2; have r22 := KX.out.cell 2; have f22 := KX.out.free 2; simp at r22; clear hB2 hG2)
          obtain ⟨y1, y2, y3⟩ := read_step N2.out GG.out BB.out GX.out KK.out BX.out.own
          rw [← take_part] at y3
          exact ⟨⟨k + 1, _, by go_num, LT.out, y2, y3, y1⟩, by have := LT.out; simp [intOf]; omega⟩
      · obtain rfl : k = parts xs := by omega
        obtain ⟨m, hm⟩ : ∃ m, m = parts xs := ⟨_, rfl⟩
        rw [← hm]
        have hlt1 : ¬ (m : Int) < ((M - 1 : Nat) : Int) := by have := MK.out; omega
        have hlt2 : ¬ m < M - 1 := by have := MK.out; omega
        have r0 := hK.cell 0
        have r1 := hK.cell 1
        have r2 := hK.cell 2
        have f0 := hK.free 0
        have f1 := hK.free 1
        have f2 := hK.free 2
        simp at r0 r1 r2
        rw [take_parts] at hB
        have EN := Lib.hid (read_end (xs := xs) hG hB hK)
        obtain ⟨As, cs, rfl, -, -⟩ := hB.clip
        have XLL := XL.out
        have hxl : (xs.length : Int) ≤ 65536 := by omega
        clear hK hB hG hm hp hk hlt XLL
        go_wp2
        obtain ⟨y1, y2, y3⟩ := EN.out
        obtain ⟨A', c', e, h1, h2⟩ := FN.out _ 0 _ y1 y2 y3
        refine bodyPost_ret (results_ct rfl _ _ _ _ _ _ (.bool true) y1 rfl rfl) rfl ?_
        exact ⟨A', c', by rw [e], h1, h2⟩
end Go.Proofs.YtglghlfmjokgdaaDoor
