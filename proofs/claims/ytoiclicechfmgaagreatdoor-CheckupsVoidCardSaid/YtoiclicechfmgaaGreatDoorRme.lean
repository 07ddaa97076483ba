/- The document's disk of any files: Add, Read. -/
import Derived.Test.YtoiclicechfmgaaGreatDoorRmz
namespace Go.Proofs.YtoiclicechfmgaaGreatDoor
open Go.RowKit

set_option maxHeartbeats 1000000 in
set_option maxRecDepth 100000 in
theorem mread_ref (nm : ByteArray) (m : Nat) (s : Mst) (F : List Nat) (w : World) (h : RMd w m s F) :
    Calls Tryz.prog 22 #[.pointer (some ⟨m, 0, none⟩), .string nm] w fun e w' => ∃ u, e = .returned (.tuple #[u, .int .i64 (readM s nm).2]) ∧ Bo w.heap.size w' u (readM s nm).1 ∧ Below w.heap.size w w' := by
  have AS := Lib.hid (masked_ref nm m s F w h)
  have H := Lib.hid h
  by_cases hask : ¬ askM s nm = 0
  · have E := Lib.hid (show readM s nm = ([], askM s nm) from by unfold readM; rw [if_pos hask])
    rw [E.out]
    obtain ⟨a, ha⟩ : ∃ a, a = askM s nm := ⟨_, rfl⟩
    rw [← ha] at AS hask ⊢
    have hne : (a != 0) = true := by simpa using hask
    clear h ha hask E
    go_enter Tryz.func22, Tryz.ntmps22
    go_wp2_with fail
    refine AS.out.mono ?_
    rintro e w1 ⟨rfl, rfl⟩
    go_wp2
    go_ret2
    exact ⟨_, rfl, Bo.nil_ _ _, Below.refl _ _⟩
  · have hask0 : askM s nm = 0 := by simpa using hask
    rw [hask0] at AS
    rcases pfs_find s.fs nm h.sorted with ⟨hno, GN⟩ | ⟨pre, ⟨ys, su⟩, post, hsp, hpre, GY⟩
    · have AT := Lib.hid (mat_no h hno)
      have E := Lib.hid (show readM s nm = ([], 7) from by unfold readM; rw [if_neg hask, GN])
      rw [E.out]
      clear h hask hask0 hno GN E
      go_enter Tryz.func22, Tryz.ntmps22
      go_wp2_with fail
      refine AS.out.mono ?_
      rintro e w1 ⟨rfl, rfl⟩
      go_wp2_with fail
      refine AT.out.mono ?_
      rintro e w1 ⟨rfl, rfl⟩
      go_wp2
      go_ret2
      exact ⟨_, rfl, Bo.nil_ _ _, Below.refl _ _⟩
    · have AT := Lib.hid (mat_yes h hsp hpre)
      obtain ⟨g, n, c, v, hk, hkn, hnc, h16, hgl, e1, e2, hbo, hby, hsu, hlen⟩ := h.file hsp
      have E := Lib.hid (show readM s nm = (ys, 0) from by unfold readM; rw [if_neg hask, GY])
      rw [E.out]
      have HB := Lib.hid hbo.bs
      have HX := Lib.hid hlen
      obtain ⟨k, hkp⟩ : ∃ k, k = pre.length := ⟨_, rfl⟩
      rw [← hkp] at AT e1 e2 hkn
      obtain ⟨A, cv, rfl, -⟩ := id hbo.clip
      have c0 := hk.cell 0
      simp only [rmC, List.getElem?_toArray, List.getElem?_cons_zero] at c0
      have hneg : ¬ (k : Int) < 0 := by omega
      have hk0 : (0 : Int) ≤ (k : Int) := by omega
      have hkl : (k : Int) < (n : Int) := by omega
      clear h hk hask hask0 hsp hpre GY hbo hby hsu hlen hkp e2 E
      go_enter Tryz.func22, Tryz.ntmps22
      go_wp2_with fail
      refine AS.out.mono ?_
      rintro e w1 ⟨rfl, rfl⟩
      go_wp2_with fail
      refine AT.out.mono ?_
      rintro e w1 ⟨rfl, rfl⟩
      go_wp2_with (at_builtin; refine wpList_bf_bytes rfl _ _ 22 rfl Tryz.underlying22 rfl (Bf.start_ w) HB.out rfl (by have := HX.out; simp; omega) ?_; intro v2 w2 hB2)
      go_ret2
      exact ⟨_, rfl, by have := hB2.own; rwa [List.nil_append] at this, hB2.bel⟩

set_option maxHeartbeats 4000000 in
set_option maxRecDepth 100000 in
theorem madd_ref (nm : ByteArray) (m : Nat) (s : Mst) (F : List Nat) (bv : Value) (bs : List Int) (w : World) (h : RMd w m s F) (hb : Bs w bv bs) (hby : ∀ c ∈ bs, byt c) (hl : bs.length ≤ 140737487306752) :
    Calls Tryz.prog 15 #[.pointer (some ⟨m, 0, none⟩), .string nm, bv] w fun e w' => e = .returned (.int .i64 (doesL s nm ((sizeM s nm : Nat) + (bs.length : Nat) : Int) true (fun q => some (q.1 ++ bs, q.2))).2) ∧ RMTo w F m (doesL s nm ((sizeM s nm : Nat) + (bs.length : Nat) : Int) true (fun q => some (q.1 ++ bs, q.2))).1 w' := by
  have AS := Lib.hid (masked_ref nm m s F w h)
  have H := Lib.hid h
  have HBS := Lib.hid hb
  have HBY := Lib.hid hby
  have HLB := Lib.hid hl
  obtain ⟨A2, c2, rfl, hc2, -⟩ := id hb
  by_cases hask : ¬ askM s nm = 0
  · rw [doesL_ask hask]
    obtain ⟨a, ha⟩ : ∃ a, a = askM s nm := ⟨_, rfl⟩
    rw [← ha] at AS hask ⊢
    have hne : (a != 0) = true := by simpa using hask
    clear h hb hby ha hask
    go_enter Tryz.func15, Tryz.ntmps15
    go_wp2_with fail
    refine AS.out.mono ?_
    rintro e w1 ⟨rfl, rfl⟩
    go_wp2
    go_ret
    exact ⟨rfl, H.out.to⟩
  · have hask0 : askM s nm = 0 := by simpa using hask
    rw [hask0] at AS
    rcases pfs_find s.fs nm h.sorted with ⟨hno, GN⟩ | ⟨pre, ⟨ys, su⟩, post, hsp, hpre, GY⟩
    · have AT := Lib.hid (mat_no h hno)
      have hsz : sizeM s nm = 0 := by unfold sizeM; rw [GN]; rfl
      have E := Lib.hid (show doesL s nm ((sizeM s nm : Nat) + (bs.length : Nat) : Int) true (fun q => some (q.1 ++ bs, q.2)) = setL s nm bs 0 from by
        rw [hsz, show (((0 : Nat) : Int) + (bs.length : Nat) : Int) = ((bs.length : Nat) : Int) by omega]
        exact doesL_set hask0 bs.length true (fun q => some (q.1 ++ bs, q.2)) bs 0 (.inl rfl) (.inl rfl) (by rw [GN]; rfl))
      rw [E.out]
      have ST := Lib.hid (mset_ref nm m s F (.slice A2 bs.length c2) bs 0 w h hb hby (Nat.zero_le _) (by omega))
      obtain ⟨l, hll⟩ : ∃ l, l = bs.length := ⟨_, rfl⟩
      rw [← hll] at ST ⊢
      clear h hb hby hask hask0 hno GN hsz E hll
      go_enter Tryz.func15, Tryz.ntmps15
      go_wp2_with fail
      refine AS.out.mono ?_
      rintro e w1 ⟨rfl, rfl⟩
      go_wp2_with fail
      refine AT.out.mono ?_
      rintro e w1 ⟨rfl, rfl⟩
      go_wp2_with fail
      refine ST.out.mono ?_
      rintro e w1 ⟨rfl, h1⟩
      have H1 := Lib.hid h1
      clear h1
      go_wp2
      go_ret
      exact ⟨rfl, H1.out⟩
    · have AT := Lib.hid (mat_yes h hsp hpre)
      obtain ⟨g, n, c, v, hk, hkn, hnc, h16, hgl, e1, e2, hbo, hbyy, hsu, hlen⟩ := h.file hsp
      have hsz : sizeM s nm = ys.length := by unfold sizeM; rw [GY]; rfl
      have E := Lib.hid (show doesL s nm ((sizeM s nm : Nat) + (bs.length : Nat) : Int) true (fun q => some (q.1 ++ bs, q.2)) = setL s nm (ys ++ bs) su from by
        rw [hsz, show (((ys.length : Nat) : Int) + (bs.length : Nat) : Int) = ((ys.length + bs.length : Nat) : Int) by omega]
        exact doesL_set hask0 (ys.length + bs.length) true (fun q => some (q.1 ++ bs, q.2)) (ys ++ bs) su (.inl rfl) (.inl (by simp)) (by rw [GY]; rfl))
      rw [E.out]
      have ST := Lib.hid (show ∀ (u : World) (v' : Value), Below w.heap.size w u → Bs u v' (ys ++ bs) → Calls Tryz.prog 50 #[.pointer (some ⟨m, 0, none⟩), .string nm, v', .int .i64 su] u fun e w' => e = .returned (.int .i64 (setL s nm (ys ++ bs) su).2) ∧ RMTo w F m (setL s nm (ys ++ bs) su).1 w' from fun u v' hu hv' =>
        (mset_ref nm m s F v' (ys ++ bs) su u (h.below hu) hv' (fun x hx => (List.mem_append.1 hx).elim (hbyy x) (hby x)) (by simp; omega) (by simp; omega)).mono fun e w' ⟨he, t⟩ => ⟨he, RMTo.of_below hu t⟩)
      have HB := Lib.hid (show Bs w.drew v ys from hbo.bs)
      have HX := Lib.hid hlen
      obtain ⟨k, hkp⟩ : ∃ k, k = pre.length := ⟨_, rfl⟩
      rw [← hkp] at AT e1 e2 hkn
      obtain ⟨A, cv, rfl, -⟩ := id hbo.clip
      obtain ⟨l, hll⟩ : ∃ l, l = ys.length := ⟨_, rfl⟩
      rw [← hll] at HB e1
      obtain ⟨lb, hlb⟩ : ∃ lb, lb = bs.length := ⟨_, rfl⟩
      have LB := Lib.hid (show ∀ u, Below w.heap.size w u → Bs u (.slice A2 lb c2) bs from fun u hu => by rw [hlb]; exact HBS.out.below hu)
      have SS := Lib.hid (show ∀ u, Below w.heap.size w u → u.cell? ⟨m, 0, none⟩ = some (.slice (some ⟨g, 0, none⟩) n c) ∧ u.cell? ⟨g, k * 3 + 1, none⟩ = some (.slice A l cv) ∧ u.cell? ⟨g, k * 3 + 2, none⟩ = some (.int .i64 (su : Nat)) from fun u hu =>
        ⟨(hu.cell (p := ⟨m, 0, none⟩) hk.lt).trans (by rw [hk.cell]; rfl), (hu.cell (p := ⟨g, k * 3 + 1, none⟩) hgl).trans e1, (hu.cell (p := ⟨g, k * 3 + 2, none⟩) hgl).trans e2⟩)
      obtain ⟨c0', e1', e2'⟩ := SS.out _ ((Below.refl _ w).drew)
      have hneg : ¬ (k : Int) < 0 := by omega
      have hk0 : (0 : Int) ≤ (k : Int) := by omega
      have hkl : (k : Int) < (n : Int) := by omega
      rw [← hlb]
      clear h hb hby hk hask hask0 hsp hpre GY hbo hbyy hsu hlen hkp e1 e2 E hll hsz hlb
      go_enter Tryz.func15, Tryz.ntmps15
      go_wp2_with fail
      refine AS.out.mono ?_
      rintro e w1 ⟨rfl, rfl⟩
      go_wp2_with fail
      refine AT.out.mono ?_
      rintro e w1 ⟨rfl, rfl⟩
      go_wp2_with fail
      go_region_law (first
        | (go_simp; go_at_call 50; refine (ST.out _ _ H4.out.1 H4.out.2).mono ?_; rintro e w5 ⟨rfl, h5⟩; have H5 := Lib.hid h5; clear h5)
        | (refine step_bf_bytes rfl _ _ 22 rfl Tryz.underlying22 rfl H3.out.2 (LB.out _ H3.out.1) rfl (by have := HX.out; have := HLB.out; omega) ?_; intro v4 w4 hB4 hK4; have H4 := Lib.hid (And.intro ((Below.refl _ w).drew.trans hB4.bel) hB4.own.bs); obtain ⟨c4', f4', i4'⟩ := SS.out _ H4.out.1; clear hB4 hK4)
        | (refine step_bf_bytes rfl _ _ 22 rfl Tryz.underlying22 rfl (Bf.start_ w.drew) HB.out rfl (by have := HX.out; simp; omega) ?_; intro v3 w3 hB3 hK3; rw [List.nil_append] at hB3; have H3 := Lib.hid (And.intro ((Below.refl _ w).drew.trans hB3.bel) hB3); obtain ⟨c3', f3', i3'⟩ := SS.out _ H3.out.1; clear hB3 hK3))
      all_goals
        go_wp2
        go_ret
        exact ⟨rfl, H5.out⟩
end Go.Proofs.YtoiclicechfmgaaGreatDoor
