/- logs: Open of a disk with a file. -/
import Derived.Test.YtnegondlkfeleaaDoorLmx
import Derived.Test.YtnegondlkfeleaaDoorLqy
namespace Go.Proofs.YtnegondlkfeleaaDoor
open Go.RowKit

section
variable {X : List (Nat × Obj)} {B : Nat} {W w : World} {d bi bt : Nat} {s : Dst}
/-- A log, made anew. -/
theorem Lg.made {Y : List (Nat × Obj)} {es : List Ent} {ev : Value} {size : Nat} {p : Nat} (hE : El ev es Y) (h : On ((p, lgO bi bt ev d size false) :: (Y ++ X)) B W w d nmL s) (hB : B ≤ p) (hp : ∀ q ∈ Y ++ X, q.1 ≠ p) : Lg X B W w p d bi bt es size s :=
  ⟨ev, Y, hE.mono fun q hq => List.mem_append_left _ hq, hB, hp, h⟩

set_option maxHeartbeats 2000000 in
set_option maxRecDepth 100000 in
theorem lopen_file (fb : List Int) (ns : List Ent) (acc : Nat → List Ent) (h : On X B W w d nmL s) (hs : readS s = (fb, 0)) (hF : rdF fb = ((nb bi ++ nb bt) :: ns.map entryB, fb.length)) (hA : Adds bi bt ns acc) (hby : ∀ c ∈ fb, byt c) (hl : fb.length ≤ 2000000) (hB0 : 0 < B) (T : Tab W) :
    Calls Tryd.prog 8 #[.pointer (some ⟨d, 0, none⟩)] w fun e w' => ∃ p, e = .returned (.tuple #[.pointer (some ⟨p, 0, none⟩), .int .i64 0]) ∧ Lg X B W w' p d bi bt (acc ns.length) fb.length s := by
  have H := Lib.hid h
  have hRD := fun P w1 (hT : Tab w1) (hb : Bs w1 (.slice P fb.length fb.length) fb) => lread_ok fb bi bt ns acc fb.length P fb.length w1 hF hA hby hl hT hb
  rw [show decide (fb.length = fb.length) = true from decide_eq_true rfl] at hRD
  have RD := Lib.hid hRD
  have TT := Lib.hid T
  have HL := Lib.hid hl
  have RP := Lib.hid (on_readP fb 0 nm_log h hs)
  obtain ⟨L, hL⟩ : ∃ L, L = fb.length := ⟨_, rfl⟩
  have hLl : (L : Int) ≤ 2000000 := by omega
  rw [← hL] at RD RP ⊢
  clear h hs hF hA hby hl T hL hRD
  go_enter Tryd.func8, Tryd.ntmps8
  go_wp2_with fail
  refine RP.out.mono ?_
  rintro e w1 ⟨P1, Y1, rfl, hsl, h1, b1, hP⟩
  have HB := hsl w1 (fun q hq => h1.keep q (List.mem_append_left _ hq))
  have O1 := Lib.hid (h1.mono (Y := X) (by intro p hp; exact List.mem_append_right _ hp))
  have RN := Lib.hid (RD.out P1 w1 (tab_at TT.out hB0 h1.bel) HB)
  clear h1 b1 hP hsl HB
  go_wp2_with fail
  refine RN.out.mono ?_
  rintro e w2 ⟨ev, Y2, rfl, hE, hY, b2⟩
  have O2 := O1.out.addNew b2 hY
  obtain ⟨A2, n2, c2, rfl⟩ : ∃ A n c, ev = .slice A n c := by obtain ⟨_, _, ⟨A, c, e, -⟩, -⟩ := hE.ents (w := w2) (fun q hq => (hY q hq).2); exact ⟨A, _, c, e⟩
  have O3 := (O2.alloc (.cells #[.int .u64 bi, .int .u64 bt, .slice A2 n2 c2] 34)).allocX (lgO bi bt (.slice A2 n2 c2) d L false)
  simp only [World.size_alloc] at O3
  have FIN := Lib.hid (Lg.made hE O3 (by have := O2.le; omega) (fun q hq => by have := lt_of_heap (O2.keep q hq); omega))
  clear O3
  clear O2 hE hY b2
  go_wp2
  go_ret2
  exact ⟨_, rfl, FIN.out⟩

set_option maxHeartbeats 2000000 in
set_option maxRecDepth 100000 in
theorem lopen_cut {s1 : Dst} (fb : List Int) (ns : List Ent) (acc : Nat → List Ent) (good : Nat) (hgd : good ≠ fb.length) (h : On X B W w d nmL s) (hs : readS s = (fb, 0)) (hF : rdF fb = ((nb bi ++ nb bt) :: ns.map entryB, good)) (hA : Adds bi bt ns acc) (hby : ∀ c ∈ fb, byt c) (hl : fb.length ≤ 2000000) (hB0 : 0 < B) (T : Tab W)
    (hok : ∀ e ∈ acc ns.length, EOk e) (hd : doesS s (logB bi bt (acc ns.length)).length true (fun _ => some (logB bi bt (acc ns.length), (logB bi bt (acc ns.length)).length)) = (s1, 0)) :
    Calls Tryd.prog 8 #[.pointer (some ⟨d, 0, none⟩)] w fun e w' => ∃ p, e = .returned (.tuple #[.pointer (some ⟨p, 0, none⟩), .int .i64 0]) ∧ Lg X B W w' p d bi bt (acc ns.length) (logB bi bt (acc ns.length)).length s1 := by
  have H := Lib.hid h
  have hRD := fun P w1 (hT : Tab w1) (hb : Bs w1 (.slice P fb.length fb.length) fb) => lread_ok fb bi bt ns acc good P fb.length w1 hF hA hby hl hT hb
  rw [show decide (good = fb.length) = false from decide_eq_false hgd] at hRD
  have RD := Lib.hid hRD
  have TT := Lib.hid T
  have HL := Lib.hid hl
  have HD := Lib.hid hd
  have OKE := Lib.hid hok
  have RP := Lib.hid (on_readP fb 0 nm_log h hs)
  obtain ⟨wf, wl⟩ := hA.wf ns.length (Nat.le_refl _)
  have WF := Lib.hid (And.intro wf wl)
  have HBI := Lib.hid (show bi < 18446744073709551616 ∧ bt < 18446744073709551616 from ⟨by have := hA.bi; omega, hA.bt⟩)
  obtain ⟨L, hL⟩ : ∃ L, L = fb.length := ⟨_, rfl⟩
  have hLl : (L : Int) ≤ 2000000 := by omega
  have GD := Lib.hid hgd
  have LL := Lib.hid hL
  rw [← hL] at RD RP
  clear h hs hF hA hby hl T hL hd hok wf wl hgd hRD
  go_enter Tryd.func8, Tryd.ntmps8
  go_wp2_with fail
  refine RP.out.mono ?_
  rintro e w1 ⟨P1, Y1, rfl, hsl, h1, b1, hP⟩
  have HB := hsl w1 (fun q hq => h1.keep q (List.mem_append_left _ hq))
  have O1 := Lib.hid (h1.mono (Y := X) (by intro p hp; exact List.mem_append_right _ hp))
  have RN := Lib.hid (RD.out P1 w1 (tab_at TT.out hB0 h1.bel) HB)
  clear h1 b1 hP hsl HB
  go_wp2_with fail
  refine RN.out.mono ?_
  rintro e w2 ⟨ev, Y2, rfl, hE, hY, b2⟩
  have O2 := O1.out.addNew b2 hY
  obtain ⟨A2, n2, c2, rfl⟩ : ∃ A n c, ev = .slice A n c := by obtain ⟨_, _, ⟨A, c, e, -⟩, -⟩ := hE.ents (w := w2) (fun q hq => (hY q hq).2); exact ⟨A, _, c, e⟩
  have O3 := (O2.alloc (.cells #[.int .u64 bi, .int .u64 bt, .slice A2 n2 c2] 34)).allocX (lgO bi bt (.slice A2 n2 c2) d L false)
  simp only [World.size_alloc] at O3
  have hBp : B ≤ w2.heap.size + 1 := by have := O2.le; omega
  have hne : ∀ q ∈ Y2 ++ X, q.1 ≠ w2.heap.size + 1 := fun q hq => by have := lt_of_heap (O2.keep q hq); omega
  have PU := Lib.hid (lput_one s1 0 O3 hBp hne (hE.mono fun q hq => List.mem_append_left _ hq) WF.out.1 OKE.out (by have := WF.out.2; omega) HBI.out.1 HBI.out.2 hB0 TT.out HD.out)
  have HE := Lib.hid (And.intro hE (And.intro hBp hne))
  clear O2 O3 hE hY b2 hBp hne
  go_wp2_with fail
  refine PU.out.mono ?_
  rintro e w3 ⟨rfl, o3⟩
  have FIN := Lib.hid (Lg.made HE.out.1 (by unfold pick2 at o3; rw [if_pos rfl] at o3; exact o3) HE.out.2.1 HE.out.2.2)
  rw [show rvOf 0 = 0 from rfl]
  clear o3
  go_wp2
  go_ret2
  exact ⟨_, rfl, FIN.out⟩
end
end Go.Proofs.YtnegondlkfeleaaDoor
