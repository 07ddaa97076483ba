import Derived.Test.YtnegondlkfeleaaDoorSet
/- states.Open: a disk without the file. -/
namespace Go.Proofs.YtnegondlkfeleaaDoor
open Go.RowKit

set_option maxHeartbeats 1000000 in
set_option maxRecDepth 100000 in
theorem open_new {X : List (Nat × Obj)} {B : Nat} {W w : World} {d : Nat} {s : Dst} (h : On X B W w d ⟨#[115, 116, 97, 116, 101]⟩ s) (hs : readS s = ([], 7)) :
    Calls Tryd.prog 21 #[.pointer (some ⟨d, 0, none⟩)] w fun e w' => ∃ p, e = .returned (.tuple #[.pointer (some ⟨p, 0, none⟩), .int .i64 0]) ∧ On ((p, prO 0 0 d false) :: X) B W w' d ⟨#[115, 116, 97, 116, 101]⟩ s ∧ w.heap.size ≤ p := by
  have H := Lib.hid h
  clear h
  go_enter Tryd.func21, Tryd.ntmps21
  go_wp2_with fail
  refine (on_read [] 7 nm_state H.out hs).mono ?_
  rintro e w1 ⟨P1, Y1, rfl, -, h1, b1⟩
  have O1 := Lib.hid ((h1.mono (Y := X) (by intro p hp; exact List.mem_append_right _ hp)).allocX (prO 0 0 d false))
  have B1 := Lib.hid b1.size
  clear h1 b1
  go_wp2_with fail
  go_ret2
  exact ⟨_, rfl, O1.out, B1.out⟩
end Go.Proofs.YtnegondlkfeleaaDoor

/- states: lives. -/
namespace Go.Proofs.YtnegondlkfeleaaDoor
open Go.RowKit

theorem vowB_len (T V : Nat) (hT : T < 18446744073709551616) (hV : V < 256) : (vowB T V).length ≤ 60 := by
  unfold vowB frameB
  have h1 := nb_ten hT
  have h2 := nb_ten (show V < 18446744073709551616 by omega)
  have h3 : (nb T ++ nb V).length ≤ 20 := by rw [List.length_append]; omega
  have h4 := nb_ten (n := (nb T ++ nb V).length) (by omega)
  rw [sumB_len, List.length_append]
  omega
theorem setS_go {t v : Int} {s : Dst} {T V : Nat} (h1 : mayB t v T V = true) (h2 : ¬ (t = T ∧ v = V)) (hT : T < 18446744073709551616) (hV : V < 256) (hf : s.fuse = -1) (hd : s.dead = false) :
    ∃ s', setS t v false s T V = ((0 : Int), (T : Int), (V : Int), false, s') ∧ s'.fuse = -1 ∧ s'.dead = false := by
  have hl := vowB_len T V hT hV
  refine ⟨(doesS s (vowB T V).length true (fun _ => some (vowB T V, (vowB T V).length))).1, setS_ok h1 h2 ?_, ?_⟩
  · unfold doesS
    rw [if_neg (by simp [hd]), if_neg (by simp), if_neg (by omega), if_neg (by omega)]
  · unfold doesS
    rw [if_neg (by simp [hd]), if_neg (by simp), if_neg (by omega), if_neg (by omega)]
    simp [burnS, hf, hd]

set_option maxHeartbeats 2000000 in
set_option maxRecDepth 100000 in
theorem slives (w : World) (T : Tab w) (h0 : 0 < w.heap.size) : Calls Tryd.prog 20 #[] w fun e w' => e = .returned (.bool true) ∧ Below w.heap.size w w' := by
  have TT := Lib.hid T
  have HZ := Lib.hid h0
  clear T h0
  obtain ⟨s1, e1, f1, d1⟩ := setS_go (t := 0) (v := 0) (s := ⟨none, -1, false⟩) (T := 3) (V := 2) (by decide) (by decide) (by decide) (by decide) rfl rfl
  have e2 : setS 3 2 false s1 3 1 = (1, 3, 2, false, s1) := rfl
  have e3 : setS 3 2 false s1 2 1 = (1, 3, 2, false, s1) := rfl
  obtain ⟨s2, e4, f2, d2⟩ := setS_go (t := 3) (v := 2) (s := s1) (T := 4) (V := 0) (by decide) (by decide) (by decide) (by decide) f1 d1
  obtain ⟨s3, e5, f3, d3⟩ := setS_go (t := 4) (v := 0) (s := s2) (T := 4) (V := 1) (by decide) (by decide) (by decide) (by decide) f2 d2
  have E1 := Lib.hid (show setS 0 0 false ⟨none, -1, false⟩ 3 2 = ((0 : Int), (3 : Int), (2 : Int), false, s1) from e1)
  have E2 := Lib.hid e2
  have E3 := Lib.hid e3
  have E4 := Lib.hid (show setS 3 2 false s1 4 0 = ((0 : Int), (4 : Int), (0 : Int), false, s2) from e4)
  have E5 := Lib.hid (show setS 4 0 false s2 4 1 = ((0 : Int), (4 : Int), (1 : Int), false, s3) from e5)
  clear e1 e2 e3 e4 e5 f1 f2 f3 d1 d2 d3
  go_enter Tryd.func20, Tryd.ntmps20
  go_wp2_with fail
  refine (on_new ⟨#[115, 116, 97, 116, 101]⟩ _).mono ?_
  rintro e w1 ⟨rfl, h1⟩
  have H1 := Lib.hid h1
  clear h1
  go_wp2_with fail
  refine (open_new H1.out rfl).mono ?_
  rintro e w2 ⟨p, rfl, h2, hp⟩
  have H2 := Lib.hid h2
  have HP := Lib.hid (Nat.le_trans H1.out.le hp)
  clear h2 hp
  go_wp2_with fail
  refine (term_any p 0 0 _ false w2 (H2.out.keep (_, _) (List.mem_cons_self ..))).mono ?_
  rintro e w3 ⟨rfl, rfl⟩
  go_wp2_with fail
  refine (vote_any p 0 0 _ false _ (H2.out.keep (_, _) (List.mem_cons_self ..))).mono ?_
  rintro e w3 ⟨rfl, rfl⟩
  go_wp2_with fail
  have q1 := set_any 3 2 H2.out (by simp) HP.out HZ.out TT.out (by decide) (by decide)
  rw [E1.out] at q1
  refine q1.mono ?_
  rintro e w3 ⟨rfl, h3⟩
  have H3 := Lib.hid h3
  clear h3 q1
  go_wp2_with fail
  have q := set_any 3 1 H3.out (by simp) HP.out HZ.out TT.out (by decide) (by decide)
  rw [E2.out] at q
  refine q.mono ?_
  rintro e w4 ⟨rfl, h4⟩
  have H4 := Lib.hid h4
  clear h4 q
  go_wp2_with fail
  have q := set_any 2 1 H4.out (by simp) HP.out HZ.out TT.out (by decide) (by decide)
  rw [E3.out] at q
  refine q.mono ?_
  rintro e w5 ⟨rfl, h5⟩
  have H5 := Lib.hid h5
  clear h5 q
  go_wp2_with fail
  have q := set_any 4 0 H5.out (by simp) HP.out HZ.out TT.out (by decide) (by decide)
  rw [E4.out] at q
  refine q.mono ?_
  rintro e w6 ⟨rfl, h6⟩
  have H6 := Lib.hid h6
  clear h6 q
  go_wp2_with fail
  have q := set_any 4 1 H6.out (by simp) HP.out HZ.out TT.out (by decide) (by decide)
  rw [E5.out] at q
  refine q.mono ?_
  rintro e w7 ⟨rfl, h7⟩
  have H7 := Lib.hid h7
  clear h7 q
  go_wp2_with fail
  refine (term_any p 4 1 _ false _ (H7.out.keep (_, _) (List.mem_cons_self ..))).mono ?_
  rintro e w8 ⟨rfl, rfl⟩
  go_wp2_with fail
  refine (vote_any p 4 1 _ false _ (H7.out.keep (_, _) (List.mem_cons_self ..))).mono ?_
  rintro e w8 ⟨rfl, rfl⟩
  go_wp2_with fail
  go_ret
  exact ⟨rfl, H7.out.bel⟩
end Go.Proofs.YtnegondlkfeleaaDoor
