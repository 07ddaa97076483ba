import Derived.Test.YtoiclicechfmgaaGreatDoorUk
/- Whether one of the findings is about the log. -/
namespace Go.Proofs.YtoiclicechfmgaaGreatDoor
open Go.RowKit

set_option maxRecDepth 100000 in
theorem mcl_no (a : Int) (nm : ByteArray) (at_ : Int) (hn : nm ≠ nmL) (w : World) : Calls Tryz.prog 39 #[.agg #[.int .u8 a, .string nm, .int .i64 at_]] w fun e w' => e = .returned (.bool false) ∧ Below w.heap.size w w' := by
  have hb : (nm.toList == [108, 111, 103]) = false := by rw [show ([108, 111, 103] : List UInt8) = nmL.toList from by decide +kernel, str_dec_]; simpa using hn
  go_enter Tryz.func39, Tryz.ntmps39
  go_wp2
  go_ret
  exact ⟨rfl, below_alloc_ _ _⟩

set_option maxHeartbeats 2000000 in
set_option maxRecDepth 100000 in
theorem idxf_none (P : Option Addr) (N : List ByteArray) (hx : nmL ∉ N) (hl : N.length ≤ 16) (w : World) (h : Rd w 3 (.slice P N.length N.length) N.length (N.flatMap fiC)) :
    Calls Tryz.prog 70 #[.slice P N.length N.length, .func (.func 39) #[] #[]] w fun e w' => e = .returned (.int .i64 (-1)) ∧ Below w.heap.size w w' := by
  have HX := Lib.hid hx
  obtain ⟨n, hn⟩ : ∃ n, n = N.length := ⟨_, rfl⟩
  have NN := Lib.hid hn
  have HR := Lib.hid h
  have LL := Lib.hid hl
  have eg := enters_of (P := Tryz.prog) Tryz.func39 (by kernel_rfl) rfl
  rw [← hn]
  clear hn h hx hl
  go_enter Tryz.func70, Tryz.ntmps70
  go_wp2
  go_loopg [5, 8] n (fun q c5 c8 wr => ∃ i : Nat, i ≤ n ∧ q = n - i ∧ c8 = .int .i64 i ∧ Below w.heap.size w wr)
  case atStart => exact ⟨0, by omega, by omega, rfl, Below.refl _ _⟩
  case round =>
    obtain ⟨i, hi, hq, rfl, hb⟩ := hrel
    have GG := Lib.hid hq
    have BB := Lib.hid hb
    by_cases hin : i < n
    · have hir : i < N.length := by have := NN.out; omega
      obtain ⟨g, o, c, hv, -, hgl, hcl⟩ := HR.out.at_ (f := fiC) (fun _ => rfl) (by omega)
      injection hv with hP h2 h3
      subst hP
      clear h2 h3
      have hne : N[i] ≠ nmL := fun e => HX.out (e ▸ List.getElem_mem _)
      have q0 := hcl i hir 0 (.int .u8 1) (by omega) rfl
      have q1 := hcl i hir 1 (.string N[i]) (by omega) rfl
      have q2 := hcl i hir 2 (.int .i64 0) (by omega) rfl
      obtain ⟨nm, hnm⟩ : ∃ nm, nm = N[i] := ⟨_, rfl⟩
      rw [← hnm] at q1 hne
      have c0 := cell_on BB.out hgl q0
      have c1 := cell_on BB.out hgl q1
      have c2 := cell_on BB.out hgl q2
      simp only [Nat.add_zero] at c0
      have hin' : (i : Int) < (n : Int) := by omega
      have hi0 : (0 : Int) ≤ (i : Int) := by omega
      have hw1 : IntKind.i64.wrap ((i : Int) + 1) = (i : Int) + 1 := IntWalk.i64_in _ (by have := LL.out; have := NN.out; omega)
      have IN := Lib.hid hin
      have NE := Lib.hid hne
      clear hq hcl hgl hne hnm hin hir q0 q1 q2 hb
      go_wp2_with fail
      refine (mcl_no 1 nm 0 NE.out wr).mono ?_
      rintro e w1 ⟨rfl, b1⟩
      have B1 := Lib.hid (BB.out.trans (b1.mono BB.out.size))
      clear b1 c0 c1 c2
      go_wp2
      go_roundg (n - (i + 1))
      case measure => have := GG.out; have := IN.out; omega
      case rel => exact ⟨i + 1, by have := IN.out; omega, rfl, by simp, B1.out⟩
    · obtain rfl : i = n := by omega
      have hw1 : ¬ (i : Int) < (i : Int) := by omega
      clear hq hb
      go_wp2
      go_ret
      exact ⟨rfl, BB.out⟩
set_option maxRecDepth 100000 in
theorem contf_none (P : Option Addr) (N : List ByteArray) (hx : nmL ∉ N) (hl : N.length ≤ 16) (w : World) (h : Rd w 3 (.slice P N.length N.length) N.length (N.flatMap fiC)) :
    Calls Tryz.prog 38 #[.slice P N.length N.length, .func (.func 39) #[] #[]] w fun e w' => e = .returned (.bool false) ∧ Below w.heap.size w w' := by
  have IX := Lib.hid (idxf_none P N hx hl w h)
  clear h hx
  generalize N.length = n at *
  go_enter Tryz.func38, Tryz.ntmps38
  go_wp2_with fail
  refine IX.out.mono ?_
  rintro e w' ⟨rfl, b⟩
  have B := Lib.hid b
  clear b
  go_wp2
  go_ret
  exact ⟨rfl, B.out⟩
end Go.Proofs.YtoiclicechfmgaaGreatDoor

/- checkups.Mend at a disk with one strange file. -/
namespace Go.Proofs.YtoiclicechfmgaaGreatDoor
open Go.RowKit

section
variable {B : Nat} {W w : World} {d : Nat} {s : Mst} {os : List Ob}
theorem drop_one {x : ByteArray} {q : List Int × Nat} (h : Stg s [x]) (hf : s.fuse = -1) (hs : s.fs = [(x, q)]) (hx : 1 ≤ x.size ∧ x.size ≤ 16) : doesM s x 0 false (fun _ => none) = (⟨[], -1, false⟩, 0) := by
  have ha : askM s x = 0 := by
    unfold askM
    rw [if_neg (by simp [h.dead]), if_neg (by omega)]
  have hb : burnM s = (s, 0) := by unfold burnM; rw [hf]; rfl
  have hg : getM s.fs x = some q := by
    rw [hs]; unfold getM
    rw [List.find?_cons, show (x == x) = true from (MapKept.bytes_beq _ _).2 rfl]; rfl
  have hp : putM s.fs x none = [] := by rw [hs]; unfold putM; simp
  unfold doesM
  rw [if_neg (by simp [ha]), if_neg (by simp [hg]), if_neg (by rw [hg]; simp), if_neg (by rw [hf]; decide), hb, hp]
  exact Prod.ext (by rw [← hf, ← h.dead]) rfl

theorem look_one {F : List Nat} {x : ByteArray} (h : Md w d s F) (hs : Stg s [x]) (hf : s.fuse = -1) (T : Tab w) (h0 : 0 < w.heap.size) :
    Calls Tryz.prog 7 #[.pointer (some ⟨d, 0, none⟩)] w fun e w' => ∃ g, e = .returned (.tuple #[.agg #[.slice (some ⟨g, 0, none⟩) 1 1, .int .u64 0, .int .u8 0, .int .u64 0, .int .u64 0, .int .u64 0, .bool true], .int .i64 0]) ∧ Below w.heap.size w w' ∧ w.heap.size ≤ g ∧
      Ow 0 w' 66 3 (.slice (some ⟨g, 0, none⟩) 1 1) 1 (fiC x) :=
  (look_strange d s F [x] w h hs hf T h0).mono fun e w' ⟨P, he, hb, ho⟩ => by
    have ho' := ho
    rcases ho with ⟨-, h0, -⟩ | ⟨g, c, cur, hv, hgB, -⟩
    · cases h0
    · injection hv with hv _ _
      subst hv
      exact ⟨g, he, hb, hgB, by simpa using ho'.le (Nat.zero_le _)⟩
theorem look_empty {F : List Nat} (h : Md w d s F) (hs : Stg s []) (hf : s.fuse = -1) (T : Tab w) (h0 : 0 < w.heap.size) :
    Calls Tryz.prog 7 #[.pointer (some ⟨d, 0, none⟩)] w fun e w' => ∃ P, e = .returned (.tuple #[.agg #[.slice P 0 0, .int .u64 0, .int .u8 0, .int .u64 0, .int .u64 0, .int .u64 0, .bool true], .int .i64 0]) ∧ Below w.heap.size w w' :=
  (look_strange d s F [] w h hs hf T h0).mono fun e w' ⟨P, he, hb, _⟩ => ⟨P, he, hb⟩

set_option maxHeartbeats 4000000 in
set_option maxRecDepth 100000 in
theorem mend_one {x : ByteArray} {q : List Int × Nat} (h : Sy B W w (mdO d s :: os)) (hg : Stg s [x]) (hf : s.fuse = -1) (hs : s.fs = [(x, q)]) (hx : 1 ≤ x.size ∧ x.size ≤ 16) (hB0 : 0 < B) (T : Tab W) :
    Calls Tryz.prog 8 #[.pointer (some ⟨d, 0, none⟩)] w fun e w' => e = .returned (.tuple #[.int .i64 1, .int .i64 0]) ∧ Sy B W w' (mdO d ⟨[], -1, false⟩ :: os) := by
  obtain ⟨F, hm⟩ := h.md (.head _)
  have LK := Lib.hid (look_one hm hg hf (tab_at T hB0 h.bel) (by have := h.le; omega))
  have DO := Lib.hid (drop_one hg hf hs hx)
  have H := Lib.hid h
  have HX := Lib.hid (show nmL ∉ [x] from fun hm => hg.no nmL hm (.inl rfl))
  clear h hg hf hs hx hm T hB0
  go_enter Tryz.func8, Tryz.ntmps8
  go_wp2_with fail
  refine LK.out.mono ?_
  rintro e w1 ⟨g, rfl, b1, hgB, ho⟩
  have O1 := Lib.hid ((H.out.put (o := owO 66 3 (.slice (some ⟨g, 0, none⟩) 1 1) 1 (fiC x)) b1 ⟨ho, rfl⟩ (fun k hk => by simp [Value.ownBlock] at hk; omega)).alloc 36 (reC (.slice (some ⟨g, 0, none⟩) 1 1) true))
  obtain ⟨r, hr⟩ : ∃ r, r = w1.heap.size := ⟨_, rfl⟩
  clear b1 hgB ho
  go_upto_region 2 with fail
  obtain ⟨w2, hw2⟩ : ∃ w2, w2 = w1.alloc (.cells #[.slice (some ⟨g, 0, none⟩) 1 1, .int .u64 0, .int .u8 0, .int .u64 0, .int .u64 0, .int .u64 0, .bool true] 36) := ⟨_, rfl⟩
  have O2 := Lib.hid (show Sy B W w2 (blO r 36 (reC (.slice (some ⟨g, 0, none⟩) 1 1) true) :: owO 66 3 (.slice (some ⟨g, 0, none⟩) 1 1) 1 (fiC x) :: mdO d s :: os) from by rw [hw2, hr]; exact O1.out)
  rw [← hw2, ← hr]
  have CF := Lib.hid (show ∀ u, Rd u 3 (.slice (some ⟨g, 0, none⟩) 1 1) 1 (fiC x) → Calls Tryz.prog 38 #[.slice (some ⟨g, 0, none⟩) 1 1, .func (.func 39) #[] #[]] u fun e w' => e = .returned (.bool false) ∧ Below u.heap.size u w' from
    fun u h => contf_none (some ⟨g, 0, none⟩) [x] HX.out (by simp) u (by simpa using h))
  have kr := O2.out.blk (g := r) (.head _)
  have r0 := kr.cell 0
  have r6 := kr.cell 6
  simp [reC] at r0 r6
  clear O1 hw2 hr kr
  go_wp2
  go_loopg [2, 6, 23] 1 (fun q c2 c6 c23 wr => (q = 1 ∧ c23 = .int .i64 0 ∧ c2 = .int .i64 0 ∧ Sy B W wr (blO r 36 (reC (.slice (some ⟨g, 0, none⟩) 1 1) true) :: owO 66 3 (.slice (some ⟨g, 0, none⟩) 1 1) 1 (fiC x) :: mdO d s :: os)) ∨
    (q = 0 ∧ c23 = .int .i64 1 ∧ c2 = .int .i64 1 ∧ Sy B W wr (blO r 36 (reC (.slice (some ⟨g, 0, none⟩) 1 1) true) :: owO 66 3 (.slice (some ⟨g, 0, none⟩) 1 1) 1 (fiC x) :: mdO d ⟨[], -1, false⟩ :: os)))
  case atStart => exact .inl ⟨rfl, rfl, rfl, O2.out⟩
  case round =>
    rcases hrel with ⟨rfl, rfl, rfl, O⟩ | ⟨rfl, rfl, rfl, O⟩
    · have rd := (O.ow (e := 66) (.tail _ (.head _))).rd
      obtain ⟨A, c', hv, -, -, h0 | ⟨g', o', hg', -, hcl⟩⟩ := rd
      · cases h0
      injection hv with hv h2 h3
      clear h2 h3
      rw [← hv] at hg'
      injection hg' with hg'
      injection hg' with hg1 hg2
      subst hg1 hg2
      have c0 := hcl 0 (.int .u8 1) rfl
      have c1 := hcl 1 (.string x) rfl
      have c2 := hcl 2 (.int .i64 0) rfl
      simp only [Nat.zero_add] at c0 c1 c2
      have O3 := Lib.hid (O.alloc 66 #[.int .u8 1, .string x, .int .i64 0]).drop_
      have DR := Lib.hid (O3.out.sw3.doing (o' := mdO d ⟨[], -1, false⟩) fun F hm => by
        have := mdrop x d s F _ hm
        rw [DO.out] at this
        exact this.mono fun _ _ ⟨he, t⟩ => ⟨he, t.ob⟩)
      clear hcl hv O
      go_wp2_with fail
      refine DR.out.mono ?_
      rintro e w4 ⟨rfl, o4, -⟩
      have O4 := Lib.hid o4.sw3.sw3
      clear o4
      go_wp2
      go_roundg 0
      case measure => omega
      case rel => exact .inr ⟨rfl, rfl, rfl, O4.out⟩
    · have O3 := Lib.hid O
      have kr := O.blk (g := r) (.head _)
      have r0 := kr.cell 0
      simp [reC] at r0
      have C2 := Lib.hid (CF.out _ (O.ow (e := 66) (.tail _ (.head _))).rd)
      clear O kr
      go_wp2_with fail
      refine C2.out.mono ?_
      rintro e w4 ⟨rfl, b4⟩
      have O4 := Lib.hid (O3.out.below b4).drop_.drop_
      clear b4
      go_wp2
      go_ret2
      exact ⟨rfl, O4.out⟩
end
end Go.Proofs.YtoiclicechfmgaaGreatDoor

/- The chapter's example. -/
namespace Go.Proofs.YtoiclicechfmgaaGreatDoor
open Go.RowKit

abbrev nmX : ByteArray := ⟨#[120]⟩
theorem stg_empty : Stg ⟨[], -1, false⟩ [] := ⟨rfl, .refl _, List.Pairwise.nil, by simp, by simp⟩
theorem stg_x : Stg ⟨[(nmX, [1], 1)], -1, false⟩ [nmX] := ⟨rfl, .refl _, by simp, by simp, by
  intro nm hm
  obtain rfl := List.mem_singleton.1 hm
  unfold Own3
  decide⟩
theorem put_x : doesM ⟨[], -1, false⟩ nmX ([1] : List Int).length true (fun _ => some ([1], ([1] : List Int).length)) = (⟨[(nmX, [1], 1)], -1, false⟩, 0) := by
  have ha : askM ⟨[], -1, false⟩ nmX = 0 := by
    unfold askM
    rw [if_neg (by simp), if_neg (by decide)]
  unfold doesM
  rw [if_neg (by simp [ha]), if_neg (by simp), if_neg (by simp), if_neg (by decide)]
  rfl
theorem bs_one {w : World} {g : Nat} (h : Blk w g 5 #[.int .u8 1]) : Bs w (.slice (some ⟨g, 0, none⟩) 1 1) [1] :=
  ⟨_, 1, rfl, Nat.le_refl _, rfl, .inr ⟨g, 0, rfl, h.lt, fun j u hu => by
    rw [Nat.zero_add, h.cell]
    match j with
    | 0 => exact hu
    | j + 1 => simp [bc] at hu⟩⟩

set_option maxHeartbeats 4000000 in
set_option maxRecDepth 100000 in
theorem clives (w : World) (T : Tab w) (h0 : 0 < w.heap.size) : Calls Tryz.prog 6 #[] w fun e w' => e = .returned (.bool true) ∧ Below w.heap.size w w' := by
  go_enter Tryz.func6, Tryz.ntmps6
  go_wp2_with fail
  refine (mnew _).mono ?_
  rintro e w1 ⟨rfl, hm1, b1⟩
  obtain ⟨d, hd⟩ : ∃ d, d = w.heap.size + 1 := ⟨_, rfl⟩
  rw [← hd] at hm1 ⊢
  have O1 := Lib.hid ((Sy.start w).put (o := mdO d ⟨[], -1, false⟩) b1 hm1 (by intro k hk; simp at hk; omega))
  have LE := Lib.hid (look_empty hm1 stg_empty rfl (tab_at T h0 O1.out.bel) (by have := O1.out.le; omega))
  clear b1 hm1 hd
  go_wp2_with fail
  refine LE.out.mono ?_
  rintro e w2 ⟨P, rfl, b2⟩
  have O2 := Lib.hid ((O1.out.below b2).alloc 36 #[.slice P 0 0, .int .u64 0, .int .u8 0, .int .u64 0, .int .u64 0, .int .u64 0, .bool true])
  obtain ⟨r, hr⟩ : ∃ r, r = w2.heap.size := ⟨_, rfl⟩
  clear b2 LE
  go_upto_region 3 with fail
  generalize hw3 : w2.alloc (.cells #[.slice P 0 0, .int .u64 0, .int .u8 0, .int .u64 0, .int .u64 0, .int .u64 0, .bool true] 36) = w3 at *
  rw [← hr] at O2 ⊢
  clear hr hw3
  have O3 := Lib.hid (O2.out.alloc 5 #[.int .u8 1])
  have PU := Lib.hid (O3.out.sw3.doing (o' := mdO d ⟨[(nmX, [1], 1)], -1, false⟩) fun F hm => by
    have := mput nmX d _ F (.slice (some ⟨w3.heap.size, 0, none⟩) 1 1) [1] (by intro c hc; obtain rfl := List.mem_singleton.1 hc; simp [byt]) (by simp) _ hm (bs_one (O3.out.blk (.head _)))
    rw [put_x] at this
    exact this.mono fun _ _ ⟨he, t⟩ => ⟨he, t.ob⟩)
  go_wp2_with fail
  refine PU.out.mono ?_
  rintro e w4 ⟨rfl, o4, -⟩
  have O4 := Lib.hid o4.sw2.drop_
  obtain ⟨F4, hm4⟩ := O4.out.md (.head _)
  have LO := Lib.hid (look_one hm4 stg_x rfl (tab_at T h0 O4.out.bel) (by have := O4.out.le; omega))
  clear PU o4 hm4
  go_wp2_with fail
  refine LO.out.mono ?_
  rintro e w5 ⟨g, rfl, b5, hgB, ho⟩
  have O5 := Lib.hid ((O4.out.put (o := owO 66 3 (.slice (some ⟨g, 0, none⟩) 1 1) 1 (fiC nmX)) b5 ⟨ho, rfl⟩ (fun k hk => by simp [Value.ownBlock] at hk; omega)).alloc 36 #[.slice (some ⟨g, 0, none⟩) 1 1, .int .u64 0, .int .u8 0, .int .u64 0, .int .u64 0, .int .u64 0, .bool true])
  obtain ⟨q, hq⟩ : ∃ q, q = w5.heap.size := ⟨_, rfl⟩
  clear b5 hgB ho LO
  go_upto_region 5 with fail
  generalize hw6 : w5.alloc (.cells #[.slice (some ⟨g, 0, none⟩) 1 1, .int .u64 0, .int .u8 0, .int .u64 0, .int .u64 0, .int .u64 0, .bool true] 36) = w6 at *
  rw [← hq] at O5 ⊢
  clear hq hw6
  have ME := Lib.hid (mend_one (x := nmX) (q := ([1], 1)) O5.out.sw3 stg_x rfl rfl (by decide) h0 T)
  go_wp2_with fail
  refine ME.out.mono ?_
  rintro e w7 ⟨rfl, O7⟩
  have O7 := Lib.hid O7
  have kr := O7.out.blk (g := r) (.tail _ (.tail _ (.tail _ (.head _))))
  have kq := O7.out.blk (g := q) (.tail _ (.head _))
  have r0 := kr.cell 0
  have r6 := kr.cell 6
  have q0 := kq.cell 0
  simp at r0 r6 q0
  have rd := (O7.out.ow (e := 66) (.tail _ (.tail _ (.head _)))).rd
  obtain ⟨A, c', hv, -, -, h1 | ⟨g', o', hg', -, hcl⟩⟩ := rd
  · cases h1
  injection hv with hv h2 h3
  clear h2 h3
  rw [← hv] at hg'
  injection hg' with hg'
  injection hg' with hg1 hg2
  subst hg1 hg2
  have c0 := hcl 0 (.int .u8 1) rfl
  have c1 := hcl 1 (.string nmX) rfl
  have c2 := hcl 2 (.int .i64 0) rfl
  simp only [Nat.zero_add] at c0 c1 c2
  obtain ⟨F7, hm7⟩ := O7.out.md (.head _)
  have NA := Lib.hid (mnames d _ F7 [] w7 hm7 (.refl _) List.Pairwise.nil)
  clear hcl hv kr kq hm7
  go_wp2_with fail
  refine NA.out.mono ?_
  rintro e w8 ⟨P8, rfl, -, b8, -⟩
  have B8 := Lib.hid (O7.out.below b8).bel
  clear b8
  go_wp2
  go_ret
  exact ⟨rfl, B8.out⟩
end Go.Proofs.YtoiclicechfmgaaGreatDoor
