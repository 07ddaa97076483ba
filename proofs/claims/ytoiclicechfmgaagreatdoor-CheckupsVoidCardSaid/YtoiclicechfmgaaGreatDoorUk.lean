/- checkups.Look at a disk of strange files. -/
import Derived.Test.YtoiclicechfmgaaGreatDoorUjz
import Derived.ScopeJumps
import Derived.Outline
namespace Go.Proofs.YtoiclicechfmgaaGreatDoor
open Go.RowKit

def fiC (nm : ByteArray) : List Value := [.int .u8 1, .string nm, .int .i64 0]
/-- A report of findings, nothing else told. -/
def reC (v : Value) (done : Bool) : Array Value := #[v, .int .u64 0, .int .u8 0, .int .u64 0, .int .u64 0, .int .u64 0, .bool done]
theorem fi_info : (Tryz.prog.info? 66).map (fun i => (i.zero, i.size, i.bytes)) = some (some (.agg #[.int .u8 0, .string ⟨#[]⟩, .int .i64 0]), 3, 32) := by kernel_rfl
theorem fld_shot (Q : Option Addr) (w : World) : (Instr.field 77 (.agg #[.int .u64 0, .int .u64 0, .slice Q 0 0]) 0).run Tryz.prog w = .ok (.int .u64 0) w := by kernel_rfl
theorem re_size : (Tryz.prog.info? 36).map (·.size) = some 7 := by kernel_rfl
theorem results_re {fn : Func} (h : fn.results = #[.cell 2 36, .tmp 3]) (tmps : Array Value) (w : World) (g : Nat) (cs : Array Value) (v3 : Value) (hk : Blk w g 36 cs) (hs : cs.size = 7) (h2 : tmps.getD 2 undef = .pointer (some ⟨g, 0, none⟩)) (h3 : tmps.getD 3 undef = v3) :
    (results fn tmps).run Tryz.prog w = .ok (.tuple #[.agg cs, v3]) w := by
  have hr := run_loadVar_row (P := Tryz.prog) w g 36 36 cs (0, 0) _ hk Tryz.underlying36 rfl (by rw [hs]; exact re_size)
  rw [results_cell_tmp h, h2, h3]
  simp [asAddr, hr, Result.andThen]
theorem re_sets (v v' : Value) : (((((((((reC v false).setIfInBounds 0 v').setIfInBounds 6 (.bool true)).setIfInBounds 0 v').setIfInBounds 1 (.int .u64 0)).setIfInBounds 2 (.int .u8 0)).setIfInBounds 3 (.int .u64 0)).setIfInBounds 4 (.int .u64 0)).setIfInBounds 5 (.int .u64 0)).setIfInBounds 6 (.bool true) = reC v' true := by simp [reC]
/-- What Look has found of the first names. -/
def LkS (w wr : World) (P : Option Addr) (N : List ByteArray) (i : Nat) : Prop :=
  ∃ A c, i ≤ c ∧ Sy w.heap.size w wr [blO w.heap.size 36 (reC (.slice A i c) false), owO 66 3 (.slice A i c) i ((N.take i).flatMap fiC), rdO 1 (.slice P N.length N.length) N.length (N.map Value.string)]

set_option maxHeartbeats 4000000 in
set_option maxRecDepth 100000 in
theorem look_strange (d : Nat) (s : Mst) (F : List Nat) (N : List ByteArray) (w : World) (h : Md w d s F) (hs : Stg s N) (hf : s.fuse = -1) (T : Tab w) (h0 : 0 < w.heap.size) :
    Calls Tryz.prog 7 #[.pointer (some ⟨d, 0, none⟩)] w fun e w' => ∃ P, e = .returned (.tuple #[.agg (reC (.slice P N.length N.length) true), .int .i64 0]) ∧ Below w.heap.size w w' ∧ Ow w.heap.size w' 66 3 (.slice P N.length N.length) N.length (N.flatMap fiC) := by
  have HD := Lib.hid h
  have HS := Lib.hid hs
  have O0 := Lib.hid ((Sy.start w).alloc 36 (reC (.slice none 0 0) false))
  have b0 := below_alloc_ w (.cells (reC (.slice none 0 0) false) 36)
  have DR := Lib.hid (mread nmL d s F _ (h.below b0))
  rw [hs.read (.inl rfl)] at DR
  clear h hs b0
  go_enter Tryz.func7, Tryz.ntmps7
  go_wp2_with fail
  go_step3
  go_wp2_with fail
  refine DR.out.mono ?_
  rintro e w1 ⟨P1, rfl, -, b1⟩
  have O1 := Lib.hid (O0.out.below b1)
  clear b1
  go_wp2_with fail
  refine (mnames d s F N w1 (HD.out.below O1.out.bel) HS.out.perm HS.out.so).mono ?_
  rintro e w2 ⟨P, rfl, hrd, b2, hbk⟩
  have O2 := Lib.hid (O1.out.putRd b2 hrd hbk).sw2
  have HP := Lib.hid (show N.length ≤ 16 from by have := HS.out.few; omega)
  have ST := Lib.hid (show LkS w w2 P N 0 from by
    refine ⟨none, 0, Nat.le_refl _, ?_⟩
    have := (O2.out.put (o := owO 66 3 (.slice none 0 0) 0 []) (F := []) (Below.refl _ _) ⟨.inl ⟨rfl, rfl, rfl⟩, rfl⟩ (by simp)).sw2
    exact this)
  clear hrd b2 hbk
  obtain ⟨n, hn⟩ : ∃ n, n = N.length := ⟨_, rfl⟩
  have NN := Lib.hid hn
  rw [← hn]
  clear hn
  go_wp2
  go_step3
  go_wp2
  go_loopg [8, 9, 10, 11, 36] n (fun q c8 c9 c10 c11 c36 wr => ∃ i : Nat, i ≤ n ∧ q = n - i ∧ c36 = .int .i64 i ∧ LkS w wr P N i)
  case atStart => exact ⟨0, by omega, by omega, rfl, ST.out⟩
  case round =>
    obtain ⟨i, hi, hq, rfl, A, c, hic, O3⟩ := hrel
    have GG := Lib.hid hq
    have O3 := Lib.hid O3
    have IC := Lib.hid hic
    by_cases hin : i < n
    · have hir : i < N.length := by have := NN.out; omega
      have hrd := O3.out.rdv (.tail _ (.tail _ (.head _)))
      obtain ⟨A', c', hv, -, -, h0 | ⟨g, o, rfl, hgl, hcl⟩⟩ := hrd
      · omega
      injection hv with hP h2 h3
      subst hP
      clear h2 h3
      have hcell := hcl i (.string N[i]) (by rw [List.getElem?_map, List.getElem?_eq_getElem hir]; rfl)
      have hns := HS.out.no N[i] (List.getElem_mem _)
      obtain ⟨nm, hnm⟩ : ∃ nm, nm = N[i] := ⟨_, rfl⟩
      rw [← hnm] at hcell hns
      have TK := Lib.hid (show (N.take (i + 1)).flatMap fiC = (N.take i).flatMap fiC ++ fiC nm from by
        rw [List.take_add_one, List.getElem?_eq_getElem hir, List.flatMap_append, hnm]; simp)
      have hin' : (i : Int) < (n : Int) := by omega
      have hi0 : (0 : Int) ≤ (i : Int) := by omega
      have hw1 : IntKind.i64.wrap ((i : Int) + 1) = (i : Int) + 1 := IntWalk.i64_in _ (by have := HP.out; omega)
      have RL := Lib.hid (show i ≤ 16 from by have := HP.out; omega)
      have NS := Lib.hid hns
      have IN := Lib.hid hin
      clear hq hcl hgl hnm hin hir hic hns
      go_wp2_with fail
      refine (mread nm d s F wr (HD.out.below O3.out.bel)).mono ?_
      rintro e w4 ⟨P4, rfl, -, b4⟩
      have O4 := Lib.hid (O3.out.below b4)
      clear b4 hcell
      obtain ⟨L, hL⟩ : ∃ L, L = (readM s nm).1.length := ⟨_, rfl⟩
      obtain ⟨er, her⟩ : ∃ er, er = (readM s nm).2 := ⟨_, rfl⟩
      rw [← hL, ← her]
      clear hL her
      go_wp2_with fail
      refine (file_strange nm _ NS.out _).mono ?_
      rintro e w5 ⟨rfl, b5⟩
      have O5 := Lib.hid (((O4.out.below b5).alloc 66 #[.int .u8 1, .string nm, .int .i64 0]).drop_)
      have kf := Blk.new w5 66 #[.int .u8 1, .string nm, .int .i64 0]
      have c0 := (kf.cell 0).trans (show _ = some (.int .u8 1) from rfl)
      have c1 := (kf.cell 1).trans (show _ = some (.string nm) from rfl)
      have c2 := (kf.cell 2).trans (show _ = some (.int .i64 0) from rfl)
      have kr := O5.out.blk (g := w.heap.size) (.head _)
      have r0 := kr.cell 0
      simp [reC] at r0
      have OW := Lib.hid (O5.out.ow (.tail _ (.head _)))
      clear b5 kf kr
      go_upto_region 11 with fail
      obtain ⟨g5, hg5⟩ : ∃ g5, g5 = w5.heap.size := ⟨_, rfl⟩
      generalize hwa : w5.alloc (.cells #[.int .u8 1, .string nm, .int .i64 0] 66) = wa at *
      rw [← hg5] at c0 c1 c2 ⊢
      clear hg5 hwa
      go_wp2_with (at_builtin; refine wpList_ow rfl _ _ 33 66 (.agg #[.int .u8 0, .string ⟨#[]⟩, .int .i64 0]) 3 32 rfl Tryz.underlying33 fi_info rfl (by decide) rfl #[.int .u8 1, .string nm, .int .i64 0] OW.out (Nat.zero_le _) rfl (by simp [Value.oneCell']) rfl (by have := RL.out; omega) (by have := RL.out; unfold maxLen; omega) ?_; intro v6 w6 hO6 hg6; have O6 := Lib.hid (O5.out.sw2.grow hO6 hg6.1 hg6.2).sw2; obtain ⟨A6, c6, rfl, hc6, -⟩ := id (Ow.clip hO6); have C6 := Lib.hid hc6; have r6 := (O6.out.blk (g := w.heap.size) (.head _)).cell 0; have f6 := (O6.out.blk (g := w.heap.size) (.head _)).free 0; simp [reC] at r6; clear hO6 hg6 hc6)
      go_roundg (n - (i + 1))
      case measure => have := GG.out; have := IN.out; omega
      case rel => 
        refine ⟨i + 1, by have := IN.out; omega, rfl, by simp, A6, c6, C6.out, ?_⟩
        rw [TK.out]
        exact O6.out.set_ 0 (.slice A6 (i + 1) c6)
    · obtain rfl : i = n := by omega
      have hw1 : ¬ (i : Int) < (i : Int) := by omega
      have HT := Lib.hid HS.out.twin
      have TKn := Lib.hid (show N.take i = N from by rw [NN.out, List.take_length])
      have LE := Lib.hid (show i ≤ 16 from by have := HP.out; have := NN.out; omega)
      obtain ⟨s1, hs1⟩ := HT.out.put rfl
      have SP := Lib.hid hs1
      have TW := Lib.hid (fun (u : World) (hb : Below w.heap.size w u) => mtwin d s F N u (HD.out.below hb) HS.out.dead HS.out.perm HS.out.so)
      clear hq hic hs1 ST O0 O1 O2 DR GG
      obtain ⟨tw, htw⟩ : ∃ tw, tw = twS s N N.length := ⟨_, rfl⟩
      rw [← htw] at HT SP TW
      rw [TKn.out] at O3
      clear htw TKn
      go_wp2_with fail
      refine (TW.out _ O3.out.bel).mono ?_
      rintro e w4 ⟨t1, rfl, ⟨F4, hm4, hF4⟩, b4⟩
      have O4 := Lib.hid (O3.out.put (o := mdO t1 tw) b4 hm4 hF4)
      clear hm4 hF4 b4
      go_wp2_with fail
      refine (sopen_md O4.out (HT.out.read (.inr (.inr rfl)))).mono ?_
      rintro e w5 ⟨p, rfl, o5, -⟩
      have O5 := Lib.hid o5.drop_.drop_
      have kp := o5.blk (g := p) (.head _)
      have kr := O5.out.blk (g := w.heap.size) (.head _)
      have r1 := kr.cell 1
      have r2 := kr.cell 2
      have f1 := kr.free 1
      have f2 := kr.free 2
      simp [reC] at r1 r2
      have PT := Lib.hid (term_any p 0 0 _ false w5 kp)
      have PV := Lib.hid (vote_any p 0 0 _ false w5 kp)
      clear o5 kp kr
      go_wp2_with fail
      refine PT.out.mono ?_
      rintro e w6 ⟨rfl, rfl⟩
      go_wp2_with fail
      refine PV.out.mono ?_
      rintro e w6 ⟨rfl, rfl⟩
      have O6 := Lib.hid (show Sy w.heap.size w _ [blO w.heap.size 36 (reC (.slice A i c) false), owO 66 3 (.slice A i c) i (N.flatMap fiC), rdO 1 (.slice P N.length N.length) N.length (N.map Value.string)] from (O5.out.set_ 1 (.int .u64 0)).set_ 2 (.int .u8 0))
      clear PT PV
      go_wp2_with fail
      refine (TW.out _ O6.out.bel).mono ?_
      rintro e w7 ⟨t2, rfl, ⟨F7, hm7, hF7⟩, b7⟩
      have O7 := Lib.hid (O6.out.put (o := mdO t2 tw) b7 hm7 hF7)
      clear hm7 hF7 b7 r1 r2 f1 f2
      go_wp2_with fail
      refine (aopen_md O7.out (HT.out.read (.inr (.inl rfl)))).mono ?_
      rintro e w8 ⟨a, rfl, o8, -⟩
      have O8 := Lib.hid o8.drop_.drop_
      have SH := Lib.hid (shot_new (o8.blk (g := a) (.head _)))
      clear o8
      go_wp2_with fail
      refine SH.out.mono ?_
      rintro e w9 ⟨P9, rfl, b9⟩
      have O9 := Lib.hid (O8.out.below b9)
      have kr := O9.out.blk (g := w.heap.size) (.head _)
      have r3 := kr.cell 3
      have f3 := kr.free 3
      simp [reC] at r3
      have O10 := Lib.hid (show Sy w.heap.size w _ [blO w.heap.size 36 (reC (.slice A i c) false), owO 66 3 (.slice A i c) i (N.flatMap fiC), rdO 1 (.slice P N.length N.length) N.length (N.map Value.string)] from O9.out.set_ 3 (.int .u64 0))
      have hfl := fld_shot P9
      clear b9 kr SH
      go_wp2_with fail
      refine (TW.out _ O10.out.bel).mono ?_
      rintro e w11 ⟨t3, rfl, ⟨F11, hm11, hF11⟩, b11⟩
      have O11 := Lib.hid (O10.out.put (o := mdO t3 tw) b11 hm11 hF11)
      clear hm11 hF11 b11 r3 f3
      go_wp2_with fail
      refine (lopen_md s1 O11.out (HT.out.read (.inl rfl)) h0 T SP.out).mono ?_
      rintro e w12 ⟨l, rfl, o12, -⟩
      have O12 := Lib.hid o12
      have BA := Lib.hid (lbase_any l 0 0 t3 (.slice none 0 0) logE.length false w12 (o12.blk (g := l) (.head _)))
      clear o12
      go_wp2_with fail
      refine BA.out.mono ?_
      rintro e w13 ⟨rfl, q, rfl⟩
      have O13 := Lib.hid (O12.out.drewN q)
      generalize w12.drewN q = w13 at *
      have kr := O13.out.blk (g := w.heap.size) (.tail _ (.tail _ (.head _)))
      have r4 := kr.cell 4
      have f4 := kr.free 4
      simp [reC] at r4
      have O14 := Lib.hid (show Sy w.heap.size w _ [blO w.heap.size 36 (reC (.slice A i c) false), blO l 138 (lgC 0 0 (.slice none 0 0) t3 logE.length false), mdO t3 s1, owO 66 3 (.slice A i c) i (N.flatMap fiC), rdO 1 (.slice P N.length N.length) N.length (N.map Value.string)] from O13.out.sw3.set_ 4 (.int .u64 0))
      have EN := Lib.hid (lEnd_any l 0 0 t3 (.slice none 0 0) [] logE.length false _ (O14.out.blk (g := l) (.tail _ (.head _))) ((El.nil []).ents (fun q hq => by cases hq)) (fun j h => by simp at h) (by simp))
      rw [show ((0 + ([] : List Ent).length : Nat) : Int) = 0 from rfl] at EN
      clear kr BA O12
      go_wp2_with fail
      refine EN.out.mono ?_
      rintro e w15 ⟨rfl, b15⟩
      have O15 := Lib.hid (O14.out.below b15)
      have kr := O15.out.blk (g := w.heap.size) (.head _)
      have r5 := kr.cell 5
      have f5 := kr.free 5
      simp [reC] at r5
      have O16 := Lib.hid (show Sy w.heap.size w _ [blO w.heap.size 36 (reC (.slice A i c) false), owO 66 3 (.slice A i c) i (N.flatMap fiC), rdO 1 (.slice P N.length N.length) N.length (N.map Value.string)] from (O15.out.set_ 5 (.int .u64 0)).sw2.drop_.sw2.drop_)
      have CN := Lib.hid (cont_none P N nmL (fun hm => HS.out.no nmL hm (.inl rfl)) HP.out _ (O16.out.rdv (.tail _ (.tail _ (.head _)))))
      rw [← NN.out] at CN
      clear b15 kr EN r4 f4
      go_wp2_with fail
      refine CN.out.mono ?_
      rintro e w16 ⟨rfl, rfl⟩
      have kr := O16.out.blk (g := w.heap.size) (.head _)
      have r0 := kr.cell 0
      simp [reC] at r0
      clear CN kr r5 f5
      go_wp2_with fail
      refine (fclip_any A i c _ IC.out (by have := LE.out; omega)).mono ?_
      rintro e w16 ⟨rfl, rfl⟩
      go_wp2_with fail
      refine (TW.out _ O16.out.bel).mono ?_
      rintro e w17 ⟨t4, rfl, ⟨F17, hm17, hF17⟩, b17⟩
      have O17 := Lib.hid (O16.out.put (o := mdO t4 tw) b17 hm17 hF17)
      clear hm17 hF17 b17 r0
      go_wp2_with fail
      refine (serves_md s1 O17.out (HT.out.read (.inr (.inr rfl))) (HT.out.read (.inr (.inl rfl))) (HT.out.read (.inl rfl)) h0 T SP.out).mono ?_
      rintro e w18 ⟨rfl, o18⟩
      have O18 := Lib.hid o18
      have kr := o18.blk (g := w.heap.size) (.head _)
      have K18 := Lib.hid kr
      have r0 := kr.cell 0
      have r1 := kr.cell 1
      have r2 := kr.cell 2
      have r3 := kr.cell 3
      have r4 := kr.cell 4
      have r5 := kr.cell 5
      have r6 := kr.cell 6
      have f := kr.free
      simp [reC] at r0 r1 r2 r3 r4 r5 r6
      clear o18 kr
      go_wp2
      have o19 := ((((((((O18.out.set_ 0 (.slice A i i)).set_ 6 (.bool true)).set_ 0 (.slice A i i)).set_ 1 (.int .u64 0)).set_ 2 (.int .u8 0)).set_ 3 (.int .u64 0)).set_ 4 (.int .u64 0)).set_ 5 (.int .u64 0)).set_ 6 (.bool true)
      rw [re_sets] at o19
      have O19 := Lib.hid o19
      clear o19
      rw [Exit.noGoto_ret]
      refine bodyPost_ret (results_re rfl _ _ w.heap.size (reC (.slice A i i) true) (.int .i64 0) (O19.out.blk (.head _)) rfl rfl rfl) rfl ?_
      refine ⟨A, by rw [NN.out], O19.out.bel, ?_⟩
      obtain ⟨A', c', hv, -, ho⟩ := Ow.clip O19.out.sw2.owB
      injection hv with hv _ _
      subst hv
      rw [← NN.out]
      exact ho
end Go.Proofs.YtoiclicechfmgaaGreatDoor
