/- LettersOne: walk. -/
import Derived.Test.YthjdkjinkmdclaaLlv
namespace Go.Proofs.Ythjdkjinkmdclaa
open Go.RowKit

set_option maxHeartbeats 2000000 in
set_option maxRecDepth 100000 in
theorem lone_walk (v : Value) (xs : List Int) (w : World) (h : Bs w v xs) (hby : ∀ c ∈ xs, byt c) :
    Calls Try.prog 4 #[v] w fun e w' => e = .returned (.bool true) ∧ Below w.heap.size w w' := by
  have HY := Lib.hid hby
  have H := Lib.hid h
  obtain ⟨A, c, rfl, -⟩ := id h
  obtain ⟨m, hm⟩ : ∃ m, m = xs.length := ⟨_, rfl⟩
  have M := Lib.hid hm
  rw [← hm] at H ⊢
  clear h hby hm
  by_cases hlong : 5000 < m
  · have hlong' : (5000 : Int) < (m : Int) := by omega
    go_enter Try.func4, Try.ntmps4
    go_wp2_with fail
    refine (llives w).mono ?_
    rintro e w1 ⟨rfl, b1⟩
    have B1 := Lib.hid b1
    clear b1
    go_wp2
    go_ret
    exact ⟨rfl, B1.out⟩
  · have hlong' : ¬ (5000 : Int) < (m : Int) := by omega
    go_enter Try.func4, Try.ntmps4
    go_upto_region 3 with fail
    go_cut [3, 4] (fun s3 s4 wx => Below w.heap.size w wx ∧ ((getL xs = none ∧ s4 = .int .i64 4) ∨ ∃ L q Ae Ad As Ag ne nd ns ng, getL xs = some L ∧ s3 = .pointer (some ⟨q, 0, none⟩) ∧ s4 = .int .i64 0 ∧ Blk wx q 36 (letC L (.slice Ae ne ne) (.slice Ad nd nd) (.slice As ns ns) (.slice Ag ng ng)) ∧ Lw wx L (.slice Ae ne ne) (.slice Ad nd nd) (.slice As ns ns) (.slice Ag ng ng)))
    case first =>
      go_wp2_with fail
      refine (Get_any H.out HY.out (by rw [← M.out]; omega)).mono ?_
      rintro e w1 ⟨ha, hb⟩
      rcases hg : getL xs with - | L
      · as_aux_lemma =>
          rw [hg] at ha
          obtain rfl : e = .returned (.tuple #[.agg zeroL, .int .i64 4]) := ha
          have B1 := Lib.hid (hb.trans ((below_alloc_ w1 (.cells zeroL 36)).mono hb.size))
          have hz : zeroL = #[.int .u8 0, .int .u8 0, .int .u8 0, .int .u64 0, .int .u64 0, .int .u64 0, .int .u64 0, .bool false, .slice none 0 0, .slice none 0 0, .int .u8 0, .int .u64 0, .slice none 0 0, .int .i64 0, .int .i64 0, .int .i64 0, .slice none 0 0] := rfl
          rw [hz] at B1 ⊢
          have HG := Lib.hid hg
          clear hb hg hz
          go_wp2
          go_meet
          exact ⟨B1.out, .inl ⟨HG.out, rfl⟩⟩
      · as_aux_lemma =>
          rw [hg] at ha
          obtain ⟨ve, vd, vs, vg, rfl, hv⟩ := ha
          obtain ⟨hp, hok, -⟩ := getL_back HY.out hg
          obtain ⟨Ae, ne, Ad, nd, As, ns, Ag, ng, rfl, rfl, rfl, rfl⟩ := hv.sl
          have b3 := below_alloc_ w1 (.cells (letC L (.slice Ae ne ne) (.slice Ad nd nd) (.slice As ns ns) (.slice Ag ng ng)) 36)
          have B3 := Lib.hid (hb.trans (b3.mono hb.size))
          have LW := Lib.hid ((hv.below b3).lw hok)
          have K3 := Lib.hid (Blk.new w1 36 (letC L (.slice Ae ne ne) (.slice Ad nd nd) (.slice As ns ns) (.slice Ag ng ng)))
          have HG := Lib.hid hg
          simp only [letC] at B3 LW K3 ⊢
          clear hg hv hb hp hok b3
          go_wp2
          go_meet
          exact ⟨B3.out, .inr ⟨L, _, _, _, _, _, _, _, _, _, HG.out, rfl, rfl, K3.out, LW.out⟩⟩
    case rest =>
    obtain ⟨b1, hx⟩ := hcut
    have B1 := Lib.hid b1
    clear b1
    rcases hx with ⟨hg, rfl⟩ | ⟨L, q, Ae, Ad, As, Ag, ne, nd, ns, ng, hg, rfl, rfl, k3, lw⟩
    · clear hg
      go_wp2_with fail
      refine (llives _).mono ?_
      rintro e w2 ⟨rfl, b2⟩
      have B2 := Lib.hid (B1.out.trans (b2.mono B1.out.size))
      clear b2
      go_wp2
      go_ret
      exact ⟨rfl, B2.out⟩
    · obtain ⟨hp, -, -⟩ := getL_back HY.out hg
      have PB := Lib.hid hp
      have LW := Lib.hid lw
      have RG := Lib.hid (Blk.range (cs := [.int .u8 L.kind, .int .u8 L.src, .int .u8 L.dst, .int .u64 L.term, .int .u64 L.index, .int .u64 L.mark, .int .u64 L.commit, .bool L.yes, .slice Ae ne ne, .slice Ad nd nd, .int .u8 L.cl, .int .u64 L.num, .slice As ns ns, .int .i64 L.e, .int .i64 L.re, .int .i64 L.ra, .slice Ag ng ng]) k3)
      have H3 := Lib.hid (H.out.below B1.out)
      clear hp hg lw k3
      go_upto_region 6 with fail
      refine wp_region_lit ?_
      refine wpList_load_mid rfl 36 _ rfl q 0 rfl [.int .u8 L.kind, .int .u8 L.src, .int .u8 L.dst, .int .u64 L.term, .int .u64 L.index, .int .u64 L.mark, .int .u64 L.commit, .bool L.yes, .slice Ae ne ne, .slice Ad nd nd, .int .u8 L.cl, .int .u64 L.num, .slice As ns ns, .int .i64 L.e, .int .i64 L.re, .int .i64 L.ra, .slice Ag ng ng] _ RG.out Try.underlying36 rfl let_size ?_
      go_wp2_with fail
      refine (Put_any (L := L) LW.out).mono ?_
      rintro e w4 ⟨v4, rfl, ho, hb4, A4, m4, rfl⟩
      rw [PB.out] at ho ⊢
      have c1 := run_convert_bs (P := Try.prog) ho.bs 25 5 9 Try.underlying25 Try.underlying5 Try.underlying9
      have c2 := run_convert_bs (P := Try.prog) (H3.out.below hb4) 25 5 9 Try.underlying25 Try.underlying5 Try.underlying9
      have B4 := Lib.hid (B1.out.trans (hb4.mono B1.out.size))
      obtain ⟨S, hS⟩ : ∃ S, S = strOfNums xs := ⟨_, rfl⟩
      simp only [← hS] at c1 c2
      clear ho hb4 hS H3 LW PB RG B1
      go_wp2_with fail
      refine (llives _).mono ?_
      rintro e w5 ⟨rfl, b5⟩
      have B5 := Lib.hid (B4.out.trans (b5.mono B4.out.size))
      clear b5 c1 c2
      go_wp2
      go_ret
      exact ⟨rfl, B5.out⟩
end Go.Proofs.Ythjdkjinkmdclaa
