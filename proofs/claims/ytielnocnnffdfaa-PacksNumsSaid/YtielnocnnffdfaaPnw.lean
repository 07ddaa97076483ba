/- PacksNums: the walk. -/
import Derived.Test.YtielnocnnffdfaaPlv
namespace Go.Proofs.Ytielnocnnffdfaa
open Go.RowKit

theorem quiet_bel {w W : World} {n : Nat} (h : Below w.heap.size w W) : Below w.heap.size w (W.drewN n) := h.trans (below_drewN_ _ _ _)

set_option maxHeartbeats 8000000 in
set_option maxRecDepth 100000 in
theorem nums_walk (a b : Nat) (v : Value) (xs : List Int) (w : World) (h : Bs w v xs) (hby : ∀ c ∈ xs, byt c) (ha : a < 18446744073709551616) (hb : b < 18446744073709551616) (hl : xs.length ≤ 9223372036854775807) :
    Calls Try.prog 5 #[.int .u64 a, .int .u64 b, v] w fun e w' => e = .returned (.bool true) ∧ Below w.heap.size w w' := by
  obtain ⟨A, c, rfl, hc, -⟩ := id h
  have H := Lib.hid h
  have HY := Lib.hid hby
  obtain ⟨m, hm⟩ : ∃ m, m = xs.length := ⟨_, rfl⟩
  rw [← hm] at H hc ⊢ hl
  have M := Lib.hid hm
  clear h hby hm
  by_cases h1000 : 1000 < m
  · have h1000' : 1000 < (m : Int) := by omega
    go_enter Try.func5, Try.ntmps5
    go_wp2_with fail
    refine (plives _).mono ?_
    rintro e w1 ⟨rfl, hb⟩
    go_wp2
    go_ret
    exact ⟨rfl, hb⟩
  · have h1000' : ¬ 1000 < (m : Int) := by omega
    have hla := nb_ten ha
    have hlb := nb_ten hb
    have hpa := nb_len_pos a
    go_enter Try.func5, Try.ntmps5
    go_wp2_with fail
    refine (num_any (.slice none 0 0) [] a _ (Bs.nils _ _ _) ha (by decide)).mono ?_
    rintro e w1 ⟨vx, rfl, hx, b1⟩
    rw [List.nil_append] at hx
    obtain ⟨gx, cx, rfl, hcx⟩ : ∃ g c, vx = .slice g (nb a).length c ∧ (nb a).length ≤ c := by obtain ⟨A, c, e1, e2, _⟩ := hx.clip; exact ⟨A, c, e1, e2⟩
    have X1 := Lib.hid hx.bs
    have B1 := Lib.hid b1
    clear hx b1
    go_wp2_with fail
    refine (num_any (.slice none 0 0) [] b _ (Bs.nils _ _ _) hb (by decide)).mono ?_
    rintro e w2 ⟨vy, rfl, hy, b2⟩
    rw [List.nil_append] at hy
    obtain ⟨gy, cy, rfl, hcy⟩ : ∃ g c, vy = .slice g (nb b).length c ∧ (nb b).length ≤ c := by obtain ⟨A, c, e1, e2, _⟩ := hy.clip; exact ⟨A, c, e1, e2⟩
    have Y2 := Lib.hid hy.bs
    have X2 := Lib.hid (X1.out.below b2)
    have B2 := Lib.hid (B1.out.trans (b2.mono B1.out.size))
    clear hy b2
    go_wp2_with fail
    refine (num_any _ xs a _ (H.out.below B2.out) ha (by rw [← M.out]; omega)).mono ?_
    rintro e w3 ⟨vz, rfl, hz, b3⟩
    obtain ⟨gz, cz, rfl, hcz⟩ : ∃ g c, vz = .slice g (xs ++ nb a).length c ∧ (xs ++ nb a).length ≤ c := by obtain ⟨A, c, e1, e2, _⟩ := hz.clip; exact ⟨A, c, e1, e2⟩
    have Z3 := Lib.hid hz.bs
    have X3 := Lib.hid (X2.out.below b3)
    have Y3 := Lib.hid (Y2.out.below b3)
    have B3 := Lib.hid (B2.out.trans (b3.mono B2.out.size))
    have A3 := Lib.hid (H.out.below B3.out)
    clear hz b3
    rw [List.length_append, ← M.out] at Z3 hcz ⊢
    obtain ⟨la, hla'⟩ : ∃ la, la = (nb a).length := ⟨_, rfl⟩
    obtain ⟨lb, hlb'⟩ : ∃ lb, lb = (nb b).length := ⟨_, rfl⟩
    rw [← hla'] at X3 Z3 hcx hcz hla hpa ⊢
    rw [← hlb'] at Y3 hcy hlb ⊢
    have LA := Lib.hid hla'
    have LB := Lib.hid hlb'
    clear hla' hlb'
    have hl1 : ([] : List Int).length + (nb a).length ≤ 140737488355328 := by rw [← LA.out]; simp; omega
    have hl2 : ([] ++ nb a : List Int).length + xs.length ≤ 140737488355328 := by rw [List.nil_append, ← LA.out, ← M.out]; omega
    have HL1 := Lib.hid hl1
    have HL2 := Lib.hid hl2
    clear hl1 hl2
    go_wp2_with (first
      | (at_builtin; refine wpList_bf_bytes rfl (.tmp 25) (.tmp 26) 52 rfl Try.underlying52 rfl hB4 (A3.out.below hB4.bel) rfl HL2.out ?_; intro v5 w5 hB5)
      | (at_builtin; refine wpList_bf_bytes rfl _ (.tmp 24) 52 rfl Try.underlying52 rfl (Bf.begin_ w3) X3.out rfl HL1.out ?_; intro v4 w4 hB4))
    refine (Take_any _ _ _ hB5.own.bs (by
      intro c hc
      rw [List.nil_append] at hc
      rcases List.mem_append.1 hc with h | h
      · exact nb_byt _ c h
      · exact HY.out c h) (by have := LA.out; have := M.out; simp only [List.nil_append, List.length_append]; omega)).mono ?_
    rintro e w6 ⟨rfl, rfl⟩
    rw [List.nil_append, tk_nb ha, ← LA.out]
    have B5 := Lib.hid (B3.out.trans (hB5.bel.mono B3.out.size))
    have hm1 : (m : Int) ≤ 1000 := by omega
    have hm0 : 0 ≤ (m : Int) := by omega
    have hmz : (m : Int) ≤ ((m + la : Nat) : Int) := by omega
    have hmc : (m : Int) ≤ (cz : Int) := by omega
    have ha1 : ¬ (la : Int) < 1 := by omega
    have ha2 : ¬ 10 < (la : Int) := by omega
    have hd1 : decide ((la : Int) < 1) = false := decide_eq_false ha1
    have hd2 : decide (10 < (la : Int)) = false := decide_eq_false ha2
    have hd3 : decide (10 < la) = false := decide_eq_false (by omega)
    have hsum : IntKind.i64.wrap ((m : Int) + (la : Int)) = ((m + la : Nat) : Int) := by rw [IntWalk.i64_in _ (by omega)]; omega
    have hz5 := (Z3.out.below hB5.bel).takes m cz (by omega) (by omega)
    rw [show (xs ++ nb a).take m = xs from by rw [M.out]; exact List.take_left] at hz5
    obtain ⟨S, hS⟩ : ∃ S, S = strOfNums xs := ⟨_, rfl⟩
    have c1 := fun q => run_convert_bs (P := Try.prog) (Rd.drewN hz5 q) 52 5 9 Try.underlying52 Try.underlying5 Try.underlying9
    have c2 := fun q => run_convert_bs (P := Try.prog) (Rd.drewN (A3.out.below hB5.bel) q) 52 5 9 Try.underlying52 Try.underlying5 Try.underlying9
    have c3 := fun q => run_convert_bs (P := Try.prog) (Rd.drewN (X3.out.below hB5.bel) q) 52 5 9 Try.underlying52 Try.underlying5 Try.underlying9
    have c4 := fun q => run_convert_bs (P := Try.prog) (Rd.drewN (Y3.out.below hB5.bel) q) 52 5 9 Try.underlying52 Try.underlying5 Try.underlying9
    rw [← hS] at c1 c2
    clear hS hz5 hB5 hB4
    go_wp2_with fail
    go_quiet (fail)
    have PLV := Lib.hid (plives (w5.drewN nq))
    have BF := Lib.hid (B5.out.trans (below_drewN_ _ w5 nq))
    have c3' := c3 nq
    have c4' := c4 nq
    clear c1 c2 c3 c4
    rcases Nat.lt_trichotomy a b with hab | hab | hab
    · have h1 : ¬ (a : Int) = (b : Int) := by omega
      have h2 : ¬ (b : Int) < (a : Int) := by omega
      have hmono := nb_mono b a (by omega)
      rw [← LA.out, ← LB.out] at hmono
      have h3 : (la : Int) ≤ (lb : Int) := by omega
      have hne := str_ne (nb_byt a) (nb_byt b) (fun e => by have := nb_inj ha hb e; omega)
      obtain ⟨S1, hS1⟩ : ∃ S, S = strOfNums (nb a) := ⟨_, rfl⟩
      obtain ⟨S2, hS2⟩ : ∃ S, S = strOfNums (nb b) := ⟨_, rfl⟩
      rw [← hS1] at c3' hne
      rw [← hS2] at c4' hne
      clear hS1 hS2
      have hq : ((a : Int) == (b : Int)) = (S1.toList == S2.toList) := by
        rw [str_nbeq hne]; exact beq_eq_false_iff_ne.2 (by omega)
      clear hne
      go_wp2_with fail
      refine PLV.out.mono ?_
      rintro e w7 ⟨rfl, hb7⟩
      have BW := Lib.hid (BF.out.trans (hb7.mono BF.out.size))
      clear hb7
      go_wp2
      go_ret
      exact ⟨rfl, BW.out⟩
    · subst hab
      have h3 : la = lb := LA.out.trans LB.out.symm
      subst h3
      obtain ⟨S1, hS1⟩ : ∃ S, S = strOfNums (nb a) := ⟨_, rfl⟩
      rw [← hS1] at c3' c4'
      clear hS1
      have h2 : ¬ (a : Int) < (a : Int) := by omega
      have hq : ((a : Int) == (a : Int)) = (S1.toList == S1.toList) := by simp
      go_wp2_with fail
      refine PLV.out.mono ?_
      rintro e w7 ⟨rfl, hb7⟩
      have BW := Lib.hid (BF.out.trans (hb7.mono BF.out.size))
      clear hb7
      go_wp2
      go_ret
      exact ⟨rfl, BW.out⟩
    · have h1 : ¬ (a : Int) = (b : Int) := by omega
      have h2 : (b : Int) < (a : Int) := by omega
      have hne := str_ne (nb_byt a) (nb_byt b) (fun e => by have := nb_inj ha hb e; omega)
      obtain ⟨S1, hS1⟩ : ∃ S, S = strOfNums (nb a) := ⟨_, rfl⟩
      obtain ⟨S2, hS2⟩ : ∃ S, S = strOfNums (nb b) := ⟨_, rfl⟩
      rw [← hS1] at c3' hne
      rw [← hS2] at c4' hne
      clear hS1 hS2
      have hq : ((a : Int) == (b : Int)) = (S1.toList == S2.toList) := by
        rw [str_nbeq hne]; exact beq_eq_false_iff_ne.2 (by omega)
      clear hne
      go_wp2_with fail
      refine PLV.out.mono ?_
      rintro e w7 ⟨rfl, hb7⟩
      have BW := Lib.hid (BF.out.trans (hb7.mono BF.out.size))
      clear hb7
      go_wp2
      go_ret
      exact ⟨rfl, BW.out⟩
end Go.Proofs.Ytielnocnnffdfaa
