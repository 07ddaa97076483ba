/- sessions.Of. -/
import Derived.Test.YtcpiockmkpdkjaaSpo
import Derived.WalkMore
import Derived.ScopeJumps
namespace Go.Proofs.Ytcpiockmkpdkjaa
open Go.RowKit

/-- A book off bytes. -/
def ofGo : Nat → List Int → Int → (Nat → Sp) → Option (Nat → Sp)
  | 0, left, _, B => if left = [] then some B else none
  | m + 1, left, before, B => match oneB B left with
    | none => none
    | some (c, B', rest) => if c ≤ before then none else ofGo m rest c B'
def bookP : List Int → Option (Nat → Sp)
  | [] => none
  | n :: r => ofGo n.toNat r 0 (fun _ => Sp.zero)
/-- How Of ends. -/
def OfPost (x : Option (Nat → Sp)) (w : World) (e : Ending) (w' : World) : Prop :=
  Below w.heap.size w w' ∧ match x with
    | some B => e = .returned (.tuple #[.pointer (some ⟨w.heap.size, 0, none⟩), .int .i64 0]) ∧ IsBk (fun k => w.heap.size ≤ k) w' w.heap.size B
    | none => e = .returned (.tuple #[.pointer none, .int .i64 4])
theorem ofpost_none {x : Option (Nat → Sp)} {w w' : World} (h : Below w.heap.size w w') (hx : x = none) : OfPost x w (.returned (.tuple #[.pointer none, .int .i64 4])) w' := by subst hx; exact ⟨h, rfl⟩
theorem ofpost_some {x : Option (Nat → Sp)} {w w' : World} {B : Nat → Sp} (h : Below w.heap.size w w') (hx : x = some B) (hb : IsBk (fun k => w.heap.size ≤ k) w' w.heap.size B) : OfPost x w (.returned (.tuple #[.pointer (some ⟨w.heap.size, 0, none⟩), .int .i64 0])) w' := by subst hx; exact ⟨h, rfl, hb⟩
theorem oneB_byt {B B' : Nat → Sp} {xs rest : List Int} {c : Int} (hb : ∀ c ∈ xs, byt c) (h : oneB B xs = some (c, B', rest)) : byt c := by
  unfold oneB at h
  split at h
  · rename_i c2 num E A gs r2 h2
    split at h
    · injection h with h; injection h with h _; subst h
      match xs, h2, hb with
      | [], h2, _ => cases h2
      | x :: l, h2, hb =>
        simp only [oneP] at h2
        split at h2
        · cases h2
        · split at h2
          · cases h2
          · split at h2
            · cases h2
            · split at h2
              · cases h2
              · injection h2 with h2; injection h2 with h2 _; subst h2; exact hb _ (by simp)
    · cases h
  · cases h

set_option maxHeartbeats 400000 in
set_option maxRecDepth 100000 in
theorem of_none (v : Value) (w : World) (hv : Bs w v []) : Calls Try.prog 22 #[v] w (OfPost (bookP []) w) := by
  obtain ⟨A, c, rfl, -⟩ := id hv
  clear hv
  go_enter Try.func22, Try.ntmps22
  go_wp2
  refine wp_scope_jumps 0 (fun _ _ => False) (fun _ _ => 0) rfl ?_ ?_
  · go_wp2
    simp only [Exit.jump]
    go_ret2
    exact ofpost_none (Below.refl _ _) rfl
  · intro _ _ h
    exact h.elim
/-- What holds at the label. -/
def OfJ (g o n c : Nat) (all : Option (Nat → Sp)) (w : World) (a' : Act) (w' : World) : Prop :=
  ∃ (m : Nat) (bf : Int) (vl : Value) (left : List Int) (B : Nat → Sp), ∃ (u1 u8 u9 u10 u11 u12 u13 u14 u15 u16 u17 u18 u19 u20 u21 u22 u23 u24 u25 u26 u27 u28 u29 u30 u31 u32 u33 u34 u35 u36 u37 u38 u39 u40 u41 u42 u43 u44 u45 u46 u47 u48 u49 u50 u51 : Value), a' = { tmps := #[.slice (some ⟨g, o, none⟩) n c, u1, .pointer none, .int .i64 0, .pointer (some ⟨w.heap.size, 0, none⟩), vl, .int .u8 m, .int .u8 bf, u8, u9, u10, u11, u12, u13, u14, u15, u16, u17, u18, u19, u20, u21, u22, u23, u24, u25, u26, u27, u28, u29, u30, u31, u32, u33, u34, u35, u36, u37, u38, u39, u40, u41, u42, u43, u44, u45, u46, u47, u48, u49, u50, u51], defers := [] } ∧
    m ≤ 255 ∧ 0 ≤ bf ∧ bf ≤ 255 ∧ Bs w' vl left ∧ (∀ c ∈ left, byt c) ∧ left.length ≤ 1000000 ∧ IsBk (fun k => w.heap.size ≤ k) w' w.heap.size B ∧ Below w.heap.size w w' ∧ ofGo m left bf B = all
def manyOf (a : Act) : Nat := match a.tmps.getD 6 undef with | .int _ q => q.toNat | _ => 0

theorem scope_jumps_ {P : Program} {a : Act} {w : World} {Q : Exit → Act → World → Prop} {c rest : Code} (l : Nat) (J : Act → World → Prop) (μ : Act → World → Nat) (hf : findLabel c l = some (Code.skip.seq rest))
    (pass : ∀ a w, J a w → rest.wp P (Exit.jump l (fun a' w' => J a' w' ∧ μ a' w' < μ a w) Q) a w)
    (first : (∀ a w, J a w → rest.wp P (Exit.jump l J Q) a w) → c.wp P (Exit.jump l J Q) a w) : (Code.scope c).wp P Q a w :=
  wp_scope_jumps l J μ hf (first fun a w h => Code.wp_mono (fun e a' w' q => by
    cases e with
    | goto l' => exact ⟨q.1, q.2.1⟩
    | _ => exact q) (pass a w h)) (fun a w h => wp_seq (wp_skip (pass a w h)))
theorem oneB_nil (B : Nat → Sp) : oneB B [] = none := rfl
set_option maxHeartbeats 4000000 in
set_option maxRecDepth 100000 in
theorem of_any (v : Value) (xs : List Int) (w : World) (hv : Bs w v xs) (hby : ∀ c ∈ xs, byt c) (hl : xs.length ≤ 1000000) :
    Calls Try.prog 22 #[v] w (OfPost (bookP xs) w) := by
  match xs, hv, hby, hl with
  | [], hv, hby, hl => exact of_none v w hv
  | x0 :: r, hv, hby, hl =>
    obtain ⟨A, c, rfl, hc, hlx, hh⟩ := id hv
    obtain ⟨g, o, rfl⟩ : ∃ g o, A = some ⟨g, o, none⟩ := by
      rcases hh with h0 | ⟨g, o, hA, _⟩
      · simp at h0
      · exact ⟨g, o, hA⟩
    obtain ⟨n, hn⟩ : ∃ n, n = (x0 :: r).length := ⟨_, rfl⟩
    have hn1 : n = r.length + 1 := hn
    have hx0c : w.cell? ⟨g, o, none⟩ = some (.int .u8 x0) := by
      rcases hh with h0 | ⟨g', o', hA', -, hcell⟩
      · simp at h0
      · injection hA' with hA
        injection hA with e1 e2 e3
        subst e1; subst e2
        exact hcell 0 _ rfl
    have hgl : g < w.heap.size := by
      rcases hh with h0 | ⟨g', o', hA', hgl, hcell⟩
      · simp at h0
      · injection hA' with hA
        injection hA with e1 e2 e3
        subst e1
        exact hgl
    rw [← hn] at hv hc hh ⊢
    have hn0 : ¬ (n : Int) = 0 := by omega
    have hn0' : ((n : Int) == 0) = false := beq_eq_false_iff_ne.2 hn0
    have hn0n : 0 < n := by omega
    have hn0i : (0 : Int) < n := by omega
    have hn2 : (1 : Int) ≤ n := by omega
    have hxb := hby x0 (by simp)
    have HBR := Lib.hid (fun c (hc : c ∈ r) => hby c (by simp [hc]))
    obtain ⟨A1, q1, D1⟩ := hv.from_ 1 (by omega)
    rw [List.drop_succ_cons, List.drop_zero] at D1
    have DD1 := Lib.hid D1
    have X0 := Lib.hid hx0c
    have XB := Lib.hid hxb
    obtain ⟨m0, hm0⟩ : ∃ m0 : Nat, (m0 : Int) = x0 := ⟨x0.toNat, by have := hxb.1; omega⟩
    subst hm0
    have hm0' : bookP ((m0 : Int) :: r) = ofGo m0 r 0 (fun _ => Sp.zero) := rfl
    rw [hm0']
    have HL := Lib.hid (show r.length ≤ 1000000 by simp only [List.length_cons] at hl; omega)
    obtain ⟨all, hall⟩ : ∃ y, y = ofGo m0 r 0 (fun _ => Sp.zero) := ⟨_, rfl⟩
    rw [← hall]
    have ALL := Lib.hid hall
    have HN1 := Lib.hid hn1
    have Q1 := Lib.hid q1
    clear hv hh hn hx0c hxb hm0' hall D1 hlx q1 hby hl hn1
    go_enter Try.func22, Try.ntmps22
    go_wp2
    refine scope_jumps_ 0 (OfJ g o n c all w) (fun a _ => manyOf a) rfl ?_ ?_
    · rintro a' wr ⟨m, bf, vl, left, B, u1, u8, u9, u10, u11, u12, u13, u14, u15, u16, u17, u18, u19, u20, u21, u22, u23, u24, u25, u26, u27, u28, u29, u30, u31, u32, u33, u34, u35, u36, u37, u38, u39, u40, u41, u42, u43, u44, u45, u46, u47, u48, u49, u50, u51, rfl, hm, hb1, hb2, hvl, hbl, hll, hbk, hbe, hof⟩
      obtain ⟨A2, c2, rfl, hc2, hl2, hh2⟩ := id hvl
      obtain ⟨n2, hn2'⟩ : ∃ n, n = left.length := ⟨_, rfl⟩
      rw [← hn2'] at hvl hc2 hh2 ⊢
      have HV2 := Lib.hid hvl
      have HBL := Lib.hid hbl
      have HLL := Lib.hid hll
      have HBK := Lib.hid hbk
      have HBE := Lib.hid hbe
      have HOF := Lib.hid hof
      have N2 := Lib.hid hn2'
      have OFF := Lib.hid (hbk.off hvl)
      have HSZ := hbe.size
      clear hvl hbl hll hbk hbe hof hl2 hn2' hn2 hn0 hn0' hn0n hn0i
      have one := Lib.hid ((one_any w.heap.size B (.slice A2 n2 c2) left wr HBK.out HV2.out HBL.out HLL.out))
      cases m with
      | zero =>
        by_cases hz : n2 = 0
        · subst hz
          have hle : left = [] := List.eq_nil_of_length_eq_zero N2.out.symm
          clear hh2
          go_wp2
          simp only [Exit.jump]
          go_ret2
          exact ofpost_some HBE.out (by rw [← HOF.out, hle]; rfl) HBK.out
        · have hzi : ((n2 : Int) == 0) = false := beq_eq_false_iff_ne.2 (by omega)
          have hzn : ¬ (n2 : Int) = 0 := by omega
          clear hh2
          go_wp2_with fail
          refine one.out.mono ?_
          rintro e w1 ⟨cc, s, ok, rfl, hg, -⟩
          have HG := Lib.hid hg
          clear hg
          have hnone := Lib.hid (show all = none by
            rw [← HOF.out, ofGo, if_neg]
            intro h; rw [h] at N2; exact hz N2.out)
          go_wp2
          simp only [Exit.jump]
          go_ret2
          exact ofpost_none (below_grown_ HBE.out HG.out HBE.out.size (Nat.le_refl _)) hnone.out
      | succ m =>
        have hmz : ((m : Int) + 1 == 0) = false := beq_eq_false_iff_ne.2 (by omega)
        have hmn : ¬ (m : Int) + 1 = 0 := by omega
        have HH2 := Lib.hid hh2
        clear hh2
        go_wp2_with fail
        refine one.out.mono ?_
        rintro e w1 ⟨cc, s, ok, rfl, hg, hmt⟩
        have HG := Lib.hid hg
        have HBE1 := Lib.hid (below_grown_ HBE.out hg HBE.out.size (Nat.le_refl _))
        have HV1 := Lib.hid (Bs.beside HV2.out OFF.out hg)
        clear hg
        rcases ho : oneB B left with _ | ⟨c', B', rest⟩
        · rw [ho] at hmt
          obtain ⟨rfl, -⟩ := hmt
          have hnone := Lib.hid (show all = none by rw [← HOF.out, ofGo, ho])
          clear ho
          go_wp2
          simp only [Exit.jump]
          go_ret2
          exact ofpost_none HBE1.out hnone.out
        · rw [ho] at hmt
          obtain ⟨rfl, rfl, ⟨k, rfl, hk, hrest⟩, hbk1⟩ := hmt
          have HBK1 := Lib.hid (hbk1.mono (G := fun k => w.heap.size ≤ k) fun k hk => hk.elim id fun h => by omega)
          have hcb := oneB_byt HBL.out ho
          have hstep := Lib.hid (show all = if cc ≤ bf then none else ofGo m rest cc B' by rw [← HOF.out, ofGo, ho])
          have OB := Lib.hid ho
          rw [← N2.out] at hk
          have HRE := Lib.hid hrest
          clear ho hbk1 hrest
          by_cases hcl : cc ≤ bf
          · have hnone := Lib.hid (show all = none by rw [hstep.out, if_pos hcl])
            go_wp2
            simp only [Exit.jump]
            go_ret2
            exact ofpost_none HBE1.out hnone.out
          · have hgo := Lib.hid (show ofGo m rest cc B' = all by rw [hstep.out, if_neg hcl])
            have hkI : (k : Int) ≤ n2 := by omega
            have hk0 : (0 : Int) ≤ k := by omega
            obtain ⟨g2, o2, rfl⟩ : ∃ g2 o2, A2 = some ⟨g2, o2, none⟩ := by
              rcases HH2.out with h0 | ⟨g2, o2, hA, _⟩
              · have := N2.out
                have e : left = [] := List.eq_nil_of_length_eq_zero (by omega)
                have := OB.out
                rw [e, oneB_nil] at this; cases this
              · exact ⟨g2, o2, hA⟩
            obtain ⟨A3, q3, D3⟩ := HV1.out.from_ k hk
            rw [← HRE.out] at D3
            have DD3 := Lib.hid D3
            have hbr : ∀ c ∈ rest, byt c := fun c hc => HBL.out c (by rw [HRE.out] at hc; exact List.mem_of_mem_drop hc)
            have hlr : rest.length ≤ 1000000 := by rw [HRE.out, List.length_drop]; have := HLL.out; omega
            have HBR2 := Lib.hid hbr
            have HLR2 := Lib.hid hlr
            clear D3 hbr hlr
            have hclI : decide (cc ≤ bf) = false := decide_eq_false hcl
            by_cases hck : c2 = k
            · rw [if_pos hck] at q3
              subst q3
              have hck' : k = c2 := hck.symm
              have hr0 := Lib.hid (show rest = [] by
                rw [HRE.out]
                exact List.eq_nil_of_length_eq_zero (by rw [List.length_drop]; have := N2.out; omega))
              clear hck
              go_wp2
              go_step3
              refine ⟨rfl, ⟨m, cc, _, rest, B', _, _, _, _, _, _, _, _, _, _, _, _, _, _, _, _, _, _, _, _, _, _, _, _, _, _, _, _, _, _, _, _, _, _, _, _, _, _, _, _, _, _, _, _, _, rfl, by omega, hcb.1, by have := hcb.2; omega, by rw [hr0.out]; exact Bs.nils _ _ _, HBR2.out, HLR2.out, HBK1.out, HBE1.out, hgo.out⟩, ?_⟩
              simp only [manyOf, Array.getD_eq_getD_getElem?, List.getElem?_toArray, List.getElem?_cons_succ, List.getElem?_cons_zero, Option.getD_some]
              omega
            · rw [if_neg hck] at q3
              subst q3
              go_wp2
              go_step3
              refine ⟨rfl, ⟨m, cc, _, rest, B', _, _, _, _, _, _, _, _, _, _, _, _, _, _, _, _, _, _, _, _, _, _, _, _, _, _, _, _, _, _, _, _, _, _, _, _, _, _, _, _, _, _, _, _, _, rfl, by omega, hcb.1, by have := hcb.2; omega, DD3.out, HBR2.out, HLR2.out, HBK1.out, HBE1.out, hgo.out⟩, ?_⟩
              simp only [manyOf, Array.getD_eq_getD_getElem?, List.getElem?_toArray, List.getElem?_cons_succ, List.getElem?_cons_zero, Option.getD_some]
              omega
    · intro P0
      have PP := Lib.hid P0
      clear P0
      go_wp2_with fail
      refine (new_any w).mono ?_
      rintro e w1 ⟨rfl, hbk, hbe⟩
      have hxc : w1.cell? ⟨g, o, none⟩ = some (.int .u8 m0) := (hbe.cell hgl).trans X0.out
      have HBK := Lib.hid hbk
      have HBE := Lib.hid hbe
      have D2 := Lib.hid (DD1.out.below hbe)
      clear hbk hbe
      have q1 := Q1.out
      clear Q1
      by_cases hck : c = 1
      · rw [if_pos hck] at q1
        subst q1
        obtain rfl : r = [] := List.eq_nil_of_length_eq_zero (by have := HN1.out; omega)
        obtain rfl : n = 1 := HN1.out
        subst hck
        go_wp2_with fail
        go_quiet (fail)
        go_wp2
        go_step3
        rename_i hK
        refine hK _ _ (PP.out _ _ ⟨m0, 0, _, [], fun _ => Sp.zero, _, _, _, _, _, _, _, _, _, _, _, _, _, _, _, _, _, _, _, _, _, _, _, _, _, _, _, _, _, _, _, _, _, _, _, _, _, _, _, _, _, _, _, _, _, rfl, by have := XB.out.2; omega, by omega, by omega, Bs.nils _ _ _, HBR.out, HL.out, (HBK.out.below (below_drewN_ _ _ nq)).mono (fun _ h => h.elim), HBE.out.trans ((below_drewN_ _ _ nq).mono HBE.out.size), ALL.out.symm⟩)
      · rw [if_neg hck] at q1
        subst q1
        go_wp2_with fail
        go_quiet (fail)
        go_wp2
        go_step3
        rename_i hK
        refine hK _ _ (PP.out _ _ ⟨m0, 0, _, r, fun _ => Sp.zero, _, _, _, _, _, _, _, _, _, _, _, _, _, _, _, _, _, _, _, _, _, _, _, _, _, _, _, _, _, _, _, _, _, _, _, _, _, _, _, _, _, _, _, _, _, rfl, by have := XB.out.2; omega, by omega, by omega, D2.out.below (below_drewN_ _ _ nq), HBR.out, HL.out, (HBK.out.below (below_drewN_ _ _ nq)).mono (fun _ h => h.elim), HBE.out.trans ((below_drewN_ _ _ nq).mono HBE.out.size), ALL.out.symm⟩)
end Go.Proofs.Ytcpiockmkpdkjaa

