/- sessions.Book: one. -/
import Derived.Test.YtcpiockmkpdkjaaSpn
import Derived.Test.YtcpiockmkpdkjaaPwr
import Derived.Test.YtcpiockmkpdkjaaMmc
namespace Go.Proofs.Ytcpiockmkpdkjaa
open Go.RowKit

theorem Bs.sub_ {w : World} {g o n c : Nat} {xs : List Int} (h : Bs w (.slice (some ⟨g, o, none⟩) n c) xs) (lo k c' : Nat) (hn : lo + k ≤ n) (hc : k ≤ c') :
    Bs w (.slice (some ⟨g, o + lo, none⟩) k c') ((xs.drop lo).take k) := by
  obtain ⟨A', c0, hv, hc0, hl, hh⟩ := h
  injection hv with h1 h2 h3
  subst h1; subst h2; subst h3
  have hk : ((xs.drop lo).take k).length = k := by rw [List.length_take, List.length_drop]; omega
  refine ⟨_, c', by rw [hk], by omega, by simp, ?_⟩
  rcases hh with h0 | ⟨g', o', hA', hg, hcell⟩
  · left; omega
  · injection hA' with hA
    injection hA with e1 e2
    subst e1; subst e2
    right
    refine ⟨g, o + lo, rfl, hg, fun j u hu => ?_⟩
    rw [Nat.add_assoc]
    refine hcell (lo + j) u ?_
    rw [← hu]
    have hj : j < k := by
      rcases Nat.lt_or_ge j k with h | h
      · exact h
      · rw [List.getElem?_eq_none (by rw [bc_len]; omega)] at hu; cases hu
    simp [bc, hj]
/-- Bytes from one on, as the walk spells it. -/
theorem Bs.from_ {w : World} {g o n c : Nat} {xs : List Int} (h : Bs w (.slice (some ⟨g, o, none⟩) n c) xs) (k : Nat) (hk : k ≤ n) :
    ∃ A, (if c = k then (some ⟨g, o, none⟩ : Option Addr) else some ⟨g, o + k, none⟩) = A ∧ Bs w (.slice A (n - k) (c - k)) (xs.drop k) := by
  obtain ⟨hl, hc, hd⟩ := h.drop k hk
  refine ⟨_, rfl, ?_⟩
  split
  · rename_i hck
    have : n - k = 0 := by omega
    have e : xs.drop k = [] := List.eq_nil_of_length_eq_zero (by rw [List.length_drop]; omega)
    rw [this, e]
    exact Bs.nils _ _ _
  · exact hd g o rfl
theorem Bs.fromto {w : World} {g o n c : Nat} {xs : List Int} (h : Bs w (.slice (some ⟨g, o, none⟩) n c) xs) (lo k : Nat) (hk : lo + k ≤ n) :
    ∃ A, (if c = lo then (some ⟨g, o, none⟩ : Option Addr) else some ⟨g, o + lo, none⟩) = A ∧ Bs w (.slice A k (c - lo)) ((xs.drop lo).take k) := by
  have hc : n ≤ c := (h.drop 0 (by omega)).2.1
  refine ⟨_, rfl, ?_⟩
  split
  · rename_i hck
    obtain rfl : k = 0 := by omega
    rw [List.take_zero]
    exact Bs.nils _ _ _
  · exact h.sub_ lo k _ hk (by omega)
theorem Bs.off_ {w : World} {g t : Nat} {cs : Array Value} {v : Value} {xs : List Int} (hk : Blk w g t cs) (hcs : ∀ (j : Nat) (c : Int), cs[j]? ≠ some (.int .u8 c)) (h : Bs w v xs) : xs.length = 0 ∨ ∀ k, v.ownBlock = some k → k ≠ g := by
  obtain ⟨A, c, rfl, _, _, hh⟩ := h
  rcases hh with h0 | ⟨b, o, rfl, _, hc⟩
  · exact .inl h0
  · rcases Nat.eq_zero_or_pos xs.length with h0 | h0
    · exact .inl h0
    · refine .inr fun k hke => ?_
      simp only [Value.ownBlock, Option.some.injEq] at hke
      rintro rfl
      have := hc 0 (.int .u8 xs[0]) (by simp [bc, h0])
      rw [show b = k from hke, hk.cell] at this
      exact hcs _ _ this
theorem bkCells_u8 (B : Nat → Sp) (V : Nat → Value) (hV : ∀ i, i < 8 → ∀ c, V i ≠ .int .u8 c) (j : Nat) (c : Int) : (bkCells B V).toArray[j]? ≠ some (.int .u8 c) := by
  intro h
  have hj : j < 33 := by
    rcases Nat.lt_or_ge j 33 with h1 | h1
    · exact h1
    · rw [Array.getElem?_eq_none (by simpa [bkCells, pgCells] using h1)] at h; cases h
  rcases Nat.lt_or_ge j 32 with h1 | h1
  · have e := bkCells_get B V (j / 4) (j % 4) (by omega) (Nat.mod_lt _ (by decide))
    rw [Nat.div_add_mod' j 4] at e
    rw [e] at h
    have hm : j % 4 < 4 := Nat.mod_lt _ (by decide)
    generalize j % 4 = m at h hm
    match m, hm, h with
    | 0, _, h => simp [pgCells] at h
    | 1, _, h => simp [pgCells] at h
    | 2, _, h => simp [pgCells] at h
    | 3, _, h => simp [pgCells] at h; exact hV (j / 4) (by omega) c h
  · obtain rfl : j = 32 := by omega
    simp [bkCells, pgCells] at h
theorem IsBk.off {F : Nat → Prop} {w : World} {b : Nat} {B : Nat → Sp} {v : Value} {xs : List Int} (h : IsBk F w b B) (hv : Bs w v xs) : xs.length = 0 ∨ ∀ k, v.ownBlock = some k → k ≠ b := by
  obtain ⟨V, hk, hvs⟩ := h
  refine Bs.off_ hk (bkCells_u8 B V fun i hi c he => ?_) hv
  obtain ⟨A, c', hV⟩ := (hvs i hi).1.sl_
  rw [hV] at he; cases he
/-- Bytes stand where a book alone turns. -/
theorem Bs.beside {w w' : World} {b : Nat} {v : Value} {xs : List Int} (hv : Bs w v xs) (ho : xs.length = 0 ∨ ∀ k, v.ownBlock = some k → k ≠ b) (hg : w.grownBy w' (some b)) : Bs w' v xs := by
  obtain ⟨A, c, rfl, hc, hl, hh⟩ := hv
  refine ⟨A, c, rfl, hc, hl, ?_⟩
  rcases hh with h0 | ⟨g, o, rfl, hgl, hcell⟩
  · exact .inl h0
  rcases ho with h0 | ho
  · exact .inl h0
  · have hgb := ho g (by simp [Value.ownBlock])
    refine .inr ⟨g, o, rfl, Nat.lt_of_lt_of_le hgl hg.size, fun j u hj => ?_⟩
    exact hg.cell (hcell j u hj) (fun e => hgb (Option.some.inj e))
theorem uni_reply {xs : List Int} {w w' : World} {e : Ending} (hp : GPost (replyP xs) replyQ (.agg #[.int .i64 0, .int .i64 0, .slice none 0 0]) w e w') :
    ∃ (E A : Int) (P : Option Addr) (gs : List (List Int)) (k : Int), e = .returned (.tuple #[repV E A (.slice P gs.length gs.length), .int .i64 k]) ∧ Below w.heap.size w w' ∧
      (k = 0 → allP (replyP xs) = .ok ([E, A], gs) ∧ Ow w.heap.size w' 42 2 (.slice P gs.length gs.length) gs.length (gs.flatMap (fc gotK))) ∧ (¬ k = 0 → allP (replyP xs) = .error k) := by
  unfold GPost at hp
  rcases hr : allP (replyP xs) with k | a
  · rw [hr] at hp
    obtain ⟨rfl, hb⟩ := hp
    exact ⟨0, 0, none, [], k, rfl, hb, fun hk => by rcases allP_bad cod_reply hr with h | h | h <;> omega, fun _ => rfl⟩
  · rw [hr] at hp
    obtain ⟨v1, rfl, hq, hb⟩ := hp
    obtain ⟨E, A, gs, P, rfl, rfl, ho⟩ := replyQ_ex hq
    exact ⟨E, A, P, gs, 0, rfl, hb, fun _ => ⟨rfl, ho⟩, fun h => absurd rfl h⟩
theorem oneB_some {B : Nat → Sp} {xs rest : List Int} {c E A : Int} {num : Nat} {gs : List (List Int)} (h : oneP xs = some (c, num, ([E, A], gs), rest)) : oneB B xs = if noteE B c num gs.length = 0 then some (c, noteB B c num E A gs, rest) else none := by unfold oneB; rw [h]
/-- How one ends. -/
def OPost (x : Option (Int × (Nat → Sp) × List Int)) (xs : List Int) (F : Nat → Prop) (_B : Nat → Sp) (b : Nat) (w : World) (e : Ending) (w' : World) : Prop :=
  ∃ (c s : Int) (ok : Bool), e = .returned (.tuple #[.int .u8 c, .int .i64 s, .bool ok]) ∧ w.grownBy w' (some b) ∧
    match x with
    | some (c', B', rest) => ok = true ∧ c = c' ∧ (∃ k : Nat, s = k ∧ k ≤ xs.length ∧ rest = xs.drop k) ∧ IsBk (fun k => F k ∨ w.heap.size ≤ k) w' b B'
    | none => ok = false ∧ ∃ B', IsBk (fun k => F k ∨ w.heap.size ≤ k) w' b B'
theorem opost_bad {x : Option (Int × (Nat → Sp) × List Int)} {xs : List Int} {F : Nat → Prop} {B B' : Nat → Sp} {b : Nat} {c s : Int} {w w' : World} (hx : x = none) (hg : w.grownBy w' (some b)) (h : IsBk (fun k => F k ∨ w.heap.size ≤ k) w' b B') :
    OPost x xs F B b w (.returned (.tuple #[.int .u8 c, .int .i64 s, .bool false])) w' := by
  subst hx; exact ⟨c, s, false, rfl, hg, rfl, B', h⟩
set_option maxHeartbeats 4000000 in
set_option maxRecDepth 100000 in
theorem one_any (b : Nat) (B : Nat → Sp) (v : Value) (xs : List Int) (w : World) {F : Nat → Prop} (h : IsBk F w b B) (hv : Bs w v xs) (hby : ∀ c ∈ xs, byt c) (hl : xs.length ≤ 1000000) :
    Calls Try.prog 36 #[.pointer (some ⟨b, 0, none⟩), v] w (OPost (oneB B xs) xs F B b w) := by
  match xs, hv, hby, hl with
  | [], hv, hby, hl =>
    obtain ⟨A, c, rfl, -⟩ := id hv
    have H := Lib.hid (h.mono (G := fun k => F k ∨ w.heap.size ≤ k) fun _ hk => .inl hk)
    clear h hv
    go_enter Try.func36, Try.ntmps36
    go_wp2
    refine bodyPost_ret (v := .tuple #[.int .u8 0, .int .i64 0, .bool false]) (by simp [results, Try.results36, go_sem]) rfl (opost_bad rfl (grown_refl_ _ _) H.out)
  | x0 :: r, hv, hby, hl =>
    obtain ⟨A, c, rfl, hc, hlx, hh⟩ := id hv
    obtain ⟨g, o, rfl⟩ : ∃ g o, A = some ⟨g, o, none⟩ := by
      rcases hh with h0 | ⟨g, o, hA, _⟩
      · simp at h0
      · exact ⟨g, o, hA⟩
    obtain ⟨n, hn⟩ : ∃ n, n = (x0 :: r).length := ⟨_, rfl⟩
    have hn1 : n = r.length + 1 := hn
    have hbr : ∀ c ∈ r, byt c := fun c hc => hby c (by simp [hc])
    rw [← hn] at hv hc hh ⊢
    obtain ⟨A1, q1, D1⟩ := hv.from_ 1 (by omega)
    rw [List.drop_succ_cons, List.drop_zero] at D1
    have hc' : (n : Int) ≤ c := by omega
    have hn0 : ¬ (n : Int) = 0 := by omega
    have hn0' : ((n : Int) == 0) = false := beq_eq_false_iff_ne.2 hn0
    have hn2 : (1 : Int) ≤ n := by omega
    have HBR := Lib.hid hbr
    have XB0 := Lib.hid (hby x0 (by simp))
    have DD1 := Lib.hid D1
    have H := Lib.hid h
    have HV := Lib.hid hv
    have HN := Lib.hid hn1
    clear hv hby hbr D1 h hn hh hlx
    obtain ⟨t1, s1, e1, ht1⟩ : ∃ a b d, tk r = (a, b, d) := ⟨_, _, _, rfl⟩
    have hs1 := tk_size r
    have he1 := tk_err r
    rw [ht1] at hs1 he1
    simp only at hs1 he1
    have hs10 : (0 : Int) ≤ s1 := by omega
    have hs1l : (s1 : Int) ≤ 10 := by omega
    have hs1n : (1 : Int) + s1 ≤ n := by omega
    obtain ⟨A2, q2, D2⟩ := HV.out.from_ (1 + s1) (by omega)
    have DD2 := Lib.hid D2
    have T1 := Lib.hid ht1
    obtain ⟨r1, hr1⟩ : ∃ l, l = (x0 :: r).drop (1 + s1) := ⟨_, rfl⟩
    have hr1e : r1 = r.drop s1 := by rw [hr1, Nat.add_comm, List.drop_succ_cons]
    rw [← hr1] at DD2
    have hbr1 : ∀ c ∈ r1, byt c := fun c hc => HBR.out c (by rw [hr1e] at hc; exact List.mem_of_mem_drop hc)
    have hr1l : r1.length = n - (1 + s1) := by rw [hr1, List.length_drop]; simp only [List.length_cons]; omega
    obtain ⟨t2, s2, e2, ht2⟩ : ∃ a b d, tk r1 = (a, b, d) := ⟨_, _, _, rfl⟩
    have hs2 := tk_size r1
    have he2 := tk_err r1
    have ht2l := tk_lt hbr1
    rw [ht2] at hs2 he2 ht2l
    simp only at hs2 he2 ht2l
    have hs20 : (0 : Int) ≤ s2 := by omega
    have hs2l : (s2 : Int) ≤ 10 := by omega
    have hs2n : (1 : Int) + s1 + s2 ≤ n := by omega
    have T2 := Lib.hid ht2
    have HBR1 := Lib.hid hbr1
    have R1 := Lib.hid hr1e
    have RL1 := Lib.hid hr1l
    have hn6 : (n : Int) ≤ 1000000 := by have := HN.out; simp only [List.length_cons] at hl; omega
    have HB' := Lib.hid (H.out.mono (G := fun k => F k ∨ w.heap.size ≤ k) fun _ hk => .inl hk)
    clear D2 ht1 hr1 hbr1 hr1e hr1l ht2 hn1
    have hd2 : (c = 1 + s1 ∧ some ⟨g, o, none⟩ = A2) ∨ (¬ c = 1 + s1 ∧ some ⟨g, o + (1 + s1), none⟩ = A2) := by
      by_cases h : c = 1 + s1
      · rw [if_pos h] at q2; exact .inl ⟨h, q2⟩
      · rw [if_neg h] at q2; exact .inr ⟨h, q2⟩
    clear q2
    have HE2 := Lib.hid he2
    by_cases z1 : e1 = 0
    · subst z1
      have hs1p : 0 < s1 := he1.elim (fun h => h.2) (fun h => absurd rfl h.1)
      have hs1z : ((s1 : Int) == 0) = false := beq_eq_false_iff_ne.2 (by omega)
      have hs1q : ¬ (s1 : Int) = 0 := by omega
      have hc1 : ¬ c = 1 := by omega
      rw [if_neg hc1] at q1
      subst q1
      by_cases z2 : e2 = 0
      · subst z2
        have hs2p : 0 < s2 := HE2.out.elim (fun h => h.2) (fun h => absurd rfl h.1)
        have hs2z : ((s2 : Int) == 0) = false := beq_eq_false_iff_ne.2 (by omega)
        have hs2q : ¬ (s2 : Int) = 0 := by omega
        have hc2 : ¬ c = 1 + s1 := by have := RL1.out; omega
        obtain rfl : some ⟨g, o + (1 + s1), none⟩ = A2 := hd2.elim (fun h => absurd h.1 hc2) (fun h => h.2)
        have hlr := RL1.out
        obtain ⟨r2, hr2⟩ : ∃ l, l = r1.drop s2 := ⟨_, rfl⟩
        have hr2l : r2.length = n - (1 + s1 + s2) := by rw [hr2, List.length_drop]; omega
        have HR2 := Lib.hid hr2
        have N1 := Lib.hid (numP_is T1.out)
        have N2 := Lib.hid (numP_is T2.out)
        rw [← R1.out] at N1
        rw [← hr2] at N2
        clear hd2 he1 he2 hlr hr2
        by_cases zn : t1 = 0
        · subst zn
          have bad := Lib.hid (oneB_none (B := B) (oneP_bad3 (c := x0) N1.out N2.out (.inl rfl)))
          go_enter Try.func36, Try.ntmps36
          go_wp2_with fail
          refine (Take_any _ r _ DD1.out HBR.out (by simp only [List.length_cons] at hl; omega)).mono ?_
          rintro e w1 ⟨rfl, rfl⟩
          rw [T1.out]
          go_wp2_with fail
          refine (Take_any _ r1 _ DD2.out HBR1.out (by have := RL1.out; omega)).mono ?_
          rintro e w1 ⟨rfl, rfl⟩
          rw [T2.out]
          go_wp2
          refine bodyPost_ret (v := .tuple #[.int .u8 0, .int .i64 0, .bool false]) (by simp [results, Try.results36, go_sem]) rfl (opost_bad bad.out (grown_refl_ _ _) HB'.out)
        · have znz : ((t1 : Int) == 0) = false := beq_eq_false_iff_ne.2 (by omega)
          have znq : ¬ (t1 : Int) = 0 := by omega
          by_cases zl : r2.length < t2
          · have bad := Lib.hid (oneB_none (B := B) (oneP_bad3 (c := x0) N1.out N2.out (.inr zl)))
            have hzl : (n : Int) - (1 + s1 + s2) < t2 := by omega
            go_enter Try.func36, Try.ntmps36
            go_wp2_with fail
            refine (Take_any _ r _ DD1.out HBR.out (by simp only [List.length_cons] at hl; omega)).mono ?_
            rintro e w1 ⟨rfl, rfl⟩
            rw [T1.out]
            go_wp2_with fail
            refine (Take_any _ r1 _ DD2.out HBR1.out (by have := RL1.out; omega)).mono ?_
            rintro e w1 ⟨rfl, rfl⟩
            rw [T2.out]
            go_wp2
            refine bodyPost_ret (v := .tuple #[.int .u8 0, .int .i64 0, .bool false]) (by simp [results, Try.results36, go_sem]) rfl (opost_bad bad.out (grown_refl_ _ _) HB'.out)
          · have hzl : ¬ (n : Int) - (1 + s1 + s2) < t2 := by omega
            have hzs : (1 : Int) + s1 + s2 + t2 ≤ n := by omega
            have ht6 : (t2 : Int) ≤ 1000000 := by omega
            have ht0 : (0 : Int) ≤ t2 := by omega
            have hx0 := XB0.out
            have hgb : ¬ g = b := by
              rcases H.out.off HV.out with h0 | h0
              · simp at h0
              · exact h0 g rfl
            have hx0c : w.cell? ⟨g, o, none⟩ = some (.int .u8 x0) := by
              obtain ⟨A', c', hv', -, -, hh'⟩ := HV.out
              injection hv' with h1 h2 h3
              subst h1
              rcases hh' with h0 | ⟨g', o', hA', -, hcell⟩
              · simp at h0
              · injection hA' with hA
                injection hA with e1 e2 e3
                subst e1; subst e2
                exact hcell 0 _ rfl
            have hgl : g < w.heap.size := by
              obtain ⟨A', c', hv', -, -, hh'⟩ := HV.out
              injection hv' with h1 h2 h3
              subst h1
              rcases hh' with h0 | ⟨g', o', hA', hgl, hcell⟩
              · simp at h0
              · injection hA' with hA
                injection hA with e1 e2 e3
                subst e1
                exact hgl
            have hbl := H.out.lt
            have X0 := Lib.hid hx0c
            have XB := Lib.hid hx0
            have ht64 : (t1 : Int) ≤ 18446744073709551615 := by have := tk_lt HBR.out; rw [T1.out] at this; simp only at this; omega
            have N3 := Lib.hid (show ¬ (t1 = 0 ∨ r2.length < t2) by omega)
            have RE := Lib.hid (show r2.drop t2 = (x0 :: r).drop (1 + s1 + s2 + t2) by
              rw [HR2.out, R1.out, List.drop_drop, List.drop_drop, show 1 + s1 + s2 + t2 = s1 + (s2 + t2) + 1 from by omega, List.drop_succ_cons])
            have hkn : 1 + s1 + s2 + t2 ≤ n := by omega
            have hkI : ((1 + s1 + s2 + t2 : Nat) : Int) = 1 + (s1 : Int) + s2 + t2 := by omega
            have hdr : ((x0 :: r).drop (1 + s1 + s2)).take t2 = r2.take t2 := by
              rw [HR2.out, R1.out, List.drop_drop, show 1 + s1 + s2 = s1 + s2 + 1 from by omega, List.drop_succ_cons]
            obtain ⟨A3, q3, D3⟩ := HV.out.fromto (1 + s1 + s2) t2 (by omega)
            rw [hdr] at D3
            have hby3 : ∀ c ∈ r2.take t2, byt c := fun c hc => by
              rw [HR2.out, R1.out] at hc
              exact HBR.out c (List.mem_of_mem_drop (List.mem_of_mem_drop (List.mem_of_mem_take hc)))
            have BY3 := Lib.hid hby3
            have DD3 := Lib.hid D3
            have hl3 : (r2.take t2).length ≤ 1000000 := by rw [List.length_take]; simp only [List.length_cons] at hl; omega
            have LL3 := Lib.hid hl3
            clear D3 hby3 hdr hx0c hx0 hl3
            have cont : ∀ A4, A4 = A3 → Calls Try.prog 49 #[.slice A4 t2 (c - (1 + s1 + s2))] w fun e w' => ∃ (E A : Int) (P : Option Addr) (gs : List (List Int)) (k : Int), e = .returned (.tuple #[repV E A (.slice P gs.length gs.length), .int .i64 k]) ∧ Below w.heap.size w w' ∧
      (k = 0 → allP (replyP (r2.take t2)) = .ok ([E, A], gs) ∧ Ow w.heap.size w' 42 2 (.slice P gs.length gs.length) gs.length (gs.flatMap (fc gotK))) ∧ (¬ k = 0 → allP (replyP (r2.take t2)) = .error k) := by
              rintro A4 rfl
              exact (Get_reply_any _ (r2.take t2) _ DD3.out BY3.out (Nat.le_trans LL3.out (by decide))).mono fun e w' hp => uni_reply hp
            have CT := Lib.hid cont
            by_cases hc3 : c = 1 + s1 + s2
            · obtain rfl : t2 = 0 := by omega
              have hc3' : 1 + s1 + s2 = c := hc3.symm
              have CT0 := Lib.hid (fun (A4 : Option Addr) (q : Nat) => (Get_reply_any (.slice A4 0 q) [] w (Bs.nils _ _ _) (by simp) (by simp)).mono fun e w' hp => uni_reply hp)
              clear hc3 q3 CT
              go_enter Try.func36, Try.ntmps36
              go_wp2_with fail
              refine (Take_any _ r _ DD1.out HBR.out (by simp only [List.length_cons] at hl; omega)).mono ?_
              rintro e w1 ⟨rfl, rfl⟩
              rw [T1.out]
              go_wp2_with fail
              refine (Take_any _ r1 _ DD2.out HBR1.out (by have := RL1.out; omega)).mono ?_
              rintro e w1 ⟨rfl, rfl⟩
              rw [T2.out]
              go_wp2_with fail
              refine (CT0.out _ _).mono ?_
              rintro e w1 ⟨E, A, P, gs, k, rfl, hb1, hk1, hk2⟩
              obtain ⟨ng, hng⟩ : ∃ m, m = gs.length := ⟨_, rfl⟩
              rw [← hng] at hk1 ⊢
              have HB1 := Lib.hid (H.out.below hb1)
              have X1 := Lib.hid ((hb1.cell hgl).trans X0.out)
              have Q1 := Lib.hid hk1
              have Q2 := Lib.hid hk2
              have NG := Lib.hid hng
              have BE1 := Lib.hid hb1
              have hs1' := hb1.size
              clear hk1 hk2 hb1 hng
              have kz : ¬ k = 0 := fun h => by have := (Q1.out h).1; cases this
              have kz' : (k == 0) = false := beq_eq_false_iff_ne.2 kz
              have bad := Lib.hid (oneB_none (B := B) (oneP_bad4 (c := x0) N1.out N2.out N3.out (Q2.out kz)))
              have hxc : (w1.alloc (.cells #[.int .i64 E, .int .i64 A, .slice P ng ng] 33)).cell? ⟨g, o, none⟩ = some (.int .u8 x0) := (World.cell?_alloc_lt _ _ _ (Nat.lt_of_lt_of_le hgl hs1')).trans X1.out
              have HBZ := Lib.hid ((HB1.out.below (below_alloc_ w1 (.cells #[.int .i64 E, .int .i64 A, .slice P ng ng] 33))).mono (G := fun k => F k ∨ w.heap.size ≤ k) fun _ hk => .inl hk)
              have BEZ := Lib.hid (grown_below_ (BE1.out.trans ((below_alloc_ w1 (.cells #[.int .i64 E, .int .i64 A, .slice P ng ng] 33)).mono hs1')) (some b))
              go_wp2_with fail
              go_quiet (fail)
              go_wp2
              refine bodyPost_ret (v := .tuple #[.int .u8 x0, .int .i64 _, .bool false]) (by simp [results, Try.results36, go_sem]; rfl) rfl (opost_bad bad.out (grown_trans_ BEZ.out (grown_below_ (below_drewN_ _ _ nq) _)) (HBZ.out.below (below_drewN_ _ _ nq)))
            · rw [if_neg hc3] at q3
              subst q3
              go_enter Try.func36, Try.ntmps36
              go_wp2_with fail
              refine (Take_any _ r _ DD1.out HBR.out (by simp only [List.length_cons] at hl; omega)).mono ?_
              rintro e w1 ⟨rfl, rfl⟩
              rw [T1.out]
              go_wp2_with fail
              refine (Take_any _ r1 _ DD2.out HBR1.out (by have := RL1.out; omega)).mono ?_
              rintro e w1 ⟨rfl, rfl⟩
              rw [T2.out]
              go_wp2_with fail
              refine (CT.out _ rfl).mono ?_
              rintro e w1 ⟨E, A, P, gs, k, rfl, hb1, hk1, hk2⟩
              obtain ⟨ng, hng⟩ : ∃ m, m = gs.length := ⟨_, rfl⟩
              rw [← hng] at hk1 ⊢
              have HB1 := Lib.hid (H.out.below hb1)
              have X1 := Lib.hid ((hb1.cell hgl).trans X0.out)
              have Q1 := Lib.hid hk1
              have Q2 := Lib.hid hk2
              have NG := Lib.hid hng
              have BE1 := Lib.hid hb1
              have hs1' := hb1.size
              clear hk1 hk2 hb1 hng
              by_cases kz : k = 0
              · subst kz
                obtain ⟨hal, how⟩ := Q1.out rfl
                have hok := (cod_all cod_reply BY3.out hal).2
                have OKR := Lib.hid hok
                obtain ⟨R, hR⟩ : ∃ R, noteE B x0 t1 gs.length = R := ⟨_, rfl⟩
                obtain ⟨B', hB'⟩ : ∃ B', noteB B x0 t1 E A gs = B' := ⟨_, rfl⟩
                have good := Lib.hid ((oneB_some (B := B) (oneP_ok (c := x0) N1.out N2.out N3.out hal)).trans (by rw [hR, hB', RE.out]))
                have RR := Lib.hid hR
                have RB := Lib.hid hB'
                have AW := below_alloc_ w1 (.cells #[.int .i64 E, .int .i64 A, .slice P ng ng] 33)
                have GV := Lib.hid (show Gots (w1.alloc (.cells #[.int .i64 E, .int .i64 A, .slice P ng ng] 33)) (.slice P ng ng) gs from by have := how.rd.below AW; unfold Gots; rw [← NG.out]; exact this)
                have KR := Blk.new w1 33 #[.int .i64 E, .int .i64 A, .slice P ng ng]
                have HBW := Lib.hid (HB1.out.below AW)
                have BEZ := Lib.hid (grown_below_ (BE1.out.trans (AW.mono hs1')) (some b))
                have hz : (w1.alloc (.cells #[.int .i64 E, .int .i64 A, .slice P ng ng] 33)).heap.size = w1.heap.size + 1 := by simp
                have hxc : (w1.alloc (.cells #[.int .i64 E, .int .i64 A, .slice P ng ng] 33)).cell? ⟨g, o, none⟩ = some (.int .u8 x0) := (World.cell?_alloc_lt _ _ _ (Nat.lt_of_lt_of_le hgl hs1')).trans X1.out
                have hp0 := KR.cell 0
                have hp1 := KR.cell 1
                have hp2 := KR.cell 2
                simp only [List.getElem?_toArray, List.getElem?_cons_zero, List.getElem?_cons_succ] at hp0 hp1 hp2
                have hwb : ¬ w1.heap.size = b := by omega
                have hn0n : 0 < n := by omega
                have hn0i : (0 : Int) < n := by omega
                clear hal how hok hR hB' AW KR
                go_wp2_with fail
                generalize (w1.alloc (.cells #[.int .i64 E, .int .i64 A, .slice P ng ng] 33)) = W2 at *
                have K0 := Lib.hid (show W2.drew.cell? ⟨g, o, none⟩ = some (.int .u8 x0) ∧ W2.drew.cell? ⟨w1.heap.size, 0, none⟩ = some (.int .i64 E) ∧ W2.drew.cell? ⟨w1.heap.size, 1, none⟩ = some (.int .i64 A) ∧ W2.drew.cell? ⟨w1.heap.size, 2, none⟩ = some (.slice P ng ng) from ⟨hxc, hp0, hp1, hp2⟩)
                have K1 := Lib.hid (show ∀ X, W2.drew.grownBy X (some b) → X.cell? ⟨g, o, none⟩ = some (.int .u8 x0) ∧ X.cell? ⟨w1.heap.size, 0, none⟩ = some (.int .i64 E) ∧ X.cell? ⟨w1.heap.size, 1, none⟩ = some (.int .i64 A) ∧ X.cell? ⟨w1.heap.size, 2, none⟩ = some (.slice P ng ng) from
                  fun X hg => ⟨hg.cell K0.out.1 (fun e => hgb (Option.some.inj e)), hg.cell K0.out.2.1 (fun e => hwb (Option.some.inj e)), hg.cell K0.out.2.2.1 (fun e => hwb (Option.some.inj e)), hg.cell K0.out.2.2.2 (fun e => hwb (Option.some.inj e))⟩)
                clear hxc hp0 hp1 hp2
                go_region_held3 (fun w' => w'.cell? ⟨g, o, none⟩ = some (.int .u8 x0) ∧ w'.cell? ⟨w1.heap.size, 0, none⟩ = some (.int .i64 E) ∧ w'.cell? ⟨w1.heap.size, 1, none⟩ = some (.int .i64 A) ∧ w'.cell? ⟨w1.heap.size, 2, none⟩ = some (.slice P ng ng)) (first
                  | (with_reducible exact K1.out _ gw3)
                  | (with_reducible exact K0.out)
                  | fail)
                  (first
                  | (go_at_call 9; refine (note_at b B B' x0 t1 E A R _ gs _ (HBW.out.below (Below.refl _ W2).drew) (GV.out.drew) ht64 OKR.out.1.1 OKR.out.1.2.1 OKR.out.2.2 RR.out RB.out).mono ?_; rintro e w3 ⟨rfl, b3, gw3⟩))
                have hgrow : w.grownBy w3 (some b) := grown_trans_ (grown_trans_ BEZ.out (grown_below_ (Below.refl _ W2).drew _)) gw3
                have hW2 : W2.drew.heap.size = w1.heap.size + 1 := hz
                have B3 := Lib.hid ((show IsBk _ w3 b B' from b3).mono (G := fun k => F k ∨ w.heap.size ≤ k) fun k hk => hk.elim .inl fun h => .inr (by rw [hW2] at h; omega))
                have HGW := Lib.hid hgrow
                clear b3 gw3 hgrow K0 K1
                go_wp2
                refine bodyPost_ret (v := .tuple #[.int .u8 x0, .int .i64 (1 + s1 + s2 + t2), .bool (R == 0)]) (by simp [results, Try.results36, go_sem]) rfl ?_
                refine ⟨_, _, _, rfl, HGW.out, ?_⟩
                rw [good.out]
                by_cases hR0 : R = 0
                · rw [if_pos hR0]
                  exact ⟨by rw [hR0]; rfl, rfl, ⟨1 + s1 + s2 + t2, hkI.symm, by have := HN.out; simp only [List.length_cons]; omega, rfl⟩, B3.out⟩
                · rw [if_neg hR0]
                  exact ⟨beq_eq_false_iff_ne.2 hR0, B', B3.out⟩
              · have kz' : (k == 0) = false := beq_eq_false_iff_ne.2 kz
                have bad := Lib.hid (oneB_none (B := B) (oneP_bad4 (c := x0) N1.out N2.out N3.out (Q2.out kz)))
                have hxc : (w1.alloc (.cells #[.int .i64 E, .int .i64 A, .slice P ng ng] 33)).cell? ⟨g, o, none⟩ = some (.int .u8 x0) := (World.cell?_alloc_lt _ _ _ (Nat.lt_of_lt_of_le hgl hs1')).trans X1.out
                have HBZ := Lib.hid ((HB1.out.below (below_alloc_ w1 (.cells #[.int .i64 E, .int .i64 A, .slice P ng ng] 33))).mono (G := fun k => F k ∨ w.heap.size ≤ k) fun _ hk => .inl hk)
                have BEZ := Lib.hid (grown_below_ (BE1.out.trans ((below_alloc_ w1 (.cells #[.int .i64 E, .int .i64 A, .slice P ng ng] 33)).mono hs1')) (some b))
                go_wp2_with fail
                go_quiet (fail)
                go_wp2
                refine bodyPost_ret (v := .tuple #[.int .u8 x0, .int .i64 _, .bool false]) (by simp [results, Try.results36, go_sem]; rfl) rfl (opost_bad bad.out (grown_trans_ BEZ.out (grown_below_ (below_drewN_ _ _ nq) _)) (HBZ.out.below (below_drewN_ _ _ nq)))
      · have bad := Lib.hid (oneB_none (B := B) (oneP_bad2 (c := x0) (numP_is T1.out) (by rw [← R1.out]; exact numP_bad T2.out z2)))
        have hs2z : ((s2 : Int) == 0) = true := by rw [(HE2.out.elim (fun h => absurd h.1 z2) (fun h => h.2)).1]; rfl
        clear he1 he2 z2
        rcases hd2 with ⟨hc2, rfl⟩ | ⟨hc2, rfl⟩
        · have e0 : r1 = [] := List.eq_nil_of_length_eq_zero (by have := RL1.out; omega)
          have hnn : n = 1 + s1 := by omega
          subst e0 hnn hc2
          have D1 := DD1.out
          rw [Nat.add_sub_cancel_left] at D1
          have DE1 := Lib.hid D1
          clear D1 DD1 DD2
          go_enter Try.func36, Try.ntmps36
          go_wp2_with fail
          refine (Take_any _ r _ DE1.out HBR.out (by simp only [List.length_cons] at hl; omega)).mono ?_
          rintro e w1 ⟨rfl, rfl⟩
          rw [T1.out]
          go_wp2_with fail
          refine (Take_any _ [] _ (Bs.nils _ _ _) (by simp) (by simp)).mono ?_
          rintro e w1 ⟨rfl, rfl⟩
          rw [T2.out]
          go_wp2
          refine bodyPost_ret (v := .tuple #[.int .u8 0, .int .i64 0, .bool false]) (by simp [results, Try.results36, go_sem]) rfl (opost_bad bad.out (grown_refl_ _ _) HB'.out)
        · go_enter Try.func36, Try.ntmps36
          go_wp2_with fail
          refine (Take_any _ r _ DD1.out HBR.out (by simp only [List.length_cons] at hl; omega)).mono ?_
          rintro e w1 ⟨rfl, rfl⟩
          rw [T1.out]
          go_wp2_with fail
          refine (Take_any _ r1 _ DD2.out HBR1.out (by have := RL1.out; omega)).mono ?_
          rintro e w1 ⟨rfl, rfl⟩
          rw [T2.out]
          go_wp2
          refine bodyPost_ret (v := .tuple #[.int .u8 0, .int .i64 0, .bool false]) (by simp [results, Try.results36, go_sem]) rfl (opost_bad bad.out (grown_refl_ _ _) HB'.out)
    · have z1s : s1 = 0 ∧ t1 = 0 := he1.elim (fun h => absurd h.1 z1) (fun h => h.2)
      have bad := Lib.hid (oneB_none (B := B) (oneP_bad1 (c := x0) (numP_bad T1.out z1)))
      obtain ⟨rfl, rfl⟩ := z1s
      clear he1 he2 z1 hd2 DD2 hs1 hs10 hs1l hs1n
      go_enter Try.func36, Try.ntmps36
      go_wp2_with fail
      refine (Take_any _ r _ DD1.out HBR.out (by simp only [List.length_cons] at hl; omega)).mono ?_
      rintro e w1 ⟨rfl, rfl⟩
      rw [T1.out]
      go_wp2_with fail
      refine (Take_any _ r _ DD1.out HBR.out (by simp only [List.length_cons] at hl; omega)).mono ?_
      rintro e w1 ⟨rfl, rfl⟩
      rw [T1.out]
      go_wp2
      refine bodyPost_ret (v := .tuple #[.int .u8 0, .int .i64 0, .bool false]) (by simp [results, Try.results36, go_sem]) rfl (opost_bad bad.out (grown_refl_ _ _) HB'.out)
end Go.Proofs.Ytcpiockmkpdkjaa
