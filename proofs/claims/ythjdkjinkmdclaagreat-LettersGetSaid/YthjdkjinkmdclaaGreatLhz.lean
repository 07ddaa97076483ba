import Derived.Test.YthjdkjinkmdclaaGreatGtg
import Derived.Test.YthjdkjinkmdclaaGreatAll
import Derived.Test.YthjdkjinkmdclaaGreatLpl
import Derived.Test.YthjdkjinkmdclaaGreatRow
import Derived.Test.YthjdkjinkmdclaaGreatPcc
import Derived.Test.YthjdkjinkmdclaaGreatPcr
import Derived.Test.YthjdkjinkmdclaaGreatPce
import Derived.Test.YthjdkjinkmdclaaGreatLdz
import Derived.Test.YthjdkjinkmdclaaGreatLge
/- The document's taker of bytes. -/
namespace Go.Proofs.YthjdkjinkmdclaaGreat
open Go.RowKit

/-- The state of a taker: the bytes that are left, or what was wrong first. -/
abbrev TS := Except Int (List Int)
/-- What one step takes, and the state behind it; z: what it answers where something is wrong. -/
def run {α : Type} (P : List Int → Res α) (z : α) : TS → α × TS
  | .error k => (z, .error k)
  | .ok xs => match P xs with
    | .ok (a, r) => (a, .ok r)
    | .error k => (z, .error k)
/-- The taker in block t. -/
def Ts (w : World) (t : Nat) : TS → Prop
  | .ok xs => (∃ v, Blk w t 87 #[v, .int .i64 0] ∧ Bs w v xs ∧ (xs.length = 0 ∨ ∀ k, v.ownBlock = some k → k < t)) ∧ (∀ c ∈ xs, byt c) ∧ xs.length ≤ 4611686018427387904
  | .error k => k ≠ 0 ∧ ∃ v, Blk w t 87 #[v, .int .i64 k]
theorem rd_off_ {w w' : World} {size n t : Nat} {v : Value} {xs : List Value} (h : Rd w size v n xs) (hl : n = 0 ∨ ∀ k, v.ownBlock = some k → k < t) {r : Option Nat} (hg : w.grownBy w' r) (hr : ∀ k, r = some k → t ≤ k) : Rd w' size v n xs := by
  obtain ⟨A, c, rfl, hc, hx, hh⟩ := h
  refine ⟨A, c, rfl, hc, hx, ?_⟩
  rcases hh with h0 | ⟨g, o, rfl, hgl, hcell⟩
  · exact .inl h0
  rcases hl with h0 | hl
  · exact .inl h0
  · have hgB := hl g (by simp [Value.ownBlock])
    exact .inr ⟨g, o, rfl, Nat.lt_of_lt_of_le hgl hg.size, fun j u hj => (World.cell?_of_block (a := ⟨g, o + j, none⟩) (hg.block g hgl (fun e => by have := hr g e.symm; omega))).trans (hcell j u hj)⟩
theorem Ts.lt {w : World} {t : Nat} {s : TS} (h : Ts w t s) : t < w.heap.size := by
  cases s with
  | ok xs => obtain ⟨⟨v, hk, _⟩, _⟩ := h; exact hk.lt
  | error k => obtain ⟨_, v, hk⟩ := h; exact hk.lt
theorem Ts.grown {w w' : World} {t : Nat} {s : TS} (h : Ts w t s) {r : Option Nat} (hg : w.grownBy w' r) (hr : ∀ k, r = some k → t < k) : Ts w' t s := by
  cases s with
  | ok xs =>
    obtain ⟨⟨v, hk, hb, hl⟩, h1, h2⟩ := h
    exact ⟨⟨v, hk.grown hg (fun e => by have := hr t e.symm; omega), rd_off_ hb hl hg (fun k e => Nat.le_of_lt (hr k e)), hl⟩, h1, h2⟩
  | error k => obtain ⟨h0, v, hk⟩ := h; exact ⟨h0, v, hk.grown hg (fun e => by have := hr t e.symm; omega)⟩
theorem Ts.below {w w' : World} {t : Nat} {s : TS} (h : Ts w t s) (hb : Below w.heap.size w w') : Ts w' t s := h.grown (grown_below_ hb none) (fun _ e => by cases e)
theorem Ts.errno {w : World} {t : Nat} {s : TS} (h : Ts w t s) : ∃ k, w.cell? ⟨t, 1, none⟩ = some (.int .i64 k) ∧ (∀ xs, s = .ok xs → k = 0) ∧ (∀ j, s = .error j → k = j ∧ k ≠ 0) := by
  match s, h with
  | .ok xs, ⟨⟨v, hk, _⟩, _⟩ => exact ⟨0, by rw [hk.cell]; rfl, fun _ _ => rfl, fun _ e => by cases e⟩
  | .error k, ⟨h0, v, hk⟩ =>
    refine ⟨k, by rw [hk.cell]; rfl, ?_, ?_⟩
    · intro xs e; cases e
    · intro j e; injection e with e; exact ⟨e, h0⟩
theorem Ts.store {w : World} {t : Nat} {v0 v : Value} {xs : List Int} (hk : Blk w t 87 #[v0, .int .i64 0]) (hb : Bs w v xs) (hby : ∀ c ∈ xs, byt c) (hl : xs.length ≤ 4611686018427387904) (hw : xs.length = 0 ∨ ∀ k, v.ownBlock = some k → k < t) : Ts (w.setCell ⟨t, 0, none⟩ v) t (.ok xs) := by
  refine ⟨⟨v, by have := hk.set_ 0 v; simpa using this, rd_off_ (t := t) hb hw (grown_set_ w t 0 v) (fun k e => by cases e; exact Nat.le_refl _), hw⟩, hby, hl⟩

set_option maxHeartbeats 2000000 in
theorem tbyte_any (t : Nat) (s : TS) (w : World) (h : Ts w t s) :
    Calls Tryz.prog 35 #[.pointer (some ⟨t, 0, none⟩)] w fun e w' => e = .returned (.int .u8 (run byteP 0 s).1) ∧ Ts w' t (run byteP 0 s).2 ∧ w.grownBy w' (some t) := by
  match s, h with
  | .error k, ⟨h0, v, hk⟩ =>
    have HK := Lib.hid hk
    have c1 := hk.cell 1
    simp only [List.getElem?_toArray, List.getElem?_cons_zero, List.getElem?_cons_succ] at c1
    have hk1 : (k != 0) = true := by simpa using h0
    have H0 := Lib.hid h0
    clear hk h0
    go_enter Tryz.func35, Tryz.ntmps35
    go_wp2
    go_ret
    exact ⟨rfl, ⟨H0.out, v, HK.out⟩, grown_refl_ _ _⟩
  | .ok [], ⟨⟨v, hk, hb, hl⟩, h1, h2⟩ =>
    have HK := Lib.hid hk
    have c0 := hk.cell 0
    have c1 := hk.cell 1
    have f := hk.free
    simp only [List.getElem?_toArray, List.getElem?_cons_zero, List.getElem?_cons_succ] at c0 c1
    obtain ⟨A, c, rfl, -⟩ := id hb
    clear hk hb hl h1 h2
    go_enter Tryz.func35, Tryz.ntmps35
    go_wp2
    go_ret
    refine ⟨rfl, ⟨by decide, .slice A 0 c, ?_⟩, grown_set_ _ _ _ _⟩
    have := HK.out.set_ 1 (.int .i64 5)
    simpa using this
  | .ok (x :: r), ⟨⟨v, hk, hb, hw⟩, h1, h2⟩ =>
    obtain ⟨A, c, rfl, hc, hlx, hh⟩ := id hb
    rcases hh with h0 | ⟨g, o, rfl, hg, hcell⟩
    · cases h0
    have hgt : g < t := by
      rcases hw with h | h
      · simp at h
      · exact h g rfl
    obtain ⟨_, _, hd⟩ := Bs.drop hb 1 (by simp)
    have hx := hcell 0 (.int .u8 x) rfl
    rw [Nat.add_zero] at hx
    have HD := Lib.hid (hd g o rfl)
    obtain ⟨m, hm⟩ : ∃ m, m = (x :: r).length := ⟨_, rfl⟩
    have M := Lib.hid hm
    have c0 := hk.cell 0
    have c1 := hk.cell 1
    simp only [List.getElem?_toArray, List.getElem?_cons_zero, List.getElem?_cons_succ, ← hm] at c0 c1
    have hfz := hk.free
    have HK := Lib.hid hk
    have HB := Lib.hid (show ∀ y ∈ r, byt y from fun y hy => h1 y (by simp [hy]))
    have HL := Lib.hid (show r.length ≤ 4611686018427387904 by simp at h2; omega)
    have hm0 : 0 < m := by rw [hm]; simp
    rw [← hm] at HD HK hc
    have hm0' : 0 < (m : Int) := by omega
    have hm1' : (1 : Int) ≤ (m : Int) := by omega
    have hmc' : (m : Int) ≤ (c : Int) := by omega
    have hmc1' : (1 : Int) ≤ (c : Int) := by omega
    have hml' : (m : Int) ≤ 4611686018427387904 := by rw [hm]; omega
    have hmz : ¬ (m : Int) = 0 := by omega
    clear hk hb hw h1 h hd hlx hm h2 hcell hc
    go_enter Tryz.func35, Tryz.ntmps35
    go_wp2
    · refine bodyPost_ret (results_tmp rfl _ _ _) rfl ⟨rfl, Ts.store HK.out (Bs.empty (ys := r) ?_ (by omega)) HB.out HL.out (.inr (fun k hk => by simp [Value.ownBlock] at hk; omega)), grown_set_ _ _ _ _⟩
      have hM := M.out
      simp at hM
      exact List.eq_nil_of_length_eq_zero (by omega)
    · exact bodyPost_ret (results_tmp rfl _ _ _) rfl ⟨rfl, Ts.store HK.out HD.out HB.out HL.out (.inr (fun k hk => by simp [Value.ownBlock] at hk; omega)), grown_set_ _ _ _ _⟩

theorem Ts.fail {w : World} {t : Nat} {s : TS} (h : Ts w t s) {k : Int} (hk : k ≠ 0) : Ts (w.setCell ⟨t, 1, none⟩ (.int .i64 k)) t (.error k) := by
  cases s with
  | ok xs => obtain ⟨⟨v, hb, _⟩, _⟩ := h; exact ⟨hk, v, by have := hb.set_ 1 (.int .i64 k); simpa using this⟩
  | error j => obtain ⟨_, v, hb⟩ := h; exact ⟨hk, v, by have := hb.set_ 1 (.int .i64 k); simpa using this⟩
theorem Ts.free {w : World} {t : Nat} {s : TS} (h : Ts w t s) (i : Nat) : w.frozen? ⟨t, i, none⟩ = false := by
  cases s with
  | ok xs => obtain ⟨⟨v, hb, _⟩, _⟩ := h; exact hb.free i
  | error j => obtain ⟨_, v, hb⟩ := h; exact hb.free i
/-- A number, as the document takes it. -/
def nGo : Nat → Nat → Nat → List Int → Nat × TS
  | 0, _, _, _ => (0, .error 4)
  | _ + 1, _, _, [] => (0, .error 5)
  | f + 1, i, acc, c :: r => if i = 9 ∧ 1 < c ∨ 0 < i ∧ c = 0 then (0, .error 4) else if c < 128 then (acc + c.toNat % 128 * 2 ^ (7 * i), .ok r) else nGo f (i + 1) (acc + c.toNat % 128 * 2 ^ (7 * i)) r
theorem tkGo_at : ∀ (f i acc : Nat) (ys : List Int), (tkGo f i acc ys).2.2 = 0 → i < (tkGo f i acc ys).2.1
  | 0, _, _, _, h => by simp [tkGo] at h
  | _ + 1, _, _, [], h => by simp [tkGo] at h
  | f + 1, i, acc, c :: r, h => by
    unfold tkGo at h ⊢
    split at h
    · simp at h
    · rename_i h1
      rw [if_neg h1]
      split at h
      · rename_i h2
        rw [if_pos h2]
        split at h
        · simp at h
        · rename_i h3; rw [if_neg h3]; simp
      · rename_i h2
        rw [if_neg h2]
        have := tkGo_at f (i + 1) _ r h
        omega
theorem nGo_tk : ∀ (f i acc : Nat) (ys : List Int), nGo f i acc ys = if (tkGo f i acc ys).2.2 = 0 then ((tkGo f i acc ys).1, .ok (ys.drop ((tkGo f i acc ys).2.1 - i))) else (0, .error (tkGo f i acc ys).2.2)
  | 0, _, _, _ => by simp [nGo, tkGo]
  | _ + 1, _, _, [] => by simp [nGo, tkGo]
  | f + 1, i, acc, c :: r => by
    by_cases h1 : i = 9 ∧ 1 < c
    · simp [nGo, tkGo, h1]
    by_cases h2 : c < 128
    · by_cases h3 : c = 0 ∧ 0 < i
      · have h4 : i = 9 ∧ 1 < c ∨ 0 < i ∧ c = 0 := .inr ⟨h3.2, h3.1⟩
        unfold nGo tkGo
        rw [if_pos h4, if_neg h1]
        simp [h3]
      · have h4 : ¬ (i = 9 ∧ 1 < c ∨ 0 < i ∧ c = 0) := by
          rintro (h | h)
          · exact h1 h
          · exact h3 ⟨h.2, h.1⟩
        unfold nGo tkGo
        rw [if_neg h4, if_neg h1]
        simp only [if_pos h2, if_neg h3]
        simp
    · have h4 : ¬ (i = 9 ∧ 1 < c ∨ 0 < i ∧ c = 0) := by
        rintro (h | h)
        · exact h1 h
        · omega
      have e1 : nGo (f + 1) i acc (c :: r) = nGo f (i + 1) (acc + c.toNat % 128 * 2 ^ (7 * i)) r := by
        conv => lhs; unfold nGo
        rw [if_neg h4, if_neg h2]
      have e2 : tkGo (f + 1) i acc (c :: r) = tkGo f (i + 1) (acc + c.toNat % 128 * 2 ^ (7 * i)) r := by
        conv => lhs; unfold tkGo
        rw [if_neg h1, if_neg h2]
      rw [e1, e2, nGo_tk f (i + 1) _ r]
      by_cases h5 : (tkGo f (i + 1) (acc + c.toNat % 128 * 2 ^ (7 * i)) r).2.2 = 0
      · rw [if_pos h5, if_pos h5]
        have := tkGo_at _ _ _ _ h5
        rw [show (tkGo f (i + 1) (acc + c.toNat % 128 * 2 ^ (7 * i)) r).2.1 - i = ((tkGo f (i + 1) (acc + c.toNat % 128 * 2 ^ (7 * i)) r).2.1 - (i + 1)) + 1 from by omega, List.drop_succ_cons]
      · rw [if_neg h5, if_neg h5]
theorem nGo_num (xs : List Int) : nGo 10 0 0 xs = run numP 0 (.ok xs) := by
  rw [nGo_tk]
  unfold run numP tk
  by_cases h : (tkGo 10 0 0 xs).2.2 = 0
  · simp [if_pos h]
  · simp [if_neg h]

set_option maxHeartbeats 8000000 in
set_option maxRecDepth 100000 in
theorem tnum_any (t : Nat) (s : TS) (w : World) (h : Ts w t s) :
    Calls Tryz.prog 36 #[.pointer (some ⟨t, 0, none⟩)] w fun e w' => e = .returned (.int .u64 (run numP 0 s).1) ∧ Ts w' t (run numP 0 s).2 ∧ w.grownBy w' (some t) := by
  match s, h with
  | .error k, h =>
    have H := Lib.hid h
    clear h
    go_enter Tryz.func36, Tryz.ntmps36
    go_wp2
    go_loopg [3, 4] 1 (fun q c3 c4 wr => q = 1 ∧ c3 = .int .u64 0 ∧ c4 = .int .i64 0 ∧ wr = w)
    case atStart => exact ⟨rfl, rfl, rfl, rfl⟩
    case round =>
      obtain ⟨-, rfl, rfl, rfl⟩ := hrel
      go_wp2_with fail
      refine (tbyte_any t _ _ H.out).mono ?_
      rintro e w1 ⟨rfl, hs, hg⟩
      obtain ⟨j, hj, -, hj2⟩ := hs.errno
      have hj3 := (hj2 k rfl).2
      have hj4 : (j != 0) = true := by simpa using hj3
      have HS := Lib.hid hs
      have HG := Lib.hid hg
      clear hs hg hj2
      go_wp2
      go_ret
      exact ⟨rfl, HS.out, HG.out⟩
  | .ok xs, h =>
    have H := Lib.hid h
    have N := Lib.hid (nGo_num xs)
    rw [← N.out]
    clear h
    go_enter Tryz.func36, Tryz.ntmps36
    go_wp2
    go_loopg [3, 4] 10 (fun q c3 c4 wr => ∃ (i acc : Nat) (ys : List Int), i ≤ 10 ∧ q = 10 - i ∧ c3 = .int .u64 acc ∧ c4 = .int .i64 i ∧ acc < 2 ^ (7 * i) ∧ Ts wr t (.ok ys) ∧ w.grownBy wr (some t) ∧ nGo 10 0 0 xs = nGo (10 - i) i acc ys)
    case atStart => exact ⟨0, 0, xs, by omega, rfl, rfl, rfl, by decide, H.out, grown_refl_ _ _, rfl⟩
    case round =>
      obtain ⟨i, acc, ys, hi, hq, rfl, rfl, hacc, hs, hg, hn⟩ := hrel
      have HQ := Lib.hid hq
      have HA := Lib.hid hacc
      have HS := Lib.hid hs
      have HG := Lib.hid hg
      have HN := Lib.hid hn
      have hfz := hs.free 1
      obtain ⟨j0, c1, hj0, -⟩ := hs.errno
      obtain rfl := hj0 ys rfl
      clear hq hacc hs hg hn hj0
      by_cases h10 : i < 10
      · have h10' : (i : Int) < 10 := by omega
        obtain ⟨f, hf⟩ : ∃ f, 10 - i = f + 1 := ⟨9 - i, by omega⟩
        go_wp2_with fail
        refine (tbyte_any t (.ok ys) _ HS.out).mono ?_
        rintro e w1 ⟨rfl, hs1, hg1⟩
        have G1 := Lib.hid (grown_trans_ HG.out hg1)
        match ys, HS, HN, hs1 with
        | [], _, HN, hs1 =>
          obtain ⟨j, hj, -, hj2⟩ := hs1.errno
          obtain rfl := (hj2 5 rfl).1
          have S1 := Lib.hid hs1
          have NN := Lib.hid (show nGo 10 0 0 xs = (0, .error 5) by rw [HN.out, hf]; rfl)
          clear hs1 hg1 hj2 c1
          go_wp2
          go_ret
          rw [NN.out]
          exact ⟨rfl, S1.out, G1.out⟩
        | c :: r, HS, HN, hs1 =>
          obtain ⟨j, hj, hj1, -⟩ := hs1.errno
          obtain rfl := hj1 r rfl
          have hcb := HS.out.2.1 c (by simp)
          obtain ⟨n, rfl⟩ : ∃ n : Nat, c = (n : Int) := ⟨c.toNat, by have := hcb.1; omega⟩
          have hn256 : n < 256 := by have := hcb.2; omega
          have hz1 := hs1.free 1
          have S1 := Lib.hid (show Ts w1 t (.ok r) from hs1)
          clear hs1 hg1 hj1 c1 hcb hfz HS
          have er : (run byteP 0 (Except.ok ((n : Int) :: r))).1 = (n : Int) := rfl
          rw [er]
          clear er
          go_upto_region 8 with fail
          go_cut [32] (fun s32 wx => s32 = .bool (decide (i = 9 ∧ 1 < n ∨ 0 < i ∧ n = 0)) ∧ wx = w1)
          case first =>
            by_cases a9 : i = 9
            · have b9 : ((i : Int) == 9) = true := by rw [a9]; rfl
              have a2' : (0 : Int) < i := by omega
              have A9 := Lib.hid a9
              clear a9
              by_cases a1 : 1 < n
              · have a1' : (1 : Int) < n := by omega
                go_wp2
                go_meet
                exact ⟨by simp [A9.out, a1], rfl⟩
              · have a1' : ¬ (1 : Int) < n := by omega
                by_cases a0 : n = 0
                · have b0 : ((n : Int) == 0) = true := by rw [a0]; rfl
                  have A0 := Lib.hid a0
                  clear a0
                  go_wp2
                  go_meet
                  exact ⟨by simp [A9.out, A0.out], rfl⟩
                · have b0 : ((n : Int) == 0) = false := by rw [beq_eq_false_iff_ne]; omega
                  have A0 := Lib.hid a0
                  clear a0
                  go_wp2
                  go_meet
                  exact ⟨by simp [A9.out, a1, A0.out], rfl⟩
            · have a9' : ¬ (i : Int) = 9 := by omega
              by_cases a2 : 0 < i
              · have a2' : (0 : Int) < i := by omega
                by_cases a0 : n = 0
                · have b0 : ((n : Int) == 0) = true := by rw [a0]; rfl
                  have A0 := Lib.hid a0
                  clear a0
                  go_wp2
                  go_meet
                  exact ⟨by simp [a9, A0.out, a2], rfl⟩
                · have b0 : ((n : Int) == 0) = false := by rw [beq_eq_false_iff_ne]; omega
                  have A0 := Lib.hid a0
                  clear a0
                  go_wp2
                  go_meet
                  exact ⟨by simp [a9, A0.out, a2], rfl⟩
              · have a2' : ¬ (0 : Int) < i := by omega
                go_wp2
                go_meet
                exact ⟨by simp [a9, a2], rfl⟩
          case rest =>
          obtain ⟨rfl, rfl⟩ := hcut
          by_cases hbad : i = 9 ∧ 1 < n ∨ 0 < i ∧ n = 0
          · have NN := Lib.hid (show nGo 10 0 0 xs = (0, .error 4) by
              rw [HN.out, hf]
              unfold nGo
              rw [if_pos (by omega)])
            rw [decide_eq_true hbad]
            go_wp2
            go_ret
            rw [NN.out]
            exact ⟨rfl, S1.out.fail (by decide), grown_trans_ G1.out (grown_set_ _ _ _ _)⟩
          · rw [decide_eq_false hbad]
            go_wp2_with fail
            have part : ∀ k, k ≤ i → n % 128 * 128 ^ k < 18446744073709551616 := by
              intro k hk
              by_cases h9 : i = 9
              · have h1 : n % 128 ≤ 1 := by omega
                have h2 : 128 ^ k ≤ 128 ^ 9 := Nat.pow_le_pow_right (by decide) (by omega)
                have h3 := Nat.mul_le_mul h1 h2
                have : (1 : Nat) * 128 ^ 9 < 18446744073709551616 := by decide
                omega
              · have h1 : n % 128 ≤ 127 := by omega
                have h2 : 128 ^ k ≤ 128 ^ 8 := Nat.pow_le_pow_right (by decide) (by omega)
                have h3 := Nat.mul_le_mul h1 h2
                have : (127 : Nat) * 128 ^ 8 < 18446744073709551616 := by decide
                omega
            have PT := Lib.hid part
            have hpw : n % 128 * 128 ^ i = n % 128 * 2 ^ (7 * i) := by rw [Nat.pow_mul]
            have HPW := Lib.hid hpw
            have HB9 := Lib.hid hbad
            have HF := Lib.hid hf
            clear part hpw hbad hf
            go_loopg [6, 7] i (fun q c6 c7 wx => ∃ k : Nat, k ≤ i ∧ q = i - k ∧ c6 = .int .u64 ((n % 128 * 128 ^ k : Nat) : Int) ∧ c7 = .int .i64 k ∧ wx = wc)
            case atStart => exact ⟨0, Nat.zero_le _, rfl, by simp, rfl, rfl⟩
            case round =>
              obtain ⟨k, hk, hqk, rfl, rfl, rfl⟩ := hrel
              have HQK := Lib.hid hqk
              clear hqk
              by_cases hki : k < i
              · have hki' : (k : Int) < i := by omega
                have hmul : IntKind.u64.wrap (((n % 128 * 128 ^ k : Nat) : Int) * 128) = ((n % 128 * 128 ^ (k + 1) : Nat) : Int) := by
                  have h1 := PT.out (k + 1) (by omega)
                  have h2 : n % 128 * 128 ^ (k + 1) = n % 128 * 128 ^ k * 128 := by rw [Nat.pow_succ, Nat.mul_assoc]
                  rw [IntKind.wrap_u64]
                  omega
                obtain ⟨pk, hpk⟩ : ∃ p : Nat, p = n % 128 * 128 ^ k := ⟨_, rfl⟩
                obtain ⟨pk1, hpk1⟩ : ∃ p : Nat, p = n % 128 * 128 ^ (k + 1) := ⟨_, rfl⟩
                rw [← hpk, ← hpk1] at hmul
                rw [← hpk]
                have HPK := Lib.hid hpk1
                clear hpk hpk1
                go_wp2
                go_roundg (i - (k + 1))
                case measure => have := HQK.out; omega
                case rel => exact ⟨k + 1, by omega, rfl, by rw [HPK.out], by go_num, rfl⟩
              · obtain rfl : k = i := by omega
                have hw : IntKind.u64.wrap ((acc : Int) + ((n % 128 * 128 ^ k : Nat) : Int)) = ((acc + n % 128 * 2 ^ (7 * k) : Nat) : Int) := by
                  have h1 := HPW.out
                  have h2 := HA.out
                  have h4 : n % 128 * 2 ^ (7 * k) + acc < 18446744073709551616 := by
                    by_cases h9 : k = 9
                    · subst h9
                      have := HB9.out
                      have h5 : n % 128 ≤ 1 := by omega
                      have h6 := Nat.mul_le_mul_right (2 ^ (7 * 9)) h5
                      have : (2 : Nat) ^ (7 * 9) = 9223372036854775808 := by decide
                      omega
                    · have h5 : n % 128 ≤ 127 := by omega
                      have h6 := Nat.mul_le_mul_right (2 ^ (7 * k)) h5
                      have h7 : 2 ^ (7 * k) ≤ 2 ^ (7 * 8) := Nat.pow_le_pow_right (by decide) (by omega)
                      have : (2 : Nat) ^ (7 * 8) = 72057594037927936 := by decide
                      omega
                  rw [IntKind.wrap_u64]
                  omega
                obtain ⟨pk, hpk⟩ : ∃ p : Nat, p = n % 128 * 128 ^ k := ⟨_, rfl⟩
                obtain ⟨ac, hac⟩ : ∃ p : Nat, p = acc + n % 128 * 2 ^ (7 * k) := ⟨_, rfl⟩
                rw [← hpk, ← hac] at hw
                rw [← hpk]
                have HAC := Lib.hid hac
                clear hpk hac
                have hfk := HF.out
                have nbad : ¬ (k = 9 ∧ (1 : Int) < (n : Int) ∨ 0 < k ∧ (n : Int) = 0) := by have := HB9.out; omega
                have NB := Lib.hid nbad
                clear nbad
                by_cases h128 : n < 128
                · have h128' : (n : Int) < 128 := by omega
                  have NN := Lib.hid (show nGo 10 0 0 xs = (ac, .ok r) by
                    rw [HN.out, hfk, HAC.out]
                    unfold nGo
                    rw [if_neg NB.out, if_pos h128']
                    simp)
                  clear hfk
                  go_wp2
                  go_ret
                  rw [NN.out]
                  exact ⟨rfl, S1.out, G1.out⟩
                · have h128' : ¬ (n : Int) < 128 := by omega
                  have NN := Lib.hid (show nGo 10 0 0 xs = nGo f (k + 1) ac r by
                    rw [HN.out, hfk, HAC.out]
                    conv => lhs; unfold nGo
                    rw [if_neg NB.out, if_neg h128']
                    simp)
                  clear hfk
                  go_wp2
                  go_roundg (10 - (k + 1))
                  case measure => have := HQ.out; omega
                  case rel =>
                    refine ⟨k + 1, ac, r, by omega, rfl, rfl, by go_num, ?_, S1.out, G1.out, ?_⟩
                    · rw [HAC.out]
                      have h1 := HA.out
                      have h2 : n % 128 ≤ 127 := by omega
                      have h3 := Nat.mul_le_mul_right (2 ^ (7 * k)) h2
                      have h4 : 2 ^ (7 * (k + 1)) = 2 ^ (7 * k) * 128 := by rw [show 7 * (k + 1) = 7 * k + 7 from by omega, Nat.pow_add]
                      rw [h4]
                      omega
                    · rw [NN.out, show 10 - (k + 1) = f from by have := HF.out; omega]
      · obtain rfl : i = 10 := by omega
        have NN := Lib.hid (show nGo 10 0 0 xs = (0, .error 4) by rw [HN.out]; rfl)
        go_wp2
        go_ret
        rw [NN.out]
        exact ⟨rfl, HS.out.fail (by decide), grown_trans_ HG.out (grown_set_ _ _ _ _)⟩
end Go.Proofs.YthjdkjinkmdclaaGreat

/- The document's taker: numbers with a sign, how many, what is wrong at last; what it takes by fields and rows. -/
namespace Go.Proofs.YthjdkjinkmdclaaGreat
open Go.RowKit

/-- A field, a row of fields, so many rows, a list. -/
def rd1 : IntKind → TS → Int × TS
  | .u8, s => run byteP 0 s
  | .i64, s => run signP 0 s
  | _, s => (((run numP 0 s).1 : Int), (run numP 0 s).2)
def rdF : List IntKind → TS → List Int × TS
  | [], s => ([], s)
  | k :: ks, s => ((rd1 k s).1 :: (rdF ks (rd1 k s).2).1, (rdF ks (rd1 k s).2).2)
def rdN (ks : List IntKind) : Nat → TS → List (List Int) × TS
  | 0, s => ([], s)
  | _ + 1, .error k => ([], .error k)
  | n + 1, .ok xs => ((rdF ks (.ok xs)).1 :: (rdN ks n (rdF ks (.ok xs)).2).1, (rdN ks n (rdF ks (.ok xs)).2).2)
def rdM (most : Nat) (s : TS) : Nat × TS := match run numP 0 s with
  | (_, .error k) => (0, .error k)
  | (n, .ok r) => if most < n then (0, .error 3) else (n, .ok r)
def rdL (ks : List IntKind) (most : Nat) (s : TS) : List (List Int) × TS := rdN ks (rdM most s).1 (rdM most s).2
/-- What is wrong at last. -/
def dn : TS → Int
  | .ok [] => 0
  | .ok (_ :: _) => 4
  | .error k => k

theorem rd1_ok (k : IntKind) (xs : List Int) : match fp1 k xs with | .ok (a, r) => rd1 k (.ok xs) = (a, .ok r) | .error e => (rd1 k (.ok xs)).2 = .error e := by
  cases k <;> simp only [fp1, rd1, run]
  case u8 => cases h : byteP xs with
    | ok q => simp
    | error e => simp
  case i64 => cases h : signP xs with
    | ok q => simp
    | error e => simp
  all_goals
    cases h : numP xs with
    | ok q => simp [bindP]
    | error e => simp [bindP]
theorem rd1_err (k : IntKind) (e : Int) : (rd1 k (.error e)).2 = .error e := by cases k <;> rfl
theorem rdF_err : ∀ (ks : List IntKind) (e : Int), (rdF ks (.error e)).2 = .error e
  | [], _ => rfl
  | k :: ks, e => by simp only [rdF]; rw [rd1_err]; exact rdF_err ks e
theorem rdF_ok : ∀ (ks : List IntKind) (xs : List Int), match fP ks xs with | .ok (a, r) => rdF ks (.ok xs) = (a, .ok r) | .error e => (rdF ks (.ok xs)).2 = .error e
  | [], xs => rfl
  | k :: ks, xs => by
    simp only [fP]
    have h1 := rd1_ok k xs
    cases h : fp1 k xs with
    | error e =>
      rw [h] at h1
      simp only [bindP, rdF]
      rw [h1]
      exact rdF_err ks e
    | ok q =>
      obtain ⟨a, r⟩ := q
      rw [h] at h1
      simp only at h1
      have h2 := rdF_ok ks r
      simp only [bindP, rdF]
      rw [h1]
      cases h3 : fP ks r with
      | error e => rw [h3] at h2; exact h2
      | ok q => obtain ⟨b, r'⟩ := q; rw [h3] at h2; simp only at h2 ⊢; rw [h2]
theorem rdN_err (ks : List IntKind) (n : Nat) (e : Int) : rdN ks n (.error e) = ([], .error e) := by cases n <;> rfl
theorem rdN_ok (ks : List IntKind) : ∀ (n : Nat) (xs : List Int), match repP (fP ks) n xs with | .ok (a, r) => rdN ks n (.ok xs) = (a, .ok r) | .error e => (rdN ks n (.ok xs)).2 = .error e
  | 0, xs => rfl
  | n + 1, xs => by
    simp only [repP, rdN]
    have h1 := rdF_ok ks xs
    cases h : fP ks xs with
    | error e =>
      rw [h] at h1
      simp only [bindP]
      rw [h1, rdN_err]
    | ok q =>
      obtain ⟨a, r⟩ := q
      rw [h] at h1
      simp only at h1
      have h2 := rdN_ok ks n r
      simp only [bindP]
      rw [h1]
      cases h3 : repP (fP ks) n r with
      | error e => rw [h3] at h2; exact h2
      | ok q => obtain ⟨b, r'⟩ := q; rw [h3] at h2; simp only at h2 ⊢; rw [h2]
theorem rdM_err (most : Nat) (e : Int) : rdM most (.error e) = (0, .error e) := rfl
theorem rdL_err (ks : List IntKind) (most : Nat) (e : Int) : rdL ks most (.error e) = ([], .error e) := rfl
theorem rdL_ok (ks : List IntKind) (most : Nat) (xs : List Int) : match listP (fP ks) most xs with | .ok (a, r) => rdL ks most (.ok xs) = (a, .ok r) | .error e => (rdL ks most (.ok xs)).2 = .error e := by
  rcases h : numP xs with e | ⟨n, r⟩
  · have h1 : listP (fP ks) most xs = .error e := by simp only [listP, h, bindP]
    have h2 : rdM most (.ok xs) = (0, .error e) := by simp only [rdM, run, h]
    rw [h1]
    simp only [rdL, h2, rdN_err]
  · by_cases hm : most < n
    · have h1 : listP (fP ks) most xs = .error 3 := by simp only [listP, h, bindP, if_pos hm]
      have h2 : rdM most (.ok xs) = (0, .error 3) := by simp only [rdM, run, h, if_pos hm]
      rw [h1]
      simp only [rdL, h2, rdN_err]
    · have h1 : listP (fP ks) most xs = repP (fP ks) n r := by simp only [listP, h, bindP, if_neg hm]
      have h2 : rdM most (.ok xs) = (n, .ok r) := by simp only [rdM, run, h, if_neg hm]
      rw [h1]
      simp only [rdL, h2]
      exact rdN_ok ks n r
theorem rdM_le (most : Nat) (s : TS) : (rdM most s).1 ≤ most := by
  unfold rdM
  split
  · simp
  · split
    · simp
    · rename_i h; simp; omega
theorem rdN_len (ks : List IntKind) : ∀ (n : Nat) (s : TS), (rdN ks n s).1.length ≤ n
  | 0, _ => by simp [rdN]
  | _ + 1, .error _ => by simp [rdN]
  | n + 1, .ok xs => by simp only [rdN, List.length_cons]; have := rdN_len ks n (rdF ks (.ok xs)).2; omega
theorem rdL_len (ks : List IntKind) (most : Nat) (s : TS) : (rdL ks most s).1.length ≤ most := Nat.le_trans (rdN_len _ _ _) (rdM_le _ _)
theorem rdF_len : ∀ (ks : List IntKind) (s : TS), (rdF ks s).1.length = ks.length
  | [], _ => rfl
  | k :: ks, s => by simp only [rdF, List.length_cons]; rw [rdF_len ks]

theorem run_lt {w : World} {t : Nat} {s : TS} (h : Ts w t s) : (run numP 0 s).1 < 18446744073709551616 := by
  match s, h with
  | .error k, _ => exact (by decide : (0 : Nat) < 18446744073709551616)
  | .ok xs, h =>
    rcases hn : numP xs with e | ⟨n, r⟩
    · have : run numP 0 (.ok xs) = (0, .error e) := by simp only [run, hn]
      rw [this]
      exact (by decide : (0 : Nat) < 18446744073709551616)
    · have : run numP 0 (.ok xs) = (n, .ok r) := by simp only [run, hn]
      rw [this]
      exact (cod_num.back xs n r h.2.1 hn).2
theorem run_sign (s : TS) : run signP 0 s = (unzz (run numP 0 s).1, (run numP 0 s).2) := by
  match s with
  | .error k => show ((0 : Int), (Except.error k : TS)) = (unzz 0, .error k); rw [show unzz 0 = 0 from by decide]
  | .ok xs =>
    rcases hn : numP xs with e | ⟨n, r⟩
    · have h1 : run numP 0 (.ok xs) = (0, .error e) := by simp only [run, hn]
      have h2 : run signP 0 (.ok xs) = (0, .error e) := by simp only [run, signP, hn, bindP]
      rw [h1, h2, show unzz ((0 : Nat), (Except.error e : TS)).1 = 0 from (by decide : unzz 0 = 0)]
    · have h1 : run numP 0 (.ok xs) = (n, .ok r) := by simp only [run, hn]
      have h2 : run signP 0 (.ok xs) = (unzz n, .ok r) := by simp only [run, signP, hn, bindP]
      rw [h1, h2]

theorem tnum_at (t : Nat) (s s' : TS) (n : Nat) (w : World) (h : Ts w t s) (hr : run numP 0 s = (n, s')) :
    Calls Tryz.prog 36 #[.pointer (some ⟨t, 0, none⟩)] w fun e w' => e = .returned (.int .u64 n) ∧ Ts w' t s' ∧ w.grownBy w' (some t) := by
  have := tnum_any t s w h
  rw [hr] at this
  exact this
theorem rd_u8 (t : Nat) (s s' : TS) (x : Int) (w : World) (h : Ts w t s) (hr : rd1 .u8 s = (x, s')) :
    Calls Tryz.prog 35 #[.pointer (some ⟨t, 0, none⟩)] w fun e w' => e = .returned (.int .u8 x) ∧ Ts w' t s' ∧ w.grownBy w' (some t) := by
  have := tbyte_any t s w h
  rw [show run byteP 0 s = (x, s') from hr] at this
  exact this
theorem rd_u64 (t : Nat) (s s' : TS) (x : Int) (w : World) (h : Ts w t s) (hr : rd1 .u64 s = (x, s')) :
    Calls Tryz.prog 36 #[.pointer (some ⟨t, 0, none⟩)] w fun e w' => e = .returned (.int .u64 x) ∧ Ts w' t s' ∧ w.grownBy w' (some t) := by
  have := tnum_any t s w h
  simp only [rd1] at hr
  injection hr with h1 h2
  rw [h1, h2] at this
  exact this
set_option maxHeartbeats 1000000 in
theorem rd_i64 (t : Nat) (s s' : TS) (x : Int) (w : World) (h : Ts w t s) (hr : rd1 .i64 s = (x, s')) :
    Calls Tryz.prog 53 #[.pointer (some ⟨t, 0, none⟩)] w fun e w' => e = .returned (.int .i64 x) ∧ Ts w' t s' ∧ w.grownBy w' (some t) := by
  obtain ⟨n, s1, hn⟩ : ∃ n s1, run numP 0 s = (n, s1) := ⟨_, _, rfl⟩
  have hlt := run_lt h
  rw [hn] at hlt
  simp only at hlt
  have hx : unzz n = x ∧ s1 = s' := by
    simp only [rd1] at hr
    rw [run_sign, hn] at hr
    injection hr with h1 h2
    exact ⟨h1, h2⟩
  obtain ⟨hx, rfl⟩ := hx
  have C := Lib.hid (tnum_at t s s1 n w h hn)
  have X := Lib.hid hx
  clear h hr hn hx
  by_cases h2 : n % 2 = 0
  · have h2' : (n : Int) % 2 = 0 := by omega
    have hX := Lib.hid (show x = (n : Int) / 2 by rw [← X.out]; unfold unzz; rw [if_pos h2]; omega)
    go_enter Tryz.func53, Tryz.ntmps53
    go_wp2_with fail
    refine C.out.mono ?_
    rintro e w1 ⟨rfl, ht, hg⟩
    have T := Lib.hid ht
    have G := Lib.hid hg
    clear ht hg
    go_wp2
    go_ret
    rw [hX.out]
    exact ⟨by go_num, T.out, G.out⟩
  · have h2' : (n : Int) % 2 = 1 := by omega
    have h2n : ¬ (n : Int) % 2 = 0 := by omega
    have hX := Lib.hid (show x = -((n : Int) / 2) - 1 by rw [← X.out]; unfold unzz; rw [if_neg h2]; omega)
    go_enter Tryz.func53, Tryz.ntmps53
    go_wp2_with fail
    refine C.out.mono ?_
    rintro e w1 ⟨rfl, ht, hg⟩
    have T := Lib.hid ht
    have G := Lib.hid hg
    clear ht hg
    go_wp2
    go_ret
    rw [hX.out]
    exact ⟨by go_num, T.out, G.out⟩
set_option maxHeartbeats 1000000 in
theorem many_at (t most : Nat) (s s' : TS) (n : Nat) (w : World) (h : Ts w t s) (hm : most ≤ 1000) (hr : rdM most s = (n, s')) :
    Calls Tryz.prog 52 #[.pointer (some ⟨t, 0, none⟩), .int .i64 most] w fun e w' => e = .returned (.int .i64 n) ∧ Ts w' t s' ∧ w.grownBy w' (some t) := by
  obtain ⟨m, s1, hn⟩ : ∃ n s1, run numP 0 s = (n, s1) := ⟨_, _, rfl⟩
  have hlt := run_lt h
  rw [hn] at hlt
  simp only at hlt
  have C := Lib.hid (tnum_at t s s1 m w h hn)
  have hm' : (most : Int) ≤ 1000 := by omega
  unfold rdM at hr
  rw [hn] at hr
  clear h hn
  match s1, hr with
  | .error k, hr =>
    injection hr with h1 h2
    subst h1; subst h2
    go_enter Tryz.func52, Tryz.ntmps52
    go_wp2_with fail
    refine C.out.mono ?_
    rintro e w1 ⟨rfl, ht, hg⟩
    obtain ⟨j, hj, -, hj2⟩ := ht.errno
    obtain ⟨rfl, hj3⟩ := hj2 k rfl
    have hj4 : (j == 0) = false := beq_eq_false_iff_ne.2 hj3
    have hj5 : (j != 0) = true := by simpa using hj3
    have T := Lib.hid ht
    have G := Lib.hid hg
    clear ht hg hj2 hj3
    go_wp2
    go_ret
    exact ⟨rfl, T.out, G.out⟩
  | .ok r, hr =>
    by_cases hmn : most < m
    · have hmn' : (most : Int) < m := by omega
      simp only [if_pos hmn] at hr
      injection hr with h1 h2
      subst h1; subst h2
      go_enter Tryz.func52, Tryz.ntmps52
      go_wp2_with fail
      refine C.out.mono ?_
      rintro e w1 ⟨rfl, ht, hg⟩
      obtain ⟨j, hj, hj1, -⟩ := ht.errno
      obtain rfl := hj1 r rfl
      have fz := ht.free 1
      have T := Lib.hid ht
      have G := Lib.hid hg
      clear ht hg hj1
      go_wp2
      go_ret
      exact ⟨rfl, T.out.fail (by decide), grown_trans_ G.out (grown_set_ _ _ _ _)⟩
    · have hmn' : ¬ (most : Int) < m := by omega
      simp only [if_neg hmn] at hr
      injection hr with h1 h2
      subst h1; subst h2
      have hm2 : (m : Int) ≤ 1000 := by omega
      go_enter Tryz.func52, Tryz.ntmps52
      go_wp2_with fail
      refine C.out.mono ?_
      rintro e w1 ⟨rfl, ht, hg⟩
      obtain ⟨j, hj, hj1, -⟩ := ht.errno
      obtain rfl := hj1 r rfl
      have T := Lib.hid ht
      have G := Lib.hid hg
      clear ht hg hj1
      go_wp2
      go_ret
      exact ⟨by go_num, T.out, G.out⟩
theorem done_any (t : Nat) (s : TS) (w : World) (h : Ts w t s) :
    Calls Tryz.prog 40 #[.pointer (some ⟨t, 0, none⟩)] w fun e w' => e = .returned (.int .i64 (dn s)) ∧ w = w' := by
  match s, h with
  | .error k, ⟨h0, v, hk⟩ =>
    have c1 := hk.cell 1
    simp only [List.getElem?_toArray, List.getElem?_cons_zero, List.getElem?_cons_succ] at c1
    have hj4 : (k == 0) = false := beq_eq_false_iff_ne.2 h0
    clear hk h0
    go_enter Tryz.func40, Tryz.ntmps40
    go_wp2
    go_ret
    exact ⟨rfl, rfl⟩
  | .ok [], ⟨⟨v, hk, hb, _⟩, _⟩ =>
    have c0 := hk.cell 0
    have c1 := hk.cell 1
    simp only [List.getElem?_toArray, List.getElem?_cons_zero, List.getElem?_cons_succ] at c0 c1
    obtain ⟨A, c, rfl, -⟩ := id hb
    clear hk hb
    go_enter Tryz.func40, Tryz.ntmps40
    go_wp2
    go_ret
    exact ⟨rfl, rfl⟩
  | .ok (x :: r), ⟨⟨v, hk, hb, _⟩, _⟩ =>
    have c0 := hk.cell 0
    have c1 := hk.cell 1
    simp only [List.getElem?_toArray, List.getElem?_cons_zero, List.getElem?_cons_succ] at c0 c1
    obtain ⟨A, c, rfl, -⟩ := id hb
    rw [show (x :: r).length = r.length + 1 from rfl] at c0
    have hp : (0 : Int) < (r.length : Int) + 1 := by omega
    clear hk hb
    go_enter Tryz.func40, Tryz.ntmps40
    go_wp2
    go_ret
    exact ⟨rfl, rfl⟩
/-- The reader R takes what the parser P does. -/
structure Sim {α : Type} (R : TS → α × TS) (P : List Int → Res α) : Prop where
  ok : ∀ xs, match P xs with | .ok (a, r) => R (.ok xs) = (a, .ok r) | .error e => (R (.ok xs)).2 = .error e
  err : ∀ e, (R (.error e)).2 = .error e
theorem sim_F (ks : List IntKind) : Sim (rdF ks) (fP ks) where
  ok xs := by
    have h := rdF_ok ks xs
    rcases hp : fP ks xs with e | ⟨a, r⟩
    · rw [hp] at h; exact h
    · rw [hp] at h; exact h
  err := rdF_err ks
theorem sim_L (ks : List IntKind) (most : Nat) : Sim (rdL ks most) (listP (fP ks) most) where
  ok xs := by
    have h := rdL_ok ks most xs
    rcases hp : listP (fP ks) most xs with e | ⟨a, r⟩
    · rw [hp] at h; exact h
    · rw [hp] at h; exact h
  err e := by rw [rdL_err]
theorem Sim.bind {α β : Type} {R : TS → α × TS} {P : List Int → Res α} {R' : TS → β × TS} {P' : List Int → Res β} (h : Sim R P) (h' : Sim R' P') :
    Sim (fun s => (((R s).1, (R' (R s).2).1), (R' (R s).2).2)) (fun xs => bindP (P xs) fun a r => bindP (P' r) fun b r' => .ok ((a, b), r')) where
  ok xs := by
    have h1 := h.ok xs
    rcases hp : P xs with e | ⟨a, r⟩
    · rw [hp] at h1
      simp only at h1
      simp only [bindP]
      rw [h1]
      exact h'.err e
    · rw [hp] at h1
      simp only at h1
      have h2 := h'.ok r
      simp only [bindP]
      rw [h1]
      rcases hp' : P' r with e | ⟨b, r'⟩
      · rw [hp'] at h2
        exact h2
      · rw [hp'] at h2
        simp only at h2 ⊢
        rw [h2]
  err e := by
    show (R' (R (.error e)).2).2 = .error e
    rw [h.err e]
    exact h'.err e
theorem sim_all {α : Type} {R : TS → α × TS} {P : List Int → Res α} (h : Sim R P) (xs : List Int) : match allP (P xs) with | .ok a => R (.ok xs) = (a, .ok []) ∧ dn (R (.ok xs)).2 = 0 | .error q => dn (R (.ok xs)).2 = q := by
  have h1 := h.ok xs
  rcases hp : P xs with e | ⟨a, r⟩
  · rw [hp] at h1
    simp only at h1
    simp only [allP]
    rw [h1]; rfl
  · rw [hp] at h1
    simp only at h1
    cases r with
    | nil => simp only [allP]; rw [h1]; exact ⟨rfl, rfl⟩
    | cons y ys => simp only [allP]; rw [h1]; rfl
/-- What the document's Get answers: the thing, or what is wrong. -/
def DPost {α : Type} (x : Except Int α) (Q : α → World → Value → Prop) (z : Value) (w : World) (e : Ending) (w' : World) : Prop :=
  ∃ (u : Value) (k : Int), e = .returned (.tuple #[u, .int .i64 k]) ∧ Below w.heap.size w w' ∧ (match x with | .ok a => k = 0 ∧ Q a w' u | .error q => k = q ∧ u = z)
theorem dpost_ok {α : Type} {x : Except Int α} {a : α} {Q : α → World → Value → Prop} {z u : Value} {w w' : World} (h : x = .ok a) (hb : Below w.heap.size w w') (hq : Q a w' u) : DPost x Q z w (.returned (.tuple #[u, .int .i64 0])) w' := by
  subst h; exact ⟨u, 0, rfl, hb, rfl, hq⟩
theorem dpost_bad {α : Type} {x : Except Int α} {q k : Int} {Q : α → World → Value → Prop} {z : Value} {w w' : World} (h : x = .error q) (hb : Below w.heap.size w w') (hk : k = q) : DPost x Q z w (.returned (.tuple #[z, .int .i64 k])) w' := by
  subst h; exact ⟨z, k, rfl, hb, hk, rfl⟩
/-- A taker over given bytes. -/
theorem Ts.new_ {w : World} {v : Value} {xs : List Int} (h : Bs w v xs) (hby : ∀ c ∈ xs, byt c) (hl : xs.length ≤ 4611686018427387904) : Ts (w.alloc (.cells #[v, .int .i64 0] 87)) w.heap.size (.ok xs) :=
  ⟨⟨v, Blk.new _ _ _, h.below (below_alloc_ _ _), rd_block_ h⟩, hby, hl⟩
end Go.Proofs.YthjdkjinkmdclaaGreat

/- Letters: the document's Get, plainly: what its taker takes part by part, and that it answers what is got. -/
namespace Go.Proofs.YthjdkjinkmdclaaGreat
open Go.RowKit

/-- A letter that is being got, the taker's state, whether it is bad. -/
abbrev Rs := Lt × TS × Bool
def rPc (x : Rs) : Pc → Rs
  | .kind => ({ x.1 with kind := (rd1 .u8 x.2.1).1 }, (rd1 .u8 x.2.1).2, x.2.2)
  | .src => ({ x.1 with src := (rd1 .u8 x.2.1).1 }, (rd1 .u8 x.2.1).2, x.2.2)
  | .dst => ({ x.1 with dst := (rd1 .u8 x.2.1).1 }, (rd1 .u8 x.2.1).2, x.2.2)
  | .term => ({ x.1 with term := (rd1 .u64 x.2.1).1 }, (rd1 .u64 x.2.1).2, x.2.2)
  | .index => ({ x.1 with index := (rd1 .u64 x.2.1).1 }, (rd1 .u64 x.2.1).2, x.2.2)
  | .mark => ({ x.1 with mark := (rd1 .u64 x.2.1).1 }, (rd1 .u64 x.2.1).2, x.2.2)
  | .commit => ({ x.1 with commit := (rd1 .u64 x.2.1).1 }, (rd1 .u64 x.2.1).2, x.2.2)
  | .yes => ({ x.1 with yes := decide ((rd1 .u8 x.2.1).1 = 1) }, (rd1 .u8 x.2.1).2, decide (1 < (rd1 .u8 x.2.1).1))
  | .client => ({ x.1 with cl := (rd1 .u8 x.2.1).1 }, (rd1 .u8 x.2.1).2, x.2.2)
  | .num => ({ x.1 with num := (rd1 .u64 x.2.1).1 }, (rd1 .u64 x.2.1).2, x.2.2)
  | .wrong => ({ x.1 with e := IntKind.i64.wrap (rd1 .u64 x.2.1).1 }, (rd1 .u64 x.2.1).2, decide (9223372036854775807 < (rd1 .u64 x.2.1).1))
  | .command => ({ x.1 with steps := (rdL stepK 8 x.2.1).1 }, (rdL stepK 8 x.2.1).2, x.2.2)
  | .reply => ({ x.1 with re := (rd1 .i64 x.2.1).1, ra := (rd1 .i64 (rd1 .i64 x.2.1).2).1, gots := (rdL gotK 8 (rd1 .i64 (rd1 .i64 x.2.1).2).2).1 }, (rdL gotK 8 (rd1 .i64 (rd1 .i64 x.2.1).2).2).2, x.2.2)
  | .entries => x
  | .data => x
def rRun : List Pc → Rs → Rs
  | [], x => x
  | p :: ps, x => rRun ps (rPc x p)
theorem rRun_append : ∀ (ps qs : List Pc) (x : Rs), rRun (ps ++ qs) x = rRun qs (rRun ps x)
  | [], _, _ => rfl
  | _ :: ps, qs, _ => rRun_append ps qs _
/-- What is answered at last. -/
def ans (x : Rs) : Option Lt := if x.2.2 = false ∧ dn x.2.1 = 0 then some x.1 else none
def TS.bad : TS → Prop
  | .ok _ => False
  | .error k => k ≠ 0
/-- The document's state and the program's. -/
def SimA (x : Rs) (y : Lt × Gs) : Prop := (x.2.2 = false ∧ x.2.1 = .ok y.2.1 ∧ y.2.2 = false ∧ x.1 = y.1) ∨ ((x.2.2 = true ∨ x.2.1.bad) ∧ y.2.2 = true)
theorem numP_bad {xs : List Int} {k : Int} (h : numP xs = .error k) : k ≠ 0 := by
  unfold numP at h
  split at h
  · cases h
  · injection h with h; subst h; assumption
theorem byteP_bad {xs : List Int} {k : Int} (h : byteP xs = .error k) : k ≠ 0 := by
  cases xs with
  | nil => injection h with h; subst h; decide
  | cons c r => cases h
theorem rd8_bad {s : TS} (h : s.bad) : (rd1 .u8 s).2.bad := by
  cases s with
  | ok xs => exact h.elim
  | error k => exact h
theorem rd64_bad {s : TS} (h : s.bad) : (rd1 .u64 s).2.bad := by
  cases s with
  | ok xs => exact h.elim
  | error k => exact h
theorem rd8_g (xs : List Int) (d : Int) : (∃ c r, xs = c :: r ∧ rd1 .u8 (.ok xs) = (c, .ok r) ∧ gOne d (xs, false) = (c, (r, false))) ∨ ((rd1 .u8 (.ok xs)).2.bad ∧ (gOne d (xs, false)).2.2 = true) := by
  cases xs with
  | nil => exact .inr ⟨byteP_bad (xs := []) rfl, rfl⟩
  | cons c r => exact .inl ⟨c, r, rfl, rfl, rfl⟩
theorem rd64_g (xs : List Int) : (∃ (n : Nat) (r : List Int), rd1 .u64 (.ok xs) = ((n : Int), .ok r) ∧ gNum (xs, false) = (n, (r, false))) ∨ ((rd1 .u64 (.ok xs)).2.bad ∧ (gNum (xs, false)).2.2 = true) := by
  unfold gNum
  by_cases h : (tk xs).2.2 = 0
  · refine .inl ⟨(tk xs).1, xs.drop (tk xs).2.1, ?_, by rw [if_pos h]⟩
    have : numP xs = .ok ((tk xs).1, xs.drop (tk xs).2.1) := by unfold numP; rw [if_pos h]
    simp only [rd1, run, this]
  · refine .inr ⟨?_, by rw [if_neg h]⟩
    have : numP xs = .error (tk xs).2.2 := by unfold numP; rw [if_neg h]
    simp only [rd1, run, this]
    exact h
theorem run64 (s : TS) : rd1 .u64 s = (((run numP 0 s).1 : Int), (run numP 0 s).2) := rfl
/-- The parts that are numbers and bytes. -/
def Pc.low : Pc → Bool
  | .entries | .data | .command | .reply | .wrong => false
  | _ => true
theorem simA_step {x : Rs} {y : Lt × Gs} (p : Pc) (hp : p.low = true) (hy : p = .yes → x.2.2 = false ∨ x.2.1.bad) (h : SimA x y) : SimA (rPc x p) (gPc y.1 y.2 p) := by
  rcases h with ⟨h1, h2, h3, h4⟩ | ⟨h1, h2⟩
  · obtain ⟨L, s, b⟩ := x
    obtain ⟨L', g, gb⟩ := y
    simp only at h1 h2 h3 h4
    subst h1 h2 h3 h4
    cases p <;> first | (cases hp; done) | skip
    case kind => rcases rd8_g g L.kind with ⟨c, r, -, q1, q2⟩ | ⟨q1, q2⟩
                 · exact .inl (by simp [rPc, gPc, q1, q2])
                 · exact .inr ⟨.inr q1, q2⟩
    case src => rcases rd8_g g L.src with ⟨c, r, -, q1, q2⟩ | ⟨q1, q2⟩
                · exact .inl (by simp [rPc, gPc, q1, q2])
                · exact .inr ⟨.inr q1, q2⟩
    case dst => rcases rd8_g g L.dst with ⟨c, r, -, q1, q2⟩ | ⟨q1, q2⟩
                · exact .inl (by simp [rPc, gPc, q1, q2])
                · exact .inr ⟨.inr q1, q2⟩
    case client => rcases rd8_g g L.cl with ⟨c, r, -, q1, q2⟩ | ⟨q1, q2⟩
                   · exact .inl (by simp [rPc, gPc, q1, q2])
                   · exact .inr ⟨.inr q1, q2⟩
    case yes => rcases rd8_g g 0 with ⟨c, r, -, q1, q2⟩ | ⟨q1, q2⟩
                · by_cases hc : 1 < c
                  · exact .inr (by simp [rPc, gPc, q1, q2, hc])
                  · exact .inl (by simp [rPc, gPc, q1, q2]; omega)
                · exact .inr ⟨.inr q1, by simp only [gPc, q2, Bool.true_or]⟩
    all_goals
      rcases rd64_g g with ⟨c, r, q1, q2⟩ | ⟨q1, q2⟩
      · exact .inl (by simp [rPc, gPc, q1, q2])
      · exact .inr ⟨.inr q1, q2⟩
  · refine .inr ⟨?_, gPc_bad _ h2 p⟩
    by_cases hpy : p = .yes
    · subst hpy
      rcases h1 with h1 | h1
      · rcases hy rfl with h3 | h3
        · rw [h3] at h1; cases h1
        · exact .inr (rd8_bad h3)
      · exact .inr (rd8_bad h1)
    · rcases h1 with h1 | h1
      · left
        cases p <;> first | exact h1 | (cases hp; done) | exact absurd rfl hpy
      · right
        cases p <;> first | exact rd8_bad h1 | exact rd64_bad h1 | (cases hp; done)
theorem rPc_bad {x : Rs} (h : x.2.1.bad) (p : Pc) : (rPc x p).2.1.bad := by
  obtain ⟨L, s, b⟩ := x
  cases s with
  | ok xs => exact h.elim
  | error k => cases p <;> exact h
theorem simA_run : ∀ (ps : List Pc) {x : Rs} {y : Lt × Gs}, ps.all Pc.low = true → Pc.yes ∉ ps → SimA x y → SimA (rRun ps x) (gRun ps y)
  | [], _, _, _, _, h => h
  | p :: ps, x, y, h1, h2, h => by
    simp only [List.all_cons, Bool.and_eq_true] at h1
    exact simA_run ps h1.2 (fun e => h2 (List.mem_cons_of_mem _ e)) (simA_step p h1.1 (fun e => absurd (e ▸ List.mem_cons_self ..) h2) h)
/-- What e is, part by part. -/
theorem gPc_e (L : Lt) (s : Gs) (p : Pc) (hp : p ≠ .wrong) : (gPc L s p).1.e = L.e := by
  cases p <;> first | rfl | exact absurd rfl hp | skip
  case entries => simp only [gPc]; split <;> rfl
  case command => simp only [gPc]; split <;> rfl
  case reply => simp only [gPc]; split <;> rfl
theorem gRun_e : ∀ (ps : List Pc) (x : Lt × Gs), Pc.wrong ∉ ps → (gRun ps x).1.e = x.1.e
  | [], _, _ => rfl
  | p :: ps, x, h => by
    rw [gRun, gRun_e ps _ (fun e => h (List.mem_cons_of_mem _ e))]
    exact gPc_e _ _ p (fun e => h (e ▸ List.mem_cons_self ..))
def Rs.new (xs : List Int) : Rs := (Lt.zero, .ok xs, false)
theorem sim_new (xs : List Int) : SimA (Rs.new xs) (Lt.zero, (xs, false)) := .inl ⟨rfl, rfl, rfl, rfl⟩
theorem gPc_kind (L : Lt) (s : Gs) (p : Pc) (hp : p ≠ .kind) : (gPc L s p).1.kind = L.kind := by
  cases p <;> first | rfl | exact absurd rfl hp | skip
  case entries => simp only [gPc]; split <;> rfl
  case command => simp only [gPc]; split <;> rfl
  case reply => simp only [gPc]; split <;> rfl
/-- The kind is the first byte. -/
theorem head_kind (xs : List Int) : (headG xs).1.kind = (rd1 .u8 (.ok xs)).1 := by
  simp only [headG, heads, gRun]
  rw [gPc_kind _ _ _ (by decide), gPc_kind _ _ _ (by decide), gPc_kind _ _ _ (by decide)]
  cases xs <;> rfl
theorem dn_bad {s : TS} (h : s.bad) : dn s ≠ 0 := by
  cases s with
  | ok xs => exact h.elim
  | error k => exact h
theorem dn_ok (xs : List Int) : dn (.ok xs) = 0 ↔ xs = [] := by cases xs <;> simp [dn]
theorem getL_eq {xs : List Int} {ps : List Pc} (hk : pcs (rd1 .u8 (.ok xs)).1 = some ps) :
    getL xs = if (gRun (heads ++ ps) (Lt.zero, (xs, false))).2.2 = false ∧ (gRun (heads ++ ps) (Lt.zero, (xs, false))).2.1 = [] ∧ 0 ≤ (gRun (heads ++ ps) (Lt.zero, (xs, false))).1.e then some (gRun (heads ++ ps) (Lt.zero, (xs, false))).1 else none := by
  unfold getL
  rw [head_kind, hk, gRun_append]
  rfl
theorem getL_none {xs : List Int} (hk : pcs (rd1 .u8 (.ok xs)).1 = none) : getL xs = none := by
  unfold getL
  rw [head_kind, hk]
theorem ans_bad {x : Rs} (h : x.2.2 = true ∨ x.2.1.bad) : ans x = none := by
  unfold ans
  rw [if_neg]
  rintro ⟨h1, h2⟩
  rcases h with h | h
  · rw [h1] at h; cases h
  · exact dn_bad h h2
theorem ans_sim {x : Rs} {y : Lt × Gs} (h : SimA x y) (he : y.1.e = 0) : (if y.2.2 = false ∧ y.2.1 = [] ∧ 0 ≤ y.1.e then some y.1 else none) = ans x := by
  rcases h with ⟨h1, h2, h3, h4⟩ | ⟨h1, h2⟩
  · unfold ans
    rw [h1, h2, h3, h4, he]
    by_cases hx : y.2.1 = []
    · rw [if_pos ⟨rfl, hx, by omega⟩, if_pos ⟨rfl, (dn_ok _).2 hx⟩]
    · rw [if_neg (fun h => hx h.2.1), if_neg (fun h => hx ((dn_ok _).1 h.2))]
  · rw [ans_bad h1, if_neg]
    rintro ⟨h, _⟩
    rw [h2] at h; cases h
/-- Kinds of numbers and bytes alone. -/
theorem getL_low {xs : List Int} {ps : List Pc} (hk : pcs (rd1 .u8 (.ok xs)).1 = some ps) (hl : (heads ++ ps).all Pc.low = true) (hy : Pc.yes ∉ ps) : getL xs = ans (rRun (heads ++ ps) (Rs.new xs)) := by
  rw [getL_eq hk]
  have hw : Pc.wrong ∉ heads ++ ps := fun h => by have := List.all_eq_true.1 hl _ h; cases this
  exact ans_sim (simA_run _ hl (fun h => by
    rcases List.mem_append.1 h with h | h
    · revert h; decide
    · exact hy h) (sim_new xs)) (by rw [gRun_e _ _ hw]; rfl)
theorem rRun_flag : ∀ (ps : List Pc) (x : Rs), Pc.yes ∉ ps → Pc.wrong ∉ ps → (rRun ps x).2.2 = x.2.2
  | [], _, _, _ => rfl
  | p :: ps, x, h1, h2 => by
    rw [rRun, rRun_flag ps _ (fun e => h1 (List.mem_cons_of_mem _ e)) (fun e => h2 (List.mem_cons_of_mem _ e))]
    cases p <;> first | rfl | exact absurd (List.mem_cons_self ..) h1 | exact absurd (List.mem_cons_self ..) h2
/-- Kinds 2 and 4. -/
theorem getL_yes {xs : List Int} (hk : pcs (rd1 .u8 (.ok xs)).1 = some [.yes, .index]) : getL xs = ans (rRun (heads ++ [.yes, .index]) (Rs.new xs)) := by
  rw [getL_eq hk]
  have h0 := simA_run heads (by decide) (by decide) (sim_new xs)
  have h1 := simA_step (x := rRun heads (Rs.new xs)) .yes rfl (fun _ => .inl (by rw [rRun_flag heads _ (by decide) (by decide)]; rfl)) h0
  have h2 := simA_step .index rfl (fun e => by cases e) h1
  rw [rRun_append, gRun_append]
  refine ans_sim h2 ?_
  show (gRun [Pc.yes, Pc.index] (gRun heads (Lt.zero, (xs, false)))).1.e = 0
  rw [gRun_e [Pc.yes, Pc.index] _ (by decide), gRun_e heads _ (by decide)]
  rfl
theorem wrap_neg {n : Nat} (h : n < 18446744073709551616) : (0 ≤ IntKind.i64.wrap (n : Int)) ↔ ¬ (9223372036854775807 < (n : Int)) := by
  rw [IntKind.wrap_i64]
  omega
/-- The last part, a command. -/
theorem last_cmd {x : Rs} {y : Lt × Gs} (h0 : SimA x y) (he : 0 ≤ y.1.e) : (if (gPc y.1 y.2 .command).2.2 = false ∧ (gPc y.1 y.2 .command).2.1 = [] ∧ 0 ≤ (gPc y.1 y.2 .command).1.e then some (gPc y.1 y.2 .command).1 else none) = ans (rPc x .command) := by
  rcases h0 with ⟨h1, h2, h3, h4⟩ | ⟨h1, h2⟩
  · obtain ⟨L, s, b⟩ := x
    obtain ⟨L', g, gb⟩ := y
    simp only at h1 h2 h3 h4 he
    subst h1 h2 h3 h4
    have S := sim_all (P := listP (fP stepK) 8) (sim_L stepK 8) g
    have hc : cmdP g = listP (fP stepK) 8 g := rfl
    simp only [gPc, rPc, hc]
    rcases ha : allP (listP (fP stepK) 8 g) with k | a
    · rw [ha] at S
      simp only at S ⊢
      rw [if_neg (by rintro ⟨h, _⟩; cases h)]
      have hk := allP_bad cod_cmd (xs := g) (k := k) ha
      unfold ans
      rw [if_neg]
      rintro ⟨_, h⟩
      simp only at h
      rw [S] at h
      omega
    · rw [ha] at S
      simp only at S ⊢
      simp [ans, S.1, dn, he]
  · have hb : ans (rPc x .command) = none := ans_bad (by
      rcases h1 with h1 | h1
      · exact .inl h1
      · obtain ⟨L, s, b⟩ := x
        cases s with
        | ok xs => exact h1.elim
        | error k => exact .inr h1)
    rw [hb]
    refine if_neg ?_
    rintro ⟨h, _⟩
    rw [gPc_bad _ h2] at h
    cases h
/-- The last part, a reply. -/
theorem last_reply {x : Rs} {y : Lt × Gs} (h0 : SimA x y) (he : 0 ≤ y.1.e) : (if (gPc y.1 y.2 .reply).2.2 = false ∧ (gPc y.1 y.2 .reply).2.1 = [] ∧ 0 ≤ (gPc y.1 y.2 .reply).1.e then some (gPc y.1 y.2 .reply).1 else none) = ans (rPc x .reply) := by
  rcases h0 with ⟨h1, h2, h3, h4⟩ | ⟨h1, h2⟩
  · obtain ⟨L, s, b⟩ := x
    obtain ⟨L', g, gb⟩ := y
    simp only at h1 h2 h3 h4 he
    subst h1 h2 h3 h4
    have S := sim_all (P := replyP) ((sim_F replyK).bind (sim_L gotK 8)) g
    rcases ha : allP (replyP g) with k | a
    · rw [ha] at S
      have e1 : gPc L (g, false) .reply = ({ L with re := 0, ra := 0, gots := [] }, ([], true)) := by simp only [gPc, ha]
      rw [e1]
      rw [if_neg (by rintro ⟨h, _⟩; cases h)]
      have hk := allP_bad cod_reply (xs := g) (k := k) ha
      unfold ans
      rw [if_neg]
      rintro ⟨_, h⟩
      simp only [replyK, rdF, rPc] at h S
      rw [S] at h
      omega
    · rw [ha] at S
      have e1 : gPc L (g, false) .reply = ({ L with re := a.1.headD 0, ra := a.1.tail.headD 0, gots := a.2 }, ([], false)) := by simp only [gPc, ha]
      rw [e1]
      simp only [replyK, rdF] at S
      obtain ⟨S1, -⟩ := S
      injection S1 with S2 S3
      subst S2
      simp [ans, rPc, S3, dn, he]
  · have hb : ans (rPc x .reply) = none := ans_bad (by
      rcases h1 with h1 | h1
      · exact .inl h1
      · obtain ⟨L, s, b⟩ := x
        cases s with
        | ok xs => exact h1.elim
        | error k => exact .inr h1)
    rw [hb]
    refine if_neg ?_
    rintro ⟨h, _⟩
    rw [gPc_bad _ h2] at h
    cases h
/-- Kind 6. -/
theorem getL_call {xs : List Int} (hk : pcs (rd1 .u8 (.ok xs)).1 = some [.client, .num, .command]) : getL xs = ans (rRun (heads ++ [.client, .num, .command]) (Rs.new xs)) := by
  rw [getL_eq hk]
  have h0 := simA_run (heads ++ [.client, .num]) (by decide) (by decide) (sim_new xs)
  rw [show heads ++ [Pc.client, .num, .command] = (heads ++ [.client, .num]) ++ [.command] from rfl, rRun_append _ [Pc.command], gRun_append _ [Pc.command]]
  have he : (gRun (heads ++ [Pc.client, .num]) (Lt.zero, (xs, false))).1.e = 0 := by rw [gRun_e _ _ (by decide)]; rfl
  exact last_cmd h0 (by omega)
def fin (y : Lt × Gs) : Option Lt := if y.2.2 = false ∧ y.2.1 = [] ∧ 0 ≤ y.1.e then some y.1 else none
theorem fin_no {y : Lt × Gs} (h : ¬ (y.2.2 = false ∧ y.2.1 = [] ∧ 0 ≤ y.1.e)) : fin y = none := if_neg h
/-- Kind 7. -/
theorem getL_reply {xs : List Int} (hk : pcs (rd1 .u8 (.ok xs)).1 = some [.client, .num, .wrong, .index, .reply]) (hn : (rd1 .u64 (rRun (heads ++ [.client, .num]) (Rs.new xs)).2.1).1 < 18446744073709551616) :
    getL xs = ans (rRun (heads ++ [.client, .num, .wrong, .index, .reply]) (Rs.new xs)) := by
  rw [getL_eq hk]
  have h0 := simA_run (heads ++ [.client, .num]) (by decide) (by decide) (sim_new xs)
  rw [show heads ++ [Pc.client, .num, .wrong, .index, .reply] = (heads ++ [.client, .num]) ++ [.wrong, .index, .reply] from rfl, rRun_append _ [Pc.wrong, .index, .reply], gRun_append _ [Pc.wrong, .index, .reply]]
  have he : (gRun (heads ++ [Pc.client, .num]) (Lt.zero, (xs, false))).1.e = 0 := by rw [gRun_e _ _ (by decide)]; rfl
  have hf : (rRun (heads ++ [Pc.client, .num]) (Rs.new xs)).2.2 = false := by rw [rRun_flag _ _ (by decide) (by decide)]; rfl
  change fin (gRun [Pc.wrong, .index, .reply] (gRun (heads ++ [Pc.client, .num]) (Lt.zero, (xs, false)))) = _
  revert h0 he hn hf
  generalize rRun (heads ++ [Pc.client, .num]) (Rs.new xs) = x
  generalize gRun (heads ++ [Pc.client, .num]) (Lt.zero, (xs, false)) = y
  intro hn h0 he hf
  change fin (gPc (gPc (gPc y.1 y.2 .wrong).1 (gPc y.1 y.2 .wrong).2 .index).1 (gPc (gPc y.1 y.2 .wrong).1 (gPc y.1 y.2 .wrong).2 .index).2 .reply) = ans (rPc (rPc (rPc x .wrong) .index) .reply)
  rcases h0 with ⟨h1, h2, h3, h4⟩ | ⟨h1, h2⟩
  · obtain ⟨L, s, b⟩ := x
    obtain ⟨L', g, gb⟩ := y
    simp only at h1 h2 h3 h4 he hn
    subst h1 h2 h3 h4
    rcases rd64_g g with ⟨n, r, q1, q2⟩ | ⟨q1, q2⟩
    · have e1 : rPc (L, .ok g, false) .wrong = ({ L with e := IntKind.i64.wrap (n : Int) }, .ok r, decide (9223372036854775807 < (n : Int))) := by simp only [rPc, q1]
      have e2 : gPc L (g, false) .wrong = ({ L with e := IntKind.i64.wrap (n : Int) }, (r, false)) := by simp only [gPc, q2]
      rw [q1] at hn
      simp only at hn
      have hw := wrap_neg (n := n) (by omega)
      simp only at hf
      show fin (gPc (gPc (gPc L (g, false) .wrong).1 (gPc L (g, false) .wrong).2 .index).1 (gPc (gPc L (g, false) .wrong).1 (gPc L (g, false) .wrong).2 .index).2 .reply) = _
      rw [e1, e2]
      by_cases hb : 9223372036854775807 < (n : Int)
      · rw [decide_eq_true hb]
        refine (fin_no ?_).trans (ans_bad (.inl rfl)).symm
        rintro ⟨_, _, h⟩
        rw [gPc_e _ _ _ (by decide), gPc_e _ _ _ (by decide)] at h
        exact (hw.1 h) hb
      · rw [decide_eq_false hb]
        have h5 := simA_step (x := ({ L with e := IntKind.i64.wrap (n : Int) }, .ok r, false)) (y := ({ L with e := IntKind.i64.wrap (n : Int) }, (r, false))) .index rfl (fun e => by cases e) (.inl ⟨rfl, rfl, rfl, rfl⟩)
        exact last_reply h5 (by rw [gPc_e _ _ _ (by decide)]; exact hw.2 hb)
    · have hs : SimA (rPc (L, .ok g, false) .wrong) (gPc L (g, false) .wrong) := .inr ⟨.inr q1, q2⟩
      have h5 := simA_step .index rfl (fun e => by cases e) hs
      rcases h5 with ⟨h6, h7, h8, h9⟩ | ⟨h6, h7⟩
      · exfalso
        have : (gPc (gPc L (g, false) .wrong).1 (gPc L (g, false) .wrong).2 .index).2.2 = true := gPc_bad _ q2 _
        rw [this] at h8; cases h8
      · have hb : ans (rPc (rPc (rPc (L, .ok g, false) .wrong) .index) .reply) = none := ans_bad (.inr (rPc_bad (rPc_bad (x := rPc (L, .ok g, false) .wrong) q1 .index) .reply))
        rw [hb]
        refine fin_no ?_
        rintro ⟨h, _⟩
        rw [gPc_bad _ h7] at h
        cases h
  · have hg : (gPc (gPc (gPc y.1 y.2 .wrong).1 (gPc y.1 y.2 .wrong).2 .index).1 (gPc (gPc y.1 y.2 .wrong).1 (gPc y.1 y.2 .wrong).2 .index).2 .reply).2.2 = true := gPc_bad _ (gPc_bad _ (gPc_bad _ h2 _) _) _
    have hx : x.2.1.bad := by
      rcases h1 with h1 | h1
      · rw [hf] at h1; cases h1
      · exact h1
    have hb : ans (rPc (rPc (rPc x .wrong) .index) .reply) = none := ans_bad (.inr (rPc_bad (rPc_bad (rPc_bad hx .wrong) .index) .reply))
    rw [hb]
    refine fin_no ?_
    rintro ⟨h, _⟩
    rw [hg] at h
    cases h
/-- A number, as the program gets it and as the document does. -/
theorem num_g (xs : List Int) : (∃ (n : Nat) (r : List Int), run numP 0 (.ok xs) = (n, .ok r) ∧ gNum (xs, false) = (n, (r, false)) ∧ r.length ≤ xs.length) ∨ ((run numP 0 (.ok xs)).2.bad ∧ (gNum (xs, false)).2.2 = true ∧ (gNum (xs, false)).1 = 0 ∧ (run numP 0 (.ok xs)).1 = 0) := by
  unfold gNum
  by_cases h : (tk xs).2.2 = 0
  · refine .inl ⟨(tk xs).1, xs.drop (tk xs).2.1, ?_, by rw [if_pos h], by rw [List.length_drop]; omega⟩
    have : numP xs = .ok ((tk xs).1, xs.drop (tk xs).2.1) := by unfold numP; rw [if_pos h]
    simp only [run, this]
  · have : numP xs = .error (tk xs).2.2 := by unfold numP; rw [if_neg h]
    refine .inr ⟨?_, by rw [if_neg h], by rw [if_neg h], ?_⟩
    · simp only [run, this]
      exact h
    · simp only [run, this]
/-- Kind 5: what the document answers behind the mark. -/
def ansData (x : Rs) : Option Lt := match (run numP 0 x.2.1).2 with
  | .error _ => none
  | .ok r => if r.length < (run numP 0 x.2.1).1 ∨ 65536 < (run numP 0 x.2.1).1 then none else ans ({ x.1 with data := r.take (run numP 0 x.2.1).1 }, .ok (r.drop (run numP 0 x.2.1).1), x.2.2)
theorem ansData_c {x : Rs} {n : Nat} {s : TS} (hn : run numP 0 x.2.1 = (n, s)) (hB : ∀ r, s = .ok r → r.length < n ∨ 65536 < n) : ansData x = none := by
  unfold ansData
  rw [hn]
  cases s with
  | error k => rfl
  | ok r => exact if_pos (hB r rfl)
theorem ansData_ok {x : Rs} {n : Nat} {r : List Int} (hn : run numP 0 x.2.1 = (n, .ok r)) (hB : ¬ (r.length < n ∨ 65536 < n)) : ansData x = ans ({ x.1 with data := r.take n }, .ok (r.drop n), x.2.2) := by
  unfold ansData
  rw [hn]
  exact if_neg hB
theorem getL_data {xs : List Int} (hk : pcs (rd1 .u8 (.ok xs)).1 = some [.index, .mark, .data]) : getL xs = ansData (rRun (heads ++ [.index, .mark]) (Rs.new xs)) := by
  rw [getL_eq hk]
  have h0 := simA_run (heads ++ [.index, .mark]) (by decide) (by decide) (sim_new xs)
  rw [show heads ++ [Pc.index, .mark, .data] = (heads ++ [.index, .mark]) ++ [.data] from rfl, gRun_append _ [Pc.data]]
  have he : (gRun (heads ++ [Pc.index, .mark]) (Lt.zero, (xs, false))).1.e = 0 := by rw [gRun_e _ _ (by decide)]; rfl
  revert h0 he
  generalize rRun (heads ++ [Pc.index, .mark]) (Rs.new xs) = x
  generalize gRun (heads ++ [Pc.index, .mark]) (Lt.zero, (xs, false)) = y
  intro h0 he
  simp only [gRun, gPc]
  rcases h0 with ⟨h1, h2, h3, h4⟩ | ⟨h1, h2⟩
  · obtain ⟨L, s, b⟩ := x
    obtain ⟨L', g, gb⟩ := y
    simp only at h1 h2 h3 h4 he
    subst h1 h2 h3 h4
    rcases num_g g with ⟨n, r, q1, q2, -⟩ | ⟨q1, q2, -⟩
    · unfold ansData
      simp only [q1]
      unfold gText
      simp only [q2]
      by_cases hc : r.length < n ∨ 65536 < n
      · rw [if_pos hc, if_pos (show (false = true ∨ 65536 < n ∨ r.length < n) from .inr (by omega))]
        simp
      · rw [if_neg hc, if_neg (show ¬ (false = true ∨ 65536 < n ∨ r.length < n) from by rintro (h | h); cases h; omega)]
        simp only [ans, dn_ok, he]
        by_cases hd : r.drop n = []
        · simp [hd]
        · simp [hd]
    · have hn : ansData (L, .ok g, false) = none := by
        unfold ansData
        revert q1
        simp only
        cases (run numP 0 (.ok g)).2 with
        | ok r => exact fun h => h.elim
        | error k => exact fun _ => rfl
      rw [hn]
      refine if_neg ?_
      rintro ⟨h, _⟩
      unfold gText at h
      rw [if_pos (.inl q2)] at h
      cases h
  · have hn : ansData x = none := by
      obtain ⟨L, s, b⟩ := x
      cases s with
      | error k => rfl
      | ok r =>
        rcases h1 with h1 | h1
        · simp only at h1
          subst h1
          unfold ansData
          simp only
          split
          · rfl
          · split
            · rfl
            · exact ans_bad (.inl rfl)
        · exact h1.elim
    rw [hn]
    refine if_neg ?_
    rintro ⟨h, _⟩
    rw [gText_bad _ h2] at h
    cases h
/-- Kind 3: the entries that are left to take, as the document's loop takes them. -/
def rEnts : Nat → List Ent → TS → Bool → Option (List Ent × TS × Bool)
  | 0, es, s, b => some (es, s, b)
  | _ + 1, es, .error k, b => some (es, .error k, b)
  | _ + 1, es, .ok xs, true => some (es, .ok xs, true)
  | k + 1, es, .ok xs, false => match (run numP 0 (.ok xs)).2 with
    | .error _ => none
    | .ok r => if r.length < (run numP 0 (.ok xs)).1 then none else rEnts k (es ++ [(getE (r.take (run numP 0 (.ok xs)).1)).1]) (.ok (r.drop (run numP 0 (.ok xs)).1)) (getE (r.take (run numP 0 (.ok xs)).1)).2
theorem rEnts_bad (k : Nat) (es : List Ent) (s : TS) : rEnts k es s true = some (es, s, true) := by
  cases k with
  | zero => rfl
  | succ k => cases s <;> rfl
theorem ents_sim : ∀ (k : Nat) (es : List Ent) (xs : List Int), xs.length ≤ 65536 → match rEnts k es (.ok xs) false with
    | none => (gEnts k es (xs, false)).2.2 = true
    | some a => (a.2.2 = false ∧ a.2.1 = .ok (gEnts k es (xs, false)).2.1 ∧ (gEnts k es (xs, false)).2.2 = false ∧ a.1 = (gEnts k es (xs, false)).1) ∨ (a.2.2 = true ∧ (gEnts k es (xs, false)).2.2 = true)
  | 0, es, xs, _ => .inl ⟨rfl, rfl, rfl, rfl⟩
  | k + 1, es, xs, hl => by
    rcases num_g xs with ⟨n, r, q1, q2, q3⟩ | ⟨q1, q2, -⟩
    · simp only [rEnts, q1]
      by_cases hc : r.length < n
      · rw [if_pos hc]
        simp only
        have hg : (gText [] (xs, false)).2.2 = true := by unfold gText; rw [if_pos (.inr (.inr (by rw [q2]; exact hc)))]
        unfold gEnts
        exact gEnts_bad _ _ (by simp [hg])
      · rw [if_neg hc]
        have hg : gText [] (xs, false) = (r.take n, (r.drop n, false)) := by
          unfold gText
          simp only [q2]
          rw [if_neg (show ¬ (false = true ∨ 65536 < n ∨ r.length < n) from by rintro (h | h); cases h; omega)]
        have he : gEnts (k + 1) es (xs, false) = gEnts k (es ++ [(getE (r.take n)).1]) (r.drop n, (getE (r.take n)).2) := by
          rw [gEnts]
          simp only [hg, Bool.false_or]
        rw [he]
        rcases hb : (getE (r.take n)).2 with _ | _
        · exact ents_sim k _ _ (by rw [List.length_drop]; omega)
        · rw [rEnts_bad]
          exact .inr ⟨rfl, gEnts_bad _ _ rfl⟩
    · have hr : rEnts (k + 1) es (.ok xs) false = none := by
        simp only [rEnts]
        revert q1
        cases (run numP 0 (.ok xs)).2 with
        | ok r => exact fun h => h.elim
        | error k => exact fun _ => rfl
      rw [hr]
      simp only
      have hg : (gText [] (xs, false)).2.2 = true := by unfold gText; rw [if_pos (.inl q2)]
      unfold gEnts
      exact gEnts_bad _ _ (by simp [hg])
def ansEnts (x : Rs) : Option Lt := if 8 < (run numP 0 x.2.1).1 then none else match rEnts (run numP 0 x.2.1).1 x.1.es (run numP 0 x.2.1).2 x.2.2 with
  | none => none
  | some a => ans ({ x.1 with es := a.1 }, a.2.1, a.2.2)
theorem getL_ents {xs : List Int} (hk : pcs (rd1 .u8 (.ok xs)).1 = some [.index, .mark, .commit, .entries]) (hlen : ∀ r, (rRun (heads ++ [.index, .mark, .commit]) (Rs.new xs)).2.1 = .ok r → r.length ≤ 65536) : getL xs = ansEnts (rRun (heads ++ [.index, .mark, .commit]) (Rs.new xs)) := by
  rw [getL_eq hk]
  have h0 := simA_run (heads ++ [.index, .mark, .commit]) (by decide) (by decide) (sim_new xs)
  rw [show heads ++ [Pc.index, .mark, .commit, .entries] = (heads ++ [.index, .mark, .commit]) ++ [.entries] from rfl, gRun_append _ [Pc.entries]]
  have he : (gRun (heads ++ [Pc.index, .mark, .commit]) (Lt.zero, (xs, false))).1.e = 0 := by rw [gRun_e _ _ (by decide)]; rfl
  have hf : (rRun (heads ++ [Pc.index, .mark, .commit]) (Rs.new xs)).2.2 = false := by rw [rRun_flag _ _ (by decide) (by decide)]; rfl
  revert h0 he hlen hf
  generalize rRun (heads ++ [Pc.index, .mark, .commit]) (Rs.new xs) = x
  generalize gRun (heads ++ [Pc.index, .mark, .commit]) (Lt.zero, (xs, false)) = y
  intro hlen h0 he hf
  simp only [gRun]
  rcases h0 with ⟨h1, h2, h3, h4⟩ | ⟨h1, h2⟩
  · obtain ⟨L, s, b⟩ := x
    obtain ⟨L', g, gb⟩ := y
    simp only at h1 h2 h3 h4 he hlen
    subst h1 h2 h3 h4
    have hgl := hlen g rfl
    rcases num_g g with ⟨n, r, q1, q2, q3⟩ | ⟨q1, q2, q3, q4⟩
    · unfold ansEnts
      simp only [q1, gPc, q2]
      by_cases hc : 8 < n
      · rw [if_pos hc, if_pos hc]
        exact if_neg (by rintro ⟨h, _⟩; cases h)
      · rw [if_neg hc, if_neg hc]
        have S := ents_sim n L.es r (by omega)
        rcases hr : rEnts n L.es (.ok r) false with _ | ⟨es', s', b'⟩
        · rw [hr] at S
          simp only at S ⊢
          exact if_neg (by rintro ⟨h, _⟩; rw [S] at h; cases h)
        · rw [hr] at S
          simp only at S ⊢
          rcases S with ⟨s1, s2, s3, s4⟩ | ⟨s1, s2⟩
          · subst s1 s2 s4
            rw [s3]
            simp only [ans, dn_ok, he]
            by_cases hd : (gEnts n L.es (r, false)).2.1 = []
            · simp [hd]
            · simp [hd]
          · rw [ans_bad (.inl s1)]
            exact if_neg (by rintro ⟨h, _⟩; rw [s2] at h; cases h)
    · have hn : ansEnts (L, .ok g, false) = none := by
        unfold ansEnts
        simp only [q4]
        rw [if_neg (by omega)]
        exact ans_bad (.inr q1)
      rw [hn]
      refine if_neg ?_
      rintro ⟨h, _⟩
      simp only [gPc, q3] at h
      rw [if_neg (by omega)] at h
      rw [gEnts_bad _ _ q2] at h
      cases h
  · have hx : x.2.1.bad := by
      rcases h1 with h1 | h1
      · rw [hf] at h1; cases h1
      · exact h1
    have hn : ansEnts x = none := by
      obtain ⟨L, s, b⟩ := x
      cases s with
      | ok r => exact hx.elim
      | error k =>
        unfold ansEnts
        rw [if_neg (by simp [run])]
        exact ans_bad (.inr hx)
    rw [hn]
    refine if_neg ?_
    rintro ⟨h, _⟩
    rw [gPc_bad _ h2] at h
    cases h
end Go.Proofs.YthjdkjinkmdclaaGreat

/- The document's taker: a command. -/
namespace Go.Proofs.YthjdkjinkmdclaaGreat
open Go.RowKit


theorem ow_apart_ {w w' : World} {B B' : Nat} {e e' : TypeId} {size size' n n' : Nat} {v v' : Value} {xs xs' : List Value} (h : Ow B w e size v n xs) (h' : Ow B' w e' size' v' n' xs') (hne : e ≠ e') (hg : w.grownBy w' v'.ownBlock) : Ow B w' e size v n xs := by
  rcases h with h | ⟨g, c, cur, rfl, hb, hk, h⟩
  · exact .inl h
  · exact .inr ⟨g, c, cur, rfl, hb, hk.grown hg (fun e => Ow.notat h' hk hne e.symm), h⟩
set_option maxHeartbeats 8000000 in
set_option maxRecDepth 100000 in
theorem tcmd_at (t : Nat) (s s2 : TS) (rows : List (List Int)) (w : World) (h : Ts w t s) (hL : rdL stepK 8 s = (rows, s2)) :
    Calls Tryz.prog 38 #[.pointer (some ⟨t, 0, none⟩)] w fun e w' => ∃ A c, e = .returned (.agg #[.slice A rows.length c]) ∧ Ow w.heap.size w' 104 10 (.slice A rows.length c) rows.length (rows.flatMap (fc stepK)) ∧ Ts w' t s2 ∧ w.grownBy w' (some t) := by
  have hlt := h.lt
  have b2 := below_alloc2_ w (.cells #[.slice none 0 0] 28) (.cells #[.slice none 0 0] 28)
  have k0 := (Blk.new w 28 #[.slice none 0 0]).alloc (.cells #[.slice none 0 0] 28)
  have k1 := Blk.new (w.alloc (.cells #[.slice none 0 0] 28)) 28 #[.slice none 0 0]
  rw [World.size_alloc] at k1
  obtain ⟨n, s1, hM⟩ : ∃ n s1, rdM 8 s = (n, s1) := ⟨_, _, rfl⟩
  have hn := rdM_le 8 s
  rw [hM] at hn
  simp only at hn
  have hL' : rdN stepK n s1 = (rows, s2) := by rw [← hL]; unfold rdL; rw [hM]
  have HL := Lib.hid hL'
  have HM := Lib.hid hM
  have T0 := Lib.hid (h.below b2)
  have KC0 := Lib.hid k1
  have K20 := Lib.hid k0
  have G0 := Lib.hid (grown_below_ b2 (some t))
  have hn' : (n : Int) ≤ 8 := by omega
  clear h hL hM hL' b2 k0 k1
  go_enter Tryz.func38, Tryz.ntmps38
  go_wp2_with fail
  refine (many_at t 8 s s1 n _ T0.out (by decide) HM.out).mono ?_
  rintro e w1 ⟨rfl, ht, hg⟩
  have T := Lib.hid ht
  have KC := Lib.hid (KC0.out.grown hg (fun e => by have := Option.some.inj e; omega))
  have K2 := Lib.hid (K20.out.grown hg (fun e => by have := Option.some.inj e; omega))
  have G := Lib.hid (grown_trans_ G0.out hg)
  clear ht hg T0 KC0 K20 G0
  go_wp2_with fail
  go_loopg [5] n (fun q ci wr => ∃ (j : Nat) (done : List (List Int)) (sj : TS) (v : Value), j ≤ n ∧ q = n - j ∧ ci = .int .i64 j ∧ done.length = j ∧ rdN stepK n s1 = (done ++ (rdN stepK (n - j) sj).1, (rdN stepK (n - j) sj).2) ∧ Ts wr t sj ∧ Blk wr (w.heap.size + 1) 28 #[v] ∧ Blk wr w.heap.size 28 #[.slice none 0 0] ∧ Ow w.heap.size wr 104 10 v j (done.flatMap (fc stepK)) ∧ w.grownBy wr (some t))
  case atStart => exact ⟨0, [], s1, .slice none 0 0, Nat.zero_le _, rfl, rfl, rfl, by simp, T.out, KC.out, K2.out, .inl ⟨rfl, rfl, rfl⟩, G.out⟩
  case round =>
    obtain ⟨j, done, sj, v, hj, hq, rfl, hdl, hrep, hT, hKC, hK2, hO, hG⟩ := hrel
    have HQ := Lib.hid hq
    have DL := Lib.hid hdl
    have RP := Lib.hid hrep
    have HT := Lib.hid hT
    have HKC := Lib.hid hKC
    have HK2 := Lib.hid hK2
    have HO := Lib.hid hO
    have HG := Lib.hid hG
    obtain ⟨ee, hee, he0, he1⟩ := hT.errno
    obtain ⟨Av, cv, rfl⟩ := hO.sl_
    have HE0 := Lib.hid he0
    have HE1 := Lib.hid he1
    have hwr : w.heap.size ≤ wr.heap.size := hG.size
    clear hq hdl hrep hT hKC hK2 hO hG he0 he1
    go_upto_region 4 with fail
    go_cut [18] (fun sb wx => sb = .bool (decide (j < n ∧ ee = 0)) ∧ wx = wr)
    case first =>
      by_cases hjn : j < n
      · have hjn' : (j : Int) < n := by omega
        by_cases hek : ee = 0
        · have b1 : (ee == 0) = true := by rw [hek]; rfl
          have HEK := Lib.hid hek
          clear hek
          go_wp2
          go_meet
          exact ⟨by simp [hjn, HEK.out], rfl⟩
        · have b1 : (ee == 0) = false := beq_eq_false_iff_ne.2 hek
          have HEK := Lib.hid hek
          clear hek
          go_wp2
          go_meet
          exact ⟨by simp [HEK.out], rfl⟩
      · have hjn' : ¬ (j : Int) < n := by omega
        go_wp2
        go_meet
        exact ⟨by simp [hjn], rfl⟩
    case rest =>
    obtain ⟨rfl, rfl⟩ := hcut
    by_cases hgo : j < n ∧ ee = 0
    · rw [decide_eq_true hgo]
      obtain ⟨hjn, hek⟩ := hgo
      have hjn' : (j : Int) < n := by omega
      obtain ⟨xs, rfl⟩ : ∃ xs, sj = .ok xs := by
        match sj, HE1 with
        | .ok xs, _ => exact ⟨xs, rfl⟩
        | .error q, HE1 => exact absurd hek (HE1.out q rfl).2
      have SP := Lib.hid (show rdN stepK (n - j) (.ok xs) = ((rdF stepK (.ok xs)).1 :: (rdN stepK (n - (j + 1)) (rdF stepK (.ok xs)).2).1, (rdN stepK (n - (j + 1)) (rdF stepK (.ok xs)).2).2) by rw [show n - j = n - (j + 1) + 1 from by omega]; rfl)
      clear hek hee
      obtain ⟨x0, s_1, hr0⟩ : ∃ a b, rd1 .u8 (.ok xs) = (a, b) := ⟨_, _, rfl⟩
      have R0 := Lib.hid hr0
      obtain ⟨x1, s_2, hr1⟩ : ∃ a b, rd1 .u8 s_1 = (a, b) := ⟨_, _, rfl⟩
      have R1 := Lib.hid hr1
      obtain ⟨x2, s_3, hr2⟩ : ∃ a b, rd1 .u8 s_2 = (a, b) := ⟨_, _, rfl⟩
      have R2 := Lib.hid hr2
      obtain ⟨x3, s_4, hr3⟩ : ∃ a b, rd1 .u8 s_3 = (a, b) := ⟨_, _, rfl⟩
      have R3 := Lib.hid hr3
      obtain ⟨x4, s_5, hr4⟩ : ∃ a b, rd1 .u8 s_4 = (a, b) := ⟨_, _, rfl⟩
      have R4 := Lib.hid hr4
      obtain ⟨x5, s_6, hr5⟩ : ∃ a b, rd1 .i64 s_5 = (a, b) := ⟨_, _, rfl⟩
      have R5 := Lib.hid hr5
      obtain ⟨x6, s_7, hr6⟩ : ∃ a b, rd1 .i64 s_6 = (a, b) := ⟨_, _, rfl⟩
      have R6 := Lib.hid hr6
      obtain ⟨x7, s_8, hr7⟩ : ∃ a b, rd1 .i64 s_7 = (a, b) := ⟨_, _, rfl⟩
      have R7 := Lib.hid hr7
      obtain ⟨x8, s_9, hr8⟩ : ∃ a b, rd1 .i64 s_8 = (a, b) := ⟨_, _, rfl⟩
      have R8 := Lib.hid hr8
      obtain ⟨x9, s_10, hr9⟩ : ∃ a b, rd1 .u64 s_9 = (a, b) := ⟨_, _, rfl⟩
      have R9 := Lib.hid hr9
      have RF := Lib.hid (show rdF stepK (.ok xs) = ([x0, x1, x2, x3, x4, x5, x6, x7, x8, x9], s_10) by simp only [stepK, rdF, hr0, hr1, hr2, hr3, hr4, hr5, hr6, hr7, hr8, hr9])
      clear hr0 hr1 hr2 hr3 hr4 hr5 hr6 hr7 hr8 hr9
      have bk := Blk.new wc 104 #[.int .u8 0, .int .u8 0, .int .u8 0, .int .u8 0, .int .u8 0, .int .i64 0, .int .i64 0, .int .i64 0, .int .i64 0, .int .u64 0]
      have B0 := Lib.hid bk
      have TT0 := Lib.hid (HT.out.below (below_alloc_ wc (.cells #[.int .u8 0, .int .u8 0, .int .u8 0, .int .u8 0, .int .u8 0, .int .i64 0, .int .i64 0, .int .i64 0, .int .i64 0, .int .u64 0] 104)))
      have GG0 := Lib.hid (grown_below_ (below_alloc_ wc (.cells #[.int .u8 0, .int .u8 0, .int .u8 0, .int .u8 0, .int .u8 0, .int .i64 0, .int .i64 0, .int .i64 0, .int .i64 0, .int .u64 0] 104)) (some t))
      have htl : t < wc.heap.size := HT.out.lt
      clear bk
      go_wp2_with fail
      refine (rd_u8 t (.ok xs) s_1 x0 _ TT0.out R0.out).mono ?_
      rintro e w1 ⟨rfl, ht, hg⟩
      have bk := B0.out.grown hg (fun e => by have := Option.some.inj e; omega)
      have f1 := bk.free
      have z1 := bk.cell 0
      simp only [List.getElem?_toArray, List.getElem?_cons_zero] at z1
      have B1 := Lib.hid (show Blk (w1.setCell ⟨wc.heap.size, 0, none⟩ (.int .u8 x0)) wc.heap.size 104 #[.int .u8 x0, .int .u8 0, .int .u8 0, .int .u8 0, .int .u8 0, .int .i64 0, .int .i64 0, .int .i64 0, .int .i64 0, .int .u64 0] from by have := bk.set_ 0 (.int .u8 x0); simpa using this)
      have TT1 := Lib.hid (ht.grown (grown_set_ w1 wc.heap.size 0 (.int .u8 x0)) (fun k e => by have := Option.some.inj e; omega))
      have GG1 := Lib.hid (grown_far_ (grown_trans_ GG0.out hg) (p := ⟨wc.heap.size, 0, none⟩) (Nat.le_refl _) (.int .u8 x0))
      clear ht hg bk
      go_wp2_with fail
      refine (rd_u8 t s_1 s_2 x1 _ TT1.out R1.out).mono ?_
      rintro e w2 ⟨rfl, ht, hg⟩
      have bk := B1.out.grown hg (fun e => by have := Option.some.inj e; omega)
      have f2 := bk.free
      have z2 := bk.cell 1
      simp only [List.getElem?_toArray, List.getElem?_cons_zero, List.getElem?_cons_succ] at z2
      have B2 := Lib.hid (show Blk (w2.setCell ⟨wc.heap.size, 1, none⟩ (.int .u8 x1)) wc.heap.size 104 #[.int .u8 x0, .int .u8 x1, .int .u8 0, .int .u8 0, .int .u8 0, .int .i64 0, .int .i64 0, .int .i64 0, .int .i64 0, .int .u64 0] from by have := bk.set_ 1 (.int .u8 x1); simpa using this)
      have TT2 := Lib.hid (ht.grown (grown_set_ w2 wc.heap.size 1 (.int .u8 x1)) (fun k e => by have := Option.some.inj e; omega))
      have GG2 := Lib.hid (grown_far_ (grown_trans_ GG1.out hg) (p := ⟨wc.heap.size, 1, none⟩) (Nat.le_refl _) (.int .u8 x1))
      clear ht hg bk
      clear f1 z1
      go_wp2_with fail
      refine (rd_u8 t s_2 s_3 x2 _ TT2.out R2.out).mono ?_
      rintro e w3 ⟨rfl, ht, hg⟩
      have bk := B2.out.grown hg (fun e => by have := Option.some.inj e; omega)
      have f3 := bk.free
      have z3 := bk.cell 2
      simp only [List.getElem?_toArray, List.getElem?_cons_zero, List.getElem?_cons_succ] at z3
      have B3 := Lib.hid (show Blk (w3.setCell ⟨wc.heap.size, 2, none⟩ (.int .u8 x2)) wc.heap.size 104 #[.int .u8 x0, .int .u8 x1, .int .u8 x2, .int .u8 0, .int .u8 0, .int .i64 0, .int .i64 0, .int .i64 0, .int .i64 0, .int .u64 0] from by have := bk.set_ 2 (.int .u8 x2); simpa using this)
      have TT3 := Lib.hid (ht.grown (grown_set_ w3 wc.heap.size 2 (.int .u8 x2)) (fun k e => by have := Option.some.inj e; omega))
      have GG3 := Lib.hid (grown_far_ (grown_trans_ GG2.out hg) (p := ⟨wc.heap.size, 2, none⟩) (Nat.le_refl _) (.int .u8 x2))
      clear ht hg bk
      clear f2 z2
      go_wp2_with fail
      refine (rd_u8 t s_3 s_4 x3 _ TT3.out R3.out).mono ?_
      rintro e w4 ⟨rfl, ht, hg⟩
      have bk := B3.out.grown hg (fun e => by have := Option.some.inj e; omega)
      have f4 := bk.free
      have z4 := bk.cell 3
      simp only [List.getElem?_toArray, List.getElem?_cons_zero, List.getElem?_cons_succ] at z4
      have B4 := Lib.hid (show Blk (w4.setCell ⟨wc.heap.size, 3, none⟩ (.int .u8 x3)) wc.heap.size 104 #[.int .u8 x0, .int .u8 x1, .int .u8 x2, .int .u8 x3, .int .u8 0, .int .i64 0, .int .i64 0, .int .i64 0, .int .i64 0, .int .u64 0] from by have := bk.set_ 3 (.int .u8 x3); simpa using this)
      have TT4 := Lib.hid (ht.grown (grown_set_ w4 wc.heap.size 3 (.int .u8 x3)) (fun k e => by have := Option.some.inj e; omega))
      have GG4 := Lib.hid (grown_far_ (grown_trans_ GG3.out hg) (p := ⟨wc.heap.size, 3, none⟩) (Nat.le_refl _) (.int .u8 x3))
      clear ht hg bk
      clear f3 z3
      go_wp2_with fail
      refine (rd_u8 t s_4 s_5 x4 _ TT4.out R4.out).mono ?_
      rintro e w5 ⟨rfl, ht, hg⟩
      have bk := B4.out.grown hg (fun e => by have := Option.some.inj e; omega)
      have f5 := bk.free
      have z5 := bk.cell 4
      simp only [List.getElem?_toArray, List.getElem?_cons_zero, List.getElem?_cons_succ] at z5
      have B5 := Lib.hid (show Blk (w5.setCell ⟨wc.heap.size, 4, none⟩ (.int .u8 x4)) wc.heap.size 104 #[.int .u8 x0, .int .u8 x1, .int .u8 x2, .int .u8 x3, .int .u8 x4, .int .i64 0, .int .i64 0, .int .i64 0, .int .i64 0, .int .u64 0] from by have := bk.set_ 4 (.int .u8 x4); simpa using this)
      have TT5 := Lib.hid (ht.grown (grown_set_ w5 wc.heap.size 4 (.int .u8 x4)) (fun k e => by have := Option.some.inj e; omega))
      have GG5 := Lib.hid (grown_far_ (grown_trans_ GG4.out hg) (p := ⟨wc.heap.size, 4, none⟩) (Nat.le_refl _) (.int .u8 x4))
      clear ht hg bk
      clear f4 z4
      go_wp2_with fail
      refine (rd_i64 t s_5 s_6 x5 _ TT5.out R5.out).mono ?_
      rintro e w6 ⟨rfl, ht, hg⟩
      have bk := B5.out.grown hg (fun e => by have := Option.some.inj e; omega)
      have f6 := bk.free
      have z6 := bk.cell 5
      simp only [List.getElem?_toArray, List.getElem?_cons_zero, List.getElem?_cons_succ] at z6
      have B6 := Lib.hid (show Blk (w6.setCell ⟨wc.heap.size, 5, none⟩ (.int .i64 x5)) wc.heap.size 104 #[.int .u8 x0, .int .u8 x1, .int .u8 x2, .int .u8 x3, .int .u8 x4, .int .i64 x5, .int .i64 0, .int .i64 0, .int .i64 0, .int .u64 0] from by have := bk.set_ 5 (.int .i64 x5); simpa using this)
      have TT6 := Lib.hid (ht.grown (grown_set_ w6 wc.heap.size 5 (.int .i64 x5)) (fun k e => by have := Option.some.inj e; omega))
      have GG6 := Lib.hid (grown_far_ (grown_trans_ GG5.out hg) (p := ⟨wc.heap.size, 5, none⟩) (Nat.le_refl _) (.int .i64 x5))
      clear ht hg bk
      clear f5 z5
      go_wp2_with fail
      refine (rd_i64 t s_6 s_7 x6 _ TT6.out R6.out).mono ?_
      rintro e w7 ⟨rfl, ht, hg⟩
      have bk := B6.out.grown hg (fun e => by have := Option.some.inj e; omega)
      have f7 := bk.free
      have z7 := bk.cell 6
      simp only [List.getElem?_toArray, List.getElem?_cons_zero, List.getElem?_cons_succ] at z7
      have B7 := Lib.hid (show Blk (w7.setCell ⟨wc.heap.size, 6, none⟩ (.int .i64 x6)) wc.heap.size 104 #[.int .u8 x0, .int .u8 x1, .int .u8 x2, .int .u8 x3, .int .u8 x4, .int .i64 x5, .int .i64 x6, .int .i64 0, .int .i64 0, .int .u64 0] from by have := bk.set_ 6 (.int .i64 x6); simpa using this)
      have TT7 := Lib.hid (ht.grown (grown_set_ w7 wc.heap.size 6 (.int .i64 x6)) (fun k e => by have := Option.some.inj e; omega))
      have GG7 := Lib.hid (grown_far_ (grown_trans_ GG6.out hg) (p := ⟨wc.heap.size, 6, none⟩) (Nat.le_refl _) (.int .i64 x6))
      clear ht hg bk
      clear f6 z6
      go_wp2_with fail
      refine (rd_i64 t s_7 s_8 x7 _ TT7.out R7.out).mono ?_
      rintro e w8 ⟨rfl, ht, hg⟩
      have bk := B7.out.grown hg (fun e => by have := Option.some.inj e; omega)
      have f8 := bk.free
      have z8 := bk.cell 7
      simp only [List.getElem?_toArray, List.getElem?_cons_zero, List.getElem?_cons_succ] at z8
      have B8 := Lib.hid (show Blk (w8.setCell ⟨wc.heap.size, 7, none⟩ (.int .i64 x7)) wc.heap.size 104 #[.int .u8 x0, .int .u8 x1, .int .u8 x2, .int .u8 x3, .int .u8 x4, .int .i64 x5, .int .i64 x6, .int .i64 x7, .int .i64 0, .int .u64 0] from by have := bk.set_ 7 (.int .i64 x7); simpa using this)
      have TT8 := Lib.hid (ht.grown (grown_set_ w8 wc.heap.size 7 (.int .i64 x7)) (fun k e => by have := Option.some.inj e; omega))
      have GG8 := Lib.hid (grown_far_ (grown_trans_ GG7.out hg) (p := ⟨wc.heap.size, 7, none⟩) (Nat.le_refl _) (.int .i64 x7))
      clear ht hg bk
      clear f7 z7
      go_wp2_with fail
      refine (rd_i64 t s_8 s_9 x8 _ TT8.out R8.out).mono ?_
      rintro e w9 ⟨rfl, ht, hg⟩
      have bk := B8.out.grown hg (fun e => by have := Option.some.inj e; omega)
      have f9 := bk.free
      have z9 := bk.cell 8
      simp only [List.getElem?_toArray, List.getElem?_cons_zero, List.getElem?_cons_succ] at z9
      have B9 := Lib.hid (show Blk (w9.setCell ⟨wc.heap.size, 8, none⟩ (.int .i64 x8)) wc.heap.size 104 #[.int .u8 x0, .int .u8 x1, .int .u8 x2, .int .u8 x3, .int .u8 x4, .int .i64 x5, .int .i64 x6, .int .i64 x7, .int .i64 x8, .int .u64 0] from by have := bk.set_ 8 (.int .i64 x8); simpa using this)
      have TT9 := Lib.hid (ht.grown (grown_set_ w9 wc.heap.size 8 (.int .i64 x8)) (fun k e => by have := Option.some.inj e; omega))
      have GG9 := Lib.hid (grown_far_ (grown_trans_ GG8.out hg) (p := ⟨wc.heap.size, 8, none⟩) (Nat.le_refl _) (.int .i64 x8))
      clear ht hg bk
      clear f8 z8
      go_wp2_with fail
      refine (rd_u64 t s_9 s_10 x9 _ TT9.out R9.out).mono ?_
      rintro e w10 ⟨rfl, ht, hg⟩
      have bk := B9.out.grown hg (fun e => by have := Option.some.inj e; omega)
      have f10 := bk.free
      have z10 := bk.cell 9
      simp only [List.getElem?_toArray, List.getElem?_cons_zero, List.getElem?_cons_succ] at z10
      have B10 := Lib.hid (show Blk (w10.setCell ⟨wc.heap.size, 9, none⟩ (.int .u64 x9)) wc.heap.size 104 #[.int .u8 x0, .int .u8 x1, .int .u8 x2, .int .u8 x3, .int .u8 x4, .int .i64 x5, .int .i64 x6, .int .i64 x7, .int .i64 x8, .int .u64 x9] from by have := bk.set_ 9 (.int .u64 x9); simpa using this)
      have TT10 := Lib.hid (ht.grown (grown_set_ w10 wc.heap.size 9 (.int .u64 x9)) (fun k e => by have := Option.some.inj e; omega))
      have GG10 := Lib.hid (grown_far_ (grown_trans_ GG9.out hg) (p := ⟨wc.heap.size, 9, none⟩) (Nat.le_refl _) (.int .u64 x9))
      clear ht hg bk
      clear f9 z9
      go_upto_region 17 with fail
      clear f10 z10
      obtain ⟨X, hX⟩ : ∃ X, X = (w10.setCell ⟨wc.heap.size, 9, none⟩ (.int .u64 x9)) := ⟨_, rfl⟩
      rw [← hX] at B10 TT10 GG10
      rw [← hX]
      clear hX
      have BX := Lib.hid B10.out
      have TX := Lib.hid TT10.out
      have GX := Lib.hid GG10.out
      clear B10 TT10 GG10
      have bx := BX.out
      have y0 := bx.cell 0
      have y1 := bx.cell 1
      have y2 := bx.cell 2
      have y3 := bx.cell 3
      have y4 := bx.cell 4
      have y5 := bx.cell 5
      have y6 := bx.cell 6
      have y7 := bx.cell 7
      have y8 := bx.cell 8
      have y9 := bx.cell 9
      simp only [List.getElem?_toArray, List.getElem?_cons_zero, List.getElem?_cons_succ] at y0 y1 y2 y3 y4 y5 y6 y7 y8 y9
      have kcx := HKC.out.grown GX.out (fun e => by have := Option.some.inj e; omega)
      have fx := kcx.free
      have zx := kcx.cell 0
      simp only [List.getElem?_toArray, List.getElem?_cons_zero] at zx
      have KCX := Lib.hid kcx
      have K2X := Lib.hid (HK2.out.grown GX.out (fun e => by have := Option.some.inj e; omega))
      have OX := Lib.hid (ow_grown_ HO.out GX.out (fun k e => by have := Option.some.inj e; omega))
      clear kcx
      have hWX : w.heap.size ≤ X.heap.size := Nat.le_trans hwr GX.out.size
      go_wp2_with (at_builtin; go_must (refine wpList_ow rfl _ _ 26 104 (.agg #[.int .u8 0, .int .u8 0, .int .u8 0, .int .u8 0, .int .u8 0, .int .i64 0, .int .i64 0, .int .i64 0, .int .i64 0, .int .u64 0]) 10 48 rfl Tryz.underlying26 step_info rfl (by decide) rfl #[.int .u8 x0, .int .u8 x1, .int .u8 x2, .int .u8 x3, .int .u8 x4, .int .i64 x5, .int .i64 x6, .int .i64 x7, .int .i64 x8, .int .u64 x9] OX.out hWX rfl (by simp [Value.oneCell']) rfl (by omega) (by unfold maxLen; omega) ?_); intro v3 w30 hO3 hg3; obtain ⟨A3, c3, rfl⟩ := hO3.sl_; have kc3 := KCX.out.grown hg3.1 (fun e => Ow.notat OX.out KCX.out (by decide) e.symm); have f30 := kc3.free; have z30 := kc3.cell 0; simp only [List.getElem?_toArray, List.getElem?_cons_zero] at z30; have KC3 := Lib.hid kc3; have O3 := Lib.hid hO3; have G3 := Lib.hid hg3; clear kc3 hO3 hg3)
      go_roundg (n - (j + 1))
      case measure => have := HQ.out; omega
      case rel =>
        refine ⟨j + 1, done ++ [[x0, x1, x2, x3, x4, x5, x6, x7, x8, x9]], s_10, .slice A3 (j + 1) c3, by omega, rfl, by go_num, by simp [DL.out], ?_, ?_, ?_, ?_, ?_, ?_⟩
        · rw [RP.out, SP.out, RF.out]
          simp
        · exact (TX.out.grown G3.out.1 (fun k e => by have := Ow.blk_lt OX.out k e; omega)).grown (grown_set_ _ ((w.heap.size + 1)) 0 _) (fun k e => by have := Option.some.inj e; omega)
        · have := KC3.out.set_ 0 (.slice A3 (j + 1) c3)
          simpa using this
        · exact (K2X.out.grown G3.out.1 (fun e => Ow.notat OX.out K2X.out (by decide) e.symm)).far (p := ⟨(w.heap.size + 1), 0, none⟩) (by simp) _
        · have := Ow.aside O3.out KC3.out (by decide) 0 (.slice A3 (j + 1) c3)
          rw [List.flatMap_append]
          simpa [stepK, fc] using this
        · exact grown_far_ (grown_grew (grown_trans_ HG.out GX.out) OX.out G3.out (Nat.le_refl _)) (p := ⟨(w.heap.size + 1), 0, none⟩) (by simp) _
    · rw [decide_eq_false hgo]
      have hend : rdN stepK (n - j) sj = ([], sj) := by
        match sj, HE0 with
        | .error q, _ => exact rdN_err _ _ _
        | .ok xs, HE0 =>
          have h0 := HE0.out xs rfl
          rw [show n - j = 0 from by omega]
          rfl
      have RN := Lib.hid (show rdN stepK n s1 = (done, sj) by rw [RP.out, hend]; simp)
      clear hend hgo hee
      have hrows : done = rows ∧ sj = s2 := by
        have h1 := RN.out
        rw [HL.out] at h1
        injection h1 with h1 h2
        exact ⟨h1.symm, h2.symm⟩
      obtain ⟨rfl, rfl⟩ := hrows
      have kcx := HKC.out
      have k2x := HK2.out
      have fx := k2x.free
      have zc := kcx.cell 0
      have z2 := k2x.cell 0
      simp only [List.getElem?_toArray, List.getElem?_cons_zero] at zc z2
      clear kcx k2x
      go_wp2
      have bf := HK2.out.set_ 0 (.slice Av j cv)
      have yy := bf.cell 0
      simp at yy
      refine bodyPost_ret (v := .agg #[.slice Av j cv]) (by simp [results, Tryz.results38, go_sem, yy]) rfl ?_
      have hdl := DL.out
      subst hdl
      refine ⟨Av, cv, rfl, Ow.aside HO.out HK2.out (by decide) 0 _, HT.out.grown (grown_set_ _ w.heap.size 0 _) (fun k e => by have := Option.some.inj e; omega), grown_far_ HG.out (p := ⟨w.heap.size, 0, none⟩) (Nat.le_refl _) _⟩
/-- The value u reads as this command. -/
def cmdV (a : List (List Int)) (w : World) (u : Value) : Prop := ∃ A c, u = .agg #[.slice A a.length c] ∧ Steps w (.slice A a.length c) a
end Go.Proofs.YthjdkjinkmdclaaGreat

/- The document's taker: a reply. -/
namespace Go.Proofs.YthjdkjinkmdclaaGreat
open Go.RowKit

set_option maxHeartbeats 8000000 in
set_option maxRecDepth 100000 in
theorem treply_at (t : Nat) (s s1 s2 s4 : TS) (E F : Int) (rows : List (List Int)) (w : World) (h : Ts w t s) (h1 : rd1 .i64 s = (E, s1)) (h2 : rd1 .i64 s1 = (F, s2)) (hL : rdL gotK 8 s2 = (rows, s4)) :
    Calls Tryz.prog 39 #[.pointer (some ⟨t, 0, none⟩)] w fun e w' => ∃ A c, e = .returned (.agg #[.int .i64 E, .int .i64 F, .slice A rows.length c]) ∧ Ow w.heap.size w' 108 2 (.slice A rows.length c) rows.length (rows.flatMap (fc gotK)) ∧ Ts w' t s4 ∧ w.grownBy w' (some t) := by
  have hlt := h.lt
  have b2 := below_alloc2_ w (.cells #[.int .i64 0, .int .i64 0, .slice none 0 0] 34) (.cells #[.int .i64 0, .int .i64 0, .slice none 0 0] 34)
  have k0 := (Blk.new w 34 #[.int .i64 0, .int .i64 0, .slice none 0 0]).alloc (.cells #[.int .i64 0, .int .i64 0, .slice none 0 0] 34)
  have k1 := Blk.new (w.alloc (.cells #[.int .i64 0, .int .i64 0, .slice none 0 0] 34)) 34 #[.int .i64 0, .int .i64 0, .slice none 0 0]
  rw [World.size_alloc] at k1
  have T0 := Lib.hid (h.below b2)
  have KC0 := Lib.hid k1
  have K20 := Lib.hid k0
  have G0 := Lib.hid (grown_below_ b2 (some t))
  obtain ⟨n, s3, hM⟩ : ∃ n s3, rdM 8 s2 = (n, s3) := ⟨_, _, rfl⟩
  have hn := rdM_le 8 s2
  rw [hM] at hn
  simp only at hn
  have hL' : rdN gotK n s3 = (rows, s4) := by rw [← hL]; unfold rdL; rw [hM]
  have HL := Lib.hid hL'
  have HM := Lib.hid hM
  have H1 := Lib.hid h1
  have H2 := Lib.hid h2
  have hn' : (n : Int) ≤ 8 := by omega
  clear h hL hM hL' b2 k0 k1 h1 h2
  go_enter Tryz.func39, Tryz.ntmps39
  go_wp2_with fail
  refine (rd_i64 t s s1 E _ T0.out H1.out).mono ?_
  rintro e w1 ⟨rfl, ht, hg⟩
  have kc := KC0.out.grown hg (fun e => by have := Option.some.inj e; omega)
  have f1 := kc.free
  have z1 := kc.cell 0
  simp only [List.getElem?_toArray, List.getElem?_cons_zero] at z1
  have KC1 := Lib.hid (show Blk (w1.setCell ⟨w.heap.size + 1, 0, none⟩ (.int .i64 E)) (w.heap.size + 1) 34 #[.int .i64 E, .int .i64 0, .slice none 0 0] from by have := kc.set_ 0 (.int .i64 E); simpa using this)
  have K21 := Lib.hid ((K20.out.grown hg (fun e => by have := Option.some.inj e; omega)).far (p := ⟨w.heap.size + 1, 0, none⟩) (by simp) (.int .i64 E))
  have T1 := Lib.hid (ht.grown (grown_set_ w1 (w.heap.size + 1) 0 (.int .i64 E)) (fun k e => by have := Option.some.inj e; omega))
  have G1 := Lib.hid (grown_far_ (grown_trans_ G0.out hg) (p := ⟨w.heap.size + 1, 0, none⟩) (by simp) (.int .i64 E))
  clear ht hg kc T0 KC0 K20 G0
  go_wp2_with fail
  refine (rd_i64 t s1 s2 F _ T1.out H2.out).mono ?_
  rintro e w2 ⟨rfl, ht, hg⟩
  have kc := KC1.out.grown hg (fun e => by have := Option.some.inj e; omega)
  have f2 := kc.free
  have z2 := kc.cell 1
  simp only [List.getElem?_toArray, List.getElem?_cons_zero, List.getElem?_cons_succ] at z2
  have KC2 := Lib.hid (show Blk (w2.setCell ⟨w.heap.size + 1, 1, none⟩ (.int .i64 F)) (w.heap.size + 1) 34 #[.int .i64 E, .int .i64 F, .slice none 0 0] from by have := kc.set_ 1 (.int .i64 F); simpa using this)
  have K22 := Lib.hid ((K21.out.grown hg (fun e => by have := Option.some.inj e; omega)).far (p := ⟨w.heap.size + 1, 1, none⟩) (by simp) (.int .i64 F))
  have T2 := Lib.hid (ht.grown (grown_set_ w2 (w.heap.size + 1) 1 (.int .i64 F)) (fun k e => by have := Option.some.inj e; omega))
  have G2 := Lib.hid (grown_far_ (grown_trans_ G1.out hg) (p := ⟨w.heap.size + 1, 1, none⟩) (by simp) (.int .i64 F))
  clear ht hg kc T1 KC1 K21 G1 f1 z1
  go_wp2_with fail
  refine (many_at t 8 s2 s3 n _ T2.out (by decide) HM.out).mono ?_
  rintro e w3 ⟨rfl, ht, hg⟩
  have T := Lib.hid ht
  have KC := Lib.hid (KC2.out.grown hg (fun e => by have := Option.some.inj e; omega))
  have K2 := Lib.hid (K22.out.grown hg (fun e => by have := Option.some.inj e; omega))
  have G := Lib.hid (grown_trans_ G2.out hg)
  clear ht hg T2 KC2 K22 G2 f2 z2
  go_wp2_with fail
  go_loopg [5] n (fun q ci wr => ∃ (j : Nat) (done : List (List Int)) (sj : TS) (v : Value), j ≤ n ∧ q = n - j ∧ ci = .int .i64 j ∧ done.length = j ∧ rdN gotK n s3 = (done ++ (rdN gotK (n - j) sj).1, (rdN gotK (n - j) sj).2) ∧ Ts wr t sj ∧ Blk wr (w.heap.size + 1) 34 #[.int .i64 E, .int .i64 F, v] ∧ Blk wr w.heap.size 34 #[.int .i64 0, .int .i64 0, .slice none 0 0] ∧ Ow w.heap.size wr 108 2 v j (done.flatMap (fc gotK)) ∧ w.grownBy wr (some t))
  case atStart => exact ⟨0, [], s3, .slice none 0 0, Nat.zero_le _, rfl, rfl, rfl, by simp, T.out, KC.out, K2.out, .inl ⟨rfl, rfl, rfl⟩, G.out⟩
  case round =>
    obtain ⟨j, done, sj, v, hj, hq, rfl, hdl, hrep, hT, hKC, hK2, hO, hG⟩ := hrel
    have HQ := Lib.hid hq
    have DL := Lib.hid hdl
    have RP := Lib.hid hrep
    have HT := Lib.hid hT
    have HKC := Lib.hid hKC
    have HK2 := Lib.hid hK2
    have HO := Lib.hid hO
    have HG := Lib.hid hG
    obtain ⟨ee, hee, he0, he1⟩ := hT.errno
    obtain ⟨Av, cv, rfl⟩ := hO.sl_
    have HE0 := Lib.hid he0
    have HE1 := Lib.hid he1
    have hwr : w.heap.size ≤ wr.heap.size := hG.size
    clear hq hdl hrep hT hKC hK2 hO hG he0 he1
    go_upto_region 6 with fail
    go_cut [25] (fun sb wx => sb = .bool (decide (j < n ∧ ee = 0)) ∧ wx = wr)
    case first =>
      by_cases hjn : j < n
      · have hjn' : (j : Int) < n := by omega
        by_cases hek : ee = 0
        · have b1 : (ee == 0) = true := by rw [hek]; rfl
          have HEK := Lib.hid hek
          clear hek
          go_wp2
          go_meet
          exact ⟨by simp [hjn, HEK.out], rfl⟩
        · have b1 : (ee == 0) = false := beq_eq_false_iff_ne.2 hek
          have HEK := Lib.hid hek
          clear hek
          go_wp2
          go_meet
          exact ⟨by simp [HEK.out], rfl⟩
      · have hjn' : ¬ (j : Int) < n := by omega
        go_wp2
        go_meet
        exact ⟨by simp [hjn], rfl⟩
    case rest =>
    obtain ⟨rfl, rfl⟩ := hcut
    by_cases hgo : j < n ∧ ee = 0
    · rw [decide_eq_true hgo]
      obtain ⟨hjn, hek⟩ := hgo
      have hjn' : (j : Int) < n := by omega
      obtain ⟨xs, rfl⟩ : ∃ xs, sj = .ok xs := by
        match sj, HE1 with
        | .ok xs, _ => exact ⟨xs, rfl⟩
        | .error q, HE1 => exact absurd hek (HE1.out q rfl).2
      have SP := Lib.hid (show rdN gotK (n - j) (.ok xs) = ((rdF gotK (.ok xs)).1 :: (rdN gotK (n - (j + 1)) (rdF gotK (.ok xs)).2).1, (rdN gotK (n - (j + 1)) (rdF gotK (.ok xs)).2).2) by rw [show n - j = n - (j + 1) + 1 from by omega]; rfl)
      clear hek hee
      obtain ⟨x0, s_1, hr0⟩ : ∃ a b, rd1 .i64 (.ok xs) = (a, b) := ⟨_, _, rfl⟩
      have R0 := Lib.hid hr0
      obtain ⟨x1, s_2, hr1⟩ : ∃ a b, rd1 .i64 s_1 = (a, b) := ⟨_, _, rfl⟩
      have R1 := Lib.hid hr1
      have RF := Lib.hid (show rdF gotK (.ok xs) = ([x0, x1], s_2) by simp only [gotK, rdF, hr0, hr1])
      clear hr0 hr1
      go_wp2_with fail
      refine (rd_i64 t (.ok xs) s_1 x0 _ HT.out R0.out).mono ?_
      rintro e wg ⟨rfl, ht, hg⟩
      have TT1 := Lib.hid ht
      have GG1 := Lib.hid hg
      clear ht hg
      go_wp2_with fail
      refine (rd_i64 t s_1 s_2 x1 _ TT1.out R1.out).mono ?_
      rintro e X ⟨rfl, ht, hg⟩
      have TX := Lib.hid ht
      have GX := Lib.hid (grown_trans_ GG1.out hg)
      clear ht hg TT1 GG1
      have kcx := HKC.out.grown GX.out (fun e => by have := Option.some.inj e; omega)
      have fx := kcx.free
      have zx := kcx.cell 2
      simp only [List.getElem?_toArray, List.getElem?_cons_zero, List.getElem?_cons_succ] at zx
      have KCX := Lib.hid kcx
      have K2X := Lib.hid (HK2.out.grown GX.out (fun e => by have := Option.some.inj e; omega))
      have OX := Lib.hid (ow_grown_ HO.out GX.out (fun k e => by have := Option.some.inj e; omega))
      clear kcx
      have hWX : w.heap.size ≤ X.heap.size := Nat.le_trans hwr GX.out.size
      go_wp2_with (at_builtin; go_must (refine wpList_ow rfl _ _ 32 108 (.agg #[.int .i64 0, .int .i64 0]) 2 16 rfl Tryz.underlying32 got_info rfl (by decide) rfl #[.int .i64 x0, .int .i64 x1] OX.out hWX rfl (by simp [Value.oneCell']) rfl (by omega) (by unfold maxLen; omega) ?_); intro v3 w30 hO3 hg3; obtain ⟨A3, c3, rfl⟩ := hO3.sl_; have kc3 := KCX.out.grown hg3.1 (fun e => Ow.notat OX.out KCX.out (by decide) e.symm); have f30 := kc3.free; have z30 := kc3.cell 2; simp only [List.getElem?_toArray, List.getElem?_cons_zero, List.getElem?_cons_succ] at z30; have KC3 := Lib.hid kc3; have O3 := Lib.hid hO3; have G3 := Lib.hid hg3; clear kc3 hO3 hg3)
      go_roundg (n - (j + 1))
      case measure => have := HQ.out; omega
      case rel =>
        refine ⟨j + 1, done ++ [[x0, x1]], s_2, .slice A3 (j + 1) c3, by omega, rfl, by go_num, by simp [DL.out], ?_, ?_, ?_, ?_, ?_, ?_⟩
        · rw [RP.out, SP.out, RF.out]
          simp
        · exact (TX.out.grown G3.out.1 (fun k e => by have := Ow.blk_lt OX.out k e; omega)).grown (grown_set_ _ ((w.heap.size + 1)) 2 _) (fun k e => by have := Option.some.inj e; omega)
        · have := KC3.out.set_ 2 (.slice A3 (j + 1) c3)
          simpa using this
        · exact (K2X.out.grown G3.out.1 (fun e => Ow.notat OX.out K2X.out (by decide) e.symm)).far (p := ⟨(w.heap.size + 1), 2, none⟩) (by simp) _
        · have := Ow.aside O3.out KC3.out (by decide) 2 (.slice A3 (j + 1) c3)
          rw [List.flatMap_append]
          simpa [gotK, fc] using this
        · exact grown_far_ (grown_grew (grown_trans_ HG.out GX.out) OX.out G3.out (Nat.le_refl _)) (p := ⟨(w.heap.size + 1), 2, none⟩) (by simp) _
    · rw [decide_eq_false hgo]
      have hend : rdN gotK (n - j) sj = ([], sj) := by
        match sj, HE0 with
        | .error q, _ => exact rdN_err _ _ _
        | .ok xs, HE0 =>
          have h0 := HE0.out xs rfl
          rw [show n - j = 0 from by omega]
          rfl
      have RN := Lib.hid (show rdN gotK n s3 = (done, sj) by rw [RP.out, hend]; simp)
      clear hend hgo hee
      have hrows : done = rows ∧ sj = s4 := by
        have h1 := RN.out
        rw [HL.out] at h1
        injection h1 with h1 h2
        exact ⟨h1.symm, h2.symm⟩
      obtain ⟨rfl, rfl⟩ := hrows
      have KCE := Lib.hid HKC.out
      have K2E := Lib.hid HK2.out
      have kcx := KCE.out
      have k2x := K2E.out
      have fx := k2x.free
      have zc0 := kcx.cell 0
      have z20 := k2x.cell 0
      have zc1 := kcx.cell 1
      have z21 := k2x.cell 1
      have zc2 := kcx.cell 2
      have z22 := k2x.cell 2
      simp only [List.getElem?_toArray, List.getElem?_cons_zero, List.getElem?_cons_succ] at zc0 z20 zc1 z21 zc2 z22
      clear kcx k2x
      go_wp2
      have bf := (((K2E.out.set_ 0 (.int .i64 E)).set_ 1 (.int .i64 F)).set_ 2 (.slice Av j cv))
      have yy0 := bf.cell 0
      have yy1 := bf.cell 1
      have yy2 := bf.cell 2
      simp at yy0 yy1 yy2
      refine bodyPost_ret (v := .agg #[.int .i64 E, .int .i64 F, .slice Av j cv]) (by simp [results, Tryz.results39, go_sem, yy0, yy1, yy2]) rfl ?_
      have hdl := DL.out
      subst hdl
      have k1 := HK2.out.set_ 0 (.int .i64 E)
      have k2 := k1.set_ 1 (.int .i64 F)
      refine ⟨Av, cv, rfl, ((Ow.aside HO.out HK2.out (by decide) 0 _).aside k1 (by decide) 1 _).aside k2 (by decide) 2 _, ((HT.out.grown (grown_set_ _ w.heap.size 0 _) (fun k e => by have := Option.some.inj e; omega)).grown (grown_set_ _ w.heap.size 1 _) (fun k e => by have := Option.some.inj e; omega)).grown (grown_set_ _ w.heap.size 2 _) (fun k e => by have := Option.some.inj e; omega), grown_far_ (grown_far_ (grown_far_ HG.out (p := ⟨w.heap.size, 0, none⟩) (Nat.le_refl _) _) (p := ⟨w.heap.size, 1, none⟩) (Nat.le_refl _) _) (p := ⟨w.heap.size, 2, none⟩) (Nat.le_refl _) _⟩
/-- The value u reads as this reply. -/
def replyV (a : List Int × List (List Int)) (w : World) (u : Value) : Prop := ∃ E F A c, a.1 = [E, F] ∧ u = .agg #[.int .i64 E, .int .i64 F, .slice A a.2.length c] ∧ Gots w (.slice A a.2.length c) a.2
end Go.Proofs.YthjdkjinkmdclaaGreat

/- The document's taker: an entry. -/
namespace Go.Proofs.YthjdkjinkmdclaaGreat
open Go.RowKit

set_option maxHeartbeats 8000000 in
set_option maxRecDepth 100000 in
theorem tentry_at (t : Nat) (s s1 s2 s3 s4 s5 : TS) (x0 x1 x2 x3 : Int) (rows : List (List Int)) (w : World) (h : Ts w t s) (h1 : rd1 .u64 s = (x0, s1)) (h2 : rd1 .u64 s1 = (x1, s2)) (h3 : rd1 .u8 s2 = (x2, s3)) (h4 : rd1 .u64 s3 = (x3, s4)) (hL : rdL stepK 8 s4 = (rows, s5)) :
    Calls Tryz.prog 51 #[.pointer (some ⟨t, 0, none⟩)] w fun e w' => ∃ A c, e = .returned (.agg #[.int .u64 x0, .int .u64 x1, .int .u8 x2, .int .u64 x3, .slice A rows.length c]) ∧ Ow w.heap.size w' 104 10 (.slice A rows.length c) rows.length (rows.flatMap (fc stepK)) ∧ Ts w' t s5 ∧ w.grownBy w' (some t) := by
  have hlt := h.lt
  have b2 := below_alloc2_ w (.cells #[.int .u64 0, .int .u64 0, .int .u8 0, .int .u64 0, .slice none 0 0] 63) (.cells #[.int .u64 0, .int .u64 0, .int .u8 0, .int .u64 0, .slice none 0 0] 63)
  have k0 := (Blk.new w 63 #[.int .u64 0, .int .u64 0, .int .u8 0, .int .u64 0, .slice none 0 0]).alloc (.cells #[.int .u64 0, .int .u64 0, .int .u8 0, .int .u64 0, .slice none 0 0] 63)
  have k1 := Blk.new (w.alloc (.cells #[.int .u64 0, .int .u64 0, .int .u8 0, .int .u64 0, .slice none 0 0] 63)) 63 #[.int .u64 0, .int .u64 0, .int .u8 0, .int .u64 0, .slice none 0 0]
  rw [World.size_alloc] at k1
  have T0 := Lib.hid (h.below b2)
  have KC0 := Lib.hid k1
  have K20 := Lib.hid k0
  have G0 := Lib.hid (grown_below_ b2 (some t))
  have HL := Lib.hid hL
  have H1 := Lib.hid h1
  have H2 := Lib.hid h2
  have H3 := Lib.hid h3
  have H4 := Lib.hid h4
  clear h hL b2 k0 k1 h1 h2 h3 h4
  go_enter Tryz.func51, Tryz.ntmps51
  go_wp2_with fail
  refine (rd_u64 t s s1 x0 _ T0.out H1.out).mono ?_
  rintro e w1 ⟨rfl, ht, hg⟩
  have kc := KC0.out.grown hg (fun e => by have := Option.some.inj e; omega)
  have f1 := kc.free
  have z1 := kc.cell 0
  simp only [List.getElem?_toArray, List.getElem?_cons_zero] at z1
  have KC1 := Lib.hid (show Blk (w1.setCell ⟨w.heap.size + 1, 0, none⟩ (.int .u64 x0)) (w.heap.size + 1) 63 #[.int .u64 x0, .int .u64 0, .int .u8 0, .int .u64 0, .slice none 0 0] from by have := kc.set_ 0 (.int .u64 x0); simpa using this)
  have K21 := Lib.hid ((K20.out.grown hg (fun e => by have := Option.some.inj e; omega)).far (p := ⟨w.heap.size + 1, 0, none⟩) (by simp) (.int .u64 x0))
  have T1 := Lib.hid (ht.grown (grown_set_ w1 (w.heap.size + 1) 0 (.int .u64 x0)) (fun k e => by have := Option.some.inj e; omega))
  have G1 := Lib.hid (grown_far_ (grown_trans_ G0.out hg) (p := ⟨w.heap.size + 1, 0, none⟩) (by simp) (.int .u64 x0))
  clear ht hg kc T0 KC0 K20 G0
  go_wp2_with fail
  refine (rd_u64 t s1 s2 x1 _ T1.out H2.out).mono ?_
  rintro e w2 ⟨rfl, ht, hg⟩
  have kc := KC1.out.grown hg (fun e => by have := Option.some.inj e; omega)
  have f2 := kc.free
  have z2 := kc.cell 1
  simp only [List.getElem?_toArray, List.getElem?_cons_zero, List.getElem?_cons_succ] at z2
  have KC2 := Lib.hid (show Blk (w2.setCell ⟨w.heap.size + 1, 1, none⟩ (.int .u64 x1)) (w.heap.size + 1) 63 #[.int .u64 x0, .int .u64 x1, .int .u8 0, .int .u64 0, .slice none 0 0] from by have := kc.set_ 1 (.int .u64 x1); simpa using this)
  have K22 := Lib.hid ((K21.out.grown hg (fun e => by have := Option.some.inj e; omega)).far (p := ⟨w.heap.size + 1, 1, none⟩) (by simp) (.int .u64 x1))
  have T2 := Lib.hid (ht.grown (grown_set_ w2 (w.heap.size + 1) 1 (.int .u64 x1)) (fun k e => by have := Option.some.inj e; omega))
  have G2 := Lib.hid (grown_far_ (grown_trans_ G1.out hg) (p := ⟨w.heap.size + 1, 1, none⟩) (by simp) (.int .u64 x1))
  clear ht hg kc T1 KC1 K21 G1 f1 z1
  go_wp2_with fail
  refine (rd_u8 t s2 s3 x2 _ T2.out H3.out).mono ?_
  rintro e w3 ⟨rfl, ht, hg⟩
  have kc := KC2.out.grown hg (fun e => by have := Option.some.inj e; omega)
  have f3 := kc.free
  have z3 := kc.cell 2
  simp only [List.getElem?_toArray, List.getElem?_cons_zero, List.getElem?_cons_succ] at z3
  have KC3 := Lib.hid (show Blk (w3.setCell ⟨w.heap.size + 1, 2, none⟩ (.int .u8 x2)) (w.heap.size + 1) 63 #[.int .u64 x0, .int .u64 x1, .int .u8 x2, .int .u64 0, .slice none 0 0] from by have := kc.set_ 2 (.int .u8 x2); simpa using this)
  have K23 := Lib.hid ((K22.out.grown hg (fun e => by have := Option.some.inj e; omega)).far (p := ⟨w.heap.size + 1, 2, none⟩) (by simp) (.int .u8 x2))
  have T3 := Lib.hid (ht.grown (grown_set_ w3 (w.heap.size + 1) 2 (.int .u8 x2)) (fun k e => by have := Option.some.inj e; omega))
  have G3 := Lib.hid (grown_far_ (grown_trans_ G2.out hg) (p := ⟨w.heap.size + 1, 2, none⟩) (by simp) (.int .u8 x2))
  clear ht hg kc T2 KC2 K22 G2 f2 z2
  go_wp2_with fail
  refine (rd_u64 t s3 s4 x3 _ T3.out H4.out).mono ?_
  rintro e w4 ⟨rfl, ht, hg⟩
  have kc := KC3.out.grown hg (fun e => by have := Option.some.inj e; omega)
  have f4 := kc.free
  have z4 := kc.cell 3
  simp only [List.getElem?_toArray, List.getElem?_cons_zero, List.getElem?_cons_succ] at z4
  have KC4 := Lib.hid (show Blk (w4.setCell ⟨w.heap.size + 1, 3, none⟩ (.int .u64 x3)) (w.heap.size + 1) 63 #[.int .u64 x0, .int .u64 x1, .int .u8 x2, .int .u64 x3, .slice none 0 0] from by have := kc.set_ 3 (.int .u64 x3); simpa using this)
  have K24 := Lib.hid ((K23.out.grown hg (fun e => by have := Option.some.inj e; omega)).far (p := ⟨w.heap.size + 1, 3, none⟩) (by simp) (.int .u64 x3))
  have T4 := Lib.hid (ht.grown (grown_set_ w4 (w.heap.size + 1) 3 (.int .u64 x3)) (fun k e => by have := Option.some.inj e; omega))
  have G4 := Lib.hid (grown_far_ (grown_trans_ G3.out hg) (p := ⟨w.heap.size + 1, 3, none⟩) (by simp) (.int .u64 x3))
  clear ht hg kc T3 KC3 K23 G3 f3 z3
  go_wp2_with fail
  refine (tcmd_at t s4 s5 rows _ T4.out HL.out).mono ?_
  rintro e w5 ⟨A1, c1, rfl, ho, ht, hg⟩
  have kc := KC4.out.grown hg (fun e => by have := Option.some.inj e; omega)
  have f5 := kc.free
  have z5 := kc.cell 4
  simp only [List.getElem?_toArray, List.getElem?_cons_zero, List.getElem?_cons_succ] at z5
  have hG4 := G4.out.size
  have KC5 := Lib.hid kc
  have KCE := Lib.hid (show Blk (w5.setCell ⟨w.heap.size + 1, 4, none⟩ (.slice A1 rows.length c1)) (w.heap.size + 1) 63 #[.int .u64 x0, .int .u64 x1, .int .u8 x2, .int .u64 x3, .slice A1 rows.length c1] from by have := kc.set_ 4 (.slice A1 rows.length c1); simpa using this)
  have K2E := Lib.hid ((K24.out.grown hg (fun e => by have := Option.some.inj e; omega)).far (p := ⟨w.heap.size + 1, 4, none⟩) (by simp) (.slice A1 rows.length c1))
  have HT := Lib.hid (ht.grown (grown_set_ w5 (w.heap.size + 1) 4 (.slice A1 rows.length c1)) (fun k e => by have := Option.some.inj e; omega))
  have HG := Lib.hid (grown_far_ (grown_trans_ G4.out hg) (p := ⟨w.heap.size + 1, 4, none⟩) (by simp) (.slice A1 rows.length c1))
  have HO := Lib.hid (show Ow w.heap.size (w5.setCell ⟨w.heap.size + 1, 4, none⟩ (.slice A1 rows.length c1)) 104 10 (.slice A1 rows.length c1) rows.length (rows.flatMap (fc stepK)) from (ho.le hG4).aside kc (by decide) 4 _)
  clear ht hg kc ho T4 KC4 K24 G4 f4 z4
  go_upto_region 7 with fail
  generalize w5.setCell ⟨w.heap.size + 1, 4, none⟩ (.slice A1 rows.length c1) = X at *
  clear f5 z5
  have kcx := KCE.out
  have k2x := K2E.out
  have fx := k2x.free
  have zc0 := kcx.cell 0
  have z20 := k2x.cell 0
  have zc1 := kcx.cell 1
  have z21 := k2x.cell 1
  have zc2 := kcx.cell 2
  have z22 := k2x.cell 2
  have zc3 := kcx.cell 3
  have z23 := k2x.cell 3
  have zc4 := kcx.cell 4
  have z24 := k2x.cell 4
  simp only [List.getElem?_toArray, List.getElem?_cons_zero, List.getElem?_cons_succ] at zc0 z20 zc1 z21 zc2 z22 zc3 z23 zc4 z24
  clear kcx k2x
  go_wp2
  have bf := (((((K2E.out.set_ 0 (.int .u64 x0)).set_ 1 (.int .u64 x1)).set_ 2 (.int .u8 x2)).set_ 3 (.int .u64 x3)).set_ 4 (.slice A1 rows.length c1))
  have yy0 := bf.cell 0
  have yy1 := bf.cell 1
  have yy2 := bf.cell 2
  have yy3 := bf.cell 3
  have yy4 := bf.cell 4
  simp at yy0 yy1 yy2 yy3 yy4
  refine bodyPost_ret (v := .agg #[.int .u64 x0, .int .u64 x1, .int .u8 x2, .int .u64 x3, .slice A1 rows.length c1]) (by simp [results, Tryz.results51, go_sem, yy0, yy1, yy2, yy3, yy4]) rfl ?_
  refine ⟨A1, c1, rfl, (Ow.aside (Ow.aside (Ow.aside (Ow.aside (Ow.aside HO.out K2E.out (by decide) 0 (.int .u64 x0)) (K2E.out.set_ 0 (.int .u64 x0)) (by decide) 1 (.int .u64 x1)) ((K2E.out.set_ 0 (.int .u64 x0)).set_ 1 (.int .u64 x1)) (by decide) 2 (.int .u8 x2)) (((K2E.out.set_ 0 (.int .u64 x0)).set_ 1 (.int .u64 x1)).set_ 2 (.int .u8 x2)) (by decide) 3 (.int .u64 x3)) ((((K2E.out.set_ 0 (.int .u64 x0)).set_ 1 (.int .u64 x1)).set_ 2 (.int .u8 x2)).set_ 3 (.int .u64 x3)) (by decide) 4 (.slice A1 rows.length c1)), (((((HT.out.grown (grown_set_ _ w.heap.size 0 (.int .u64 x0)) (fun k e => by have := Option.some.inj e; omega)).grown (grown_set_ _ w.heap.size 1 (.int .u64 x1)) (fun k e => by have := Option.some.inj e; omega)).grown (grown_set_ _ w.heap.size 2 (.int .u8 x2)) (fun k e => by have := Option.some.inj e; omega)).grown (grown_set_ _ w.heap.size 3 (.int .u64 x3)) (fun k e => by have := Option.some.inj e; omega)).grown (grown_set_ _ w.heap.size 4 (.slice A1 rows.length c1)) (fun k e => by have := Option.some.inj e; omega)), (grown_far_ (grown_far_ (grown_far_ (grown_far_ (grown_far_ HG.out (p := ⟨w.heap.size, 0, none⟩) (Nat.le_refl _) (.int .u64 x0)) (p := ⟨w.heap.size, 1, none⟩) (Nat.le_refl _) (.int .u64 x1)) (p := ⟨w.heap.size, 2, none⟩) (Nat.le_refl _) (.int .u8 x2)) (p := ⟨w.heap.size, 3, none⟩) (Nat.le_refl _) (.int .u64 x3)) (p := ⟨w.heap.size, 4, none⟩) (Nat.le_refl _) (.slice A1 rows.length c1))⟩
/-- The value u reads as this entry. -/
def entryV (a : List Int × List (List Int)) (w : World) (u : Value) : Prop := ∃ x0 x1 x2 x3 A c, a.1 = [x0, x1, x2, x3] ∧ u = .agg #[.int .u64 x0, .int .u64 x1, .int .u8 x2, .int .u64 x3, .slice A a.2.length c] ∧ Steps w (.slice A a.2.length c) a.2
set_option maxHeartbeats 4000000 in
set_option maxRecDepth 100000 in
theorem rget_entry (v : Value) (xs : List Int) (w : World) (h : Bs w v xs) (hby : ∀ c ∈ xs, byt c) (hl : xs.length ≤ 4611686018427387904) :
    Calls Tryz.prog 37 #[v] w (DPost (allP (entryP xs)) entryV (.agg #[.int .u64 0, .int .u64 0, .int .u8 0, .int .u64 0, .slice none 0 0]) w) := by
  have S := sim_all (P := entryP) ((sim_F entryK).bind (sim_L stepK 8)) xs
  obtain ⟨x0, s1, h1⟩ : ∃ a b, rd1 .u64 (.ok xs) = (a, b) := ⟨_, _, rfl⟩
  obtain ⟨x1, s2, h2⟩ : ∃ a b, rd1 .u64 s1 = (a, b) := ⟨_, _, rfl⟩
  obtain ⟨x2, s3, h3⟩ : ∃ a b, rd1 .u8 s2 = (a, b) := ⟨_, _, rfl⟩
  obtain ⟨x3, s4, h4⟩ : ∃ a b, rd1 .u64 s3 = (a, b) := ⟨_, _, rfl⟩
  obtain ⟨rows, s5, hL⟩ : ∃ a b, rdL stepK 8 s4 = (a, b) := ⟨_, _, rfl⟩
  have hF : rdF entryK (.ok xs) = ([x0, x1, x2, x3], s4) := by simp only [entryK, rdF, h1, h2, h3, h4]
  simp only [hF, hL] at S
  have H1 := Lib.hid h1
  have H2 := Lib.hid h2
  have H3 := Lib.hid h3
  have H4 := Lib.hid h4
  have HL := Lib.hid hL
  clear hL h1 h2 h3 h4 hF
  have k0 := (Blk.new w 63 #[.int .u64 0, .int .u64 0, .int .u8 0, .int .u64 0, .slice none 0 0]).alloc (.cells #[v, .int .i64 0] 87)
  have ts := Ts.new_ (h.below (below_alloc_ w (.cells #[.int .u64 0, .int .u64 0, .int .u8 0, .int .u64 0, .slice none 0 0] 63))) hby hl
  rw [World.size_alloc] at ts
  have b2 := below_alloc2_ w (.cells #[.int .u64 0, .int .u64 0, .int .u8 0, .int .u64 0, .slice none 0 0] 63) (.cells #[v, .int .i64 0] 87)
  have K0 := Lib.hid k0
  have T0 := Lib.hid ts
  have B2 := Lib.hid b2
  have SS := Lib.hid S
  obtain ⟨A, c0, rfl, -⟩ := id h
  clear h hby hl k0 ts b2 S
  go_enter Tryz.func37, Tryz.ntmps37
  go_wp2_with fail
  refine (tentry_at (w.heap.size + 1) (.ok xs) s1 s2 s3 s4 s5 x0 x1 x2 x3 rows _ T0.out H1.out H2.out H3.out H4.out HL.out).mono ?_
  rintro e w1 ⟨A1, c1, rfl, ho, ht, hg⟩
  have B1 := Lib.hid (B2.out.grown hg (by simp; omega) (fun k e => by have := Option.some.inj e; omega))
  have K1 := Lib.hid (K0.out.grown hg (fun e => by have := Option.some.inj e; omega))
  have ba := below_alloc_ w1 (.cells #[.int .u64 x0, .int .u64 x1, .int .u8 x2, .int .u64 x3, .slice A1 rows.length c1] 63)
  have TA := Lib.hid (ht.below ba)
  have BA := Lib.hid (B1.out.trans (ba.mono B1.out.size))
  have KA := Lib.hid (K1.out.below ba K1.out.lt)
  have KC := Lib.hid (Blk.new w1 63 #[.int .u64 x0, .int .u64 x1, .int .u8 x2, .int .u64 x3, .slice A1 rows.length c1])
  have OA := Lib.hid (ho.below ba)
  have hlt1 := K1.out.lt
  clear ht hg ba ho
  go_wp2_with fail
  refine (done_any _ _ _ TA.out).mono ?_
  rintro e w2 ⟨rfl, rfl⟩
  generalize w1.alloc (.cells #[.int .u64 x0, .int .u64 x1, .int .u8 x2, .int .u64 x3, .slice A1 rows.length c1] 63) = X at *
  have fz := KA.out.free
  have zz := KA.out.cell
  obtain ⟨d, hd⟩ : ∃ d, d = dn s5 := ⟨_, rfl⟩
  rw [← hd]
  have D := Lib.hid hd
  have z0 := KA.out.cell 0
  have c0_ := KC.out.cell 0
  have z1 := KA.out.cell 1
  have c1_ := KC.out.cell 1
  have z2 := KA.out.cell 2
  have c2_ := KC.out.cell 2
  have z3 := KA.out.cell 3
  have c3_ := KC.out.cell 3
  have z4 := KA.out.cell 4
  have c4_ := KC.out.cell 4
  simp only [List.getElem?_toArray, List.getElem?_cons_zero, List.getElem?_cons_succ] at z0 c0_ z1 c1_ z2 c2_ z3 c3_ z4 c4_
  clear hd zz
  by_cases hd0 : d = 0
  · have bd : (d != 0) = false := by rw [hd0]; rfl
    have HD0 := Lib.hid hd0
    clear hd0
    go_wp2
    have bf := (((((KA.out.set_ 0 (.int .u64 x0)).set_ 1 (.int .u64 x1)).set_ 2 (.int .u8 x2)).set_ 3 (.int .u64 x3)).set_ 4 (.slice A1 rows.length c1))
    have y0 := bf.cell 0
    have y1 := bf.cell 1
    have y2 := bf.cell 2
    have y3 := bf.cell 3
    have y4 := bf.cell 4
    simp at y0 y1 y2 y3 y4
    refine bodyPost_ret (v := .tuple #[.agg #[.int .u64 x0, .int .u64 x1, .int .u8 x2, .int .u64 x3, .slice A1 rows.length c1], .int .i64 0]) (by simp [results, Tryz.results37, go_sem, y0, y1, y2, y3, y4]) rfl ?_
    have S1 := SS.out
    rcases hq : allP (entryP xs) with q | a
    · rw [hq] at S1
      simp only at S1
      have e1 : dn s5 = q := by rw [← S1]
      have e2 := allP_bad cod_entry hq
      have e3 := D.out
      have e4 := HD0.out
      exfalso
      omega
    · rw [hq] at S1
      simp only at S1
      have e1 := S1.1
      rw [← hq]
      refine dpost_ok hq (((((BA.out.setCell (p := ⟨w.heap.size, 0, none⟩) (Nat.le_refl _) (.int .u64 x0)).setCell (p := ⟨w.heap.size, 1, none⟩) (Nat.le_refl _) (.int .u64 x1)).setCell (p := ⟨w.heap.size, 2, none⟩) (Nat.le_refl _) (.int .u8 x2)).setCell (p := ⟨w.heap.size, 3, none⟩) (Nat.le_refl _) (.int .u64 x3)).setCell (p := ⟨w.heap.size, 4, none⟩) (Nat.le_refl _) (.slice A1 rows.length c1)) ?_
      injection e1 with e1 e2
      subst e1
      exact ⟨x0, x1, x2, x3, A1, c1, rfl, rfl, (((((OA.out.far (p := ⟨w.heap.size, 0, none⟩) (by simp <;> omega) _).far (p := ⟨w.heap.size, 1, none⟩) (by simp <;> omega) _).far (p := ⟨w.heap.size, 2, none⟩) (by simp <;> omega) _).far (p := ⟨w.heap.size, 3, none⟩) (by simp <;> omega) _).far (p := ⟨w.heap.size, 4, none⟩) (by simp <;> omega) _).rd⟩
  · have bd : (d != 0) = true := by simpa using hd0
    have HD0 := Lib.hid hd0
    clear hd0
    go_wp2
    have bf := (((((KA.out.set_ 0 (.int .u64 0)).set_ 1 (.int .u64 0)).set_ 2 (.int .u8 0)).set_ 3 (.int .u64 0)).set_ 4 (.slice none 0 0))
    have y0 := bf.cell 0
    have y1 := bf.cell 1
    have y2 := bf.cell 2
    have y3 := bf.cell 3
    have y4 := bf.cell 4
    simp at y0 y1 y2 y3 y4
    refine bodyPost_ret (v := .tuple #[.agg #[.int .u64 0, .int .u64 0, .int .u8 0, .int .u64 0, .slice none 0 0], .int .i64 d]) (by simp [results, Tryz.results37, go_sem, y0, y1, y2, y3, y4]) rfl ?_
    have S1 := SS.out
    rcases hq : allP (entryP xs) with q | a
    · rw [hq] at S1
      simp only at S1
      have e1 : dn s5 = q := by rw [← S1]
      rw [← hq]
      exact dpost_bad hq (((((BA.out.setCell (p := ⟨w.heap.size, 0, none⟩) (Nat.le_refl _) (.int .u64 0)).setCell (p := ⟨w.heap.size, 1, none⟩) (Nat.le_refl _) (.int .u64 0)).setCell (p := ⟨w.heap.size, 2, none⟩) (Nat.le_refl _) (.int .u8 0)).setCell (p := ⟨w.heap.size, 3, none⟩) (Nat.le_refl _) (.int .u64 0)).setCell (p := ⟨w.heap.size, 4, none⟩) (Nat.le_refl _) (.slice none 0 0)) (D.out.trans e1)
    · rw [hq] at S1
      simp only at S1
      exfalso
      refine HD0.out ?_
      rw [D.out]
      exact S1.2
end Go.Proofs.YthjdkjinkmdclaaGreat

/- The document's taker: an entry, its steps in a block of their own. -/
namespace Go.Proofs.YthjdkjinkmdclaaGreat
open Go.RowKit

/-- The value u reads as this entry. -/
def entryO (a : List Int × List (List Int)) (w : World) (u : Value) : Prop := ∃ x0 x1 x2 x3 A c, a.1 = [x0, x1, x2, x3] ∧ u = .agg #[.int .u64 x0, .int .u64 x1, .int .u8 x2, .int .u64 x3, .slice A a.2.length c] ∧ Ow 0 w 104 10 (.slice A a.2.length c) a.2.length (a.2.flatMap (fc stepK))
set_option maxHeartbeats 4000000 in
set_option maxRecDepth 100000 in
theorem rget_entryO (v : Value) (xs : List Int) (w : World) (h : Bs w v xs) (hby : ∀ c ∈ xs, byt c) (hl : xs.length ≤ 4611686018427387904) :
    Calls Tryz.prog 37 #[v] w (DPost (allP (entryP xs)) entryO (.agg #[.int .u64 0, .int .u64 0, .int .u8 0, .int .u64 0, .slice none 0 0]) w) := by
  have S := sim_all (P := entryP) ((sim_F entryK).bind (sim_L stepK 8)) xs
  obtain ⟨x0, s1, h1⟩ : ∃ a b, rd1 .u64 (.ok xs) = (a, b) := ⟨_, _, rfl⟩
  obtain ⟨x1, s2, h2⟩ : ∃ a b, rd1 .u64 s1 = (a, b) := ⟨_, _, rfl⟩
  obtain ⟨x2, s3, h3⟩ : ∃ a b, rd1 .u8 s2 = (a, b) := ⟨_, _, rfl⟩
  obtain ⟨x3, s4, h4⟩ : ∃ a b, rd1 .u64 s3 = (a, b) := ⟨_, _, rfl⟩
  obtain ⟨rows, s5, hL⟩ : ∃ a b, rdL stepK 8 s4 = (a, b) := ⟨_, _, rfl⟩
  have hF : rdF entryK (.ok xs) = ([x0, x1, x2, x3], s4) := by simp only [entryK, rdF, h1, h2, h3, h4]
  simp only [hF, hL] at S
  have H1 := Lib.hid h1
  have H2 := Lib.hid h2
  have H3 := Lib.hid h3
  have H4 := Lib.hid h4
  have HL := Lib.hid hL
  clear hL h1 h2 h3 h4 hF
  have k0 := (Blk.new w 63 #[.int .u64 0, .int .u64 0, .int .u8 0, .int .u64 0, .slice none 0 0]).alloc (.cells #[v, .int .i64 0] 87)
  have ts := Ts.new_ (h.below (below_alloc_ w (.cells #[.int .u64 0, .int .u64 0, .int .u8 0, .int .u64 0, .slice none 0 0] 63))) hby hl
  rw [World.size_alloc] at ts
  have b2 := below_alloc2_ w (.cells #[.int .u64 0, .int .u64 0, .int .u8 0, .int .u64 0, .slice none 0 0] 63) (.cells #[v, .int .i64 0] 87)
  have K0 := Lib.hid k0
  have T0 := Lib.hid ts
  have B2 := Lib.hid b2
  have SS := Lib.hid S
  obtain ⟨A, c0, rfl, -⟩ := id h
  clear h hby hl k0 ts b2 S
  go_enter Tryz.func37, Tryz.ntmps37
  go_wp2_with fail
  refine (tentry_at (w.heap.size + 1) (.ok xs) s1 s2 s3 s4 s5 x0 x1 x2 x3 rows _ T0.out H1.out H2.out H3.out H4.out HL.out).mono ?_
  rintro e w1 ⟨A1, c1, rfl, ho, ht, hg⟩
  have B1 := Lib.hid (B2.out.grown hg (by simp; omega) (fun k e => by have := Option.some.inj e; omega))
  have K1 := Lib.hid (K0.out.grown hg (fun e => by have := Option.some.inj e; omega))
  have ba := below_alloc_ w1 (.cells #[.int .u64 x0, .int .u64 x1, .int .u8 x2, .int .u64 x3, .slice A1 rows.length c1] 63)
  have TA := Lib.hid (ht.below ba)
  have BA := Lib.hid (B1.out.trans (ba.mono B1.out.size))
  have KA := Lib.hid (K1.out.below ba K1.out.lt)
  have KC := Lib.hid (Blk.new w1 63 #[.int .u64 x0, .int .u64 x1, .int .u8 x2, .int .u64 x3, .slice A1 rows.length c1])
  have OA := Lib.hid (ho.below ba)
  have hlt1 := K1.out.lt
  clear ht hg ba ho
  go_wp2_with fail
  refine (done_any _ _ _ TA.out).mono ?_
  rintro e w2 ⟨rfl, rfl⟩
  generalize w1.alloc (.cells #[.int .u64 x0, .int .u64 x1, .int .u8 x2, .int .u64 x3, .slice A1 rows.length c1] 63) = X at *
  have fz := KA.out.free
  have zz := KA.out.cell
  obtain ⟨d, hd⟩ : ∃ d, d = dn s5 := ⟨_, rfl⟩
  rw [← hd]
  have D := Lib.hid hd
  have z0 := KA.out.cell 0
  have c0_ := KC.out.cell 0
  have z1 := KA.out.cell 1
  have c1_ := KC.out.cell 1
  have z2 := KA.out.cell 2
  have c2_ := KC.out.cell 2
  have z3 := KA.out.cell 3
  have c3_ := KC.out.cell 3
  have z4 := KA.out.cell 4
  have c4_ := KC.out.cell 4
  simp only [List.getElem?_toArray, List.getElem?_cons_zero, List.getElem?_cons_succ] at z0 c0_ z1 c1_ z2 c2_ z3 c3_ z4 c4_
  clear hd zz
  by_cases hd0 : d = 0
  · have bd : (d != 0) = false := by rw [hd0]; rfl
    have HD0 := Lib.hid hd0
    clear hd0
    go_wp2
    have bf := (((((KA.out.set_ 0 (.int .u64 x0)).set_ 1 (.int .u64 x1)).set_ 2 (.int .u8 x2)).set_ 3 (.int .u64 x3)).set_ 4 (.slice A1 rows.length c1))
    have y0 := bf.cell 0
    have y1 := bf.cell 1
    have y2 := bf.cell 2
    have y3 := bf.cell 3
    have y4 := bf.cell 4
    simp at y0 y1 y2 y3 y4
    refine bodyPost_ret (v := .tuple #[.agg #[.int .u64 x0, .int .u64 x1, .int .u8 x2, .int .u64 x3, .slice A1 rows.length c1], .int .i64 0]) (by simp [results, Tryz.results37, go_sem, y0, y1, y2, y3, y4]) rfl ?_
    have S1 := SS.out
    rcases hq : allP (entryP xs) with q | a
    · rw [hq] at S1
      simp only at S1
      have e1 : dn s5 = q := by rw [← S1]
      have e2 := allP_bad cod_entry hq
      have e3 := D.out
      have e4 := HD0.out
      exfalso
      omega
    · rw [hq] at S1
      simp only at S1
      have e1 := S1.1
      rw [← hq]
      refine dpost_ok hq (((((BA.out.setCell (p := ⟨w.heap.size, 0, none⟩) (Nat.le_refl _) (.int .u64 x0)).setCell (p := ⟨w.heap.size, 1, none⟩) (Nat.le_refl _) (.int .u64 x1)).setCell (p := ⟨w.heap.size, 2, none⟩) (Nat.le_refl _) (.int .u8 x2)).setCell (p := ⟨w.heap.size, 3, none⟩) (Nat.le_refl _) (.int .u64 x3)).setCell (p := ⟨w.heap.size, 4, none⟩) (Nat.le_refl _) (.slice A1 rows.length c1)) ?_
      injection e1 with e1 e2
      subst e1
      exact ⟨x0, x1, x2, x3, A1, c1, rfl, rfl, (((((OA.out.far (p := ⟨w.heap.size, 0, none⟩) (by simp <;> omega) _).far (p := ⟨w.heap.size, 1, none⟩) (by simp <;> omega) _).far (p := ⟨w.heap.size, 2, none⟩) (by simp <;> omega) _).far (p := ⟨w.heap.size, 3, none⟩) (by simp <;> omega) _).far (p := ⟨w.heap.size, 4, none⟩) (by simp <;> omega) _).le (Nat.zero_le _)⟩
  · have bd : (d != 0) = true := by simpa using hd0
    have HD0 := Lib.hid hd0
    clear hd0
    go_wp2
    have bf := (((((KA.out.set_ 0 (.int .u64 0)).set_ 1 (.int .u64 0)).set_ 2 (.int .u8 0)).set_ 3 (.int .u64 0)).set_ 4 (.slice none 0 0))
    have y0 := bf.cell 0
    have y1 := bf.cell 1
    have y2 := bf.cell 2
    have y3 := bf.cell 3
    have y4 := bf.cell 4
    simp at y0 y1 y2 y3 y4
    refine bodyPost_ret (v := .tuple #[.agg #[.int .u64 0, .int .u64 0, .int .u8 0, .int .u64 0, .slice none 0 0], .int .i64 d]) (by simp [results, Tryz.results37, go_sem, y0, y1, y2, y3, y4]) rfl ?_
    have S1 := SS.out
    rcases hq : allP (entryP xs) with q | a
    · rw [hq] at S1
      simp only at S1
      have e1 : dn s5 = q := by rw [← S1]
      rw [← hq]
      exact dpost_bad hq (((((BA.out.setCell (p := ⟨w.heap.size, 0, none⟩) (Nat.le_refl _) (.int .u64 0)).setCell (p := ⟨w.heap.size, 1, none⟩) (Nat.le_refl _) (.int .u64 0)).setCell (p := ⟨w.heap.size, 2, none⟩) (Nat.le_refl _) (.int .u8 0)).setCell (p := ⟨w.heap.size, 3, none⟩) (Nat.le_refl _) (.int .u64 0)).setCell (p := ⟨w.heap.size, 4, none⟩) (Nat.le_refl _) (.slice none 0 0)) (D.out.trans e1)
    · rw [hq] at S1
      simp only at S1
      exfalso
      refine HD0.out ?_
      rw [D.out]
      exact S1.2
end Go.Proofs.YthjdkjinkmdclaaGreat

/- Letters: the document's Get: the states of its walk. -/
namespace Go.Proofs.YthjdkjinkmdclaaGreat
open Go.RowKit

theorem results_rget {fn : Func} (h : fn.results = #[.cell 2 44, .tmp 3]) (tmps : Array Value) (w : World) (g : Nat) (cs : List Value) (v3 : Value) (h2 : tmps.getD 2 undef = .pointer (some ⟨g, 0, none⟩)) (h3 : tmps.getD 3 undef = v3) (hc : w.rangeAt g 0 cs) (hl : cs.length = 17) :
    (results fn tmps).run Tryz.prog w = .ok (.tuple #[.agg cs.toArray, v3]) w := by
  have hr := run_loadVar_mid (P := Tryz.prog) w g 0 44 cs _ hc Tryz.underlying44 rfl (by rw [hl]; exact other_size)
  simp only [Array.getD_eq_getD_getElem?] at h2 h3
  simp [results, h, h2, h3, asAddr, hr]
def zeroO : Array Value := #[.int .i64 0, .int .u8 0, .int .u8 0, .int .u64 0, .int .u64 0, .int .u64 0, .int .u64 0, .bool false, .slice none 0 0, .slice none 0 0, .int .u8 0, .int .u64 0, .slice none 0 0, .int .i64 0, .int .i64 0, .int .i64 0, .slice none 0 0]
/-- The head is being taken. -/
structure Hd (W0 w : World) (s : TS) : Prop where
  ts : Ts w (W0.heap.size + 1) s
  res : Blk w W0.heap.size 44 zeroO
  bel : Below W0.heap.size W0 w
/-- The letter lies in block p. -/
structure Gd (W0 w : World) (p : Nat) (cs : Array Value) (s : TS) : Prop where
  ts : Ts w (W0.heap.size + 1) s
  res : Blk w W0.heap.size 44 zeroO
  lt : Blk w p 44 cs
  hp : W0.heap.size + 1 < p
  bel : Below W0.heap.size W0 w
theorem Hd.call {W0 w w' : World} {s s' : TS} (h : Hd W0 w s) (ht : Ts w' (W0.heap.size + 1) s') (hg : w.grownBy w' (some (W0.heap.size + 1))) : Hd W0 w' s' :=
  ⟨ht, h.res.grown hg (fun e => by have := Option.some.inj e; omega), h.bel.grown hg h.bel.size (fun k e => by have := Option.some.inj e; omega)⟩
theorem Hd.new {W0 w : World} {s : TS} (h : Hd W0 w s) (cs : Array Value) : Gd W0 (w.alloc (.cells cs 44)) w.heap.size cs s :=
  ⟨h.ts.below (below_alloc_ _ _), h.res.alloc _, Blk.new _ _ _, h.ts.lt, h.bel.trans ((below_alloc_ _ _).mono h.bel.size)⟩
theorem Gd.call {W0 w w' : World} {p : Nat} {cs : Array Value} {s s' : TS} (h : Gd W0 w p cs s) (ht : Ts w' (W0.heap.size + 1) s') (hg : w.grownBy w' (some (W0.heap.size + 1))) : Gd W0 w' p cs s' :=
  ⟨ht, h.res.grown hg (fun e => by have := Option.some.inj e; omega), h.lt.grown hg (fun e => by have := Option.some.inj e; have := h.hp; omega), h.hp, h.bel.grown hg h.bel.size (fun k e => by have := Option.some.inj e; omega)⟩
theorem Gd.set {W0 w : World} {p : Nat} {cs : Array Value} {s : TS} (h : Gd W0 w p cs s) (i : Nat) (u : Value) {cs' : Array Value} (hc : cs.setIfInBounds i u = cs') : Gd W0 (w.setCell ⟨p, i, none⟩ u) p cs' s :=
  ⟨h.ts.grown (grown_set_ w p i u) (fun k e => by have := Option.some.inj e; have := h.hp; omega), h.res.far (p := ⟨p, i, none⟩) (by have := h.hp; simp; omega) u, hc ▸ h.lt.set_ i u, h.hp, h.bel.setCell (p := ⟨p, i, none⟩) (by have := h.hp; simp; omega) u⟩
theorem Gd.below {W0 w w' : World} {p : Nat} {cs : Array Value} {s : TS} (h : Gd W0 w p cs s) (hb : Below w.heap.size w w') : Gd W0 w' p cs s :=
  ⟨h.ts.below hb, h.res.below hb h.res.lt, h.lt.below hb h.lt.lt, h.hp, h.bel.trans (hb.mono h.bel.size)⟩
/-- What the document's letter holds, in blocks of its own. -/
def LoO (w : World) (es : List Ent) (data : List Int) (steps gots : List (List Int)) (ve vd vs vg : Value) : Prop :=
  (∃ ss : List Value, ss.length = es.length ∧ Ow 0 w 63 5 ve es.length ((es.zip ss).flatMap ecells) ∧ ∀ (j : Nat) (h : j < es.length) (h' : j < ss.length), Ow 0 w 104 10 ss[j] es[j].2.length (es[j].2.flatMap (fc stepK))) ∧
  Ow 0 w 5 1 vd data.length (bc data) ∧ Ow 0 w 104 10 vs steps.length (steps.flatMap (fc stepK)) ∧ Ow 0 w 108 2 vg gots.length (gots.flatMap (fc gotK))
theorem LoO.nil_ (w : World) : LoO w [] [] [] [] (.slice none 0 0) (.slice none 0 0) (.slice none 0 0) (.slice none 0 0) :=
  ⟨⟨[], rfl, .inl ⟨rfl, rfl, rfl⟩, fun j h => by simp at h⟩, .inl ⟨rfl, rfl, rfl⟩, .inl ⟨rfl, rfl, rfl⟩, .inl ⟨rfl, rfl, rfl⟩⟩
theorem LoO.steps_ {w : World} {B : Nat} {v : Value} {rows : List (List Int)} (h : Ow B w 104 10 v rows.length (rows.flatMap (fc stepK))) : LoO w [] [] rows [] (.slice none 0 0) (.slice none 0 0) v (.slice none 0 0) :=
  ⟨⟨[], rfl, .inl ⟨rfl, rfl, rfl⟩, fun j h => by simp at h⟩, .inl ⟨rfl, rfl, rfl⟩, h.le (Nat.zero_le _), .inl ⟨rfl, rfl, rfl⟩⟩
theorem LoO.data_ {w : World} {B n : Nat} {v : Value} {bs : List Int} (hn : bs.length = n) (h : Ow B w 5 1 v n (bc bs)) : LoO w [] bs [] [] (.slice none 0 0) v (.slice none 0 0) (.slice none 0 0) :=
  ⟨⟨[], rfl, .inl ⟨rfl, rfl, rfl⟩, fun j h => by simp at h⟩, by rw [hn]; exact h.le (Nat.zero_le _), .inl ⟨rfl, rfl, rfl⟩, .inl ⟨rfl, rfl, rfl⟩⟩
theorem LoO.gots_ {w : World} {B : Nat} {v : Value} {rows : List (List Int)} (h : Ow B w 108 2 v rows.length (rows.flatMap (fc gotK))) : LoO w [] [] [] rows (.slice none 0 0) (.slice none 0 0) (.slice none 0 0) v :=
  ⟨⟨[], rfl, .inl ⟨rfl, rfl, rfl⟩, fun j h => by simp at h⟩, .inl ⟨rfl, rfl, rfl⟩, .inl ⟨rfl, rfl, rfl⟩, h.le (Nat.zero_le _)⟩
theorem LoO.setCells_ {w : World} {es : List Ent} {data : List Int} {steps gots : List (List Int)} {ve vd vs vg : Value} (h : LoO w es data steps gots ve vd vs vg) (us : List Value) (i : Nat) {g : Nat} {cs : Array Value} (hb : Blk w g 44 cs) : LoO (w.setCells g i us) es data steps gots ve vd vs vg := by
  obtain ⟨⟨ss, h1, h2, h3⟩, h4, h5, h6⟩ := h
  exact ⟨⟨ss, h1, Ow.setCells_ (by decide) us i _ _ hb h2, fun j a b => Ow.setCells_ (by decide) us i _ _ hb (h3 j a b)⟩, Ow.setCells_ (by decide) us i _ _ hb h4, Ow.setCells_ (by decide) us i _ _ hb h5, Ow.setCells_ (by decide) us i _ _ hb h6⟩
theorem LoO.ents {w : World} {es : List Ent} {data : List Int} {steps gots : List (List Int)} {ve vd vs vg : Value} (h : LoO w es data steps gots ve vd vs vg) : Ents w ve es := by
  obtain ⟨⟨ss, h1, h2, h3⟩, -⟩ := h
  exact ⟨ss, h1, h2.rd, fun j a b => (h3 j a b).rd⟩
/-- What the document's Get answers. -/
def RGet (o : Option Lt) (w : World) (e : Ending) (w' : World) : Prop := Below w.heap.size w w' ∧ match o with
  | some L => ∃ ve vd vs vg, e = .returned (.tuple #[.agg (letO L ve vd vs vg), .int .i64 0]) ∧ LoO w' L.es L.data L.steps L.gots ve vd vs vg
  | none => e = .returned (.tuple #[.agg zeroO, .int .i64 4])
theorem rd8_byt {xs : List Int} (h : ∀ c ∈ xs, byt c) : byt (rd1 .u8 (.ok xs)).1 := by
  cases xs with
  | nil => exact ⟨by decide, by decide⟩
  | cons c r => exact h c (by simp)
/-- Bytes that are left are bytes. -/
def TS.byts : TS → Prop
  | .ok xs => ∀ c ∈ xs, byt c
  | .error _ => True
theorem rd8_left {s : TS} (h : s.byts) : (rd1 .u8 s).2.byts := by
  cases s with
  | error k => exact trivial
  | ok xs =>
    cases xs with
    | nil => exact trivial
    | cons c r => exact fun x hx => h x (by simp [hx])
theorem rd64_left {s : TS} (h : s.byts) : (rd1 .u64 s).2.byts := by
  cases s with
  | error k => exact trivial
  | ok xs =>
    by_cases hk : (tk xs).2.2 = 0
    · have : numP xs = .ok ((tk xs).1, xs.drop (tk xs).2.1) := by unfold numP; rw [if_pos hk]
      simp only [rd1, run, this]
      exact fun x hx => h x (List.mem_of_mem_drop hx)
    · have : numP xs = .error (tk xs).2.2 := by unfold numP; rw [if_neg hk]
      simp only [rd1, run, this]
      exact trivial
theorem rd64_lt {s : TS} (h : s.byts) : (rd1 .u64 s).1 < 18446744073709551616 := by
  cases s with
  | error k => simp [rd1, run]
  | ok xs =>
    by_cases hk : (tk xs).2.2 = 0
    · have h1 : numP xs = .ok ((tk xs).1, xs.drop (tk xs).2.1) := by unfold numP; rw [if_pos hk]
      simp only [rd1, run, h1]
      obtain ⟨e1, e2, e3, e4⟩ := tk_back h (show tk xs = ((tk xs).1, (tk xs).2.1, 0) by rw [← hk])
      omega
    · have : numP xs = .error (tk xs).2.2 := by unfold numP; rw [if_neg hk]
      simp only [rd1, run, this]
      decide
/-- How many bytes are left at most. -/
def TS.le (s : TS) (N : Nat) : Prop := ∀ r, s = .ok r → r.length ≤ N
theorem rd8_le {s : TS} {N : Nat} (h : s.le N) : (rd1 .u8 s).2.le N := by
  cases s with
  | error k => intro r e; cases e
  | ok xs =>
    have := h xs rfl
    cases xs with
    | nil => intro r e; cases e
    | cons c r => intro r' e; cases e; simp at this; omega
theorem rd64_le {s : TS} {N : Nat} (h : s.le N) : (rd1 .u64 s).2.le N := by
  cases s with
  | error k => intro r e; cases e
  | ok xs =>
    have := h xs rfl
    by_cases hk : (tk xs).2.2 = 0
    · have h1 : numP xs = .ok ((tk xs).1, xs.drop (tk xs).2.1) := by unfold numP; rw [if_pos hk]
      simp only [rd1, run, h1]
      intro r e
      injection e with e
      subst e
      rw [List.length_drop]; omega
    · have : numP xs = .error (tk xs).2.2 := by unfold numP; rw [if_neg hk]
      simp only [rd1, run, this]
      intro r e; cases e
theorem mid_len {xs : List Int} (hl : xs.length ≤ 65536) : ∀ r, (rRun (heads ++ [.index, .mark, .commit]) (Rs.new xs)).2.1 = .ok r → r.length ≤ 65536 := by
  have h0 : TS.le (.ok xs) 65536 := fun r e => by injection e with e; subst e; exact hl
  exact rd64_le (rd64_le (rd64_le (rd64_le (rd8_le (rd8_le (rd8_le h0))))))
end Go.Proofs.YthjdkjinkmdclaaGreat

/- Letters: the document's Get of entries: what its loop holds. -/
namespace Go.Proofs.YthjdkjinkmdclaaGreat
open Go.RowKit

theorem entry_nf : (Tryz.prog.info? 63).map (fun i => (i.zero, i.size, i.bytes)) = some (some (.agg #[.int .u64 0, .int .u64 0, .int .u8 0, .int .u64 0, .slice none 0 0]), 5, 56) := by kernel_rfl
theorem rget_entryG {v : Value} {ys : List Int} {w : World} (h : Bs w v ys) (hby : ∀ c ∈ ys, byt c) (hl : ys.length ≤ 4611686018427387904) :
    Calls Tryz.prog 37 #[v] w fun e w' => ∃ (x0 x1 x2 x3 : Int) (rows : List (List Int)) (A : Option Addr) (c : Nat) (k : Int), (getE ys).1 = ([x0, x1, x2, x3], rows) ∧ e = .returned (.tuple #[.agg #[.int .u64 x0, .int .u64 x1, .int .u8 x2, .int .u64 x3, .slice A rows.length c], .int .i64 k]) ∧ (k != 0) = (getE ys).2 ∧ Ow 0 w' 104 10 (.slice A rows.length c) rows.length (rows.flatMap (fc stepK)) ∧ Below w.heap.size w w' := by
  refine (rget_entryO v ys w h hby hl).mono ?_
  rintro e w' ⟨u, k, rfl, hb, hq⟩
  unfold getE
  rcases ha : allP (entryP ys) with q | a
  · rw [ha] at hq
    obtain ⟨rfl, rfl⟩ := hq
    have hk := allP_bad cod_entry ha
    exact ⟨0, 0, 0, 0, [], none, 0, k, rfl, rfl, by simp; omega, .inl ⟨rfl, rfl, rfl⟩, hb⟩
  · rw [ha] at hq
    obtain ⟨rfl, x0, x1, x2, x3, A, c, ha1, rfl, ho⟩ := hq
    obtain ⟨a1, a2⟩ := a
    simp only at ha1
    subst ha1
    exact ⟨x0, x1, x2, x3, a2, A, c, 0, rfl, rfl, rfl, ho, hb⟩
/-- Entries in blocks of their own. -/
def EsO (w : World) (es : List Ent) (v : Value) : Prop := ∃ ss : List Value, ss.length = es.length ∧ Ow 0 w 63 5 v es.length ((es.zip ss).flatMap ecells) ∧ ∀ (j : Nat) (h : j < es.length) (h' : j < ss.length), Ow 0 w 104 10 ss[j] es[j].2.length (es[j].2.flatMap (fc stepK))
theorem EsO.nil_ (w : World) : EsO w [] (.slice none 0 0) := ⟨[], rfl, .inl ⟨rfl, rfl, rfl⟩, fun j h => by simp at h⟩
theorem EsO.below {w w' : World} {es : List Ent} {v : Value} (h : EsO w es v) (hb : Below w.heap.size w w') : EsO w' es v := by
  obtain ⟨ss, h1, h2, h3⟩ := h
  exact ⟨ss, h1, h2.below hb, fun j a b => (h3 j a b).below hb⟩
theorem Ow.gcall {B size n g : Nat} {e t : TypeId} {w w' : World} {v : Value} {xs : List Value} {cs : Array Value} (h : Ow B w e size v n xs) (hg : w.grownBy w' (some g)) (hk : Blk w g t cs) (hne : t ≠ e) : Ow B w' e size v n xs := by
  rcases id h with h0 | ⟨g', c, cur, rfl, hB, hk', h'⟩
  · exact .inl h0
  · exact .inr ⟨g', c, cur, rfl, hB, hk'.grown hg (fun he => by have := Option.some.inj he; subst this; exact hk.ne_ hk' hne rfl), h'⟩
theorem EsO.call {w w' : World} {es : List Ent} {v : Value} {g : Nat} {cs : Array Value} (h : EsO w es v) (hg : w.grownBy w' (some g)) (hk : Blk w g 87 cs) : EsO w' es v := by
  obtain ⟨ss, h1, h2, h3⟩ := h
  exact ⟨ss, h1, h2.gcall hg hk (by decide), fun j a b => (h3 j a b).gcall hg hk (by decide)⟩
theorem EsO.aside {w : World} {es : List Ent} {v : Value} {g t : Nat} {cs : Array Value} (h : EsO w es v) (hk : Blk w g t cs) (h1 : 63 ≠ t) (h2 : 104 ≠ t) (i : Nat) (u : Value) : EsO (w.setCell ⟨g, i, none⟩ u) es v := by
  obtain ⟨ss, q1, q2, q3⟩ := h
  exact ⟨ss, q1, q2.aside hk h1 i u, fun j a b => (q3 j a b).aside hk h2 i u⟩
theorem Ts.blk {w : World} {t : Nat} {s : TS} (h : Ts w t s) : ∃ cs, Blk w t 87 cs := by
  cases s with
  | ok xs => obtain ⟨⟨v, hb, _⟩, _⟩ := h; exact ⟨_, hb⟩
  | error j => obtain ⟨_, v, hb⟩ := h; exact ⟨_, hb⟩
/-- One entry more. -/
theorem EsO.snoc {w w' : World} {v v' : Value} {es : List Ent} {e : Ent} {s : Value} {ss : List Value} (h1 : ss.length = es.length) (h2 : Ow 0 w 63 5 v es.length ((es.zip ss).flatMap ecells))
    (h3 : ∀ (j : Nat) (h : j < es.length) (h' : j < ss.length), Ow 0 w 104 10 ss[j] es[j].2.length (es[j].2.flatMap (fc stepK)))
    (hg : Grew w w' v v') (ho : Ow 0 w' 63 5 v' (es.length + 1) ((es.zip ss).flatMap ecells ++ ecells (e, s))) (hs : Ow 0 w 104 10 s e.2.length (e.2.flatMap (fc stepK))) : EsO w' (es ++ [e]) v' := by
  refine ⟨ss ++ [s], by simp [h1], ?_, ?_⟩
  · rw [List.zip_append h1.symm, List.flatMap_append, List.length_append]
    simpa using ho
  · intro j a b
    rcases Nat.lt_or_ge j es.length with hj | hj
    · rw [List.getElem_append_left (by omega), List.getElem_append_left hj]
      exact (h3 j hj (by omega)).grew h2 hg (by decide)
    · have hje : j = es.length := by simp at a; omega
      subst hje
      rw [List.getElem_append_right (by omega), List.getElem_append_right (by omega)]
      simp only [h1, Nat.sub_self, List.getElem_cons_zero]
      exact hs.grew h2 hg (by decide)
theorem LoO.es_ {w : World} {es : List Ent} {v : Value} (h : EsO w es v) : LoO w es [] [] [] v (.slice none 0 0) (.slice none 0 0) (.slice none 0 0) := ⟨h, .inl ⟨rfl, rfl, rfl⟩, .inl ⟨rfl, rfl, rfl⟩, .inl ⟨rfl, rfl, rfl⟩⟩
theorem Gd.grew {W0 w w' : World} {p B size n : Nat} {cs : Array Value} {s : TS} {e : TypeId} {v v' : Value} {xs : List Value} (h : Gd W0 w p cs s) (ho : Ow B w e size v n xs) (hg : Grew w w' v v') (h1 : e ≠ 44) (_h2 : e ≠ 87) (hB : v.ownBlock = none ∨ ∀ k, v.ownBlock = some k → W0.heap.size + 1 < k) : Gd W0 w' p cs s := by
  obtain ⟨ct, hct⟩ := h.ts.blk
  refine ⟨h.ts.grown hg.1 (fun k hk => ?_), h.res.grown hg.1 (fun he => Ow.notat ho h.res h1.symm he.symm), h.lt.grown hg.1 (fun he => Ow.notat ho h.lt h1.symm he.symm), h.hp, h.bel.grown hg.1 h.bel.size (fun k hk => ?_)⟩
  · rcases hB with q | q
    · rw [q] at hk; cases hk
    · exact q k hk
  · rcases hB with q | q
    · rw [q] at hk; cases hk
    · have := q k hk; omega
def TS.okb : TS → Bool
  | .ok _ => true
  | .error _ => false
theorem rEnts_go {k : Nat} {es : List Ent} {r r' : List Int} {m : Nat} (hm : run numP 0 (.ok r) = (m, .ok r')) (hl : ¬ r'.length < m) : rEnts (k + 1) es (.ok r) false = rEnts k (es ++ [(getE (r'.take m)).1]) (.ok (r'.drop m)) (getE (r'.take m)).2 := by
  rw [rEnts]
  simp only [hm]
  rw [if_neg hl]
theorem rEnts_no {k : Nat} {es : List Ent} {r : List Int} {m : Nat} {s : TS} (hm : run numP 0 (.ok r) = (m, s)) (hl : ¬ ∃ r', s = .ok r' ∧ ¬ r'.length < m) : rEnts (k + 1) es (.ok r) false = none := by
  rw [rEnts]
  simp only [hm]
  cases s with
  | error q => rfl
  | ok r' =>
    refine if_pos ?_
    rcases Nat.lt_or_ge r'.length m with h | h
    · exact h
    · exact absurd ⟨r', rfl, by omega⟩ hl
theorem rEnts_end {k : Nat} {es : List Ent} {s : TS} {b : Bool} (h : (decide (0 < k) && s.okb && !b) = false) : rEnts k es s b = some (es, s, b) := by
  cases k with
  | zero => rfl
  | succ k =>
    cases s with
    | error q => rfl
    | ok r =>
      cases b with
      | true => rfl
      | false => simp [TS.okb] at h
theorem ansEnts_c {x : Rs} {n : Nat} {s : TS} (hn : run numP 0 x.2.1 = (n, s)) (hB : 8 < n) : ansEnts x = none := by
  unfold ansEnts
  rw [hn]
  exact if_pos hB
theorem ansEnts_d {x : Rs} {n : Nat} {s : TS} (hn : run numP 0 x.2.1 = (n, s)) (hB : ¬ 8 < n) (hE : rEnts n x.1.es s x.2.2 = none) : ansEnts x = none := by
  unfold ansEnts
  rw [hn]
  simp only
  rw [if_neg hB, hE]
theorem ansEnts_ok {x : Rs} {n : Nat} {s : TS} {a : List Ent × TS × Bool} (hn : run numP 0 x.2.1 = (n, s)) (hB : ¬ 8 < n) (hE : rEnts n x.1.es s x.2.2 = some a) : ansEnts x = ans ({ x.1 with es := a.1 }, a.2.1, a.2.2) := by
  unfold ansEnts
  rw [hn]
  simp only
  rw [if_neg hB, hE]
end Go.Proofs.YthjdkjinkmdclaaGreat
