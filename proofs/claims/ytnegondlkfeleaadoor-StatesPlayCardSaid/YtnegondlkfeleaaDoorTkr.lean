/- The document's taker of bytes. -/
import Derived.Test.YtnegondlkfeleaaDoorGtg
namespace Go.Proofs.YtnegondlkfeleaaDoor
open Go.RowKit

/-- The state of a taker: the bytes that are left, or what was wrong first. -/
abbrev TS := Except Int (List Int)
/-- What one step takes, and the state behind it; z: what it answers where something is wrong. -/
def run {α : Type} (P : List Int → Res α) (z : α) : TS → α × TS
  | .error k => (z, .error k)
  | .ok xs => match P xs with
    | .ok (a, r) => (a, .ok r)
    | .error k => (z, .error k)
/-- The taker in block t. -/
def Ts (w : World) (t : Nat) : TS → Prop
  | .ok xs => (∃ v, Blk w t 120 #[v, .int .i64 0] ∧ Bs w v xs ∧ (xs.length = 0 ∨ ∀ k, v.ownBlock = some k → k < t)) ∧ (∀ c ∈ xs, byt c) ∧ xs.length ≤ 4611686018427387904
  | .error k => k ≠ 0 ∧ ∃ v, Blk w t 120 #[v, .int .i64 k]
theorem rd_off_ {w w' : World} {size n t : Nat} {v : Value} {xs : List Value} (h : Rd w size v n xs) (hl : n = 0 ∨ ∀ k, v.ownBlock = some k → k < t) {r : Option Nat} (hg : w.grownBy w' r) (hr : ∀ k, r = some k → t ≤ k) : Rd w' size v n xs := by
  obtain ⟨A, c, rfl, hc, hx, hh⟩ := h
  refine ⟨A, c, rfl, hc, hx, ?_⟩
  rcases hh with h0 | ⟨g, o, rfl, hgl, hcell⟩
  · exact .inl h0
  rcases hl with h0 | hl
  · exact .inl h0
  · have hgB := hl g (by simp [Value.ownBlock])
    exact .inr ⟨g, o, rfl, Nat.lt_of_lt_of_le hgl hg.size, fun j u hj => (World.cell?_of_block (a := ⟨g, o + j, none⟩) (hg.block g hgl (fun e => by have := hr g e.symm; omega))).trans (hcell j u hj)⟩
theorem Ts.lt {w : World} {t : Nat} {s : TS} (h : Ts w t s) : t < w.heap.size := by
  cases s with
  | ok xs => obtain ⟨⟨v, hk, _⟩, _⟩ := h; exact hk.lt
  | error k => obtain ⟨_, v, hk⟩ := h; exact hk.lt
theorem Ts.grown {w w' : World} {t : Nat} {s : TS} (h : Ts w t s) {r : Option Nat} (hg : w.grownBy w' r) (hr : ∀ k, r = some k → t < k) : Ts w' t s := by
  cases s with
  | ok xs =>
    obtain ⟨⟨v, hk, hb, hl⟩, h1, h2⟩ := h
    exact ⟨⟨v, hk.grown hg (fun e => by have := hr t e.symm; omega), rd_off_ hb hl hg (fun k e => Nat.le_of_lt (hr k e)), hl⟩, h1, h2⟩
  | error k => obtain ⟨h0, v, hk⟩ := h; exact ⟨h0, v, hk.grown hg (fun e => by have := hr t e.symm; omega)⟩
theorem Ts.below {w w' : World} {t : Nat} {s : TS} (h : Ts w t s) (hb : Below w.heap.size w w') : Ts w' t s := h.grown (grown_below_ hb none) (fun _ e => by cases e)
theorem Ts.errno {w : World} {t : Nat} {s : TS} (h : Ts w t s) : ∃ k, w.cell? ⟨t, 1, none⟩ = some (.int .i64 k) ∧ (∀ xs, s = .ok xs → k = 0) ∧ (∀ j, s = .error j → k = j ∧ k ≠ 0) := by
  match s, h with
  | .ok xs, ⟨⟨v, hk, _⟩, _⟩ => exact ⟨0, by rw [hk.cell]; rfl, fun _ _ => rfl, fun _ e => by cases e⟩
  | .error k, ⟨h0, v, hk⟩ =>
    refine ⟨k, by rw [hk.cell]; rfl, ?_, ?_⟩
    · intro xs e; cases e
    · intro j e; injection e with e; exact ⟨e, h0⟩
theorem Ts.store {w : World} {t : Nat} {v0 v : Value} {xs : List Int} (hk : Blk w t 120 #[v0, .int .i64 0]) (hb : Bs w v xs) (hby : ∀ c ∈ xs, byt c) (hl : xs.length ≤ 4611686018427387904) (hw : xs.length = 0 ∨ ∀ k, v.ownBlock = some k → k < t) : Ts (w.setCell ⟨t, 0, none⟩ v) t (.ok xs) := by
  refine ⟨⟨v, by have := hk.set_ 0 v; simpa using this, rd_off_ (t := t) hb hw (grown_set_ w t 0 v) (fun k e => by cases e; exact Nat.le_refl _), hw⟩, hby, hl⟩

set_option maxHeartbeats 2000000 in
theorem tbyte_any (t : Nat) (s : TS) (w : World) (h : Ts w t s) :
    Calls Tryd.prog 85 #[.pointer (some ⟨t, 0, none⟩)] w fun e w' => e = .returned (.int .u8 (run byteP 0 s).1) ∧ Ts w' t (run byteP 0 s).2 ∧ w.grownBy w' (some t) := by
  match s, h with
  | .error k, ⟨h0, v, hk⟩ =>
    have HK := Lib.hid hk
    have c1 := hk.cell 1
    simp only [List.getElem?_toArray, List.getElem?_cons_zero, List.getElem?_cons_succ] at c1
    have hk1 : (k != 0) = true := by simpa using h0
    have H0 := Lib.hid h0
    clear hk h0
    go_enter Tryd.func85, Tryd.ntmps85
    go_wp2
    go_ret
    exact ⟨rfl, ⟨H0.out, v, HK.out⟩, grown_refl_ _ _⟩
  | .ok [], ⟨⟨v, hk, hb, hl⟩, h1, h2⟩ =>
    have HK := Lib.hid hk
    have c0 := hk.cell 0
    have c1 := hk.cell 1
    have f := hk.free
    simp only [List.getElem?_toArray, List.getElem?_cons_zero, List.getElem?_cons_succ] at c0 c1
    obtain ⟨A, c, rfl, -⟩ := id hb
    clear hk hb hl h1 h2
    go_enter Tryd.func85, Tryd.ntmps85
    go_wp2
    go_ret
    refine ⟨rfl, ⟨by decide, .slice A 0 c, ?_⟩, grown_set_ _ _ _ _⟩
    have := HK.out.set_ 1 (.int .i64 5)
    simpa using this
  | .ok (x :: r), ⟨⟨v, hk, hb, hw⟩, h1, h2⟩ =>
    obtain ⟨A, c, rfl, hc, hlx, hh⟩ := id hb
    rcases hh with h0 | ⟨g, o, rfl, hg, hcell⟩
    · cases h0
    have hgt : g < t := by
      rcases hw with h | h
      · simp at h
      · exact h g rfl
    obtain ⟨_, _, hd⟩ := Bs.drop hb 1 (by simp)
    have hx := hcell 0 (.int .u8 x) rfl
    rw [Nat.add_zero] at hx
    have HD := Lib.hid (hd g o rfl)
    obtain ⟨m, hm⟩ : ∃ m, m = (x :: r).length := ⟨_, rfl⟩
    have M := Lib.hid hm
    have c0 := hk.cell 0
    have c1 := hk.cell 1
    simp only [List.getElem?_toArray, List.getElem?_cons_zero, List.getElem?_cons_succ, ← hm] at c0 c1
    have hfz := hk.free
    have HK := Lib.hid hk
    have HB := Lib.hid (show ∀ y ∈ r, byt y from fun y hy => h1 y (by simp [hy]))
    have HL := Lib.hid (show r.length ≤ 4611686018427387904 by simp at h2; omega)
    have hm0 : 0 < m := by rw [hm]; simp
    rw [← hm] at HD HK hc
    have hm0' : 0 < (m : Int) := by omega
    have hm1' : (1 : Int) ≤ (m : Int) := by omega
    have hmc' : (m : Int) ≤ (c : Int) := by omega
    have hmc1' : (1 : Int) ≤ (c : Int) := by omega
    have hml' : (m : Int) ≤ 4611686018427387904 := by rw [hm]; omega
    have hmz : ¬ (m : Int) = 0 := by omega
    clear hk hb hw h1 h hd hlx hm h2 hcell hc
    go_enter Tryd.func85, Tryd.ntmps85
    go_wp2
    · refine bodyPost_ret (results_tmp rfl _ _ _) rfl ⟨rfl, Ts.store HK.out (Bs.empty (ys := r) ?_ (by omega)) HB.out HL.out (.inr (fun k hk => by simp [Value.ownBlock] at hk; omega)), grown_set_ _ _ _ _⟩
      have hM := M.out
      simp at hM
      exact List.eq_nil_of_length_eq_zero (by omega)
    · exact bodyPost_ret (results_tmp rfl _ _ _) rfl ⟨rfl, Ts.store HK.out HD.out HB.out HL.out (.inr (fun k hk => by simp [Value.ownBlock] at hk; omega)), grown_set_ _ _ _ _⟩

theorem Ts.fail {w : World} {t : Nat} {s : TS} (h : Ts w t s) {k : Int} (hk : k ≠ 0) : Ts (w.setCell ⟨t, 1, none⟩ (.int .i64 k)) t (.error k) := by
  cases s with
  | ok xs => obtain ⟨⟨v, hb, _⟩, _⟩ := h; exact ⟨hk, v, by have := hb.set_ 1 (.int .i64 k); simpa using this⟩
  | error j => obtain ⟨_, v, hb⟩ := h; exact ⟨hk, v, by have := hb.set_ 1 (.int .i64 k); simpa using this⟩
theorem Ts.free {w : World} {t : Nat} {s : TS} (h : Ts w t s) (i : Nat) : w.frozen? ⟨t, i, none⟩ = false := by
  cases s with
  | ok xs => obtain ⟨⟨v, hb, _⟩, _⟩ := h; exact hb.free i
  | error j => obtain ⟨_, v, hb⟩ := h; exact hb.free i
/-- A number, as the document takes it. -/
def nGo : Nat → Nat → Nat → List Int → Nat × TS
  | 0, _, _, _ => (0, .error 4)
  | _ + 1, _, _, [] => (0, .error 5)
  | f + 1, i, acc, c :: r => if i = 9 ∧ 1 < c ∨ 0 < i ∧ c = 0 then (0, .error 4) else if c < 128 then (acc + c.toNat % 128 * 2 ^ (7 * i), .ok r) else nGo f (i + 1) (acc + c.toNat % 128 * 2 ^ (7 * i)) r
theorem tkGo_at : ∀ (f i acc : Nat) (ys : List Int), (tkGo f i acc ys).2.2 = 0 → i < (tkGo f i acc ys).2.1
  | 0, _, _, _, h => by simp [tkGo] at h
  | _ + 1, _, _, [], h => by simp [tkGo] at h
  | f + 1, i, acc, c :: r, h => by
    unfold tkGo at h ⊢
    split at h
    · simp at h
    · rename_i h1
      rw [if_neg h1]
      split at h
      · rename_i h2
        rw [if_pos h2]
        split at h
        · simp at h
        · rename_i h3; rw [if_neg h3]; simp
      · rename_i h2
        rw [if_neg h2]
        have := tkGo_at f (i + 1) _ r h
        omega
theorem nGo_tk : ∀ (f i acc : Nat) (ys : List Int), nGo f i acc ys = if (tkGo f i acc ys).2.2 = 0 then ((tkGo f i acc ys).1, .ok (ys.drop ((tkGo f i acc ys).2.1 - i))) else (0, .error (tkGo f i acc ys).2.2)
  | 0, _, _, _ => by simp [nGo, tkGo]
  | _ + 1, _, _, [] => by simp [nGo, tkGo]
  | f + 1, i, acc, c :: r => by
    by_cases h1 : i = 9 ∧ 1 < c
    · simp [nGo, tkGo, h1]
    by_cases h2 : c < 128
    · by_cases h3 : c = 0 ∧ 0 < i
      · have h4 : i = 9 ∧ 1 < c ∨ 0 < i ∧ c = 0 := .inr ⟨h3.2, h3.1⟩
        unfold nGo tkGo
        rw [if_pos h4, if_neg h1]
        simp [h3]
      · have h4 : ¬ (i = 9 ∧ 1 < c ∨ 0 < i ∧ c = 0) := by
          rintro (h | h)
          · exact h1 h
          · exact h3 ⟨h.2, h.1⟩
        unfold nGo tkGo
        rw [if_neg h4, if_neg h1]
        simp only [if_pos h2, if_neg h3]
        simp
    · have h4 : ¬ (i = 9 ∧ 1 < c ∨ 0 < i ∧ c = 0) := by
        rintro (h | h)
        · exact h1 h
        · omega
      have e1 : nGo (f + 1) i acc (c :: r) = nGo f (i + 1) (acc + c.toNat % 128 * 2 ^ (7 * i)) r := by
        conv => lhs; unfold nGo
        rw [if_neg h4, if_neg h2]
      have e2 : tkGo (f + 1) i acc (c :: r) = tkGo f (i + 1) (acc + c.toNat % 128 * 2 ^ (7 * i)) r := by
        conv => lhs; unfold tkGo
        rw [if_neg h1, if_neg h2]
      rw [e1, e2, nGo_tk f (i + 1) _ r]
      by_cases h5 : (tkGo f (i + 1) (acc + c.toNat % 128 * 2 ^ (7 * i)) r).2.2 = 0
      · rw [if_pos h5, if_pos h5]
        have := tkGo_at _ _ _ _ h5
        rw [show (tkGo f (i + 1) (acc + c.toNat % 128 * 2 ^ (7 * i)) r).2.1 - i = ((tkGo f (i + 1) (acc + c.toNat % 128 * 2 ^ (7 * i)) r).2.1 - (i + 1)) + 1 from by omega, List.drop_succ_cons]
      · rw [if_neg h5, if_neg h5]
theorem nGo_num (xs : List Int) : nGo 10 0 0 xs = run numP 0 (.ok xs) := by
  rw [nGo_tk]
  unfold run numP tk
  by_cases h : (tkGo 10 0 0 xs).2.2 = 0
  · simp [if_pos h]
  · simp [if_neg h]

set_option maxHeartbeats 8000000 in
set_option maxRecDepth 100000 in
theorem tnum_any (t : Nat) (s : TS) (w : World) (h : Ts w t s) :
    Calls Tryd.prog 51 #[.pointer (some ⟨t, 0, none⟩)] w fun e w' => e = .returned (.int .u64 (run numP 0 s).1) ∧ Ts w' t (run numP 0 s).2 ∧ w.grownBy w' (some t) := by
  match s, h with
  | .error k, h =>
    have H := Lib.hid h
    clear h
    go_enter Tryd.func51, Tryd.ntmps51
    go_wp2
    go_loopg [3, 4] 1 (fun q c3 c4 wr => q = 1 ∧ c3 = .int .u64 0 ∧ c4 = .int .i64 0 ∧ wr = w)
    case atStart => exact ⟨rfl, rfl, rfl, rfl⟩
    case round =>
      obtain ⟨-, rfl, rfl, rfl⟩ := hrel
      go_wp2_with fail
      refine (tbyte_any t _ _ H.out).mono ?_
      rintro e w1 ⟨rfl, hs, hg⟩
      obtain ⟨j, hj, -, hj2⟩ := hs.errno
      have hj3 := (hj2 k rfl).2
      have hj4 : (j != 0) = true := by simpa using hj3
      have HS := Lib.hid hs
      have HG := Lib.hid hg
      clear hs hg hj2
      go_wp2
      go_ret
      exact ⟨rfl, HS.out, HG.out⟩
  | .ok xs, h =>
    have H := Lib.hid h
    have N := Lib.hid (nGo_num xs)
    rw [← N.out]
    clear h
    go_enter Tryd.func51, Tryd.ntmps51
    go_wp2
    go_loopg [3, 4] 10 (fun q c3 c4 wr => ∃ (i acc : Nat) (ys : List Int), i ≤ 10 ∧ q = 10 - i ∧ c3 = .int .u64 acc ∧ c4 = .int .i64 i ∧ acc < 2 ^ (7 * i) ∧ Ts wr t (.ok ys) ∧ w.grownBy wr (some t) ∧ nGo 10 0 0 xs = nGo (10 - i) i acc ys)
    case atStart => exact ⟨0, 0, xs, by omega, rfl, rfl, rfl, by decide, H.out, grown_refl_ _ _, rfl⟩
    case round =>
      obtain ⟨i, acc, ys, hi, hq, rfl, rfl, hacc, hs, hg, hn⟩ := hrel
      have HQ := Lib.hid hq
      have HA := Lib.hid hacc
      have HS := Lib.hid hs
      have HG := Lib.hid hg
      have HN := Lib.hid hn
      have hfz := hs.free 1
      obtain ⟨j0, c1, hj0, -⟩ := hs.errno
      obtain rfl := hj0 ys rfl
      clear hq hacc hs hg hn hj0
      by_cases h10 : i < 10
      · have h10' : (i : Int) < 10 := by omega
        obtain ⟨f, hf⟩ : ∃ f, 10 - i = f + 1 := ⟨9 - i, by omega⟩
        go_wp2_with fail
        refine (tbyte_any t (.ok ys) _ HS.out).mono ?_
        rintro e w1 ⟨rfl, hs1, hg1⟩
        have G1 := Lib.hid (grown_trans_ HG.out hg1)
        match ys, HS, HN, hs1 with
        | [], _, HN, hs1 =>
          obtain ⟨j, hj, -, hj2⟩ := hs1.errno
          obtain rfl := (hj2 5 rfl).1
          have S1 := Lib.hid hs1
          have NN := Lib.hid (show nGo 10 0 0 xs = (0, .error 5) by rw [HN.out, hf]; rfl)
          clear hs1 hg1 hj2 c1
          go_wp2
          go_ret
          rw [NN.out]
          exact ⟨rfl, S1.out, G1.out⟩
        | c :: r, HS, HN, hs1 =>
          obtain ⟨j, hj, hj1, -⟩ := hs1.errno
          obtain rfl := hj1 r rfl
          have hcb := HS.out.2.1 c (by simp)
          obtain ⟨n, rfl⟩ : ∃ n : Nat, c = (n : Int) := ⟨c.toNat, by have := hcb.1; omega⟩
          have hn256 : n < 256 := by have := hcb.2; omega
          have hz1 := hs1.free 1
          have S1 := Lib.hid (show Ts w1 t (.ok r) from hs1)
          clear hs1 hg1 hj1 c1 hcb hfz HS
          have er : (run byteP 0 (Except.ok ((n : Int) :: r))).1 = (n : Int) := rfl
          rw [er]
          clear er
          go_upto_region 8 with fail
          go_cut [32] (fun s32 wx => s32 = .bool (decide (i = 9 ∧ 1 < n ∨ 0 < i ∧ n = 0)) ∧ wx = w1)
          case first =>
            by_cases a9 : i = 9
            · have b9 : ((i : Int) == 9) = true := by rw [a9]; rfl
              have a2' : (0 : Int) < i := by omega
              have A9 := Lib.hid a9
              clear a9
              by_cases a1 : 1 < n
              · have a1' : (1 : Int) < n := by omega
                go_wp2
                go_meet
                exact ⟨by simp [A9.out, a1], rfl⟩
              · have a1' : ¬ (1 : Int) < n := by omega
                by_cases a0 : n = 0
                · have b0 : ((n : Int) == 0) = true := by rw [a0]; rfl
                  have A0 := Lib.hid a0
                  clear a0
                  go_wp2
                  go_meet
                  exact ⟨by simp [A9.out, A0.out], rfl⟩
                · have b0 : ((n : Int) == 0) = false := by rw [beq_eq_false_iff_ne]; omega
                  have A0 := Lib.hid a0
                  clear a0
                  go_wp2
                  go_meet
                  exact ⟨by simp [A9.out, a1, A0.out], rfl⟩
            · have a9' : ¬ (i : Int) = 9 := by omega
              by_cases a2 : 0 < i
              · have a2' : (0 : Int) < i := by omega
                by_cases a0 : n = 0
                · have b0 : ((n : Int) == 0) = true := by rw [a0]; rfl
                  have A0 := Lib.hid a0
                  clear a0
                  go_wp2
                  go_meet
                  exact ⟨by simp [a9, A0.out, a2], rfl⟩
                · have b0 : ((n : Int) == 0) = false := by rw [beq_eq_false_iff_ne]; omega
                  have A0 := Lib.hid a0
                  clear a0
                  go_wp2
                  go_meet
                  exact ⟨by simp [a9, A0.out, a2], rfl⟩
              · have a2' : ¬ (0 : Int) < i := by omega
                go_wp2
                go_meet
                exact ⟨by simp [a9, a2], rfl⟩
          case rest =>
          obtain ⟨rfl, rfl⟩ := hcut
          by_cases hbad : i = 9 ∧ 1 < n ∨ 0 < i ∧ n = 0
          · have NN := Lib.hid (show nGo 10 0 0 xs = (0, .error 4) by
              rw [HN.out, hf]
              unfold nGo
              rw [if_pos (by omega)])
            rw [decide_eq_true hbad]
            go_wp2
            go_ret
            rw [NN.out]
            exact ⟨rfl, S1.out.fail (by decide), grown_trans_ G1.out (grown_set_ _ _ _ _)⟩
          · rw [decide_eq_false hbad]
            go_wp2_with fail
            have part : ∀ k, k ≤ i → n % 128 * 128 ^ k < 18446744073709551616 := by
              intro k hk
              by_cases h9 : i = 9
              · have h1 : n % 128 ≤ 1 := by omega
                have h2 : 128 ^ k ≤ 128 ^ 9 := Nat.pow_le_pow_right (by decide) (by omega)
                have h3 := Nat.mul_le_mul h1 h2
                have : (1 : Nat) * 128 ^ 9 < 18446744073709551616 := by decide
                omega
              · have h1 : n % 128 ≤ 127 := by omega
                have h2 : 128 ^ k ≤ 128 ^ 8 := Nat.pow_le_pow_right (by decide) (by omega)
                have h3 := Nat.mul_le_mul h1 h2
                have : (127 : Nat) * 128 ^ 8 < 18446744073709551616 := by decide
                omega
            have PT := Lib.hid part
            have hpw : n % 128 * 128 ^ i = n % 128 * 2 ^ (7 * i) := by rw [Nat.pow_mul]
            have HPW := Lib.hid hpw
            have HB9 := Lib.hid hbad
            have HF := Lib.hid hf
            clear part hpw hbad hf
            go_loopg [6, 7] i (fun q c6 c7 wx => ∃ k : Nat, k ≤ i ∧ q = i - k ∧ c6 = .int .u64 ((n % 128 * 128 ^ k : Nat) : Int) ∧ c7 = .int .i64 k ∧ wx = wc)
            case atStart => exact ⟨0, Nat.zero_le _, rfl, by simp, rfl, rfl⟩
            case round =>
              obtain ⟨k, hk, hqk, rfl, rfl, rfl⟩ := hrel
              have HQK := Lib.hid hqk
              clear hqk
              by_cases hki : k < i
              · have hki' : (k : Int) < i := by omega
                have hmul : IntKind.u64.wrap (((n % 128 * 128 ^ k : Nat) : Int) * 128) = ((n % 128 * 128 ^ (k + 1) : Nat) : Int) := by
                  have h1 := PT.out (k + 1) (by omega)
                  have h2 : n % 128 * 128 ^ (k + 1) = n % 128 * 128 ^ k * 128 := by rw [Nat.pow_succ, Nat.mul_assoc]
                  rw [IntKind.wrap_u64]
                  omega
                obtain ⟨pk, hpk⟩ : ∃ p : Nat, p = n % 128 * 128 ^ k := ⟨_, rfl⟩
                obtain ⟨pk1, hpk1⟩ : ∃ p : Nat, p = n % 128 * 128 ^ (k + 1) := ⟨_, rfl⟩
                rw [← hpk, ← hpk1] at hmul
                rw [← hpk]
                have HPK := Lib.hid hpk1
                clear hpk hpk1
                go_wp2
                go_roundg (i - (k + 1))
                case measure => have := HQK.out; omega
                case rel => exact ⟨k + 1, by omega, rfl, by rw [HPK.out], by go_num, rfl⟩
              · obtain rfl : k = i := by omega
                have hw : IntKind.u64.wrap ((acc : Int) + ((n % 128 * 128 ^ k : Nat) : Int)) = ((acc + n % 128 * 2 ^ (7 * k) : Nat) : Int) := by
                  have h1 := HPW.out
                  have h2 := HA.out
                  have h4 : n % 128 * 2 ^ (7 * k) + acc < 18446744073709551616 := by
                    by_cases h9 : k = 9
                    · subst h9
                      have := HB9.out
                      have h5 : n % 128 ≤ 1 := by omega
                      have h6 := Nat.mul_le_mul_right (2 ^ (7 * 9)) h5
                      have : (2 : Nat) ^ (7 * 9) = 9223372036854775808 := by decide
                      omega
                    · have h5 : n % 128 ≤ 127 := by omega
                      have h6 := Nat.mul_le_mul_right (2 ^ (7 * k)) h5
                      have h7 : 2 ^ (7 * k) ≤ 2 ^ (7 * 8) := Nat.pow_le_pow_right (by decide) (by omega)
                      have : (2 : Nat) ^ (7 * 8) = 72057594037927936 := by decide
                      omega
                  rw [IntKind.wrap_u64]
                  omega
                obtain ⟨pk, hpk⟩ : ∃ p : Nat, p = n % 128 * 128 ^ k := ⟨_, rfl⟩
                obtain ⟨ac, hac⟩ : ∃ p : Nat, p = acc + n % 128 * 2 ^ (7 * k) := ⟨_, rfl⟩
                rw [← hpk, ← hac] at hw
                rw [← hpk]
                have HAC := Lib.hid hac
                clear hpk hac
                have hfk := HF.out
                have nbad : ¬ (k = 9 ∧ (1 : Int) < (n : Int) ∨ 0 < k ∧ (n : Int) = 0) := by have := HB9.out; omega
                have NB := Lib.hid nbad
                clear nbad
                by_cases h128 : n < 128
                · have h128' : (n : Int) < 128 := by omega
                  have NN := Lib.hid (show nGo 10 0 0 xs = (ac, .ok r) by
                    rw [HN.out, hfk, HAC.out]
                    unfold nGo
                    rw [if_neg NB.out, if_pos h128']
                    simp)
                  clear hfk
                  go_wp2
                  go_ret
                  rw [NN.out]
                  exact ⟨rfl, S1.out, G1.out⟩
                · have h128' : ¬ (n : Int) < 128 := by omega
                  have NN := Lib.hid (show nGo 10 0 0 xs = nGo f (k + 1) ac r by
                    rw [HN.out, hfk, HAC.out]
                    conv => lhs; unfold nGo
                    rw [if_neg NB.out, if_neg h128']
                    simp)
                  clear hfk
                  go_wp2
                  go_roundg (10 - (k + 1))
                  case measure => have := HQ.out; omega
                  case rel =>
                    refine ⟨k + 1, ac, r, by omega, rfl, rfl, by go_num, ?_, S1.out, G1.out, ?_⟩
                    · rw [HAC.out]
                      have h1 := HA.out
                      have h2 : n % 128 ≤ 127 := by omega
                      have h3 := Nat.mul_le_mul_right (2 ^ (7 * k)) h2
                      have h4 : 2 ^ (7 * (k + 1)) = 2 ^ (7 * k) * 128 := by rw [show 7 * (k + 1) = 7 * k + 7 from by omega, Nat.pow_add]
                      rw [h4]
                      omega
                    · rw [NN.out, show 10 - (k + 1) = f from by have := HF.out; omega]
      · obtain rfl : i = 10 := by omega
        have NN := Lib.hid (show nGo 10 0 0 xs = (0, .error 4) by rw [HN.out]; rfl)
        go_wp2
        go_ret
        rw [NN.out]
        exact ⟨rfl, HS.out.fail (by decide), grown_trans_ HG.out (grown_set_ _ _ _ _)⟩
end Go.Proofs.YtnegondlkfeleaaDoor
