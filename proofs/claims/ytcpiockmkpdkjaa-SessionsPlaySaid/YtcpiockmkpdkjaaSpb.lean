/- sessions: a book off bytes has just these bytes; the bytes of a book are read as it. -/
import Derived.Test.YtcpiockmkpdkjaaSof
namespace Go.Proofs.Ytcpiockmkpdkjaa
open Go.RowKit

theorem uptoB_zero {B : Nat → Sp} {k : Nat} : ∀ j, k ≤ j → (∀ i, k ≤ i → i < j → (B i).num = 0) → uptoB B j = uptoB B k ∧ manyB B j = manyB B k
  | 0, hk, _ => by obtain rfl : k = 0 := by omega
                   exact ⟨rfl, rfl⟩
  | j + 1, hk, h => by
    by_cases hj : k = j + 1
    · subst hj; exact ⟨rfl, rfl⟩
    · have ih := uptoB_zero j (by omega) (fun i h1 h2 => h i h1 (by omega))
      have h0 := h j (by omega) (by omega)
      rw [uptoB_succ, manyB_succ, partB, if_pos h0, if_pos h0, List.append_nil, Nat.add_zero]
      exact ih
theorem uptoB_congr {B B' : Nat → Sp} : ∀ k, (∀ i, i < k → B i = B' i) → uptoB B k = uptoB B' k ∧ manyB B k = manyB B' k
  | 0, _ => ⟨rfl, rfl⟩
  | k + 1, h => by
    have ih := uptoB_congr k (fun i hi => h i (by omega))
    rw [uptoB_succ, uptoB_succ, manyB_succ, manyB_succ, ih.1, ih.2, partB, partB, h k (by omega)]
    exact ⟨rfl, rfl⟩
theorem noteE_ok {B : Nat → Sp} {c : Int} {n : Nat} {k : Nat} (h : noteE B c n k = 0) : 1 ≤ c ∧ c ≤ 8 ∧ k ≤ 8 ∧ (B (c - 1).toNat).num < n := by
  unfold noteE at h
  split at h
  · cases h
  · split at h
    · cases h
    · split at h
      · cases h
      · omega
/-- What a page's bytes are, from what is read of them. -/
theorem oneB_back {B B' : Nat → Sp} {xs rest : List Int} {c : Int} (hb : ∀ c ∈ xs, byt c) (h : oneB B xs = some (c, B', rest)) :
    ∃ p : Sp, xs = c :: (pB p ++ rest) ∧ 1 ≤ c ∧ c ≤ 8 ∧ B' = updB B (c - 1).toNat p ∧ (B (c - 1).toNat).num < p.num ∧ p.gs.length ≤ 8 ∧ p.num ≤ 18446744073709551615 ∧ replyOk ([p.e, p.a], p.gs) := by
  unfold oneB at h
  split at h
  · rename_i c2 num E A gs r3 h2
    split at h
    · rename_i hn
      injection h with h; injection h with h1 h; injection h with h2' h3; subst h1; subst h3
      obtain ⟨e1, e2, e3, e4⟩ := noteE_ok hn
      match xs, h2, hb with
      | [], h2, _ => cases h2
      | x :: l, h2, hb =>
        have hbl : ∀ c ∈ l, byt c := fun c hc => hb c (by simp [hc])
        simp only [oneP] at h2
        split at h2
        · cases h2
        · rename_i n1 r1 hn1
          split at h2
          · cases h2
          · rename_i l1 r2 hn2
            split at h2
            · cases h2
            · rename_i hnz
              split at h2
              · cases h2
              · rename_i rep hrep
                injection h2 with h2; injection h2 with k1 h2; injection h2 with k2 h2; injection h2 with k3 k4
                subst k1; subst k2; subst k3; subst k4
                obtain ⟨s1, t1, q1⟩ := numP_ok hn1
                obtain ⟨b1, -, -, b1'⟩ := tk_back hbl t1
                have hb1 : ∀ c ∈ r1, byt c := fun c hc => hbl c (by rw [q1] at hc; exact List.mem_of_mem_drop hc)
                obtain ⟨s2, t2, q2⟩ := numP_ok hn2
                obtain ⟨b2, -, -, -⟩ := tk_back hb1 t2
                have hb2 : ∀ c ∈ r2.take l1, byt c := fun c hc => hb1 c (by rw [q2] at hc; exact List.mem_of_mem_drop (List.mem_of_mem_take hc))
                obtain ⟨q3, hok⟩ := cod_all cod_reply hb2 hrep
                have hlen : (r2.take l1).length = l1 := by rw [List.length_take]; omega
                refine ⟨⟨n1, E, A, gs⟩, ?_, e1, e2, ?_, e4, e3, by simp only; omega, hok⟩
                · have e5 : l = nb n1 ++ r1 := by rw [b1, q1, List.take_append_drop]
                  have e6 : r1 = nb l1 ++ r2 := by rw [b2, q2, List.take_append_drop]
                  unfold pB rB
                  simp only [Int.toNat_natCast]
                  rw [← q3, hlen, List.append_assoc, List.append_assoc, List.take_append_drop, ← e6, ← e5]
                · rw [← h2']
                  unfold noteB
                  rw [if_pos hn]
    · cases h
  · cases h
theorem ofGo_back : ∀ (m : Nat) (left : List Int) (bf : Nat) (B0 B : Nat → Sp), (∀ c ∈ left, byt c) → bf ≤ 8 → (∀ i, bf ≤ i → i < 8 → (B0 i).num = 0) → ofGo m left bf B0 = some B →
    uptoB B0 bf ++ left = uptoB B 8 ∧ manyB B0 bf + m = manyB B 8
  | 0, left, bf, B0, B, hb, h8, hz, h => by
    rw [ofGo] at h
    split at h
    · rename_i hl
      injection h with h
      subst h; subst hl
      have := uptoB_zero (B := B0) 8 h8 hz
      rw [this.1, this.2, List.append_nil, Nat.add_zero]
      exact ⟨rfl, rfl⟩
    · cases h
  | m + 1, left, bf, B0, B, hb, h8, hz, h => by
    rw [ofGo] at h
    split at h
    · cases h
    · rename_i c B' rest ho
      split at h
      · cases h
      · rename_i hcl
        obtain ⟨p, hx, h1, h2, hB', hlt, -, -, -⟩ := oneB_back hb ho
        obtain ⟨k, rfl⟩ : ∃ k : Nat, c = k + 1 := ⟨(c - 1).toNat, by omega⟩
        have ek : ((k : Int) + 1 - 1).toNat = k := by omega
        rw [ek] at hB' hlt
        have hk0 : (B0 k).num = 0 := hz k (by omega) (by omega)
        have hbr : ∀ c ∈ rest, byt c := fun c hc => hb c (by rw [hx]; simp [hc])
        have hB'k : B' k = p := by rw [hB']; unfold updB; rw [if_pos rfl]
        have hB'o : ∀ i, i ≠ k → B' i = B0 i := fun i hi => by rw [hB']; unfold updB; rw [if_neg hi]
        have e1 : ((k : Int) + 1) = ((k + 1 : Nat) : Int) := by omega
        rw [e1] at h
        have ih := ofGo_back m rest (k + 1) B' B hbr (by omega) (fun i hi h8' => by rw [hB'o i (by omega)]; exact hz i (by omega) h8') h
        have hc := uptoB_congr (B := B') (B' := B0) k (fun i hi => hB'o i (by omega))
        have hzz := uptoB_zero (B := B0) (k := bf) k (by omega) (fun i q1 q2 => hz i q1 (by omega))
        have hp0 : ¬ p.num = 0 := by omega
        rw [uptoB_succ, manyB_succ, hc.1, hc.2, hzz.1, hzz.2, hB'k, if_neg hp0, partB, hB'k, if_neg hp0] at ih
        rw [hx]
        constructor
        · rw [← ih.1]; simp
        · rw [← ih.2]; omega
/-- Of what bytes there is a book, these are its bytes. -/
theorem bookP_back {xs : List Int} {B : Nat → Sp} (hb : ∀ c ∈ xs, byt c) (h : bookP xs = some B) : xs = bookB B := by
  match xs, hb, h with
  | [], _, h => cases h
  | x :: r, hb, h =>
    have h0 := hb x (by simp)
    have := ofGo_back x.toNat r 0 (fun _ => Sp.zero) B (fun c hc => hb c (by simp [hc])) (by omega) (fun _ _ _ => rfl) h
    unfold bookB
    rw [← this.1, ← this.2]
    have e : uptoB (fun _ => Sp.zero) 0 = [] := rfl
    have e2 : manyB (fun _ => Sp.zero) 0 = 0 := rfl
    rw [e, e2, List.nil_append, Nat.zero_add, Int.toNat_of_nonneg h0.1]

/-- The parts of the pages from k on, so many. -/
def sufB (B : Nat → Sp) : Nat → Nat → List Int
  | _, 0 => []
  | k, d + 1 => partB B k ++ sufB B (k + 1) d
def cntB (B : Nat → Sp) : Nat → Nat → Nat
  | _, 0 => 0
  | k, d + 1 => (if (B k).num = 0 then 0 else 1) + cntB B (k + 1) d
theorem sufB_upto (B : Nat → Sp) : ∀ d k, uptoB B (k + d) = uptoB B k ++ sufB B k d ∧ manyB B (k + d) = manyB B k + cntB B k d
  | 0, k => by simp [sufB, cntB]
  | d + 1, k => by
    have := sufB_upto B d (k + 1)
    rw [show k + (d + 1) = k + 1 + d from by omega, this.1, this.2, uptoB_succ, manyB_succ, sufB, cntB, List.append_assoc, Nat.add_assoc]
    exact ⟨rfl, rfl⟩
theorem oneP_page {p : Sp} (h : SpOk p) (hp : ¬ p.num = 0) (c : Int) (rest : List Int) : oneP (c :: (pB p ++ rest)) = some (c, p.num.toNat, ([p.e, p.a], p.gs), rest) := by
  have h1 := rB_len h
  have h2 := h.lo
  have h3 := h.hi
  have e1 : numP (pB p ++ rest) = .ok (p.num.toNat, nb (rB p).length ++ rB p ++ rest) := by
    unfold pB
    rw [List.append_assoc, List.append_assoc, numP_nb (by omega), List.append_assoc]
  have e2 : numP (nb (rB p).length ++ rB p ++ rest) = .ok ((rB p).length, rB p ++ rest) := by
    rw [List.append_assoc, numP_nb (by omega)]
  have e3 : ¬ (p.num.toNat = 0 ∨ (rB p ++ rest).length < (rB p).length) := by simp only [List.length_append]; omega
  have e4 : allP (replyP ((rB p ++ rest).take (rB p).length)) = .ok ([p.e, p.a], p.gs) := by
    rw [List.take_left']
    · exact all_get cod_reply (rB_ok h)
    · rfl
  rw [oneP_ok e1 e2 e3 e4, List.drop_left']
  rfl
theorem ofGo_get {B : Nat → Sp} (hB : ∀ i, i < 8 → SpOk (B i)) : ∀ (d k bf : Nat) (B0 : Nat → Sp), k + d = 8 → bf ≤ k → (∀ i, i < k → B0 i = B i) → (∀ i, k ≤ i → i < 8 → B0 i = Sp.zero) →
    ∃ B', ofGo (cntB B k d) (sufB B k d) bf B0 = some B' ∧ ∀ i, i < 8 → B' i = B i
  | 0, k, bf, B0, hk, hbf, h1, h2 => ⟨B0, by rw [cntB, sufB, ofGo, if_pos rfl], fun i hi => h1 i (by omega)⟩
  | d + 1, k, bf, B0, hk, hbf, h1, h2 => by
    have hok := hB k (by omega)
    by_cases h0 : (B k).num = 0
    · rw [cntB, sufB, partB, if_pos h0, if_pos h0, List.nil_append, Nat.zero_add]
      refine ofGo_get hB d (k + 1) bf B0 (by omega) (by omega) (fun i hi => ?_) (fun i hi h8 => h2 i (by omega) h8)
      by_cases hik : i = k
      · subst hik; rw [h2 i (Nat.le_refl _) (by omega), hok.z h0]
      · exact h1 i (by omega)
    · rw [cntB, sufB, partB, if_neg h0, if_neg h0, Nat.add_comm 1, List.cons_append, ofGo]
      have e1 : noteE B0 ((k : Int) + 1) (B k).num.toNat (B k).gs.length = 0 := by
        unfold noteE
        have e2 : ((k : Int) + 1 - 1).toNat = k := by omega
        have e3 : (B0 k).num = 0 := by rw [h2 k (Nat.le_refl _) (by omega)]; rfl
        have := hok.few
        have := hok.lo
        rw [if_neg (by omega), if_neg (by omega), e2, e3, if_neg (by omega)]
      have e4 : oneB B0 (((k : Int) + 1) :: (pB (B k) ++ sufB B (k + 1) d)) = some ((k : Int) + 1, updB B0 k (B k), sufB B (k + 1) d) := by
        rw [oneB_some (oneP_page hok h0 _ _), if_pos e1]
        unfold noteB
        rw [if_pos e1, show ((k : Int) + 1 - 1).toNat = k from by omega, Int.toNat_of_nonneg hok.lo]
      rw [e4]
      simp only
      rw [if_neg (by omega), show ((k : Int) + 1) = ((k + 1 : Nat) : Int) from by omega]
      refine ofGo_get hB d (k + 1) (k + 1) (updB B0 k (B k)) (by omega) (Nat.le_refl _) (fun i hi => ?_) (fun i hi h8 => ?_)
      · unfold updB
        by_cases hik : i = k
        · rw [if_pos hik, hik]
        · rw [if_neg hik]; exact h1 i (by omega)
      · unfold updB
        rw [if_neg (by omega)]; exact h2 i (by omega) h8
/-- The bytes of a book are read as it. -/
theorem bookP_get {B : Nat → Sp} (hB : ∀ i, i < 8 → SpOk (B i)) : ∃ B', bookP (bookB B) = some B' ∧ ∀ i, i < 8 → B' i = B i := by
  obtain ⟨B', h1, h2⟩ := ofGo_get hB 8 0 0 (fun _ => Sp.zero) rfl (Nat.le_refl _) (fun i hi => by omega) (fun _ _ _ => rfl)
  refine ⟨B', ?_, h2⟩
  have := sufB_upto B 8 0
  unfold bookB
  have e : uptoB B 0 = [] := rfl
  have e2 : manyB B 0 = 0 := rfl
  rw [Nat.zero_add, e, e2, List.nil_append, Nat.zero_add] at this
  rw [this.1, this.2]
  exact h1
end Go.Proofs.Ytcpiockmkpdkjaa
