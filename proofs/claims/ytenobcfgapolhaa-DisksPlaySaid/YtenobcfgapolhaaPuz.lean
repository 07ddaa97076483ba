import Derived.Test.YtenobcfgapolhaaMemB
import Derived.Test.YtenobcfgapolhaaCloB
import Derived.Laws.Bits64b
/- A number's bytes: the code's Num and the document's. -/
namespace Go.Proofs.Ytenobcfgapolhaa
open Go.RowKit

/-- A number's bytes. -/
def nb (n : Nat) : List Int := if n < 128 then [(n : Int)] else ((n % 128 + 128 : Nat) : Int) :: nb (n / 128)
termination_by n
theorem nb_lt {n : Nat} (h : n < 128) : nb n = [(n : Int)] := by rw [nb, if_pos h]
theorem nb_ge {n : Nat} (h : ¬ n < 128) : nb n = ((n % 128 + 128 : Nat) : Int) :: nb (n / 128) := by rw [nb, if_neg h]
theorem nb_len_pos (n : Nat) : 0 < (nb n).length := by rw [nb]; split <;> simp
theorem nb_len_le : ∀ (k n : Nat), n < 128 ^ (k + 1) → (nb n).length ≤ k + 1
  | 0, n, h => by rw [nb_lt (by simpa using h)]; simp
  | k + 1, n, h => by
    by_cases h1 : n < 128
    · rw [nb_lt h1]; simp
    · rw [nb_ge h1]
      have := nb_len_le k (n / 128) (by rw [Nat.div_lt_iff_lt_mul (by omega)]; rw [Nat.pow_succ] at h; exact h)
      simp; omega
theorem nb_ten {n : Nat} (h : n < 18446744073709551616) : (nb n).length ≤ 10 := nb_len_le 9 n (by omega)
theorem nb_byt (n : Nat) : ∀ c ∈ nb n, byt c := by
  rw [nb]
  split
  · rename_i h; intro c hc; simp at hc; subst hc; exact ⟨by omega, by omega⟩
  · intro c hc
    rcases List.mem_cons.1 hc with rfl | hc
    · exact ⟨by omega, by omega⟩
    · exact nb_byt (n / 128) c hc
termination_by n
decreasing_by omega

set_option maxRecDepth 100000 in
theorem or128_ : ∀ j : Fin 256, bits .or .u8 (j.val : Int) 128 = ((j.val % 128 + 128 : Nat) : Int) := by decide
theorem or128 (k : Nat) : bits .or .u8 ((k : Int) % 256) 128 = ((k % 128 + 128 : Nat) : Int) := by
  have h := or128_ ⟨k % 256, Nat.mod_lt _ (by omega)⟩
  simp only at h
  rw [show (k : Int) % 256 = ((k % 256 : Nat) : Int) from by omega, h, show k % 256 % 128 = k % 128 from by omega]

end Go.Proofs.Ytenobcfgapolhaa

/- Taking a number off bytes. -/
namespace Go.Proofs.Ytenobcfgapolhaa
open Go.RowKit

/-- A number off bytes: the number, how many bytes it takes, what is wrong (5: too short, 4: another form). -/
def tkGo : Nat → Nat → Nat → List Int → Nat × Nat × Int
  | 0, _, _, _ => (0, 0, 4)
  | _ + 1, _, _, [] => (0, 0, 5)
  | f + 1, i, acc, c :: rest =>
    if i = 9 ∧ 1 < c then (0, 0, 4)
    else if c < 128 then (if c = 0 ∧ 0 < i then (0, 0, 4) else (acc + c.toNat % 128 * 2 ^ (7 * i), i + 1, 0))
    else tkGo f (i + 1) (acc + c.toNat % 128 * 2 ^ (7 * i)) rest
def tk (xs : List Int) : Nat × Nat × Int := tkGo 10 0 0 xs

set_option maxRecDepth 100000 in
theorem low7_ : ∀ j : Fin 256, bits .andNot .u8 (j.val : Int) 128 = ((j.val % 128 : Nat) : Int) := by decide
theorem low7 {d : Int} (h : byt d) : bits .andNot .u8 d 128 = ((d.toNat % 128 : Nat) : Int) := by
  have h1 := low7_ ⟨d.toNat, by have := h.2; have := h.1; omega⟩
  simp only at h1
  rw [← h1]
  congr 1
  have := h.1
  omega
theorem part_lt {m i : Nat} (hm : m < 128) (hi : i ≤ 9) (h9 : i = 9 → m ≤ 1) : m * 2 ^ (7 * i) < 18446744073709551616 := by
  by_cases h : i = 9
  · subst h
    have := h9 rfl
    have : m * 2 ^ (7 * 9) ≤ 1 * 2 ^ (7 * 9) := Nat.mul_le_mul_right _ this
    omega
  · have h2 : 2 ^ (7 * i) ≤ 2 ^ 56 := Nat.pow_le_pow_right (by omega) (by omega)
    have : m * 2 ^ (7 * i) ≤ 127 * 2 ^ 56 := Nat.mul_le_mul (by omega) h2
    omega
theorem join_ {d : Int} {i acc : Nat} (h : byt d) (hi : i ≤ 9) (h9 : i = 9 → d ≤ 1) (ha : acc < 2 ^ (7 * i)) :
    bits .or .u64 (acc : Int) (IntKind.u64.wrap (IntKind.u64.wrap (bits .andNot .u8 d 128) * 2 ^ (7 * i))) = ((acc + d.toNat % 128 * 2 ^ (7 * i) : Nat) : Int) := by
  have hm : d.toNat % 128 < 128 := Nat.mod_lt _ (by omega)
  have hp := part_lt hm hi (fun e => by have := h9 e; have := h.1; omega)
  have ha64 : acc < 18446744073709551616 := Nat.lt_of_lt_of_le ha (by
    have : 2 ^ (7 * i) ≤ 2 ^ 63 := Nat.pow_le_pow_right (by omega) (by omega)
    omega)
  rw [low7 h, IntWalk.u64_in ((d.toNat % 128 : Nat) : Int) (by omega), show (((d.toNat % 128 : Nat) : Int) * 2 ^ (7 * i)) = ((d.toNat % 128 * 2 ^ (7 * i) : Nat) : Int) from by rw [Int.natCast_mul, Int.natCast_pow]; rfl,
    IntWalk.u64_in _ (by omega), bits_or_u64_nat _ _ ha64 hp, Nat.or_comm, ← Nat.shiftLeft_eq, ← Nat.shiftLeft_add_eq_or_of_lt ha, Nat.add_comm]
theorem acc_next {acc m i : Nat} (ha : acc < 2 ^ (7 * i)) (hm : m < 128) : acc + m * 2 ^ (7 * i) < 2 ^ (7 * (i + 1)) := by
  rw [show 7 * (i + 1) = 7 + 7 * i from by omega, Nat.pow_add]
  have : (m + 1) * 2 ^ (7 * i) ≤ 2 ^ 7 * 2 ^ (7 * i) := Nat.mul_le_mul_right _ (by omega)
  rw [Nat.add_mul] at this
  omega

theorem tkGo_nb : ∀ (f i acc n : Nat) (rest : List Int), f + i = 10 → i ≤ 9 → n < 2 ^ (64 - 7 * i) → (0 < i → 0 < n) → tkGo f i acc (nb n ++ rest) = (acc + n * 2 ^ (7 * i), i + (nb n).length, 0)
  | 0, i, _, _, _, hf, hi, _, _ => by omega
  | f + 1, i, acc, n, rest, hf, hi, hn, h0 => by
    have hp9 : i = 9 → n ≤ 1 := by
      intro h; subst h
      have : n < 2 ^ 1 := hn
      omega
    by_cases h1 : n < 128
    · rw [nb_lt h1, List.singleton_append, tkGo, if_neg (by intro ⟨h9, h2⟩; have := hp9 h9; omega), if_pos (by omega), if_neg (by intro ⟨ha, hb⟩; have := h0 hb; omega)]
      have : (n : Int).toNat % 128 = n := by omega
      rw [this]; rfl
    · rw [nb_ge h1, List.cons_append, tkGo, if_neg (by intro ⟨h9, h2⟩; have := hp9 h9; omega), if_neg (by omega)]
      have e1 : ((n % 128 + 128 : Nat) : Int).toNat % 128 = n % 128 := by omega
      have hi8 : i ≤ 8 := by
        rcases Nat.lt_or_ge i 9 with h | h
        · omega
        · have := hp9 (by omega); omega
      have hn' : n / 128 < 2 ^ (64 - 7 * (i + 1)) := by
        rw [Nat.div_lt_iff_lt_mul (by omega), show (128 : Nat) = 2 ^ 7 from rfl, ← Nat.pow_add, show 64 - 7 * (i + 1) + 7 = 64 - 7 * i from by omega]
        exact hn
      rw [e1, tkGo_nb f (i + 1) _ (n / 128) rest (by omega) (by omega) hn' (fun _ => by omega)]
      have e2 : acc + n % 128 * 2 ^ (7 * i) + n / 128 * 2 ^ (7 * (i + 1)) = acc + n * 2 ^ (7 * i) := by
        rw [show 7 * (i + 1) = 7 + 7 * i from by omega, Nat.pow_add, Nat.add_assoc, show n / 128 * (2 ^ 7 * 2 ^ (7 * i)) = n / 128 * 128 * 2 ^ (7 * i) from by rw [Nat.mul_assoc], ← Nat.add_mul]
        congr 2
        omega
      rw [e2]
      simp only [List.length_cons]
      congr 2
      omega
theorem tk_nb {n : Nat} (h : n < 18446744073709551616) (rest : List Int) : tk (nb n ++ rest) = (n, (nb n).length, 0) := by
  have := tkGo_nb 10 0 0 n rest rfl (by omega) h (by omega)
  simpa [tk] using this
theorem nb_inj {a b : Nat} (ha : a < 18446744073709551616) (hb : b < 18446744073709551616) (h : nb a = nb b) : a = b := by
  have h1 := tk_nb ha []
  have h2 := tk_nb hb []
  rw [h] at h1
  exact congrArg Prod.fst (h1.symm.trans h2)
theorem nb_mono : ∀ (b a : Nat), a ≤ b → (nb a).length ≤ (nb b).length := by
  intro b
  induction b using Nat.strongRecOn with
  | _ b ih =>
    intro a h
    by_cases h1 : a < 128
    · rw [nb_lt h1]; have := nb_len_pos b; simp; omega
    · rw [nb_ge h1, nb_ge (n := b) (by omega)]
      have := ih (b / 128) (by omega) (a / 128) (by omega)
      simp; omega

/-- How many bytes it takes. -/
theorem tkGo_size : ∀ (f i acc : Nat) (xs : List Int), f + i = 10 → (tkGo f i acc xs).2.1 ≤ i + xs.length ∧ (tkGo f i acc xs).2.1 ≤ 10
  | 0, _, _, _, _ => ⟨Nat.zero_le _, Nat.zero_le _⟩
  | _ + 1, _, _, [], _ => ⟨Nat.zero_le _, Nat.zero_le _⟩
  | f + 1, i, acc, c :: rest, h => by
    rw [tkGo]
    split
    · exact ⟨Nat.zero_le _, Nat.zero_le _⟩
    · split
      · split
        · exact ⟨Nat.zero_le _, Nat.zero_le _⟩
        · simp only [List.length_cons]; omega
      · have := tkGo_size f (i + 1) (acc + c.toNat % 128 * 2 ^ (7 * i)) rest (by omega)
        simp only [List.length_cons]; omega
theorem tk_size (xs : List Int) : (tk xs).2.1 ≤ xs.length ∧ (tk xs).2.1 ≤ 10 := by
  have := tkGo_size 10 0 0 xs rfl
  rw [Nat.zero_add] at this
  exact this
theorem tkGo_err : ∀ (f i acc : Nat) (xs : List Int), f + i = 10 → ((tkGo f i acc xs).2.2 = 0 ∧ 0 < (tkGo f i acc xs).2.1) ∨ ((tkGo f i acc xs).2.2 ≠ 0 ∧ (tkGo f i acc xs).2.1 = 0 ∧ (tkGo f i acc xs).1 = 0)
  | 0, _, _, _, _ => .inr ⟨(by decide : (4 : Int) ≠ 0), rfl, rfl⟩
  | _ + 1, _, _, [], _ => .inr ⟨(by decide : (5 : Int) ≠ 0), rfl, rfl⟩
  | f + 1, i, acc, c :: rest, h => by
    rw [tkGo]
    split
    · exact .inr ⟨by decide, rfl, rfl⟩
    · split
      · split
        · exact .inr ⟨by decide, rfl, rfl⟩
        · exact .inl ⟨rfl, Nat.succ_pos _⟩
      · exact tkGo_err f (i + 1) _ rest (by omega)
theorem tkGo_lt : ∀ (f i acc : Nat) (xs : List Int), f + i = 10 → (∀ c ∈ xs, byt c) → acc < 2 ^ (7 * i) → (tkGo f i acc xs).1 < 18446744073709551616
  | 0, _, _, _, _, _, _ => (by decide : (0 : Nat) < 18446744073709551616)
  | _ + 1, _, _, [], _, _, _ => (by decide : (0 : Nat) < 18446744073709551616)
  | f + 1, i, acc, c :: rest, h, hb, ha => by
    rw [tkGo]
    split
    · decide
    · rename_i h1
      have hc := hb c (by simp)
      have hi : i ≤ 9 := by omega
      split
      · split
        · decide
        · by_cases h9 : i = 9
          · subst h9
            have hc1 : c ≤ 1 := by rcases Int.lt_or_le 1 c with h | h
                                   · exact absurd ⟨rfl, h⟩ h1
                                   · exact h
            have : c.toNat % 128 ≤ 1 := by omega
            have : c.toNat % 128 * 2 ^ (7 * 9) ≤ 1 * 2 ^ (7 * 9) := Nat.mul_le_mul_right _ this
            simp only
            omega
          · have := acc_next (m := c.toNat % 128) ha (Nat.mod_lt _ (by omega))
            have h2 : 2 ^ (7 * (i + 1)) ≤ 2 ^ 63 := Nat.pow_le_pow_right (by omega) (by omega)
            simp only
            omega
      · exact tkGo_lt f (i + 1) _ rest (by omega) (fun c hc => hb c (by simp [hc])) (acc_next ha (Nat.mod_lt _ (by omega)))
theorem tk_lt {xs : List Int} (hb : ∀ c ∈ xs, byt c) : (tk xs).1 < 18446744073709551616 := tkGo_lt 10 0 0 xs rfl hb (by decide)
theorem tk_err (xs : List Int) : ((tk xs).2.2 = 0 ∧ 0 < (tk xs).2.1) ∨ ((tk xs).2.2 ≠ 0 ∧ (tk xs).2.1 = 0 ∧ (tk xs).1 = 0) := tkGo_err 10 0 0 xs rfl

end Go.Proofs.Ytenobcfgapolhaa

/- Packs: the plain law: what is put and what is got, by codecs. -/
namespace Go.Proofs.Ytenobcfgapolhaa
open Go.RowKit

/-- A number with a sign, bs one without. -/
def zz (n : Int) : Nat := if 0 ≤ n then (2 * n).toNat else (2 * (-(n + 1)) + 1).toNat
/-- .. its bytes. -/
def sb (n : Int) : List Int := nb (zz n)
def in64 (n : Int) : Prop := -9223372036854775808 ≤ n ∧ n ≤ 9223372036854775807
theorem zz_lt {n : Int} (h1 : -9223372036854775808 ≤ n) (h2 : n ≤ 9223372036854775807) : zz n < 18446744073709551616 := by unfold zz; split <;> omega
theorem sb_ten {n : Int} (h1 : -9223372036854775808 ≤ n) (h2 : n ≤ 9223372036854775807) : (sb n).length ≤ 10 := nb_ten (zz_lt h1 h2)
theorem sb_ten' {n : Int} (h : in64 n) : (sb n).length ≤ 10 := sb_ten h.1 h.2

/-- What getting answers: a thing and what is left, or what is wrong. -/
abbrev Res (α : Type) := Except Int (α × List Int)
def bindP {α β : Type} (x : Res α) (k : α → List Int → Res β) : Res β := match x with
  | .ok (a, r) => k a r
  | .error e => .error e
def numP (xs : List Int) : Res Nat := if (tk xs).2.2 = 0 then .ok ((tk xs).1, xs.drop (tk xs).2.1) else .error (tk xs).2.2
def byteP : List Int → Res Int
  | [] => .error 5
  | c :: r => .ok (c, r)
def unzz (n : Nat) : Int := if n % 2 = 0 then ((n / 2 : Nat) : Int) else -((n / 2 : Nat) : Int) - 1
def signP (xs : List Int) : Res Int := bindP (numP xs) fun n r => .ok (unzz n, r)
def repP {α : Type} (p : List Int → Res α) : Nat → List Int → Res (List α)
  | 0, xs => .ok ([], xs)
  | n + 1, xs => bindP (p xs) fun a r => bindP (repP p n r) fun bs r' => .ok (a :: bs, r')
/-- A list of so many at most. -/
def listP {α : Type} (p : List Int → Res α) (most : Nat) (xs : List Int) : Res (List α) := bindP (numP xs) fun n r => if most < n then .error 3 else repP p n r
/-- All bytes are a thing. -/
def allP {α : Type} (x : Res α) : Except Int α := match x with
  | .ok (a, []) => .ok a
  | .ok (_, _ :: _) => .error 4
  | .error k => .error k

theorem unzz_zz (n : Int) : unzz (zz n) = n := by
  unfold zz
  split
  · rename_i h
    unfold unzz
    rw [if_pos (by omega)]; omega
  · rename_i h
    unfold unzz
    rw [if_neg (by omega)]; omega
theorem zz_unzz (n : Nat) : zz (unzz n) = n := by
  unfold unzz
  split
  · unfold zz
    rw [if_pos (by omega)]; omega
  · unfold zz
    rw [if_neg (by omega)]; omega
theorem unzz_in {n : Nat} (h : n < 18446744073709551616) : in64 (unzz n) := by unfold unzz in64; split <;> omega

/-- A number's bytes, cut. -/
theorem tkGo_cut : ∀ (f i acc n k : Nat), f + i = 10 → i ≤ 9 → n < 2 ^ (64 - 7 * i) → (0 < i → 0 < n) → k < (nb n).length → tkGo f i acc ((nb n).take k) = (0, 0, 5)
  | 0, i, _, _, _, hf, hi, _, _, _ => by omega
  | f + 1, i, acc, n, 0, hf, hi, hn, h0, hk => by rw [List.take_zero]; rfl
  | f + 1, i, acc, n, k + 1, hf, hi, hn, h0, hk => by
    have hp9 : i = 9 → n ≤ 1 := by
      intro h; subst h
      have : n < 2 ^ 1 := hn
      omega
    by_cases h1 : n < 128
    · rw [nb_lt h1] at hk; simp at hk
    · rw [nb_ge h1] at hk ⊢
      rw [List.take_succ_cons, tkGo, if_neg (by intro ⟨h9, h2⟩; have := hp9 h9; omega), if_neg (by omega)]
      have hi8 : i ≤ 8 := by
        rcases Nat.lt_or_ge i 9 with h | h
        · omega
        · have := hp9 (by omega); omega
      have hn' : n / 128 < 2 ^ (64 - 7 * (i + 1)) := by
        rw [Nat.div_lt_iff_lt_mul (by omega), show (128 : Nat) = 2 ^ 7 from rfl, ← Nat.pow_add, show 64 - 7 * (i + 1) + 7 = 64 - 7 * i from by omega]
        exact hn
      exact tkGo_cut f (i + 1) _ (n / 128) k (by omega) (by omega) hn' (fun _ => by omega) (by simpa using hk)
theorem tk_cut {n k : Nat} (h : n < 18446744073709551616) (hk : k < (nb n).length) : tk ((nb n).take k) = (0, 0, 5) := tkGo_cut 10 0 0 n k rfl (by omega) h (by omega) hk
/-- .. taken, they are its own. -/
theorem tkGo_back : ∀ (f i acc : Nat) (xs : List Int) (n s : Nat), f + i = 10 → (∀ c ∈ xs, byt c) → tkGo f i acc xs = (n, s, 0) →
    ∃ m, n = acc + m * 2 ^ (7 * i) ∧ i < s ∧ nb m = xs.take (s - i) ∧ s - i ≤ xs.length ∧ (0 < i → 0 < m) ∧ m < 2 ^ (64 - 7 * i)
  | 0, _, _, _, _, _, _, _, h => by simp [tkGo] at h
  | f + 1, i, acc, [], _, _, _, _, h => by simp [tkGo] at h
  | f + 1, i, acc, c :: rest, n, s, hf, hb, h => by
    have hc := hb c (by simp)
    have hc1 := hc.1
    have hc2 := hc.2
    rw [tkGo] at h
    split at h
    · simp at h
    · rename_i h1
      have h9 : i = 9 → c ≤ 1 := fun e => by
        rcases Int.lt_or_le 1 c with h | h
        · exact absurd ⟨e, h⟩ h1
        · exact h
      split at h
      · rename_i h2
        split at h
        · simp at h
        · rename_i h3
          injection h with e1 e2
          injection e2 with e2 _
          subst e1; subst e2
          have hm : c.toNat % 128 = c.toNat := by omega
          refine ⟨c.toNat, by rw [hm], by omega, ?_, by simp, fun hi => ?_, ?_⟩
          · rw [nb_lt (by omega), show i + 1 - i = 0 + 1 from by omega, List.take_succ_cons, List.take_zero]
            congr 1; omega
          · rcases Nat.eq_zero_or_pos c.toNat with h0 | h0
            · exact absurd ⟨by omega, hi⟩ h3
            · exact h0
          · by_cases e9 : i = 9
            · subst e9; have := h9 rfl; show c.toNat < 2; omega
            · have : 2 ^ 8 ≤ 2 ^ (64 - 7 * i) := Nat.pow_le_pow_right (by omega) (by omega)
              omega
      · rename_i h2
        have hi8 : i ≤ 8 := by
          rcases Nat.lt_or_ge i 9 with h | h
          · omega
          · have := h9 (by omega); omega
        obtain ⟨m, e1, e2, e3, e4, e5, e6⟩ := tkGo_back f (i + 1) _ rest n s (by omega) (fun x hx => hb x (by simp [hx])) h
        have hm0 := e5 (by omega)
        have hd : c.toNat % 128 + 128 = c.toNat := by omega
        refine ⟨m * 128 + c.toNat % 128, ?_, by omega, ?_, by simp only [List.length_cons]; omega, fun _ => by omega, ?_⟩
        · rw [e1, show 7 * (i + 1) = 7 + 7 * i from by omega, Nat.pow_add, Nat.add_mul, Nat.add_assoc, Nat.add_comm (c.toNat % 128 * 2 ^ (7 * i)), show m * (2 ^ 7 * 2 ^ (7 * i)) = m * 128 * 2 ^ (7 * i) from by rw [Nat.mul_assoc]]
        · rw [nb_ge (by omega), show s - i = (s - (i + 1)) + 1 from by omega, List.take_succ_cons, show (m * 128 + c.toNat % 128) / 128 = m from by omega, e3, show (m * 128 + c.toNat % 128) % 128 + 128 = c.toNat from by omega]
          congr 1; omega
        · have e6' : m + 1 ≤ 2 ^ (64 - 7 * (i + 1)) := e6
          have h8 : (m + 1) * 128 ≤ 2 ^ (64 - 7 * (i + 1)) * 2 ^ 7 := Nat.mul_le_mul_right _ e6'
          rw [← Nat.pow_add, show 64 - 7 * (i + 1) + 7 = 64 - 7 * i from by omega] at h8
          omega
theorem tk_back {xs : List Int} {n s : Nat} (hb : ∀ c ∈ xs, byt c) (h : tk xs = (n, s, 0)) : nb n = xs.take s ∧ 0 < s ∧ s ≤ xs.length ∧ n < 18446744073709551616 := by
  obtain ⟨m, e1, e2, e3, e4, _, e6⟩ := tkGo_back 10 0 0 xs n s rfl hb h
  have : m = n := by rw [e1]; simp
  subst this
  exact ⟨by simpa using e3, e2, by omega, e6⟩
theorem tkGo_bad : ∀ (f i acc : Nat) (xs : List Int), (tkGo f i acc xs).2.2 = 0 ∨ (tkGo f i acc xs).2.2 = 4 ∨ (tkGo f i acc xs).2.2 = 5
  | 0, _, _, _ => .inr (.inl rfl)
  | _ + 1, _, _, [] => .inr (.inr rfl)
  | f + 1, i, acc, c :: rest => by
    rw [tkGo]
    split
    · exact .inr (.inl rfl)
    · split
      · split
        · exact .inr (.inl rfl)
        · exact .inl rfl
      · exact tkGo_bad f (i + 1) _ rest

/-- A way of putting and a way of getting fit. -/
structure Cod {α : Type} (put : α → List Int) (P : List Int → Res α) (ok : α → Prop) : Prop where
  get : ∀ a r, ok a → P (put a ++ r) = .ok (a, r)
  cut : ∀ a k, ok a → k < (put a).length → P ((put a).take k) = .error 5
  back : ∀ xs a r, (∀ c ∈ xs, byt c) → P xs = .ok (a, r) → xs = put a ++ r ∧ ok a
  bad : ∀ xs k, P xs = .error k → k = 3 ∨ k = 4 ∨ k = 5
  byt : ∀ a, ok a → ∀ c ∈ put a, byt c
theorem Cod.congr {α : Type} {put put' : α → List Int} {P P' : List Int → Res α} {ok ok' : α → Prop} (h : Cod put P ok) (hok : ∀ a, ok a ↔ ok' a) (hp : ∀ a, ok a → put a = put' a) (hP : ∀ xs, P xs = P' xs) : Cod put' P' ok' where
  get a r ha := by have ha' := (hok a).2 ha; rw [← hp a ha', ← hP]; exact h.get a r ha'
  cut a k ha hk := by have ha' := (hok a).2 ha; rw [← hp a ha'] at hk ⊢; rw [← hP]; exact h.cut a k ha' hk
  back xs a r hb hx := by rw [← hP] at hx; obtain ⟨h1, h2⟩ := h.back xs a r hb hx; exact ⟨by rw [h1, hp a h2], (hok a).1 h2⟩
  bad xs k hx := h.bad xs k (by rw [hP]; exact hx)
  byt a ha := by have ha' := (hok a).2 ha; rw [← hp a ha']; exact h.byt a ha'
theorem take_append_ (xs ys : List Int) (k : Nat) : (xs ++ ys).take k = xs.take k ++ ys.take (k - xs.length) := List.take_append
/-- One behind the other. -/
theorem Cod.bind {α β γ : Type} {p : α → List Int} {P : List Int → Res α} {ok1 : α → Prop} {q : β → List Int} {Q : List Int → Res β} {ok2 : β → Prop} (h1 : Cod p P ok1) (h2 : Cod q Q ok2)
    (mk : α → β → γ) (fa : γ → α) (fb : γ → β) (ok : γ → Prop) (e1 : ∀ a b, fa (mk a b) = a) (e2 : ∀ a b, fb (mk a b) = b) (hok : ∀ c, ok c → ok1 (fa c) ∧ ok2 (fb c) ∧ mk (fa c) (fb c) = c) (hok' : ∀ a b, ok1 a → ok2 b → ok (mk a b)) :
    Cod (fun c => p (fa c) ++ q (fb c)) (fun xs => bindP (P xs) fun a r => bindP (Q r) fun b r' => .ok (mk a b, r')) ok where
  get c r hc := by
    obtain ⟨ha, hb, hm⟩ := hok c hc
    simp only [List.append_assoc, h1.get _ _ ha, bindP, h2.get _ _ hb, hm]
  cut c k hc hk := by
    obtain ⟨ha, hb, hm⟩ := hok c hc
    rw [List.length_append] at hk
    rcases Nat.lt_or_ge k (p (fa c)).length with h | h
    · rw [take_append_, show k - (p (fa c)).length = 0 from by omega, List.take_zero, List.append_nil, h1.cut _ _ ha h]; rfl
    · rw [take_append_, List.take_of_length_le h, h1.get _ _ ha]
      simp only [bindP]
      rw [h2.cut _ _ hb (by omega)]
  back xs c r hb hx := by
    simp only [bindP] at hx
    split at hx
    · rename_i a r1 e
      obtain ⟨rfl, ha⟩ := h1.back xs a r1 hb e
      split at hx
      · rename_i b r2 e'
        injection hx with hx
        injection hx with hx1 hx2
        subst hx1; subst hx2
        obtain ⟨rfl, hb'⟩ := h2.back r1 b r2 (fun c hc => hb c (by simp [hc])) e'
        exact ⟨by simp only [e1, e2, List.append_assoc], hok' a b ha hb'⟩
      · cases hx
    · cases hx
  bad xs k hx := by
    simp only [bindP] at hx
    split at hx
    · rename_i a r1 e
      split at hx
      · cases hx
      · rename_i e'; injection hx with hx; subst hx; exact h2.bad _ _ e'
    · rename_i e; injection hx with hx; subst hx; exact h1.bad _ _ e
  byt c hc x hx := by
    obtain ⟨ha, hb, _⟩ := hok c hc
    rcases List.mem_append.1 hx with h | h
    · exact h1.byt _ ha x h
    · exact h2.byt _ hb x h
theorem Cod.map {α β : Type} {p : α → List Int} {P : List Int → Res α} {ok1 : α → Prop} (h : Cod p P ok1) (f : α → β) (g : β → α) (ok : β → Prop) (e : ∀ a, ok1 a → g (f a) = a) (hok : ∀ b, ok b → ok1 (g b) ∧ f (g b) = b) (hok' : ∀ a, ok1 a → ok (f a)) :
    Cod (fun b => p (g b)) (fun xs => bindP (P xs) fun a r => .ok (f a, r)) ok where
  get b r hb := by simp only [h.get _ _ (hok b hb).1, bindP, (hok b hb).2]
  cut b k hb hk := by simp only [h.cut _ _ (hok b hb).1 hk, bindP]
  back xs b r hb hx := by
    simp only [bindP] at hx
    split at hx
    · rename_i a r1 e'
      injection hx with hx
      injection hx with hx1 hx2
      subst hx1; subst hx2
      obtain ⟨rfl, ha⟩ := h.back xs a r1 hb e'
      exact ⟨by simp only [e a ha], hok' a ha⟩
    · cases hx
  bad xs k hx := by
    simp only [bindP] at hx
    split at hx
    · cases hx
    · rename_i e'; injection hx with hx; subst hx; exact h.bad _ _ e'
  byt b hb := h.byt _ (hok b hb).1

theorem numP_nb {n : Nat} (h : n < 18446744073709551616) (r : List Int) : numP (nb n ++ r) = .ok (n, r) := by
  unfold numP
  rw [tk_nb h r]
  simp
theorem cod_num : Cod nb numP (fun n => n < 18446744073709551616) where
  get n r h := numP_nb h r
  cut n k h hk := by unfold numP; rw [tk_cut h hk, if_neg (by decide)]
  back xs n r hb hx := by
    unfold numP at hx
    split at hx
    · rename_i h0
      injection hx with hx
      injection hx with hx1 hx2
      obtain ⟨e1, e2, e3, e4⟩ := tk_back hb (show tk xs = ((tk xs).1, (tk xs).2.1, 0) by rw [← h0])
      subst hx1; subst hx2
      exact ⟨by rw [e1, List.take_append_drop], e4⟩
    · cases hx
  bad xs k hx := by
    unfold numP at hx
    split at hx
    · cases hx
    · rename_i h0
      injection hx with hx
      subst hx
      rcases tkGo_bad 10 0 0 xs with h | h | h
      · exact absurd h h0
      · exact .inr (.inl h)
      · exact .inr (.inr h)
  byt n _ := nb_byt n
theorem cod_byte : Cod (fun c => [c]) byteP byt where
  get c r _ := rfl
  cut c k _ hk := by
    have : k = 0 := by simpa using hk
    subst this; rfl
  back xs c r hb hx := by
    cases xs with
    | nil => cases hx
    | cons x xs =>
      injection hx with hx
      injection hx with hx1 hx2
      subst hx1; subst hx2
      exact ⟨rfl, hb x (by simp)⟩
  bad xs k hx := by
    cases xs with
    | nil => injection hx with hx; subst hx; exact .inr (.inr rfl)
    | cons x xs => cases hx
  byt c hc x hx := by simp at hx; subst hx; exact hc
theorem cod_sign : Cod sb signP in64 :=
  (Cod.map cod_num unzz zz in64 (fun a _ => zz_unzz a) (fun b hb => ⟨zz_lt hb.1 hb.2, unzz_zz b⟩) (fun _ ha => unzz_in ha)).congr (fun _ => Iff.rfl) (fun _ _ => rfl) (fun _ => rfl)

/-- A list of things. -/
theorem cod_rep {α : Type} {p : α → List Int} {P : List Int → Res α} {ok1 : α → Prop} (h : Cod p P ok1) : ∀ n, Cod (fun l : List α => l.flatMap p) (repP P n) (fun l => l.length = n ∧ ∀ x ∈ l, ok1 x)
  | 0 => {
    get := fun l r ⟨hl, _⟩ => by obtain rfl := List.eq_nil_of_length_eq_zero hl; rfl
    cut := fun l k ⟨hl, _⟩ hk => by obtain rfl := List.eq_nil_of_length_eq_zero hl; simp at hk
    back := fun xs l r _ hx => by
      injection hx with hx
      injection hx with hx1 hx2
      subst hx1; subst hx2
      exact ⟨rfl, rfl, by simp⟩
    bad := fun xs k hx => by cases hx
    byt := fun l ⟨hl, _⟩ => by obtain rfl := List.eq_nil_of_length_eq_zero hl; simp }
  | n + 1 => {
    get := fun l r ⟨hl, ho⟩ => by
      cases l with
      | nil => simp at hl
      | cons a l =>
        have ih := (cod_rep h n).get l r ⟨by simpa using hl, fun x hx => ho x (by simp [hx])⟩
        simp only [repP, List.flatMap_cons, List.append_assoc, h.get a _ (ho a (by simp)), bindP, ih]
    cut := fun l k ⟨hl, ho⟩ hk => by
      cases l with
      | nil => simp at hl
      | cons a l =>
        have ha := ho a (by simp)
        simp only [List.flatMap_cons, List.length_append] at hk ⊢
        rcases Nat.lt_or_ge k (p a).length with h1 | h1
        · rw [take_append_, show k - (p a).length = 0 from by omega, List.take_zero, List.append_nil, repP, h.cut a k ha h1]; rfl
        · have ih := (cod_rep h n).cut l (k - (p a).length) ⟨by simpa using hl, fun x hx => ho x (by simp [hx])⟩ (by omega)
          rw [take_append_, List.take_of_length_le h1, repP, h.get a _ ha]
          simp only [bindP] at ih ⊢
          rw [ih]
    back := fun xs l r hb hx => by
      simp only [repP, bindP] at hx
      split at hx
      · rename_i a r1 e
        obtain ⟨rfl, ha⟩ := h.back xs a r1 hb e
        split at hx
        · rename_i bs r2 e'
          injection hx with hx
          injection hx with hx1 hx2
          subst hx1; subst hx2
          obtain ⟨rfl, hl, ho⟩ := (cod_rep h n).back r1 bs r2 (fun c hc => hb c (by simp [hc])) e'
          refine ⟨by simp only [List.flatMap_cons, List.append_assoc], by simp [hl], fun x hx => ?_⟩
          rcases List.mem_cons.1 hx with rfl | hx
          · exact ha
          · exact ho x hx
        · cases hx
      · cases hx
    bad := fun xs k hx => by
      simp only [repP, bindP] at hx
      split at hx
      · split at hx
        · cases hx
        · rename_i e'; injection hx with hx; subst hx; exact (cod_rep h n).bad _ _ e'
      · rename_i e; injection hx with hx; subst hx; exact h.bad _ _ e
    byt := fun l ⟨_, ho⟩ c hc => by
      obtain ⟨a, ha, hc⟩ := List.mem_flatMap.1 hc
      exact h.byt a (ho a ha) c hc }
def listB {α : Type} (p : α → List Int) (l : List α) : List Int := nb l.length ++ l.flatMap p
theorem cod_list {α : Type} {p : α → List Int} {P : List Int → Res α} {ok1 : α → Prop} (h : Cod p P ok1) (most : Nat) (hm : most < 18446744073709551616) : Cod (listB p) (listP P most) (fun l => l.length ≤ most ∧ ∀ x ∈ l, ok1 x) where
  get l r hl := by
    unfold listP listB
    rw [List.append_assoc, numP_nb (by omega)]
    simp only [bindP]
    rw [if_neg (by omega), (cod_rep h l.length).get l r ⟨rfl, hl.2⟩]
  cut l k hl hk := by
    unfold listP
    unfold listB at hk ⊢
    rw [List.length_append] at hk
    rcases Nat.lt_or_ge k (nb l.length).length with h1 | h1
    · rw [take_append_, show k - (nb l.length).length = 0 from by omega, List.take_zero, List.append_nil, cod_num.cut _ _ (by omega) h1]; rfl
    · rw [take_append_, List.take_of_length_le h1, numP_nb (by omega)]
      simp only [bindP]
      rw [if_neg (by omega), (cod_rep h l.length).cut l _ ⟨rfl, hl.2⟩ (by omega)]
  back xs l r hb hx := by
    unfold listP at hx
    simp only [bindP] at hx
    split at hx
    · rename_i n r1 e
      obtain ⟨rfl, hn⟩ := cod_num.back xs n r1 hb e
      split at hx
      · cases hx
      · obtain ⟨rfl, hl, ho⟩ := (cod_rep h n).back r1 l r (fun c hc => hb c (by simp [hc])) hx
        subst hl
        exact ⟨by unfold listB; rw [List.append_assoc], by omega, ho⟩
    · cases hx
  bad xs k hx := by
    unfold listP at hx
    simp only [bindP] at hx
    split at hx
    · split at hx
      · injection hx with hx; exact .inl hx.symm
      · exact (cod_rep h _).bad _ _ hx
    · rename_i e; injection hx with hx; subst hx; exact cod_num.bad _ _ e
  byt l hl c hc := by
    rcases List.mem_append.1 hc with h1 | h1
    · exact nb_byt _ c h1
    · exact (cod_rep h l.length).byt l ⟨rfl, hl.2⟩ c h1

/-- Fields, one behind the other: a byte, a number with a sign, a number. -/
def fb1 : IntKind → Int → List Int
  | .u8, x => [x]
  | .i64, x => sb x
  | _, x => nb x.toNat
def fok1 : IntKind → Int → Prop
  | .u8, x => byt x
  | .i64, x => in64 x
  | _, x => 0 ≤ x ∧ x ≤ 18446744073709551615
def fp1 : IntKind → List Int → Res Int
  | .u8, xs => byteP xs
  | .i64, xs => signP xs
  | _, xs => bindP (numP xs) fun n r => .ok ((n : Int), r)
def fB : List IntKind → List Int → List Int
  | [], _ => []
  | k :: ks, xs => fb1 k (xs.headD 0) ++ fB ks xs.tail
def fok : List IntKind → List Int → Prop
  | [], xs => xs = []
  | k :: ks, x :: xs => fok1 k x ∧ fok ks xs
  | _ :: _, [] => False
def fP : List IntKind → List Int → Res (List Int)
  | [], xs => .ok ([], xs)
  | k :: ks, xs => bindP (fp1 k xs) fun a r => bindP (fP ks r) fun bs r' => .ok (a :: bs, r')
theorem cod_f1 (k : IntKind) : Cod (fb1 k) (fp1 k) (fok1 k) := by
  have hN : Cod (fun x : Int => nb x.toNat) (fun xs => bindP (numP xs) fun n r => .ok ((n : Int), r)) (fun x => 0 ≤ x ∧ x ≤ 18446744073709551615) :=
    (Cod.map cod_num (fun n : Nat => (n : Int)) Int.toNat (fun x => 0 ≤ x ∧ x ≤ 18446744073709551615) (fun a _ => by omega) (fun b hb => ⟨by omega, by omega⟩) (fun a ha => ⟨by omega, by omega⟩))
  cases k <;> first | exact cod_byte | exact cod_sign | exact hN
theorem cod_f : ∀ ks, Cod (fB ks) (fP ks) (fok ks)
  | [] => {
    get := fun l r hl => by cases hl; rfl
    cut := fun l k hl hk => by simp [fB] at hk
    back := fun xs l r _ hx => by
      injection hx with hx
      injection hx with hx1 hx2
      subst hx1; subst hx2
      exact ⟨rfl, rfl⟩
    bad := fun xs k hx => by cases hx
    byt := fun l hl => by simp [fB] }
  | k :: ks =>
    (Cod.bind (cod_f1 k) (cod_f ks) (fun a bs => a :: bs) (fun l => l.headD 0) List.tail (fok (k :: ks)) (fun _ _ => rfl) (fun _ _ => rfl) (fun l hl => by
      cases l with
      | nil => exact absurd hl (by simp [fok])
      | cons a bs => exact ⟨hl.1, hl.2, rfl⟩) (fun a bs ha hs => ⟨ha, hs⟩)).congr (fun _ => Iff.rfl) (fun _ _ => rfl) (fun _ => rfl)
theorem fP_len : ∀ (ks : List IntKind) (xs l r : List Int), fP ks xs = .ok (l, r) → l.length = ks.length
  | [], _, _, _, h => by injection h with h; injection h with h1 _; subst h1; rfl
  | k :: ks, xs, l, r, h => by
    simp only [fP, bindP] at h
    split at h
    · split at h
      · rename_i e'
        injection h with h
        injection h with h1 _
        subst h1
        simp [fP_len ks _ _ _ e']
      · cases h
    · cases h
theorem fok_len : ∀ (ks : List IntKind) (l : List Int), fok ks l → l.length = ks.length
  | [], l, h => by cases h; rfl
  | _ :: _, [], h => absurd h (by simp [fok])
  | k :: ks, x :: xs, h => by simp [fok_len ks xs h.2]
theorem fb1_len {k : IntKind} {x : Int} (h : fok1 k x) : (fb1 k x).length ≤ 10 := by
  cases k <;> simp only [fb1, fok1] at h ⊢ <;> first | exact sb_ten' h | (exact nb_ten (by omega)) | simp
theorem fB_len : ∀ (ks : List IntKind) (xs : List Int), fok ks xs → (fB ks xs).length ≤ 10 * ks.length
  | [], _, h => by simp [fB]
  | k :: ks, [], h => absurd h (by simp [fok])
  | k :: ks, x :: xs, h => by
    have ih := fB_len ks xs h.2
    have h1 := fb1_len h.1
    simp only [fB, List.length_append, List.length_cons, List.headD_cons, List.tail_cons]
    omega
/-- Fields' cells. -/
def fc : List IntKind → List Int → List Value
  | [], _ => []
  | k :: ks, xs => .int k (xs.headD 0) :: fc ks xs.tail
theorem fc_len : ∀ (ks : List IntKind) (xs : List Int), (fc ks xs).length = ks.length
  | [], _ => rfl
  | _ :: ks, xs => by simp [fc, fc_len ks xs.tail]
theorem fc_one : ∀ (ks : List IntKind) (xs : List Int), ∀ u ∈ fc ks xs, u.oneCell' = true
  | [], _, _, h => by simp [fc] at h
  | k :: ks, xs, u, h => by
    rcases List.mem_cons.1 h with rfl | h
    · rfl
    · exact fc_one ks _ u h
theorem flat_len (ks : List IntKind) : ∀ (l : List (List Int)), (∀ q ∈ l, fok ks q) → (l.flatMap (fB ks)).length ≤ 10 * ks.length * l.length
  | [], _ => by simp
  | q :: l, h => by
    have h1 := flat_len ks l (fun x hx => h x (by simp [hx]))
    have h2 := fB_len ks q (h q (by simp))
    simp only [List.flatMap_cons, List.length_append, List.length_cons, Nat.mul_add]
    omega
theorem list_len (ks : List IntKind) (l : List (List Int)) (k : Nat) (hk : ks.length = k) {m : Nat} (hm : l.length ≤ m) (h9 : 10 * k * m ≤ 80000 ∧ m ≤ 80000) (h : ∀ q ∈ l, fok ks q) : (listB (fB ks) l).length ≤ 90000 := by
  have h1 := flat_len ks l h
  rw [hk] at h1
  have h2 : 10 * k * l.length ≤ 10 * k * m := Nat.mul_le_mul_left _ hm
  have h3 : (nb l.length).length ≤ 10 := nb_ten (by omega)
  unfold listB
  rw [List.length_append]
  omega
end Go.Proofs.Ytenobcfgapolhaa
