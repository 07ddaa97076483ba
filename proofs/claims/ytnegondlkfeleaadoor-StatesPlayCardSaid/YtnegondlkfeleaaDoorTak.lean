/- Taking a number off bytes. -/
import Derived.Test.YtnegondlkfeleaaDoorNum
import Derived.Laws.Bits64b
namespace Go.Proofs.YtnegondlkfeleaaDoor
open Go.RowKit

/-- A number off bytes: the number, how many bytes it takes, what is wrong (5: too short, 4: another form). -/
def tkGo : Nat → Nat → Nat → List Int → Nat × Nat × Int
  | 0, _, _, _ => (0, 0, 4)
  | _ + 1, _, _, [] => (0, 0, 5)
  | f + 1, i, acc, c :: rest =>
    if i = 9 ∧ 1 < c then (0, 0, 4)
    else if c < 128 then (if c = 0 ∧ 0 < i then (0, 0, 4) else (acc + c.toNat % 128 * 2 ^ (7 * i), i + 1, 0))
    else tkGo f (i + 1) (acc + c.toNat % 128 * 2 ^ (7 * i)) rest
def tk (xs : List Int) : Nat × Nat × Int := tkGo 10 0 0 xs

set_option maxRecDepth 100000 in
theorem low7_ : ∀ j : Fin 256, bits .andNot .u8 (j.val : Int) 128 = ((j.val % 128 : Nat) : Int) := by decide
theorem low7 {d : Int} (h : byt d) : bits .andNot .u8 d 128 = ((d.toNat % 128 : Nat) : Int) := by
  have h1 := low7_ ⟨d.toNat, by have := h.2; have := h.1; omega⟩
  simp only at h1
  rw [← h1]
  congr 1
  have := h.1
  omega
theorem part_lt {m i : Nat} (hm : m < 128) (hi : i ≤ 9) (h9 : i = 9 → m ≤ 1) : m * 2 ^ (7 * i) < 18446744073709551616 := by
  by_cases h : i = 9
  · subst h
    have := h9 rfl
    have : m * 2 ^ (7 * 9) ≤ 1 * 2 ^ (7 * 9) := Nat.mul_le_mul_right _ this
    omega
  · have h2 : 2 ^ (7 * i) ≤ 2 ^ 56 := Nat.pow_le_pow_right (by omega) (by omega)
    have : m * 2 ^ (7 * i) ≤ 127 * 2 ^ 56 := Nat.mul_le_mul (by omega) h2
    omega
theorem join_ {d : Int} {i acc : Nat} (h : byt d) (hi : i ≤ 9) (h9 : i = 9 → d ≤ 1) (ha : acc < 2 ^ (7 * i)) :
    bits .or .u64 (acc : Int) (IntKind.u64.wrap (IntKind.u64.wrap (bits .andNot .u8 d 128) * 2 ^ (7 * i))) = ((acc + d.toNat % 128 * 2 ^ (7 * i) : Nat) : Int) := by
  have hm : d.toNat % 128 < 128 := Nat.mod_lt _ (by omega)
  have hp := part_lt hm hi (fun e => by have := h9 e; have := h.1; omega)
  have ha64 : acc < 18446744073709551616 := Nat.lt_of_lt_of_le ha (by
    have : 2 ^ (7 * i) ≤ 2 ^ 63 := Nat.pow_le_pow_right (by omega) (by omega)
    omega)
  rw [low7 h, IntWalk.u64_in ((d.toNat % 128 : Nat) : Int) (by omega), show (((d.toNat % 128 : Nat) : Int) * 2 ^ (7 * i)) = ((d.toNat % 128 * 2 ^ (7 * i) : Nat) : Int) from by rw [Int.natCast_mul, Int.natCast_pow]; rfl,
    IntWalk.u64_in _ (by omega), bits_or_u64_nat _ _ ha64 hp, Nat.or_comm, ← Nat.shiftLeft_eq, ← Nat.shiftLeft_add_eq_or_of_lt ha, Nat.add_comm]
theorem acc_next {acc m i : Nat} (ha : acc < 2 ^ (7 * i)) (hm : m < 128) : acc + m * 2 ^ (7 * i) < 2 ^ (7 * (i + 1)) := by
  rw [show 7 * (i + 1) = 7 + 7 * i from by omega, Nat.pow_add]
  have : (m + 1) * 2 ^ (7 * i) ≤ 2 ^ 7 * 2 ^ (7 * i) := Nat.mul_le_mul_right _ (by omega)
  rw [Nat.add_mul] at this
  omega

set_option maxHeartbeats 1000000 in
theorem take_any (v : Value) (xs : List Int) (w : World) (h : Bs w v xs) (hb : ∀ c ∈ xs, byt c) (hl : xs.length ≤ 70368744177664) :
    Calls Tryd.prog 102 #[v] w fun e w' => e = .returned (.tuple #[.int .u64 (tk xs).1, .int .i64 (tk xs).2.1, .int .i64 (tk xs).2.2]) ∧ w = w' := by
  obtain ⟨A, c, rfl, hc, hlx, hh⟩ := id h
  obtain ⟨n, hn⟩ : ∃ n, n = xs.length := ⟨_, rfl⟩
  have hl' : (n : Int) ≤ 70368744177664 := by omega
  rw [← hn] at h hh ⊢
  have N := Lib.hid hn
  have HB := Lib.hid hb
  have HH := Lib.hid hh
  clear h hc hlx hh hl hn hb
  go_enter Tryd.func102, Tryd.ntmps102
  go_wp2
  go_loopg [2, 7] 10 (fun g c2 c7 wr => ∃ i acc : Nat, i ≤ 9 ∧ g = 10 - i ∧ c7 = .int .i64 i ∧ c2 = .int .u64 acc ∧ acc < 2 ^ (7 * i) ∧ i ≤ n ∧ tkGo (10 - i) i acc (xs.drop i) = tk xs ∧ wr = w)
  case atStart => exact ⟨0, 0, by omega, rfl, rfl, rfl, by simp, by omega, rfl, rfl⟩
  case round =>
    obtain ⟨i, acc, hi, hg, rfl, rfl, hacc, hin, ht, rfl⟩ := hrel
    have T := Lib.hid ht
    have AC := Lib.hid hacc
    have G := Lib.hid hg
    clear ht hacc hg
    by_cases h1 : i < n
    · have hix : i < xs.length := by have := N.out; omega
      obtain ⟨d, hd⟩ : ∃ d, d = xs[i] := ⟨_, rfl⟩
      have hbd := HB.out _ (List.getElem_mem hix)
      rw [← hd] at hbd
      obtain ⟨hd0, hd1⟩ := hbd
      rcases HH.out with h0 | ⟨gb, o, rfl, hgl, hcell⟩
      · omega
      have hcl : wr.cell? ⟨gb, o + i, none⟩ = some (.int .u8 d) := hcell i _ (by rw [hd]; simp [bc, hix])
      have D := Lib.hid hd
      clear hcell hd
      have hdrop : xs.drop i = d :: xs.drop (i + 1) := by rw [List.drop_eq_getElem_cons hix, ← D.out]
      have hstep : tk xs = if i = 9 ∧ 1 < d then (0, 0, 4) else if d < 128 then (if d = 0 ∧ 0 < i then (0, 0, 4) else (acc + d.toNat % 128 * 2 ^ (7 * i), i + 1, 0)) else tkGo (9 - i) (i + 1) (acc + d.toNat % 128 * 2 ^ (7 * i)) (xs.drop (i + 1)) := by
        rw [← T.out, hdrop, show 10 - i = 9 - i + 1 from by omega]; rfl
      have ST := Lib.hid hstep
      clear hstep hdrop
      by_cases h9 : i = 9
      · subst h9
        by_cases h2 : 1 < d
        · have E := Lib.hid (show tk xs = (0, 0, 4) by rw [ST.out, if_pos ⟨rfl, h2⟩])
          go_wp2
          refine bodyPost_ret (by simp [results, Tryd.results102]; rfl) rfl ⟨by rw [E.out]; rfl, rfl⟩
        · have hd128 : d < 128 := by omega
          by_cases h0 : d = 0
          · subst h0
            have E := Lib.hid (show tk xs = (0, 0, 4) by rw [ST.out, if_neg (by omega), if_pos (by omega), if_pos (by omega)])
            go_wp2
            refine bodyPost_ret (by simp [results, Tryd.results102]; rfl) rfl ⟨by rw [E.out]; rfl, rfl⟩
          · obtain rfl : d = 1 := by omega
            have E := Lib.hid (show tk xs = (acc + 9223372036854775808, 10, 0) by rw [ST.out, if_neg (by omega), if_pos (by omega), if_neg (by omega)]; rfl)
            have J := Lib.hid (join_ (d := 1) (i := 9) (acc := acc) ⟨by omega, by omega⟩ (by omega) (fun _ => by omega) AC.out)
            go_wp2
            have j := J.out
            simp only [show (2 : Int) ^ (7 * 9) = 9223372036854775808 from rfl] at j
            refine bodyPost_ret (by simp [results, Tryd.results102]; rfl) rfl ⟨by rw [E.out, j]; rfl, rfl⟩
      · have h9' : ¬ (i : Int) = 9 := by omega
        have J := Lib.hid (join_ (d := d) (i := i) (acc := acc) ⟨hd0, hd1⟩ hi (fun e => absurd e h9) AC.out)
        by_cases h128 : d < 128
        · by_cases h0 : d = 0
          · subst h0
            by_cases hi0 : 0 < i
            · have hi0' : 0 < (i : Int) := by omega
              have E := Lib.hid (show tk xs = (0, 0, 4) by rw [ST.out, if_neg (by omega), if_pos (by omega), if_pos (by omega)])
              go_wp2
              refine bodyPost_ret (by simp [results, Tryd.results102]; rfl) rfl ⟨by rw [E.out]; rfl, rfl⟩
            · obtain rfl : i = 0 := by omega
              rw [Nat.add_zero] at hcl
              have E := Lib.hid (show tk xs = (acc + (0 : Int).toNat % 128 * 2 ^ (7 * 0), 1, 0) by rw [ST.out, if_neg (by omega), if_pos (by omega), if_neg (by omega)])
              go_wp2
              have j := J.out
              simp at j
              refine bodyPost_ret (by simp [results, Tryd.results102]; rfl) rfl ⟨by rw [E.out]; simp [j], rfl⟩
          · have E := Lib.hid (show tk xs = (acc + d.toNat % 128 * 2 ^ (7 * i), i + 1, 0) by rw [ST.out, if_neg (by omega), if_pos h128, if_neg (by omega)])
            go_wp2
            refine bodyPost_ret (by simp [results, Tryd.results102]; rfl) rfl ⟨by rw [E.out, J.out]; rfl, rfl⟩
        · have E := Lib.hid (show tk xs = tkGo (9 - i) (i + 1) (acc + d.toNat % 128 * 2 ^ (7 * i)) (xs.drop (i + 1)) by rw [ST.out, if_neg (by omega), if_neg h128])
          go_wp2
          go_roundg (9 - i)
          case measure => have := G.out; omega
          case rel => exact ⟨i + 1, _, by omega, by omega, by go_num, by rw [J.out], acc_next AC.out (Nat.mod_lt _ (by omega)), by omega, by rw [E.out, show 10 - (i + 1) = 9 - i from by omega], rfl⟩
    · obtain rfl : i = n := by omega
      have E := Lib.hid (show tk xs = (0, 0, 5) by rw [← T.out, List.drop_of_length_le (by have := N.out; omega), show 10 - i = 9 - i + 1 from by omega]; rfl)
      go_wp2
      refine bodyPost_ret (by simp [results, Tryd.results102]; rfl) rfl ⟨by rw [E.out]; rfl, rfl⟩
theorem tkGo_nb : ∀ (f i acc n : Nat) (rest : List Int), f + i = 10 → i ≤ 9 → n < 2 ^ (64 - 7 * i) → (0 < i → 0 < n) → tkGo f i acc (nb n ++ rest) = (acc + n * 2 ^ (7 * i), i + (nb n).length, 0)
  | 0, i, _, _, _, hf, hi, _, _ => by omega
  | f + 1, i, acc, n, rest, hf, hi, hn, h0 => by
    have hp9 : i = 9 → n ≤ 1 := by
      intro h; subst h
      have : n < 2 ^ 1 := hn
      omega
    by_cases h1 : n < 128
    · rw [nb_lt h1, List.singleton_append, tkGo, if_neg (by intro ⟨h9, h2⟩; have := hp9 h9; omega), if_pos (by omega), if_neg (by intro ⟨ha, hb⟩; have := h0 hb; omega)]
      have : (n : Int).toNat % 128 = n := by omega
      rw [this]; rfl
    · rw [nb_ge h1, List.cons_append, tkGo, if_neg (by intro ⟨h9, h2⟩; have := hp9 h9; omega), if_neg (by omega)]
      have e1 : ((n % 128 + 128 : Nat) : Int).toNat % 128 = n % 128 := by omega
      have hi8 : i ≤ 8 := by
        rcases Nat.lt_or_ge i 9 with h | h
        · omega
        · have := hp9 (by omega); omega
      have hn' : n / 128 < 2 ^ (64 - 7 * (i + 1)) := by
        rw [Nat.div_lt_iff_lt_mul (by omega), show (128 : Nat) = 2 ^ 7 from rfl, ← Nat.pow_add, show 64 - 7 * (i + 1) + 7 = 64 - 7 * i from by omega]
        exact hn
      rw [e1, tkGo_nb f (i + 1) _ (n / 128) rest (by omega) (by omega) hn' (fun _ => by omega)]
      have e2 : acc + n % 128 * 2 ^ (7 * i) + n / 128 * 2 ^ (7 * (i + 1)) = acc + n * 2 ^ (7 * i) := by
        rw [show 7 * (i + 1) = 7 + 7 * i from by omega, Nat.pow_add, Nat.add_assoc, show n / 128 * (2 ^ 7 * 2 ^ (7 * i)) = n / 128 * 128 * 2 ^ (7 * i) from by rw [Nat.mul_assoc], ← Nat.add_mul]
        congr 2
        omega
      rw [e2]
      simp only [List.length_cons]
      congr 2
      omega
theorem tk_nb {n : Nat} (h : n < 18446744073709551616) (rest : List Int) : tk (nb n ++ rest) = (n, (nb n).length, 0) := by
  have := tkGo_nb 10 0 0 n rest rfl (by omega) h (by omega)
  simpa [tk] using this
theorem nb_inj {a b : Nat} (ha : a < 18446744073709551616) (hb : b < 18446744073709551616) (h : nb a = nb b) : a = b := by
  have h1 := tk_nb ha []
  have h2 := tk_nb hb []
  rw [h] at h1
  exact congrArg Prod.fst (h1.symm.trans h2)
theorem nb_mono : ∀ (b a : Nat), a ≤ b → (nb a).length ≤ (nb b).length := by
  intro b
  induction b using Nat.strongRecOn with
  | _ b ih =>
    intro a h
    by_cases h1 : a < 128
    · rw [nb_lt h1]; have := nb_len_pos b; simp; omega
    · rw [nb_ge h1, nb_ge (n := b) (by omega)]
      have := ih (b / 128) (by omega) (a / 128) (by omega)
      simp; omega

/-- How many bytes it takes. -/
theorem tkGo_size : ∀ (f i acc : Nat) (xs : List Int), f + i = 10 → (tkGo f i acc xs).2.1 ≤ i + xs.length ∧ (tkGo f i acc xs).2.1 ≤ 10
  | 0, _, _, _, _ => ⟨Nat.zero_le _, Nat.zero_le _⟩
  | _ + 1, _, _, [], _ => ⟨Nat.zero_le _, Nat.zero_le _⟩
  | f + 1, i, acc, c :: rest, h => by
    rw [tkGo]
    split
    · exact ⟨Nat.zero_le _, Nat.zero_le _⟩
    · split
      · split
        · exact ⟨Nat.zero_le _, Nat.zero_le _⟩
        · simp only [List.length_cons]; omega
      · have := tkGo_size f (i + 1) (acc + c.toNat % 128 * 2 ^ (7 * i)) rest (by omega)
        simp only [List.length_cons]; omega
theorem tk_size (xs : List Int) : (tk xs).2.1 ≤ xs.length ∧ (tk xs).2.1 ≤ 10 := by
  have := tkGo_size 10 0 0 xs rfl
  rw [Nat.zero_add] at this
  exact this
theorem tkGo_err : ∀ (f i acc : Nat) (xs : List Int), f + i = 10 → ((tkGo f i acc xs).2.2 = 0 ∧ 0 < (tkGo f i acc xs).2.1) ∨ ((tkGo f i acc xs).2.2 ≠ 0 ∧ (tkGo f i acc xs).2.1 = 0 ∧ (tkGo f i acc xs).1 = 0)
  | 0, _, _, _, _ => .inr ⟨(by decide : (4 : Int) ≠ 0), rfl, rfl⟩
  | _ + 1, _, _, [], _ => .inr ⟨(by decide : (5 : Int) ≠ 0), rfl, rfl⟩
  | f + 1, i, acc, c :: rest, h => by
    rw [tkGo]
    split
    · exact .inr ⟨by decide, rfl, rfl⟩
    · split
      · split
        · exact .inr ⟨by decide, rfl, rfl⟩
        · exact .inl ⟨rfl, Nat.succ_pos _⟩
      · exact tkGo_err f (i + 1) _ rest (by omega)
theorem tkGo_lt : ∀ (f i acc : Nat) (xs : List Int), f + i = 10 → (∀ c ∈ xs, byt c) → acc < 2 ^ (7 * i) → (tkGo f i acc xs).1 < 18446744073709551616
  | 0, _, _, _, _, _, _ => (by decide : (0 : Nat) < 18446744073709551616)
  | _ + 1, _, _, [], _, _, _ => (by decide : (0 : Nat) < 18446744073709551616)
  | f + 1, i, acc, c :: rest, h, hb, ha => by
    rw [tkGo]
    split
    · decide
    · rename_i h1
      have hc := hb c (by simp)
      have hi : i ≤ 9 := by omega
      split
      · split
        · decide
        · by_cases h9 : i = 9
          · subst h9
            have hc1 : c ≤ 1 := by rcases Int.lt_or_le 1 c with h | h
                                   · exact absurd ⟨rfl, h⟩ h1
                                   · exact h
            have : c.toNat % 128 ≤ 1 := by omega
            have : c.toNat % 128 * 2 ^ (7 * 9) ≤ 1 * 2 ^ (7 * 9) := Nat.mul_le_mul_right _ this
            simp only
            omega
          · have := acc_next (m := c.toNat % 128) ha (Nat.mod_lt _ (by omega))
            have h2 : 2 ^ (7 * (i + 1)) ≤ 2 ^ 63 := Nat.pow_le_pow_right (by omega) (by omega)
            simp only
            omega
      · exact tkGo_lt f (i + 1) _ rest (by omega) (fun c hc => hb c (by simp [hc])) (acc_next ha (Nat.mod_lt _ (by omega)))
theorem tk_lt {xs : List Int} (hb : ∀ c ∈ xs, byt c) : (tk xs).1 < 18446744073709551616 := tkGo_lt 10 0 0 xs rfl hb (by decide)
theorem tk_err (xs : List Int) : ((tk xs).2.2 = 0 ∧ 0 < (tk xs).2.1) ∨ ((tk xs).2.2 ≠ 0 ∧ (tk xs).2.1 = 0 ∧ (tk xs).1 = 0) := tkGo_err 10 0 0 xs rfl

theorem Take_any (v : Value) (xs : List Int) (w : World) (h : Bs w v xs) (hb : ∀ c ∈ xs, byt c) (hl : xs.length ≤ 70368744177664) :
    Calls Tryd.prog 82 #[v] w fun e w' => e = .returned (.tuple #[.int .u64 (tk xs).1, .int .i64 (tk xs).2.1]) ∧ w = w' := by
  have H := Lib.hid h
  have HB := Lib.hid hb
  obtain ⟨A0, c0, rfl, -⟩ := id h
  clear h hb
  go_enter Tryd.func82, Tryd.ntmps82
  go_wp2_with fail
  refine (take_any _ xs _ H.out HB.out hl).mono ?_
  rintro e w1 ⟨rfl, rfl⟩
  go_wp2
  go_ret2
  exact ⟨rfl, rfl⟩
end Go.Proofs.YtnegondlkfeleaaDoor
