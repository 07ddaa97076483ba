import Derived.Test.YtoiclicechfmgaaGreatDoorNuz
import Derived.Laws.Bits64b
import Derived.OwnWalk
import Derived.Test.YtoiclicechfmgaaGreatDoorZmz
/- Taking a number off bytes. -/
namespace Go.Proofs.YtoiclicechfmgaaGreatDoor
open Go.RowKit

/-- A number off bytes: the number, how many bytes it takes, what is wrong (5: too short, 4: another form). -/
def tkGo : Nat → Nat → Nat → List Int → Nat × Nat × Int
  | 0, _, _, _ => (0, 0, 4)
  | _ + 1, _, _, [] => (0, 0, 5)
  | f + 1, i, acc, c :: rest =>
    if i = 9 ∧ 1 < c then (0, 0, 4)
    else if c < 128 then (if c = 0 ∧ 0 < i then (0, 0, 4) else (acc + c.toNat % 128 * 2 ^ (7 * i), i + 1, 0))
    else tkGo f (i + 1) (acc + c.toNat % 128 * 2 ^ (7 * i)) rest
def tk (xs : List Int) : Nat × Nat × Int := tkGo 10 0 0 xs

set_option maxRecDepth 100000 in
theorem low7_ : ∀ j : Fin 256, bits .andNot .u8 (j.val : Int) 128 = ((j.val % 128 : Nat) : Int) := by decide
theorem low7 {d : Int} (h : byt d) : bits .andNot .u8 d 128 = ((d.toNat % 128 : Nat) : Int) := by
  have h1 := low7_ ⟨d.toNat, by have := h.2; have := h.1; omega⟩
  simp only at h1
  rw [← h1]
  congr 1
  have := h.1
  omega
theorem part_lt {m i : Nat} (hm : m < 128) (hi : i ≤ 9) (h9 : i = 9 → m ≤ 1) : m * 2 ^ (7 * i) < 18446744073709551616 := by
  by_cases h : i = 9
  · subst h
    have := h9 rfl
    have : m * 2 ^ (7 * 9) ≤ 1 * 2 ^ (7 * 9) := Nat.mul_le_mul_right _ this
    omega
  · have h2 : 2 ^ (7 * i) ≤ 2 ^ 56 := Nat.pow_le_pow_right (by omega) (by omega)
    have : m * 2 ^ (7 * i) ≤ 127 * 2 ^ 56 := Nat.mul_le_mul (by omega) h2
    omega
theorem join_ {d : Int} {i acc : Nat} (h : byt d) (hi : i ≤ 9) (h9 : i = 9 → d ≤ 1) (ha : acc < 2 ^ (7 * i)) :
    bits .or .u64 (acc : Int) (IntKind.u64.wrap (IntKind.u64.wrap (bits .andNot .u8 d 128) * 2 ^ (7 * i))) = ((acc + d.toNat % 128 * 2 ^ (7 * i) : Nat) : Int) := by
  have hm : d.toNat % 128 < 128 := Nat.mod_lt _ (by omega)
  have hp := part_lt hm hi (fun e => by have := h9 e; have := h.1; omega)
  have ha64 : acc < 18446744073709551616 := Nat.lt_of_lt_of_le ha (by
    have : 2 ^ (7 * i) ≤ 2 ^ 63 := Nat.pow_le_pow_right (by omega) (by omega)
    omega)
  rw [low7 h, IntWalk.u64_in ((d.toNat % 128 : Nat) : Int) (by omega), show (((d.toNat % 128 : Nat) : Int) * 2 ^ (7 * i)) = ((d.toNat % 128 * 2 ^ (7 * i) : Nat) : Int) from by rw [Int.natCast_mul, Int.natCast_pow]; rfl,
    IntWalk.u64_in _ (by omega), bits_or_u64_nat _ _ ha64 hp, Nat.or_comm, ← Nat.shiftLeft_eq, ← Nat.shiftLeft_add_eq_or_of_lt ha, Nat.add_comm]
theorem acc_next {acc m i : Nat} (ha : acc < 2 ^ (7 * i)) (hm : m < 128) : acc + m * 2 ^ (7 * i) < 2 ^ (7 * (i + 1)) := by
  rw [show 7 * (i + 1) = 7 + 7 * i from by omega, Nat.pow_add]
  have : (m + 1) * 2 ^ (7 * i) ≤ 2 ^ 7 * 2 ^ (7 * i) := Nat.mul_le_mul_right _ (by omega)
  rw [Nat.add_mul] at this
  omega

set_option maxHeartbeats 1000000 in
theorem take_any (v : Value) (xs : List Int) (w : World) (h : Bs w v xs) (hb : ∀ c ∈ xs, byt c) (hl : xs.length ≤ 70368744177664) :
    Calls Tryz.prog 115 #[v] w fun e w' => e = .returned (.tuple #[.int .u64 (tk xs).1, .int .i64 (tk xs).2.1, .int .i64 (tk xs).2.2]) ∧ w = w' := by
  obtain ⟨A, c, rfl, hc, hlx, hh⟩ := id h
  obtain ⟨n, hn⟩ : ∃ n, n = xs.length := ⟨_, rfl⟩
  have hl' : (n : Int) ≤ 70368744177664 := by omega
  rw [← hn] at h hh ⊢
  have N := Lib.hid hn
  have HB := Lib.hid hb
  have HH := Lib.hid hh
  clear h hc hlx hh hl hn hb
  go_enter Tryz.func115, Tryz.ntmps115
  go_wp2
  go_loopg [2, 7] 10 (fun g c2 c7 wr => ∃ i acc : Nat, i ≤ 9 ∧ g = 10 - i ∧ c7 = .int .i64 i ∧ c2 = .int .u64 acc ∧ acc < 2 ^ (7 * i) ∧ i ≤ n ∧ tkGo (10 - i) i acc (xs.drop i) = tk xs ∧ wr = w)
  case atStart => exact ⟨0, 0, by omega, rfl, rfl, rfl, by simp, by omega, rfl, rfl⟩
  case round =>
    obtain ⟨i, acc, hi, hg, rfl, rfl, hacc, hin, ht, rfl⟩ := hrel
    have T := Lib.hid ht
    have AC := Lib.hid hacc
    have G := Lib.hid hg
    clear ht hacc hg
    by_cases h1 : i < n
    · have hix : i < xs.length := by have := N.out; omega
      obtain ⟨d, hd⟩ : ∃ d, d = xs[i] := ⟨_, rfl⟩
      have hbd := HB.out _ (List.getElem_mem hix)
      rw [← hd] at hbd
      obtain ⟨hd0, hd1⟩ := hbd
      rcases HH.out with h0 | ⟨gb, o, rfl, hgl, hcell⟩
      · omega
      have hcl : wr.cell? ⟨gb, o + i, none⟩ = some (.int .u8 d) := hcell i _ (by rw [hd]; simp [bc, hix])
      have D := Lib.hid hd
      clear hcell hd
      have hdrop : xs.drop i = d :: xs.drop (i + 1) := by rw [List.drop_eq_getElem_cons hix, ← D.out]
      have hstep : tk xs = if i = 9 ∧ 1 < d then (0, 0, 4) else if d < 128 then (if d = 0 ∧ 0 < i then (0, 0, 4) else (acc + d.toNat % 128 * 2 ^ (7 * i), i + 1, 0)) else tkGo (9 - i) (i + 1) (acc + d.toNat % 128 * 2 ^ (7 * i)) (xs.drop (i + 1)) := by
        rw [← T.out, hdrop, show 10 - i = 9 - i + 1 from by omega]; rfl
      have ST := Lib.hid hstep
      clear hstep hdrop
      by_cases h9 : i = 9
      · subst h9
        by_cases h2 : 1 < d
        · have E := Lib.hid (show tk xs = (0, 0, 4) by rw [ST.out, if_pos ⟨rfl, h2⟩])
          go_wp2
          refine bodyPost_ret (by simp [results, Tryz.results115]; rfl) rfl ⟨by rw [E.out]; rfl, rfl⟩
        · have hd128 : d < 128 := by omega
          by_cases h0 : d = 0
          · subst h0
            have E := Lib.hid (show tk xs = (0, 0, 4) by rw [ST.out, if_neg (by omega), if_pos (by omega), if_pos (by omega)])
            go_wp2
            refine bodyPost_ret (by simp [results, Tryz.results115]; rfl) rfl ⟨by rw [E.out]; rfl, rfl⟩
          · obtain rfl : d = 1 := by omega
            have E := Lib.hid (show tk xs = (acc + 9223372036854775808, 10, 0) by rw [ST.out, if_neg (by omega), if_pos (by omega), if_neg (by omega)]; rfl)
            have J := Lib.hid (join_ (d := 1) (i := 9) (acc := acc) ⟨by omega, by omega⟩ (by omega) (fun _ => by omega) AC.out)
            go_wp2
            have j := J.out
            simp only [show (2 : Int) ^ (7 * 9) = 9223372036854775808 from rfl] at j
            refine bodyPost_ret (by simp [results, Tryz.results115]; rfl) rfl ⟨by rw [E.out, j]; rfl, rfl⟩
      · have h9' : ¬ (i : Int) = 9 := by omega
        have J := Lib.hid (join_ (d := d) (i := i) (acc := acc) ⟨hd0, hd1⟩ hi (fun e => absurd e h9) AC.out)
        by_cases h128 : d < 128
        · by_cases h0 : d = 0
          · subst h0
            by_cases hi0 : 0 < i
            · have hi0' : 0 < (i : Int) := by omega
              have E := Lib.hid (show tk xs = (0, 0, 4) by rw [ST.out, if_neg (by omega), if_pos (by omega), if_pos (by omega)])
              go_wp2
              refine bodyPost_ret (by simp [results, Tryz.results115]; rfl) rfl ⟨by rw [E.out]; rfl, rfl⟩
            · obtain rfl : i = 0 := by omega
              rw [Nat.add_zero] at hcl
              have E := Lib.hid (show tk xs = (acc + (0 : Int).toNat % 128 * 2 ^ (7 * 0), 1, 0) by rw [ST.out, if_neg (by omega), if_pos (by omega), if_neg (by omega)])
              go_wp2
              have j := J.out
              simp at j
              refine bodyPost_ret (by simp [results, Tryz.results115]; rfl) rfl ⟨by rw [E.out]; simp [j], rfl⟩
          · have E := Lib.hid (show tk xs = (acc + d.toNat % 128 * 2 ^ (7 * i), i + 1, 0) by rw [ST.out, if_neg (by omega), if_pos h128, if_neg (by omega)])
            go_wp2
            refine bodyPost_ret (by simp [results, Tryz.results115]; rfl) rfl ⟨by rw [E.out, J.out]; rfl, rfl⟩
        · have E := Lib.hid (show tk xs = tkGo (9 - i) (i + 1) (acc + d.toNat % 128 * 2 ^ (7 * i)) (xs.drop (i + 1)) by rw [ST.out, if_neg (by omega), if_neg h128])
          go_wp2
          go_roundg (9 - i)
          case measure => have := G.out; omega
          case rel => exact ⟨i + 1, _, by omega, by omega, by go_num, by rw [J.out], acc_next AC.out (Nat.mod_lt _ (by omega)), by omega, by rw [E.out, show 10 - (i + 1) = 9 - i from by omega], rfl⟩
    · obtain rfl : i = n := by omega
      have E := Lib.hid (show tk xs = (0, 0, 5) by rw [← T.out, List.drop_of_length_le (by have := N.out; omega), show 10 - i = 9 - i + 1 from by omega]; rfl)
      go_wp2
      refine bodyPost_ret (by simp [results, Tryz.results115]; rfl) rfl ⟨by rw [E.out]; rfl, rfl⟩
theorem tkGo_nb : ∀ (f i acc n : Nat) (rest : List Int), f + i = 10 → i ≤ 9 → n < 2 ^ (64 - 7 * i) → (0 < i → 0 < n) → tkGo f i acc (nb n ++ rest) = (acc + n * 2 ^ (7 * i), i + (nb n).length, 0)
  | 0, i, _, _, _, hf, hi, _, _ => by omega
  | f + 1, i, acc, n, rest, hf, hi, hn, h0 => by
    have hp9 : i = 9 → n ≤ 1 := by
      intro h; subst h
      have : n < 2 ^ 1 := hn
      omega
    by_cases h1 : n < 128
    · rw [nb_lt h1, List.singleton_append, tkGo, if_neg (by intro ⟨h9, h2⟩; have := hp9 h9; omega), if_pos (by omega), if_neg (by intro ⟨ha, hb⟩; have := h0 hb; omega)]
      have : (n : Int).toNat % 128 = n := by omega
      rw [this]; rfl
    · rw [nb_ge h1, List.cons_append, tkGo, if_neg (by intro ⟨h9, h2⟩; have := hp9 h9; omega), if_neg (by omega)]
      have e1 : ((n % 128 + 128 : Nat) : Int).toNat % 128 = n % 128 := by omega
      have hi8 : i ≤ 8 := by
        rcases Nat.lt_or_ge i 9 with h | h
        · omega
        · have := hp9 (by omega); omega
      have hn' : n / 128 < 2 ^ (64 - 7 * (i + 1)) := by
        rw [Nat.div_lt_iff_lt_mul (by omega), show (128 : Nat) = 2 ^ 7 from rfl, ← Nat.pow_add, show 64 - 7 * (i + 1) + 7 = 64 - 7 * i from by omega]
        exact hn
      rw [e1, tkGo_nb f (i + 1) _ (n / 128) rest (by omega) (by omega) hn' (fun _ => by omega)]
      have e2 : acc + n % 128 * 2 ^ (7 * i) + n / 128 * 2 ^ (7 * (i + 1)) = acc + n * 2 ^ (7 * i) := by
        rw [show 7 * (i + 1) = 7 + 7 * i from by omega, Nat.pow_add, Nat.add_assoc, show n / 128 * (2 ^ 7 * 2 ^ (7 * i)) = n / 128 * 128 * 2 ^ (7 * i) from by rw [Nat.mul_assoc], ← Nat.add_mul]
        congr 2
        omega
      rw [e2]
      simp only [List.length_cons]
      congr 2
      omega
theorem tk_nb {n : Nat} (h : n < 18446744073709551616) (rest : List Int) : tk (nb n ++ rest) = (n, (nb n).length, 0) := by
  have := tkGo_nb 10 0 0 n rest rfl (by omega) h (by omega)
  simpa [tk] using this
theorem nb_inj {a b : Nat} (ha : a < 18446744073709551616) (hb : b < 18446744073709551616) (h : nb a = nb b) : a = b := by
  have h1 := tk_nb ha []
  have h2 := tk_nb hb []
  rw [h] at h1
  exact congrArg Prod.fst (h1.symm.trans h2)
theorem nb_mono : ∀ (b a : Nat), a ≤ b → (nb a).length ≤ (nb b).length := by
  intro b
  induction b using Nat.strongRecOn with
  | _ b ih =>
    intro a h
    by_cases h1 : a < 128
    · rw [nb_lt h1]; have := nb_len_pos b; simp; omega
    · rw [nb_ge h1, nb_ge (n := b) (by omega)]
      have := ih (b / 128) (by omega) (a / 128) (by omega)
      simp; omega

/-- How many bytes it takes. -/
theorem tkGo_size : ∀ (f i acc : Nat) (xs : List Int), f + i = 10 → (tkGo f i acc xs).2.1 ≤ i + xs.length ∧ (tkGo f i acc xs).2.1 ≤ 10
  | 0, _, _, _, _ => ⟨Nat.zero_le _, Nat.zero_le _⟩
  | _ + 1, _, _, [], _ => ⟨Nat.zero_le _, Nat.zero_le _⟩
  | f + 1, i, acc, c :: rest, h => by
    rw [tkGo]
    split
    · exact ⟨Nat.zero_le _, Nat.zero_le _⟩
    · split
      · split
        · exact ⟨Nat.zero_le _, Nat.zero_le _⟩
        · simp only [List.length_cons]; omega
      · have := tkGo_size f (i + 1) (acc + c.toNat % 128 * 2 ^ (7 * i)) rest (by omega)
        simp only [List.length_cons]; omega
theorem tk_size (xs : List Int) : (tk xs).2.1 ≤ xs.length ∧ (tk xs).2.1 ≤ 10 := by
  have := tkGo_size 10 0 0 xs rfl
  rw [Nat.zero_add] at this
  exact this
theorem tkGo_err : ∀ (f i acc : Nat) (xs : List Int), f + i = 10 → ((tkGo f i acc xs).2.2 = 0 ∧ 0 < (tkGo f i acc xs).2.1) ∨ ((tkGo f i acc xs).2.2 ≠ 0 ∧ (tkGo f i acc xs).2.1 = 0 ∧ (tkGo f i acc xs).1 = 0)
  | 0, _, _, _, _ => .inr ⟨(by decide : (4 : Int) ≠ 0), rfl, rfl⟩
  | _ + 1, _, _, [], _ => .inr ⟨(by decide : (5 : Int) ≠ 0), rfl, rfl⟩
  | f + 1, i, acc, c :: rest, h => by
    rw [tkGo]
    split
    · exact .inr ⟨by decide, rfl, rfl⟩
    · split
      · split
        · exact .inr ⟨by decide, rfl, rfl⟩
        · exact .inl ⟨rfl, Nat.succ_pos _⟩
      · exact tkGo_err f (i + 1) _ rest (by omega)
theorem tkGo_lt : ∀ (f i acc : Nat) (xs : List Int), f + i = 10 → (∀ c ∈ xs, byt c) → acc < 2 ^ (7 * i) → (tkGo f i acc xs).1 < 18446744073709551616
  | 0, _, _, _, _, _, _ => (by decide : (0 : Nat) < 18446744073709551616)
  | _ + 1, _, _, [], _, _, _ => (by decide : (0 : Nat) < 18446744073709551616)
  | f + 1, i, acc, c :: rest, h, hb, ha => by
    rw [tkGo]
    split
    · decide
    · rename_i h1
      have hc := hb c (by simp)
      have hi : i ≤ 9 := by omega
      split
      · split
        · decide
        · by_cases h9 : i = 9
          · subst h9
            have hc1 : c ≤ 1 := by rcases Int.lt_or_le 1 c with h | h
                                   · exact absurd ⟨rfl, h⟩ h1
                                   · exact h
            have : c.toNat % 128 ≤ 1 := by omega
            have : c.toNat % 128 * 2 ^ (7 * 9) ≤ 1 * 2 ^ (7 * 9) := Nat.mul_le_mul_right _ this
            simp only
            omega
          · have := acc_next (m := c.toNat % 128) ha (Nat.mod_lt _ (by omega))
            have h2 : 2 ^ (7 * (i + 1)) ≤ 2 ^ 63 := Nat.pow_le_pow_right (by omega) (by omega)
            simp only
            omega
      · exact tkGo_lt f (i + 1) _ rest (by omega) (fun c hc => hb c (by simp [hc])) (acc_next ha (Nat.mod_lt _ (by omega)))
theorem tk_lt {xs : List Int} (hb : ∀ c ∈ xs, byt c) : (tk xs).1 < 18446744073709551616 := tkGo_lt 10 0 0 xs rfl hb (by decide)
theorem tk_err (xs : List Int) : ((tk xs).2.2 = 0 ∧ 0 < (tk xs).2.1) ∨ ((tk xs).2.2 ≠ 0 ∧ (tk xs).2.1 = 0 ∧ (tk xs).1 = 0) := tkGo_err 10 0 0 xs rfl

theorem Take_any (v : Value) (xs : List Int) (w : World) (h : Bs w v xs) (hb : ∀ c ∈ xs, byt c) (hl : xs.length ≤ 70368744177664) :
    Calls Tryz.prog 87 #[v] w fun e w' => e = .returned (.tuple #[.int .u64 (tk xs).1, .int .i64 (tk xs).2.1]) ∧ w = w' := by
  have H := Lib.hid h
  have HB := Lib.hid hb
  obtain ⟨A0, c0, rfl, -⟩ := id h
  clear h hb
  go_enter Tryz.func87, Tryz.ntmps87
  go_wp2_with fail
  refine (take_any _ xs _ H.out HB.out hl).mono ?_
  rintro e w1 ⟨rfl, rfl⟩
  go_wp2
  go_ret2
  exact ⟨rfl, rfl⟩
end Go.Proofs.YtoiclicechfmgaaGreatDoor

/- Packs: the plain law: what is put and what is got, by codecs. -/
namespace Go.Proofs.YtoiclicechfmgaaGreatDoor
open Go.RowKit

/-- A number with a sign, bs one without. -/
def zz (n : Int) : Nat := if 0 ≤ n then (2 * n).toNat else (2 * (-(n + 1)) + 1).toNat
/-- .. its bytes. -/
def sb (n : Int) : List Int := nb (zz n)
def in64 (n : Int) : Prop := -9223372036854775808 ≤ n ∧ n ≤ 9223372036854775807
theorem zz_lt {n : Int} (h1 : -9223372036854775808 ≤ n) (h2 : n ≤ 9223372036854775807) : zz n < 18446744073709551616 := by unfold zz; split <;> omega
theorem sb_ten {n : Int} (h1 : -9223372036854775808 ≤ n) (h2 : n ≤ 9223372036854775807) : (sb n).length ≤ 10 := nb_ten (zz_lt h1 h2)
theorem sb_ten' {n : Int} (h : in64 n) : (sb n).length ≤ 10 := sb_ten h.1 h.2

/-- What getting answers: a thing and what is left, or what is wrong. -/
abbrev Res (α : Type) := Except Int (α × List Int)
def bindP {α β : Type} (x : Res α) (k : α → List Int → Res β) : Res β := match x with
  | .ok (a, r) => k a r
  | .error e => .error e
def numP (xs : List Int) : Res Nat := if (tk xs).2.2 = 0 then .ok ((tk xs).1, xs.drop (tk xs).2.1) else .error (tk xs).2.2
def byteP : List Int → Res Int
  | [] => .error 5
  | c :: r => .ok (c, r)
def unzz (n : Nat) : Int := if n % 2 = 0 then ((n / 2 : Nat) : Int) else -((n / 2 : Nat) : Int) - 1
def signP (xs : List Int) : Res Int := bindP (numP xs) fun n r => .ok (unzz n, r)
def repP {α : Type} (p : List Int → Res α) : Nat → List Int → Res (List α)
  | 0, xs => .ok ([], xs)
  | n + 1, xs => bindP (p xs) fun a r => bindP (repP p n r) fun bs r' => .ok (a :: bs, r')
/-- A list of so many at most. -/
def listP {α : Type} (p : List Int → Res α) (most : Nat) (xs : List Int) : Res (List α) := bindP (numP xs) fun n r => if most < n then .error 3 else repP p n r
/-- All bytes are a thing. -/
def allP {α : Type} (x : Res α) : Except Int α := match x with
  | .ok (a, []) => .ok a
  | .ok (_, _ :: _) => .error 4
  | .error k => .error k

theorem unzz_zz (n : Int) : unzz (zz n) = n := by
  unfold zz
  split
  · rename_i h
    unfold unzz
    rw [if_pos (by omega)]; omega
  · rename_i h
    unfold unzz
    rw [if_neg (by omega)]; omega
theorem zz_unzz (n : Nat) : zz (unzz n) = n := by
  unfold unzz
  split
  · unfold zz
    rw [if_pos (by omega)]; omega
  · unfold zz
    rw [if_neg (by omega)]; omega
theorem unzz_in {n : Nat} (h : n < 18446744073709551616) : in64 (unzz n) := by unfold unzz in64; split <;> omega

/-- A number's bytes, cut. -/
theorem tkGo_cut : ∀ (f i acc n k : Nat), f + i = 10 → i ≤ 9 → n < 2 ^ (64 - 7 * i) → (0 < i → 0 < n) → k < (nb n).length → tkGo f i acc ((nb n).take k) = (0, 0, 5)
  | 0, i, _, _, _, hf, hi, _, _, _ => by omega
  | f + 1, i, acc, n, 0, hf, hi, hn, h0, hk => by rw [List.take_zero]; rfl
  | f + 1, i, acc, n, k + 1, hf, hi, hn, h0, hk => by
    have hp9 : i = 9 → n ≤ 1 := by
      intro h; subst h
      have : n < 2 ^ 1 := hn
      omega
    by_cases h1 : n < 128
    · rw [nb_lt h1] at hk; simp at hk
    · rw [nb_ge h1] at hk ⊢
      rw [List.take_succ_cons, tkGo, if_neg (by intro ⟨h9, h2⟩; have := hp9 h9; omega), if_neg (by omega)]
      have hi8 : i ≤ 8 := by
        rcases Nat.lt_or_ge i 9 with h | h
        · omega
        · have := hp9 (by omega); omega
      have hn' : n / 128 < 2 ^ (64 - 7 * (i + 1)) := by
        rw [Nat.div_lt_iff_lt_mul (by omega), show (128 : Nat) = 2 ^ 7 from rfl, ← Nat.pow_add, show 64 - 7 * (i + 1) + 7 = 64 - 7 * i from by omega]
        exact hn
      exact tkGo_cut f (i + 1) _ (n / 128) k (by omega) (by omega) hn' (fun _ => by omega) (by simpa using hk)
theorem tk_cut {n k : Nat} (h : n < 18446744073709551616) (hk : k < (nb n).length) : tk ((nb n).take k) = (0, 0, 5) := tkGo_cut 10 0 0 n k rfl (by omega) h (by omega) hk
/-- .. taken, they are its own. -/
theorem tkGo_back : ∀ (f i acc : Nat) (xs : List Int) (n s : Nat), f + i = 10 → (∀ c ∈ xs, byt c) → tkGo f i acc xs = (n, s, 0) →
    ∃ m, n = acc + m * 2 ^ (7 * i) ∧ i < s ∧ nb m = xs.take (s - i) ∧ s - i ≤ xs.length ∧ (0 < i → 0 < m) ∧ m < 2 ^ (64 - 7 * i)
  | 0, _, _, _, _, _, _, _, h => by simp [tkGo] at h
  | f + 1, i, acc, [], _, _, _, _, h => by simp [tkGo] at h
  | f + 1, i, acc, c :: rest, n, s, hf, hb, h => by
    have hc := hb c (by simp)
    have hc1 := hc.1
    have hc2 := hc.2
    rw [tkGo] at h
    split at h
    · simp at h
    · rename_i h1
      have h9 : i = 9 → c ≤ 1 := fun e => by
        rcases Int.lt_or_le 1 c with h | h
        · exact absurd ⟨e, h⟩ h1
        · exact h
      split at h
      · rename_i h2
        split at h
        · simp at h
        · rename_i h3
          injection h with e1 e2
          injection e2 with e2 _
          subst e1; subst e2
          have hm : c.toNat % 128 = c.toNat := by omega
          refine ⟨c.toNat, by rw [hm], by omega, ?_, by simp, fun hi => ?_, ?_⟩
          · rw [nb_lt (by omega), show i + 1 - i = 0 + 1 from by omega, List.take_succ_cons, List.take_zero]
            congr 1; omega
          · rcases Nat.eq_zero_or_pos c.toNat with h0 | h0
            · exact absurd ⟨by omega, hi⟩ h3
            · exact h0
          · by_cases e9 : i = 9
            · subst e9; have := h9 rfl; show c.toNat < 2; omega
            · have : 2 ^ 8 ≤ 2 ^ (64 - 7 * i) := Nat.pow_le_pow_right (by omega) (by omega)
              omega
      · rename_i h2
        have hi8 : i ≤ 8 := by
          rcases Nat.lt_or_ge i 9 with h | h
          · omega
          · have := h9 (by omega); omega
        obtain ⟨m, e1, e2, e3, e4, e5, e6⟩ := tkGo_back f (i + 1) _ rest n s (by omega) (fun x hx => hb x (by simp [hx])) h
        have hm0 := e5 (by omega)
        have hd : c.toNat % 128 + 128 = c.toNat := by omega
        refine ⟨m * 128 + c.toNat % 128, ?_, by omega, ?_, by simp only [List.length_cons]; omega, fun _ => by omega, ?_⟩
        · rw [e1, show 7 * (i + 1) = 7 + 7 * i from by omega, Nat.pow_add, Nat.add_mul, Nat.add_assoc, Nat.add_comm (c.toNat % 128 * 2 ^ (7 * i)), show m * (2 ^ 7 * 2 ^ (7 * i)) = m * 128 * 2 ^ (7 * i) from by rw [Nat.mul_assoc]]
        · rw [nb_ge (by omega), show s - i = (s - (i + 1)) + 1 from by omega, List.take_succ_cons, show (m * 128 + c.toNat % 128) / 128 = m from by omega, e3, show (m * 128 + c.toNat % 128) % 128 + 128 = c.toNat from by omega]
          congr 1; omega
        · have e6' : m + 1 ≤ 2 ^ (64 - 7 * (i + 1)) := e6
          have h8 : (m + 1) * 128 ≤ 2 ^ (64 - 7 * (i + 1)) * 2 ^ 7 := Nat.mul_le_mul_right _ e6'
          rw [← Nat.pow_add, show 64 - 7 * (i + 1) + 7 = 64 - 7 * i from by omega] at h8
          omega
theorem tk_back {xs : List Int} {n s : Nat} (hb : ∀ c ∈ xs, byt c) (h : tk xs = (n, s, 0)) : nb n = xs.take s ∧ 0 < s ∧ s ≤ xs.length ∧ n < 18446744073709551616 := by
  obtain ⟨m, e1, e2, e3, e4, _, e6⟩ := tkGo_back 10 0 0 xs n s rfl hb h
  have : m = n := by rw [e1]; simp
  subst this
  exact ⟨by simpa using e3, e2, by omega, e6⟩
theorem tkGo_bad : ∀ (f i acc : Nat) (xs : List Int), (tkGo f i acc xs).2.2 = 0 ∨ (tkGo f i acc xs).2.2 = 4 ∨ (tkGo f i acc xs).2.2 = 5
  | 0, _, _, _ => .inr (.inl rfl)
  | _ + 1, _, _, [] => .inr (.inr rfl)
  | f + 1, i, acc, c :: rest => by
    rw [tkGo]
    split
    · exact .inr (.inl rfl)
    · split
      · split
        · exact .inr (.inl rfl)
        · exact .inl rfl
      · exact tkGo_bad f (i + 1) _ rest

/-- A way of putting and a way of getting fit. -/
structure Cod {α : Type} (put : α → List Int) (P : List Int → Res α) (ok : α → Prop) : Prop where
  get : ∀ a r, ok a → P (put a ++ r) = .ok (a, r)
  cut : ∀ a k, ok a → k < (put a).length → P ((put a).take k) = .error 5
  back : ∀ xs a r, (∀ c ∈ xs, byt c) → P xs = .ok (a, r) → xs = put a ++ r ∧ ok a
  bad : ∀ xs k, P xs = .error k → k = 3 ∨ k = 4 ∨ k = 5
  byt : ∀ a, ok a → ∀ c ∈ put a, byt c
theorem Cod.congr {α : Type} {put put' : α → List Int} {P P' : List Int → Res α} {ok ok' : α → Prop} (h : Cod put P ok) (hok : ∀ a, ok a ↔ ok' a) (hp : ∀ a, ok a → put a = put' a) (hP : ∀ xs, P xs = P' xs) : Cod put' P' ok' where
  get a r ha := by have ha' := (hok a).2 ha; rw [← hp a ha', ← hP]; exact h.get a r ha'
  cut a k ha hk := by have ha' := (hok a).2 ha; rw [← hp a ha'] at hk ⊢; rw [← hP]; exact h.cut a k ha' hk
  back xs a r hb hx := by rw [← hP] at hx; obtain ⟨h1, h2⟩ := h.back xs a r hb hx; exact ⟨by rw [h1, hp a h2], (hok a).1 h2⟩
  bad xs k hx := h.bad xs k (by rw [hP]; exact hx)
  byt a ha := by have ha' := (hok a).2 ha; rw [← hp a ha']; exact h.byt a ha'
theorem take_append_ (xs ys : List Int) (k : Nat) : (xs ++ ys).take k = xs.take k ++ ys.take (k - xs.length) := List.take_append
/-- One behind the other. -/
theorem Cod.bind {α β γ : Type} {p : α → List Int} {P : List Int → Res α} {ok1 : α → Prop} {q : β → List Int} {Q : List Int → Res β} {ok2 : β → Prop} (h1 : Cod p P ok1) (h2 : Cod q Q ok2)
    (mk : α → β → γ) (fa : γ → α) (fb : γ → β) (ok : γ → Prop) (e1 : ∀ a b, fa (mk a b) = a) (e2 : ∀ a b, fb (mk a b) = b) (hok : ∀ c, ok c → ok1 (fa c) ∧ ok2 (fb c) ∧ mk (fa c) (fb c) = c) (hok' : ∀ a b, ok1 a → ok2 b → ok (mk a b)) :
    Cod (fun c => p (fa c) ++ q (fb c)) (fun xs => bindP (P xs) fun a r => bindP (Q r) fun b r' => .ok (mk a b, r')) ok where
  get c r hc := by
    obtain ⟨ha, hb, hm⟩ := hok c hc
    simp only [List.append_assoc, h1.get _ _ ha, bindP, h2.get _ _ hb, hm]
  cut c k hc hk := by
    obtain ⟨ha, hb, hm⟩ := hok c hc
    rw [List.length_append] at hk
    rcases Nat.lt_or_ge k (p (fa c)).length with h | h
    · rw [take_append_, show k - (p (fa c)).length = 0 from by omega, List.take_zero, List.append_nil, h1.cut _ _ ha h]; rfl
    · rw [take_append_, List.take_of_length_le h, h1.get _ _ ha]
      simp only [bindP]
      rw [h2.cut _ _ hb (by omega)]
  back xs c r hb hx := by
    simp only [bindP] at hx
    split at hx
    · rename_i a r1 e
      obtain ⟨rfl, ha⟩ := h1.back xs a r1 hb e
      split at hx
      · rename_i b r2 e'
        injection hx with hx
        injection hx with hx1 hx2
        subst hx1; subst hx2
        obtain ⟨rfl, hb'⟩ := h2.back r1 b r2 (fun c hc => hb c (by simp [hc])) e'
        exact ⟨by simp only [e1, e2, List.append_assoc], hok' a b ha hb'⟩
      · cases hx
    · cases hx
  bad xs k hx := by
    simp only [bindP] at hx
    split at hx
    · rename_i a r1 e
      split at hx
      · cases hx
      · rename_i e'; injection hx with hx; subst hx; exact h2.bad _ _ e'
    · rename_i e; injection hx with hx; subst hx; exact h1.bad _ _ e
  byt c hc x hx := by
    obtain ⟨ha, hb, _⟩ := hok c hc
    rcases List.mem_append.1 hx with h | h
    · exact h1.byt _ ha x h
    · exact h2.byt _ hb x h
theorem Cod.map {α β : Type} {p : α → List Int} {P : List Int → Res α} {ok1 : α → Prop} (h : Cod p P ok1) (f : α → β) (g : β → α) (ok : β → Prop) (e : ∀ a, ok1 a → g (f a) = a) (hok : ∀ b, ok b → ok1 (g b) ∧ f (g b) = b) (hok' : ∀ a, ok1 a → ok (f a)) :
    Cod (fun b => p (g b)) (fun xs => bindP (P xs) fun a r => .ok (f a, r)) ok where
  get b r hb := by simp only [h.get _ _ (hok b hb).1, bindP, (hok b hb).2]
  cut b k hb hk := by simp only [h.cut _ _ (hok b hb).1 hk, bindP]
  back xs b r hb hx := by
    simp only [bindP] at hx
    split at hx
    · rename_i a r1 e'
      injection hx with hx
      injection hx with hx1 hx2
      subst hx1; subst hx2
      obtain ⟨rfl, ha⟩ := h.back xs a r1 hb e'
      exact ⟨by simp only [e a ha], hok' a ha⟩
    · cases hx
  bad xs k hx := by
    simp only [bindP] at hx
    split at hx
    · cases hx
    · rename_i e'; injection hx with hx; subst hx; exact h.bad _ _ e'
  byt b hb := h.byt _ (hok b hb).1

theorem numP_nb {n : Nat} (h : n < 18446744073709551616) (r : List Int) : numP (nb n ++ r) = .ok (n, r) := by
  unfold numP
  rw [tk_nb h r]
  simp
theorem cod_num : Cod nb numP (fun n => n < 18446744073709551616) where
  get n r h := numP_nb h r
  cut n k h hk := by unfold numP; rw [tk_cut h hk, if_neg (by decide)]
  back xs n r hb hx := by
    unfold numP at hx
    split at hx
    · rename_i h0
      injection hx with hx
      injection hx with hx1 hx2
      obtain ⟨e1, e2, e3, e4⟩ := tk_back hb (show tk xs = ((tk xs).1, (tk xs).2.1, 0) by rw [← h0])
      subst hx1; subst hx2
      exact ⟨by rw [e1, List.take_append_drop], e4⟩
    · cases hx
  bad xs k hx := by
    unfold numP at hx
    split at hx
    · cases hx
    · rename_i h0
      injection hx with hx
      subst hx
      rcases tkGo_bad 10 0 0 xs with h | h | h
      · exact absurd h h0
      · exact .inr (.inl h)
      · exact .inr (.inr h)
  byt n _ := nb_byt n
theorem cod_byte : Cod (fun c => [c]) byteP byt where
  get c r _ := rfl
  cut c k _ hk := by
    have : k = 0 := by simpa using hk
    subst this; rfl
  back xs c r hb hx := by
    cases xs with
    | nil => cases hx
    | cons x xs =>
      injection hx with hx
      injection hx with hx1 hx2
      subst hx1; subst hx2
      exact ⟨rfl, hb x (by simp)⟩
  bad xs k hx := by
    cases xs with
    | nil => injection hx with hx; subst hx; exact .inr (.inr rfl)
    | cons x xs => cases hx
  byt c hc x hx := by simp at hx; subst hx; exact hc
theorem cod_sign : Cod sb signP in64 :=
  (Cod.map cod_num unzz zz in64 (fun a _ => zz_unzz a) (fun b hb => ⟨zz_lt hb.1 hb.2, unzz_zz b⟩) (fun _ ha => unzz_in ha)).congr (fun _ => Iff.rfl) (fun _ _ => rfl) (fun _ => rfl)

/-- A list of things. -/
theorem cod_rep {α : Type} {p : α → List Int} {P : List Int → Res α} {ok1 : α → Prop} (h : Cod p P ok1) : ∀ n, Cod (fun l : List α => l.flatMap p) (repP P n) (fun l => l.length = n ∧ ∀ x ∈ l, ok1 x)
  | 0 => {
    get := fun l r ⟨hl, _⟩ => by obtain rfl := List.eq_nil_of_length_eq_zero hl; rfl
    cut := fun l k ⟨hl, _⟩ hk => by obtain rfl := List.eq_nil_of_length_eq_zero hl; simp at hk
    back := fun xs l r _ hx => by
      injection hx with hx
      injection hx with hx1 hx2
      subst hx1; subst hx2
      exact ⟨rfl, rfl, by simp⟩
    bad := fun xs k hx => by cases hx
    byt := fun l ⟨hl, _⟩ => by obtain rfl := List.eq_nil_of_length_eq_zero hl; simp }
  | n + 1 => {
    get := fun l r ⟨hl, ho⟩ => by
      cases l with
      | nil => simp at hl
      | cons a l =>
        have ih := (cod_rep h n).get l r ⟨by simpa using hl, fun x hx => ho x (by simp [hx])⟩
        simp only [repP, List.flatMap_cons, List.append_assoc, h.get a _ (ho a (by simp)), bindP, ih]
    cut := fun l k ⟨hl, ho⟩ hk => by
      cases l with
      | nil => simp at hl
      | cons a l =>
        have ha := ho a (by simp)
        simp only [List.flatMap_cons, List.length_append] at hk ⊢
        rcases Nat.lt_or_ge k (p a).length with h1 | h1
        · rw [take_append_, show k - (p a).length = 0 from by omega, List.take_zero, List.append_nil, repP, h.cut a k ha h1]; rfl
        · have ih := (cod_rep h n).cut l (k - (p a).length) ⟨by simpa using hl, fun x hx => ho x (by simp [hx])⟩ (by omega)
          rw [take_append_, List.take_of_length_le h1, repP, h.get a _ ha]
          simp only [bindP] at ih ⊢
          rw [ih]
    back := fun xs l r hb hx => by
      simp only [repP, bindP] at hx
      split at hx
      · rename_i a r1 e
        obtain ⟨rfl, ha⟩ := h.back xs a r1 hb e
        split at hx
        · rename_i bs r2 e'
          injection hx with hx
          injection hx with hx1 hx2
          subst hx1; subst hx2
          obtain ⟨rfl, hl, ho⟩ := (cod_rep h n).back r1 bs r2 (fun c hc => hb c (by simp [hc])) e'
          refine ⟨by simp only [List.flatMap_cons, List.append_assoc], by simp [hl], fun x hx => ?_⟩
          rcases List.mem_cons.1 hx with rfl | hx
          · exact ha
          · exact ho x hx
        · cases hx
      · cases hx
    bad := fun xs k hx => by
      simp only [repP, bindP] at hx
      split at hx
      · split at hx
        · cases hx
        · rename_i e'; injection hx with hx; subst hx; exact (cod_rep h n).bad _ _ e'
      · rename_i e; injection hx with hx; subst hx; exact h.bad _ _ e
    byt := fun l ⟨_, ho⟩ c hc => by
      obtain ⟨a, ha, hc⟩ := List.mem_flatMap.1 hc
      exact h.byt a (ho a ha) c hc }
def listB {α : Type} (p : α → List Int) (l : List α) : List Int := nb l.length ++ l.flatMap p
theorem cod_list {α : Type} {p : α → List Int} {P : List Int → Res α} {ok1 : α → Prop} (h : Cod p P ok1) (most : Nat) (hm : most < 18446744073709551616) : Cod (listB p) (listP P most) (fun l => l.length ≤ most ∧ ∀ x ∈ l, ok1 x) where
  get l r hl := by
    unfold listP listB
    rw [List.append_assoc, numP_nb (by omega)]
    simp only [bindP]
    rw [if_neg (by omega), (cod_rep h l.length).get l r ⟨rfl, hl.2⟩]
  cut l k hl hk := by
    unfold listP
    unfold listB at hk ⊢
    rw [List.length_append] at hk
    rcases Nat.lt_or_ge k (nb l.length).length with h1 | h1
    · rw [take_append_, show k - (nb l.length).length = 0 from by omega, List.take_zero, List.append_nil, cod_num.cut _ _ (by omega) h1]; rfl
    · rw [take_append_, List.take_of_length_le h1, numP_nb (by omega)]
      simp only [bindP]
      rw [if_neg (by omega), (cod_rep h l.length).cut l _ ⟨rfl, hl.2⟩ (by omega)]
  back xs l r hb hx := by
    unfold listP at hx
    simp only [bindP] at hx
    split at hx
    · rename_i n r1 e
      obtain ⟨rfl, hn⟩ := cod_num.back xs n r1 hb e
      split at hx
      · cases hx
      · obtain ⟨rfl, hl, ho⟩ := (cod_rep h n).back r1 l r (fun c hc => hb c (by simp [hc])) hx
        subst hl
        exact ⟨by unfold listB; rw [List.append_assoc], by omega, ho⟩
    · cases hx
  bad xs k hx := by
    unfold listP at hx
    simp only [bindP] at hx
    split at hx
    · split at hx
      · injection hx with hx; exact .inl hx.symm
      · exact (cod_rep h _).bad _ _ hx
    · rename_i e; injection hx with hx; subst hx; exact cod_num.bad _ _ e
  byt l hl c hc := by
    rcases List.mem_append.1 hc with h1 | h1
    · exact nb_byt _ c h1
    · exact (cod_rep h l.length).byt l ⟨rfl, hl.2⟩ c h1

/-- Fields, one behind the other: a byte, a number with a sign, a number. -/
def fb1 : IntKind → Int → List Int
  | .u8, x => [x]
  | .i64, x => sb x
  | _, x => nb x.toNat
def fok1 : IntKind → Int → Prop
  | .u8, x => byt x
  | .i64, x => in64 x
  | _, x => 0 ≤ x ∧ x ≤ 18446744073709551615
def fp1 : IntKind → List Int → Res Int
  | .u8, xs => byteP xs
  | .i64, xs => signP xs
  | _, xs => bindP (numP xs) fun n r => .ok ((n : Int), r)
def fB : List IntKind → List Int → List Int
  | [], _ => []
  | k :: ks, xs => fb1 k (xs.headD 0) ++ fB ks xs.tail
def fok : List IntKind → List Int → Prop
  | [], xs => xs = []
  | k :: ks, x :: xs => fok1 k x ∧ fok ks xs
  | _ :: _, [] => False
def fP : List IntKind → List Int → Res (List Int)
  | [], xs => .ok ([], xs)
  | k :: ks, xs => bindP (fp1 k xs) fun a r => bindP (fP ks r) fun bs r' => .ok (a :: bs, r')
theorem cod_f1 (k : IntKind) : Cod (fb1 k) (fp1 k) (fok1 k) := by
  have hN : Cod (fun x : Int => nb x.toNat) (fun xs => bindP (numP xs) fun n r => .ok ((n : Int), r)) (fun x => 0 ≤ x ∧ x ≤ 18446744073709551615) :=
    (Cod.map cod_num (fun n : Nat => (n : Int)) Int.toNat (fun x => 0 ≤ x ∧ x ≤ 18446744073709551615) (fun a _ => by omega) (fun b hb => ⟨by omega, by omega⟩) (fun a ha => ⟨by omega, by omega⟩))
  cases k <;> first | exact cod_byte | exact cod_sign | exact hN
theorem cod_f : ∀ ks, Cod (fB ks) (fP ks) (fok ks)
  | [] => {
    get := fun l r hl => by cases hl; rfl
    cut := fun l k hl hk => by simp [fB] at hk
    back := fun xs l r _ hx => by
      injection hx with hx
      injection hx with hx1 hx2
      subst hx1; subst hx2
      exact ⟨rfl, rfl⟩
    bad := fun xs k hx => by cases hx
    byt := fun l hl => by simp [fB] }
  | k :: ks =>
    (Cod.bind (cod_f1 k) (cod_f ks) (fun a bs => a :: bs) (fun l => l.headD 0) List.tail (fok (k :: ks)) (fun _ _ => rfl) (fun _ _ => rfl) (fun l hl => by
      cases l with
      | nil => exact absurd hl (by simp [fok])
      | cons a bs => exact ⟨hl.1, hl.2, rfl⟩) (fun a bs ha hs => ⟨ha, hs⟩)).congr (fun _ => Iff.rfl) (fun _ _ => rfl) (fun _ => rfl)
theorem fP_len : ∀ (ks : List IntKind) (xs l r : List Int), fP ks xs = .ok (l, r) → l.length = ks.length
  | [], _, _, _, h => by injection h with h; injection h with h1 _; subst h1; rfl
  | k :: ks, xs, l, r, h => by
    simp only [fP, bindP] at h
    split at h
    · split at h
      · rename_i e'
        injection h with h
        injection h with h1 _
        subst h1
        simp [fP_len ks _ _ _ e']
      · cases h
    · cases h
theorem fok_len : ∀ (ks : List IntKind) (l : List Int), fok ks l → l.length = ks.length
  | [], l, h => by cases h; rfl
  | _ :: _, [], h => absurd h (by simp [fok])
  | k :: ks, x :: xs, h => by simp [fok_len ks xs h.2]
theorem fb1_len {k : IntKind} {x : Int} (h : fok1 k x) : (fb1 k x).length ≤ 10 := by
  cases k <;> simp only [fb1, fok1] at h ⊢ <;> first | exact sb_ten' h | (exact nb_ten (by omega)) | simp
theorem fB_len : ∀ (ks : List IntKind) (xs : List Int), fok ks xs → (fB ks xs).length ≤ 10 * ks.length
  | [], _, h => by simp [fB]
  | k :: ks, [], h => absurd h (by simp [fok])
  | k :: ks, x :: xs, h => by
    have ih := fB_len ks xs h.2
    have h1 := fb1_len h.1
    simp only [fB, List.length_append, List.length_cons, List.headD_cons, List.tail_cons]
    omega
/-- Fields' cells. -/
def fc : List IntKind → List Int → List Value
  | [], _ => []
  | k :: ks, xs => .int k (xs.headD 0) :: fc ks xs.tail
theorem fc_len : ∀ (ks : List IntKind) (xs : List Int), (fc ks xs).length = ks.length
  | [], _ => rfl
  | _ :: ks, xs => by simp [fc, fc_len ks xs.tail]
theorem fc_one : ∀ (ks : List IntKind) (xs : List Int), ∀ u ∈ fc ks xs, u.oneCell' = true
  | [], _, _, h => by simp [fc] at h
  | k :: ks, xs, u, h => by
    rcases List.mem_cons.1 h with rfl | h
    · rfl
    · exact fc_one ks _ u h
theorem flat_len (ks : List IntKind) : ∀ (l : List (List Int)), (∀ q ∈ l, fok ks q) → (l.flatMap (fB ks)).length ≤ 10 * ks.length * l.length
  | [], _ => by simp
  | q :: l, h => by
    have h1 := flat_len ks l (fun x hx => h x (by simp [hx]))
    have h2 := fB_len ks q (h q (by simp))
    simp only [List.flatMap_cons, List.length_append, List.length_cons, Nat.mul_add]
    omega
theorem list_len (ks : List IntKind) (l : List (List Int)) (k : Nat) (hk : ks.length = k) {m : Nat} (hm : l.length ≤ m) (h9 : 10 * k * m ≤ 80000 ∧ m ≤ 80000) (h : ∀ q ∈ l, fok ks q) : (listB (fB ks) l).length ≤ 90000 := by
  have h1 := flat_len ks l h
  rw [hk] at h1
  have h2 : 10 * k * l.length ≤ 10 * k * m := Nat.mul_le_mul_left _ hm
  have h3 : (nb l.length).length ≤ 10 := nb_ten (by omega)
  unfold listB
  rw [List.length_append]
  omega
end Go.Proofs.YtoiclicechfmgaaGreatDoor

/- Rows behind rows; a twin: rows with two marks behind them, that the slice does not reach. -/
namespace Go.Proofs.YtoiclicechfmgaaGreatDoor
open Go.RowKit

/-- 'out = append(out, xs...)', the operation alone. -/
theorem wp_ow_rows {o : Oper} {a : Act} {K : Act → World → Prop} {Q : Exit → Act → World → Prop} (s x : Operand) (t e : TypeId) (z : Value) (size bytes : Nat)
    (ho : o.op = .call { callee := .builtin .append, args := #[s, x], argTypes := #[t, t] }) (ht : Tryz.prog.underlying t = some (.slice e))
    (hinf : (Tryz.prog.info? e).map (fun i => (i.zero, i.size, i.bytes)) = some (some z, size, bytes)) (hzs : z.cells.size = size) (hsz : 0 < size)
    {B n m : Nat} {v y : Value} {xs ys : List Value} (hs : a.eval s = v) {w0 : World} (hown : Ow B w0 e size v n xs) (hB : B ≤ w0.heap.size) (hy : Rd w0 size y m ys) (h1 : ∀ u ∈ ys, u.oneCell' = true)
    (hx : a.eval x = y) (hlen : (n + m) * bytes ≤ 140737488355328) (hlen2 : n + m ≤ maxLen)
    (h : ∀ v' w', Ow B w' e size v' (n + m) (xs ++ ys) → Grew w0 w' v v' → K (a.put o.dst v') w') : Oper.wp Tryz.prog o a w0 K Q := by
  obtain ⟨i0, hi, hz0, hz1, hz2⟩ := info_parts hinf
  obtain ⟨A, c, rfl, hc, hl, hh⟩ := hy
  cases A with
  | none =>
    rcases hh with h0 | ⟨g, o', hA, _⟩
    · subst h0
      have hys : ys = [] := List.eq_nil_of_length_eq_zero (by simpa using hl)
      subst hys
      rcases Nat.eq_zero_or_pos c with rfl | hcp
      · have hr := run_append_ow_none (P := Tryz.prog) w0 B t o.type e i0 size ht hi v _ _ hown
        unfold Oper.wp
        simp [execOp, ho, resolve, invoke, builtin, hs, hx, hr, Result.andThen]
        exact (h v w0 (by rw [List.append_nil]; exact hown) (Grew.same _ _))
      · rcases hown with ⟨rfl, h0, hx0⟩ | ⟨g, cap, cur, rfl, hBg, hg, hcc, hrest⟩
        · have hr : (Builtin.append_ #[t, t] o.type #[.slice none 0 0, .slice none 0 c]).run Tryz.prog w0 = .ok (.slice none 0 0) w0 := by simp [Builtin.append_, run_underlying ht, sizeOf, typeInfo, hi, Builtin.lenOf, Builtin.firstCells]
          unfold Oper.wp
          simp [execOp, ho, resolve, invoke, builtin, hs, hx, hr, Result.andThen]
          subst h0; subst hx0
          exact (h _ w0 (.inl ⟨rfl, rfl, rfl⟩) (Grew.same _ _))
        · have hr : (Builtin.append_ #[t, t] o.type #[.slice (some ⟨g, 0, none⟩) n cap, .slice none 0 c]).run Tryz.prog w0 = .ok (.slice (some ⟨g, 0, none⟩) n cap) w0 := by simp [Builtin.append_, run_underlying ht, sizeOf, typeInfo, hi, Builtin.lenOf, Builtin.firstCells, hcc, storeCells]
          unfold Oper.wp
          simp [execOp, ho, resolve, invoke, builtin, hs, hx, hr, Result.andThen]
          exact (h _ w0 (by rw [List.append_nil]; exact .inr ⟨g, cap, cur, rfl, hBg, hg, hcc, hrest⟩) (Grew.same _ _))
    · cases hA
  | some ad =>
    have hnews : ∀ j u, ys[j]? = some u → w0.cell? (ad.add j) = some u := by
      intro j u hj
      rcases hh with h0 | ⟨g, o', hA, hg, hcell⟩
      · subst h0
        have hys : ys = [] := List.eq_nil_of_length_eq_zero (by simpa using hl)
        subst hys
        cases hj
      · obtain rfl : ad = ⟨g, o', none⟩ := Option.some.inj hA
        rw [Addr.add_lit]
        exact hcell j u hj
    obtain ⟨v', w', hr, h2, h3, h4⟩ := run_append_ow (P := Tryz.prog) w0 B t o.type e i0 z size bytes ht hi hz0 hz1 hz2 hzs hsz v _ _ hown ad m c ys hl hnews h1 hlen2 hlen hB
    unfold Oper.wp
    simp [execOp, ho, resolve, invoke, builtin, hs, hx, hr, Result.andThen]
    exact h v' w' h2 (Grew.of_ (Below.refl _ _) h3 h4)
theorem wpList_ow_rows {ops : Array Oper} {rest : List Oper} {o : Oper} {a : Act} {Q : Exit → Act → World → Prop} (hgd : o.guard = none) (s x : Operand) (t e : TypeId) (z : Value) (size bytes : Nat)
    (ho : o.op = .call { callee := .builtin .append, args := #[s, x], argTypes := #[t, t] }) (ht : Tryz.prog.underlying t = some (.slice e))
    (hinf : (Tryz.prog.info? e).map (fun i => (i.zero, i.size, i.bytes)) = some (some z, size, bytes)) (hzs : z.cells.size = size) (hsz : 0 < size)
    {B n m : Nat} {v y : Value} {xs ys : List Value} (hs : a.eval s = v) {w0 : World} (hown : Ow B w0 e size v n xs) (hB : B ≤ w0.heap.size) (hy : Rd w0 size y m ys) (h1 : ∀ u ∈ ys, u.oneCell' = true)
    (hx : a.eval x = y) (hlen : (n + m) * bytes ≤ 140737488355328) (hlen2 : n + m ≤ maxLen)
    (h : ∀ v' w', Ow B w' e size v' (n + m) (xs ++ ys) → Grew w0 w' v v' → wpList Tryz.prog ops Q rest (a.put o.dst v') w') : wpList Tryz.prog ops Q (o :: rest) a w0 :=
  wpList_plain hgd fun _ hK => wp_ow_rows s x t e z size bytes ho ht hinf hzs hsz hs hown hB hy h1 hx hlen hlen2 fun v' w' h1 h2 => hK _ _ (h v' w' h1 h2)
theorem step_ow_rows {ops : Array Oper} {o : Oper} {a : Act} {K : Act → World → Prop} {E : Prop} {Q : Exit → Act → World → Prop} (hgd : o.guard = none) (s x : Operand) (t e : TypeId) (z : Value) (size bytes : Nat)
    (ho : o.op = .call { callee := .builtin .append, args := #[s, x], argTypes := #[t, t] }) (ht : Tryz.prog.underlying t = some (.slice e))
    (hinf : (Tryz.prog.info? e).map (fun i => (i.zero, i.size, i.bytes)) = some (some z, size, bytes)) (hzs : z.cells.size = size) (hsz : 0 < size)
    {B n m : Nat} {v y : Value} {xs ys : List Value} (hs : a.eval s = v) {w0 : World} (hown : Ow B w0 e size v n xs) (hB : B ≤ w0.heap.size) (hy : Rd w0 size y m ys) (h1 : ∀ u ∈ ys, u.oneCell' = true)
    (hx : a.eval x = y) (hlen : (n + m) * bytes ≤ 140737488355328) (hlen2 : n + m ≤ maxLen)
    (h : ∀ v' w', Ow B w' e size v' (n + m) (xs ++ ys) → Grew w0 w' v v' → K (a.put o.dst v') w') :
    if Region.wanted o (yielded ops a.tmps) = true then Oper.wp Tryz.prog o a w0 K Q else E := by
  have hw : Region.wanted o (yielded ops a.tmps) = true := by simp [Region.wanted, hgd]
  rw [if_pos hw]
  exact wp_ow_rows s x t e z size bytes ho ht hinf hzs hsz hs hown hB hy h1 hx hlen hlen2 h

theorem rows_one (ks : List IntKind) (r : List (List Int)) : ∀ u ∈ r.flatMap (fc ks), u.oneCell' = true := by
  intro u hu
  obtain ⟨q, _, hq⟩ := List.mem_flatMap.1 hu
  exact fc_one ks q u hq
theorem below_grown_own_ {w0 w w' : World} {e : TypeId} {size n : Nat} {v : Value} {xs : List Value} (h : Below w0.heap.size w0 w) (hg : w.grownBy w' v.ownBlock) (ho : Ow w0.heap.size w e size v n xs) : Below w0.heap.size w0 w' :=
  h.grown hg h.size (fun k hk => ho.blk_lt k hk)
theorem Ow.sl_ {B : Nat} {w : World} {e : TypeId} {size n : Nat} {v : Value} {xs : List Value} (h : Ow B w e size v n xs) : ∃ A c, v = .slice A n c := by
  obtain ⟨A, c, hv, _⟩ := h.clip; exact ⟨A, c, hv⟩
/-- Rows in a new block read as they were written. -/
theorem Rd.lits (w : World) (e : TypeId) (size n : Nat) (cs : List Value) (hl : cs.length = n * size) : Rd (w.alloc (.cells cs.toArray e)) size (.slice (some ⟨w.heap.size, 0, none⟩) n n) n cs := by
  have hk := Blk.new w e cs.toArray
  refine ⟨_, _, rfl, Nat.le_refl _, hl, .inr ⟨w.heap.size, 0, rfl, by simp, fun j u hu => ?_⟩⟩
  rw [Nat.zero_add, hk.cell]
  simpa using hu
/-- The slice value v of n rows, in a block of its own from B on, with the two rows ms behind them. -/
def Tw (B : Nat) (w : World) (e : TypeId) (size : Nat) (v : Value) (n : Nat) (xs ms : List Value) : Prop :=
  ∃ A c, v = .slice A n c ∧ n + 2 ≤ c ∧ xs.length = n * size ∧ Ow B w e size (.slice A (n + 2) c) (n + 2) (xs ++ ms)
theorem Tw.room {B : Nat} {w : World} {e : TypeId} {size n : Nat} {v : Value} {xs ms : List Value} (h : Tw B w e size v n xs ms) :
    ∃ g c, v = .slice (some ⟨g, 0, none⟩) n c ∧ n + 2 ≤ c ∧ B ≤ g ∧ g < w.heap.size ∧ (∀ j u, xs[j]? = some u → w.cell? ⟨g, j, none⟩ = some u) ∧ ∀ j u, ms[j]? = some u → w.cell? ⟨g, n * size + j, none⟩ = some u := by
  obtain ⟨A, c, rfl, hc, hl, h⟩ := h
  have hr := h.rd
  rcases h with ⟨_, h0, _⟩ | ⟨g, c', cur, hv, hB, hg, -⟩
  · omega
  injection hv with hA hn hc'
  subst hA
  obtain ⟨A', c2, hv2, hc2, hl2, h0 | ⟨g2, o2, hA2, hg2, hcell⟩⟩ := hr
  · omega
  injection hv2 with hA' _ _
  rw [← hA'] at hA2
  injection hA2 with hA2
  injection hA2 with hA3 hA4
  subst hA3; subst hA4
  refine ⟨g, c, rfl, hc, hB, hg.lt, fun j u hj => ?_, fun j u hj => ?_⟩
  · have := hcell j u (by rw [List.getElem?_append_left (by
      rcases Nat.lt_or_ge j xs.length with h | h
      · exact h
      · rw [List.getElem?_eq_none h] at hj; cases hj)]; exact hj)
    rwa [Nat.zero_add] at this
  · have := hcell (n * size + j) u (by rw [List.getElem?_append_right (by omega), hl, Nat.add_sub_cancel_left]; exact hj)
    rwa [Nat.zero_add] at this
theorem Tw.rd {B : Nat} {w : World} {e : TypeId} {size n : Nat} {v : Value} {xs ms : List Value} (h : Tw B w e size v n xs ms) : Rd w size v n xs := by
  have hl : xs.length = n * size := by obtain ⟨_, _, _, _, hl, _⟩ := h; exact hl
  obtain ⟨g, c, rfl, hc, _, hg, hx, _⟩ := h.room
  exact ⟨_, c, rfl, by omega, hl, .inr ⟨g, 0, rfl, hg, fun j u hj => by rw [Nat.zero_add]; exact hx j u hj⟩⟩
theorem Tw.below {B : Nat} {w w' : World} {e : TypeId} {size n : Nat} {v : Value} {xs ms : List Value} (h : Tw B w e size v n xs ms) (hb : Below w.heap.size w w') : Tw B w' e size v n xs ms := by
  obtain ⟨A, c, rfl, hc, hl, h⟩ := h
  exact ⟨A, c, rfl, hc, hl, h.below hb⟩
theorem Tw.mk_ {B : Nat} {w : World} {e : TypeId} {size n : Nat} {A : Option Addr} {c : Nat} {xs ms : List Value} (h : Ow B w e size (.slice A (n + 2) c) (n + 2) (xs ++ ms)) (hl : xs.length = n * size) : n + 2 ≤ c ∧ Tw B w e size (.slice A n c) n xs ms := by
  have hc : n + 2 ≤ c := by
    obtain ⟨A', c', hv, hc, _⟩ := h.rd
    injection hv with _ _ h3
    omega
  exact ⟨hc, A, c, rfl, hc, hl, h⟩
theorem Tw.le_ {B B' : Nat} {w : World} {e : TypeId} {size n : Nat} {v : Value} {xs ms : List Value} (h : Tw B w e size v n xs ms) (hb : B' ≤ B) : Tw B' w e size v n xs ms := by
  obtain ⟨A, c, rfl, hc, hl, h⟩ := h
  exact ⟨A, c, rfl, hc, hl, h.le hb⟩
theorem Tw.aside {B : Nat} {w : World} {e : TypeId} {size n : Nat} {v : Value} {xs ms : List Value} (h : Tw B w e size v n xs ms) {b t' : Nat} {cs' : Array Value} (hb : Blk w b t' cs') (hne : e ≠ t') (i : Nat) (u : Value) : Tw B (w.setCell ⟨b, i, none⟩ u) e size v n xs ms := by
  obtain ⟨A, c, rfl, hc, hl, h⟩ := h
  exact ⟨A, c, rfl, hc, hl, h.aside hb hne i u⟩
/-- Four cells stored. -/
def four (w : World) (b : Nat) (c0 c1 c2 c3 : Value) : World := (((w.setCell ⟨b, 0, none⟩ c0).setCell ⟨b, 1, none⟩ c1).setCell ⟨b, 2, none⟩ c2).setCell ⟨b, 3, none⟩ c3
theorem four_blk {w : World} {b t : Nat} {a0 a1 a2 a3 : Value} (hk : Blk w b t #[a0, a1, a2, a3]) (c0 c1 c2 c3 : Value) : Blk (four w b c0 c1 c2 c3) b t #[c0, c1, c2, c3] := by
  unfold four
  have := (((hk.set_ 0 c0).set_ 1 c1).set_ 2 c2).set_ 3 c3
  simpa using this
theorem four_tw {w : World} {b t : Nat} {a0 a1 a2 a3 : Value} (hk : Blk w b t #[a0, a1, a2, a3]) (c0 c1 c2 c3 : Value) {B : Nat} {e : TypeId} {size n : Nat} {v : Value} {xs ms : List Value} (h : Tw B w e size v n xs ms) (hne : e ≠ t) : Tw B (four w b c0 c1 c2 c3) e size v n xs ms :=
  (((h.aside hk hne 0 c0).aside (hk.set_ 0 c0) hne 1 c1).aside ((hk.set_ 0 c0).set_ 1 c1) hne 2 c2).aside (((hk.set_ 0 c0).set_ 1 c1).set_ 2 c2) hne 3 c3
theorem four_bel {W w : World} {b B : Nat} (h : Below B W w) (hb : B ≤ b) (c0 c1 c2 c3 : Value) : Below B W (four w b c0 c1 c2 c3) := (((h.setCell hb c0).setCell hb c1).setCell hb c2).setCell hb c3
/-- What a twin's own block is. -/
theorem Tw.own {B : Nat} {w : World} {e : TypeId} {size n : Nat} {v : Value} {xs ms : List Value} (h : Tw B w e size v n xs ms) : ∀ k, v.ownBlock = some k → B ≤ k := by
  obtain ⟨g, c, rfl, _, hB, _⟩ := h.room
  intro k hk
  simp [Value.ownBlock] at hk
  omega
end Go.Proofs.YtoiclicechfmgaaGreatDoor

/- The document's disk of any files: at, asked, burn, SetFuse. -/
namespace Go.Proofs.YtoiclicechfmgaaGreatDoor
open Go.RowKit

/-- A file of the document's disk. -/
structure Rl where
  nm : ByteArray
  v : Value
  xs : List Int
  su : Nat
def rlC (r : Rl) : List Value := [.string r.nm, r.v, .int .i64 (r.su : Nat)]
theorem rlC_len (r : Rl) : (rlC r).length = 3 := rfl
def Rl.pf (r : Rl) : ByteArray × List Int × Nat := (r.nm, r.xs, r.su)
def Rl.bl (r : Rl) : List Nat := r.v.ownBlock.toList
structure RlOk (w : World) (r : Rl) : Prop where
  own : Bo 0 w r.v r.xs
  by_ : ∀ c ∈ r.xs, byt c
  su : r.su ≤ r.xs.length
  len : r.xs.length ≤ 1048576
def rmC (fu : Int) (dead : Bool) (L : Value) : Array Value := #[L, .bool (decide (0 ≤ fu)), .int .i64 (if 0 ≤ fu then fu else 0), .bool dead]
/-- The document's disk in block m. -/
structure RMd (w : World) (m : Nat) (s : Mst) (F : List Nat) : Prop where
  lo : -1 ≤ s.fuse
  hi : s.fuse ≤ 9223372036854775807
  ex : ∃ (L : Value) (rs : List Rl), Blk w m 54 (rmC s.fuse s.dead L) ∧ Ow 0 w 105 3 L rs.length (rs.flatMap rlC) ∧ (∀ r ∈ rs, RlOk w r) ∧ s.fs = rs.map Rl.pf ∧ F = m :: (L.ownBlock.toList ++ rs.flatMap Rl.bl)
  most : s.fs.length ≤ 16
  sorted : (s.fs.map (·.1)).Pairwise fun a b => ltB a b = true
structure RMTo (w : World) (F : List Nat) (m : Nat) (s : Mst) (w' : World) : Prop where
  ex : ∃ F', RMd w' m s F' ∧ ∀ k ∈ F', k ∈ F ∨ w.heap.size ≤ k
  kp : Kp w F w'
section
variable {w w' : World} {m : Nat} {s s' : Mst} {F G : List Nat}
theorem RlOk.kp {r : Rl} (h : RlOk w r) (k : Kp w G w') (hG : ∀ i ∈ r.bl, i ∉ G) : RlOk w' r := ⟨k.ow h.own fun j hj => hG j (by simp [Rl.bl, hj]), h.by_, h.su, h.len⟩
theorem RlOk.lt {r : Rl} (h : RlOk w r) : ∀ k ∈ r.bl, k < w.heap.size := fun k hk => h.own.lt k (by simpa [Rl.bl] using hk)
theorem RlOk.ne {r : Rl} (h : RlOk w r) {g : Nat} {t : TypeId} {cs : Array Value} (hg : Blk w g t cs) (ht : t ≠ 5) : ∀ k ∈ r.bl, k ≠ g := by
  intro k hk
  rcases h.own with ⟨hv, _⟩ | ⟨g', c, cur, hv, _, hg', _⟩
  · rw [Rl.bl, hv] at hk; simp [Value.ownBlock] at hk
  · rw [Rl.bl, hv] at hk
    simp [Value.ownBlock] at hk
    subst hk
    exact hg'.ne_ hg (Ne.symm ht)
theorem Ow.lt_ {B e size n : Nat} {v : Value} {xs : List Value} (h : Ow B w e size v n xs) : ∀ k ∈ v.ownBlock.toList, k < w.heap.size := by
  intro k hk
  rcases h with ⟨rfl, _⟩ | ⟨g, c, cur, rfl, _, hg, _⟩
  · simp [Value.ownBlock] at hk
  · simp [Value.ownBlock] at hk; subst hk; exact hg.lt
theorem RMd.lt (h : RMd w m s F) : ∀ k ∈ F, k < w.heap.size := by
  obtain ⟨L, rs, hk, ho, hr, -, rfl⟩ := h.ex
  intro k hk'
  rcases List.mem_cons.1 hk' with rfl | hk'
  · exact hk.lt
  · rcases List.mem_append.1 hk' with h1 | h1
    · exact ho.lt_ k h1
    · obtain ⟨r, hr', h2⟩ := List.mem_flatMap.1 h1
      exact (hr r hr').lt k h2
theorem RMd.kp (h : RMd w m s F) (k : Kp w G w') (hF : ∀ i ∈ F, i ∉ G) : RMd w' m s F := by
  obtain ⟨lo, hi, ⟨L, rs, hk, ho, hr, hs, rfl⟩, h1, h2⟩ := h
  exact ⟨lo, hi, ⟨L, rs, k.blk hk (hF m (by simp)), k.ow ho (fun j hj => hF j (by simp [hj])), fun r hr' => (hr r hr').kp k fun i hi => hF i (by simp only [List.mem_cons, List.mem_append]; exact .inr (.inr (List.mem_flatMap.2 ⟨r, hr', hi⟩))), hs, rfl⟩, h1, h2⟩
theorem RMd.below (h : RMd w m s F) (hb : Below w.heap.size w w') : RMd w' m s F := h.kp (Kp.of_below hb []) (by simp)
theorem RMd.mem (h : RMd w m s F) : m ∈ F := by obtain ⟨L, rs, -, -, -, -, rfl⟩ := h.ex; simp
theorem RMd.to (h : RMd w m s F) : RMTo w F m s w := ⟨⟨F, h, fun _ hk => .inl hk⟩, Kp.refl _ _⟩
theorem RMTo.of_below {w1 : World} (hb : Below w.heap.size w w1) (t : RMTo w1 F m s w') : RMTo w F m s w' := by
  obtain ⟨⟨F', h, hF⟩, k⟩ := t
  exact ⟨⟨F', h, fun k hk => (hF k hk).imp id (fun h => Nat.le_trans hb.size h)⟩, (Kp.of_below hb F).trans k fun _ hi => .inl hi⟩
theorem RMTo.trans {a b c : World} (h : RMTo a F m s b) (h2 : ∀ F', RMd b m s F' → RMTo b F' m s' c) : RMTo a F m s' c := by
  obtain ⟨⟨F', hd, hF⟩, k⟩ := h
  obtain ⟨⟨F'', hd', hF'⟩, k'⟩ := h2 F' hd
  refine ⟨⟨F'', hd', fun i hi => ?_⟩, k.trans k' hF⟩
  rcases hF' i hi with h | h
  · exact hF i h
  · exact .inr (Nat.le_trans k.size h)
/-- The disk's own block turns. -/
theorem RMd.turn (h : RMd w m s F) (hf : s'.fs = s.fs) (lo : -1 ≤ s'.fuse) (hi : s'.fuse ≤ 9223372036854775807) (hm : ∀ L, Blk w m 54 (rmC s.fuse s.dead L) → Blk w' m 54 (rmC s'.fuse s'.dead L)) (kp : Kp w [m] w') : RMd w' m s' F := by
  obtain ⟨_, _, ⟨L, rs, hk, ho, hr, hs, rfl⟩, h1, h2⟩ := h
  refine ⟨lo, hi, ⟨L, rs, hm L hk, kp.ow ho fun j hj => ?_, fun r hr' => (hr r hr').kp kp fun i hi => ?_, hf.trans hs, rfl⟩, by rw [hf]; exact h1, by rw [hf]; exact h2⟩
  · rcases ho with ⟨rfl, _⟩ | ⟨g, c, cur, rfl, _, hg, _⟩
    · simp [Value.ownBlock] at hj
    · simp [Value.ownBlock] at hj
      subst hj
      simpa using hg.ne_ hk (by decide)
  · simpa using (hr r hr').ne hk (by decide) i hi
theorem RMd.blk (h : RMd w m s F) : ∃ L, Blk w m 54 (rmC s.fuse s.dead L) := by obtain ⟨L, rs, hk, -⟩ := h.ex; exact ⟨L, hk⟩
/-- The disk's files, as its walk reads them. -/
theorem RMd.rows (h : RMd w m s F) : ∃ (A : Option Addr) (c : Nat) (rs : List Rl), Blk w m 54 (rmC s.fuse s.dead (.slice A rs.length c)) ∧ rs.length ≤ c ∧ Ow 0 w 105 3 (.slice A rs.length c) rs.length (rs.flatMap rlC) ∧ (∀ r ∈ rs, RlOk w r) ∧ s.fs = rs.map Rl.pf ∧ F = m :: ((Value.slice A rs.length c).ownBlock.toList ++ rs.flatMap Rl.bl) ∧ rs.length ≤ 16 := by
  obtain ⟨L, rs, hk, ho, hr, hs, hF⟩ := h.ex
  obtain ⟨A, c, rfl, hc, -⟩ := id (Ow.clip ho)
  exact ⟨A, c, rs, hk, hc, ho, hr, hs, hF, by have := h.most; rw [hs, List.length_map] at this; exact this⟩
/-- The i-th file's cells. -/
theorem row_at {A : Option Addr} {c : Nat} {rs : List Rl} (ho : Ow 0 w 105 3 (.slice A rs.length c) rs.length (rs.flatMap rlC)) (i : Nat) (hi : i < rs.length) :
    ∃ g, A = some ⟨g, 0, none⟩ ∧ (∃ cur, Blk w g 105 cur ∧ i * 3 + 2 < cur.size) ∧ w.cell? ⟨g, i * 3, none⟩ = some (.string rs[i].nm) ∧ w.cell? ⟨g, i * 3 + 1, none⟩ = some rs[i].v ∧ w.cell? ⟨g, i * 3 + 2, none⟩ = some (.int .i64 (rs[i].su : Nat)) := by
  have hfl := flatMap_get rlC 3 rlC_len rs i
  rcases ho with ⟨_, h0, _⟩ | ⟨g, c', cur, hv, -, hg, hc, hl, hs, ht⟩
  · omega
  · injection hv with h1 _ h3
    subst h3
    have q : ∀ j, j < rs.length * 3 → cur[j]? = (rs.flatMap rlC)[j]? := fun j hj => by
      have h := congrArg (fun l : List Value => l[j]?) ht
      simp only [List.getElem?_take] at h
      rw [if_pos hj] at h
      simpa using h
    refine ⟨g, h1, ⟨cur, hg, by omega⟩, ?_, ?_, ?_⟩
    · rw [hg.cell, q _ (by omega)]; have := hfl 0 hi (by omega); rw [Nat.add_zero] at this; rw [this]; rfl
    · rw [hg.cell, q _ (by omega), hfl 1 hi (by omega)]; rfl
    · rw [hg.cell, q _ (by omega), hfl 2 hi (by omega)]; rfl
end

theorem str_dec_ (s t : ByteArray) : (s.toList == t.toList) = decide (s = t) := by
  rw [ByteArray.toList_eq, ByteArray.toList_eq, Bool.eq_iff_iff, beq_iff_eq, decide_eq_true_iff]
  exact ⟨WideShapes.bytes_inj, fun h => by rw [h]⟩
set_option maxHeartbeats 1000000 in
set_option maxRecDepth 100000 in
theorem mat_any (nm : ByteArray) (m : Nat) (s : Mst) (F : List Nat) (k : Nat) (w : World) (h : RMd w m s F) (hk : ∀ i (hi : i < s.fs.length), i < k → s.fs[i].1 ≠ nm) (r : Int) (hr : (k = s.fs.length ∧ r = -1) ∨ (∃ hi : k < s.fs.length, s.fs[k].1 = nm ∧ r = k)) :
    Calls Tryz.prog 49 #[.pointer (some ⟨m, 0, none⟩), .string nm] w fun e w' => e = .returned (.int .i64 r) ∧ w = w' := by
  obtain ⟨A, c, rs, hb, hc, ho, -, hs, -, h16⟩ := h.rows
  have c0 := hb.cell 0
  simp only [rmC, List.getElem?_toArray, List.getElem?_cons_zero] at c0
  have hlen : s.fs.length = rs.length := by rw [hs, List.length_map]
  have NE := Lib.hid (show ∀ i (hi : i < rs.length), i < k → rs[i].nm ≠ nm from fun i hi hik => by
    have := hk i (by omega) hik
    simp only [hs, List.getElem_map] at this
    exact this)
  have HR := Lib.hid (show (k = rs.length ∧ r = -1) ∨ (∃ hi : k < rs.length, rs[k].nm = nm ∧ r = k) from by
    rcases hr with ⟨h1, h2⟩ | ⟨hi, h1, h2⟩
    · exact .inl ⟨by omega, h2⟩
    · refine .inr ⟨by omega, ?_, h2⟩
      simp only [hs, List.getElem_map] at h1
      exact h1)
  have HO := Lib.hid ho
  have KL := Lib.hid (show k ≤ rs.length from by rcases hr with ⟨h1, _⟩ | ⟨hi, _⟩ <;> omega)
  obtain ⟨n, hn⟩ : ∃ n, n = rs.length := ⟨_, rfl⟩
  have NN := Lib.hid hn
  rw [← hn] at c0 hc h16
  clear h hb ho hs hlen hk hr hn
  go_enter Tryz.func49, Tryz.ntmps49
  go_wp2
  go_loopg [5] n (fun g c5 wr => ∃ i : Nat, i ≤ k ∧ g = n - i ∧ c5 = .int .i64 i ∧ wr = w)
  case atStart => exact ⟨0, by omega, by omega, rfl, rfl⟩
  case round =>
    obtain ⟨i, hik, hg, rfl, rfl⟩ := hrel
    have G := Lib.hid hg
    clear hg
    by_cases hin : i < n
    · obtain ⟨g, hA, -, e0, -, -⟩ := row_at HO.out i (by have := NN.out; omega)
      subst hA
      have hi' : (i : Int) < (n : Int) := by omega
      have hw : IntKind.i64.wrap ((i : Int) + 1) = (i : Int) + 1 := IntWalk.i64_in _ (by omega)
      obtain ⟨x, hx⟩ : ∃ x, x = rs[i].nm := ⟨_, rfl⟩
      rw [← hx] at e0
      have hd := str_dec_ x nm
      by_cases hki : i < k
      · have hne : ¬ x = nm := by rw [hx]; exact NE.out i (by have := NN.out; omega) hki
        rw [decide_eq_false hne] at hd
        clear hx
        go_wp2
        go_roundg (n - (i + 1))
        case measure => have := G.out; omega
        case rel => exact ⟨i + 1, by omega, by omega, by go_num, rfl⟩
      · obtain rfl : i = k := by omega
        rcases HR.out with ⟨h1, -⟩ | ⟨hi2, h1, rfl⟩
        · have := NN.out; omega
        · have hne : x = nm := by rw [hx]; exact h1
          rw [decide_eq_true hne] at hd
          clear hx
          go_wp2
          go_ret
          exact ⟨rfl, rfl⟩
    · rcases HR.out with ⟨h1, rfl⟩ | ⟨hi2, h1, rfl⟩
      · have hi' : ¬ (i : Int) < (n : Int) := by omega
        go_wp2
        go_ret
        exact ⟨rfl, rfl⟩
      · have := NN.out; omega

theorem masked_ref (nm : ByteArray) (m : Nat) (s : Mst) (F : List Nat) (w : World) (h : RMd w m s F) :
    Calls Tryz.prog 48 #[.pointer (some ⟨m, 0, none⟩), .string nm] w fun e w' => e = .returned (.int .i64 (askM s nm)) ∧ w = w' := by
  obtain ⟨L, hk⟩ := h.blk
  have c3 := hk.cell 3
  simp only [rmC, List.getElem?_toArray, List.getElem?_cons_zero, List.getElem?_cons_succ] at c3
  clear hk h
  obtain ⟨fs, fu, dead⟩ := s
  simp only at c3
  cases dead
  · by_cases h1 : nm.size < 1
    · have E := Lib.hid (show askM ⟨fs, fu, false⟩ nm = 1 from by simp [askM, h1])
      rw [E.out]
      have h2 : (nm.size : Int) < 1 := by omega
      clear h1
      go_enter Tryz.func48, Tryz.ntmps48
      go_wp2
      go_ret
      exact ⟨rfl, rfl⟩
    · have h2 : ¬ (nm.size : Int) < 1 := by omega
      by_cases h16 : 16 < nm.size
      · have E := Lib.hid (show askM ⟨fs, fu, false⟩ nm = 1 from by simp [askM, h16])
        rw [E.out]
        have h4 : (16 : Int) < (nm.size : Int) := by omega
        clear h1 h16
        go_enter Tryz.func48, Tryz.ntmps48
        go_wp2
        go_ret
        exact ⟨rfl, rfl⟩
      · have E := Lib.hid (show askM ⟨fs, fu, false⟩ nm = 0 from by simp [askM, h16, h1])
        rw [E.out]
        have h4 : ¬ (16 : Int) < (nm.size : Int) := by omega
        clear h1 h16
        go_enter Tryz.func48, Tryz.ntmps48
        go_wp2
        go_ret
        exact ⟨rfl, rfl⟩
  · have E := Lib.hid (show askM ⟨fs, fu, true⟩ nm = 17 from rfl)
    rw [E.out]
    go_enter Tryz.func48, Tryz.ntmps48
    go_wp2
    go_ret
    exact ⟨rfl, rfl⟩

theorem mburn_ref (m : Nat) (s : Mst) (F : List Nat) (w : World) (h : RMd w m s F) :
    Calls Tryz.prog 73 #[.pointer (some ⟨m, 0, none⟩)] w fun e w' => e = .returned (.bool (decide (s.fuse ≠ 0))) ∧ RMd w' m (burnM s).1 F ∧ Kp w [m] w' := by
  have H := Lib.hid h
  obtain ⟨L, hk⟩ := h.blk
  have c1 := hk.cell 1
  have c2 := hk.cell 2
  have c3 := hk.cell 3
  have f2 := hk.free 2
  have f3 := hk.free 3
  simp only [rmC, List.getElem?_toArray, List.getElem?_cons_zero, List.getElem?_cons_succ] at c1 c2 c3
  have lo := h.lo
  have hi := h.hi
  clear h hk
  obtain ⟨fs, fu, dead⟩ := s
  simp only at c1 c2 c3 lo hi
  by_cases hm : fu < 0
  · have hd : decide (0 ≤ fu) = false := decide_eq_false (by omega)
    rw [hd] at c1
    have E := Lib.hid (show (burnM ⟨fs, fu, dead⟩).1 = ⟨fs, fu, dead⟩ from by unfold burnM; rw [if_neg (show ¬ fu = 0 by omega), if_neg (show ¬ 0 < fu by omega)])
    have E2 := Lib.hid (show decide (fu ≠ 0) = true from decide_eq_true (by omega))
    rw [E.out, E2.out]
    clear hd
    go_enter Tryz.func73, Tryz.ntmps73
    go_wp2
    go_ret
    exact ⟨rfl, H.out, Kp.refl _ _⟩
  have hd : decide (0 ≤ fu) = true := decide_eq_true (by omega)
  rw [hd] at c1
  rw [if_pos (show 0 ≤ fu by omega)] at c2
  by_cases h0 : fu = 0
  · subst h0
    have E := Lib.hid (show (burnM ⟨fs, 0, dead⟩).1 = ⟨fs, 0, true⟩ from rfl)
    rw [E.out]
    clear hd
    go_enter Tryz.func73, Tryz.ntmps73
    go_wp2
    go_ret
    refine ⟨rfl, H.out.turn rfl (by simp) (by simp) (fun L hL => ?_) ((Kp.refl _ _).setCell (.inl (by simp)) _), (Kp.refl _ _).setCell (.inl (by simp)) _⟩
    have := hL.set_ 3 (.bool true)
    simpa [rmC] using this
  · have h0' : (fu == 0) = false := beq_eq_false_iff_ne.2 h0
    have hp : 0 < fu := by omega
    have E := Lib.hid (show (burnM ⟨fs, fu, dead⟩).1 = ⟨fs, fu - 1, dead⟩ from by unfold burnM; rw [if_neg (show ¬ fu = 0 from h0), if_pos (show 0 < fu from hp)])
    have E2 := Lib.hid (show decide (fu ≠ 0) = true from decide_eq_true h0)
    rw [E.out, E2.out]
    have wr1 : IntKind.i64.wrap (fu - 1) = fu - 1 := IntWalk.i64_in _ (by omega)
    clear hd h0
    go_enter Tryz.func73, Tryz.ntmps73
    go_wp2
    go_ret
    refine ⟨rfl, H.out.turn rfl (by simp only; omega) (by simp only; omega) (fun L hL => ?_) ((Kp.refl _ _).setCell (.inl (by simp)) _), (Kp.refl _ _).setCell (.inl (by simp)) _⟩
    have := hL.set_ 2 (.int .i64 (fu - 1))
    simpa [rmC, show 0 ≤ fu from by omega, show 0 ≤ fu - 1 from by omega, show 1 ≤ fu from by omega] using this

end Go.Proofs.YtoiclicechfmgaaGreatDoor
