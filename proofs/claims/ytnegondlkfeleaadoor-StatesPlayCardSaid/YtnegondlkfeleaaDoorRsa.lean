/- The document's sum goes bit by bit: it is the table's. -/
import Derived.Test.YtnegondlkfeleaaDoorSum
import Derived.Laws.BitsLemmas
namespace Go.Proofs.YtnegondlkfeleaaDoor
open Go.RowKit

theorem xor32 (a b : Nat) (ha : a < 4294967296) (hb : b < 4294967296) : bits .xor .u32 (a : Int) (b : Int) = ((a ^^^ b : Nat) : Int) := by
  have hx : a ^^^ b < 2 ^ 32 := Nat.xor_lt_two_pow (by omega) (by omega)
  have h1 : (BitVec.ofInt 32 (a : Int)).toNat = a := by
    rw [BitVec.ofInt_natCast, BitVec.toNat_ofNat]; exact Nat.mod_eq_of_lt (by omega)
  have h2 : (BitVec.ofInt 32 (b : Int)).toNat = b := by
    rw [BitVec.ofInt_natCast, BitVec.toNat_ofNat]; exact Nat.mod_eq_of_lt (by omega)
  show IntKind.u32.wrap ((BitVec.ofInt 32 (a : Int) ^^^ BitVec.ofInt 32 (b : Int)).toNat : Int) = _
  rw [BitVec.toNat_xor, h1, h2, IntKind.wrap_u32]
  omega
theorem low4 (a : Nat) (ha : a < 4294967296) : bits .and .u32 (a : Int) 15 = ((a % 16 : Nat) : Int) := by
  have := bits_mask .u32 32 (by decide) (fun n h0 h1 => by rw [IntKind.wrap_u32]; omega) 4 (by decide) (a : Int) (by omega) (by omega)
  rw [show (2 : Int) ^ 4 - 1 = 15 from rfl] at this
  rw [this]
  omega
theorem max32 (a : Nat) (ha : a < 4294967296) : bits .xor .u32 IntKind.u32.max (a : Int) = 4294967295 - (a : Int) := by
  rw [show IntKind.u32.max = ((4294967295 : Nat) : Int) from rfl, xor32 _ _ (by decide) ha]
  have h : (BitVec.allOnes 32 ^^^ BitVec.ofNat 32 a).toNat = 4294967295 - a := by
    rw [BitVec.allOnes_xor, BitVec.toNat_not, BitVec.toNat_ofNat, Nat.mod_eq_of_lt (by omega)]
  rw [BitVec.toNat_xor, BitVec.toNat_ofNat, Nat.mod_eq_of_lt (by omega)] at h
  have h2 : (BitVec.allOnes 32).toNat = 4294967295 := by decide
  rw [h2] at h
  omega

theorem xor_even (a b : Nat) (h : b % 2 = 0) : (a ^^^ b) % 2 = a % 2 := by
  have : (a ^^^ b) % 2 = a % 2 ^^^ b % 2 := Nat.xor_mod_two_pow (n := 1)
  rw [this, h, Nat.xor_zero]
/-- One bit of a byte. -/
def bitS (k : Nat) (n c : Int) : Int := if n % 2 = c / 2 ^ k % 2 then n / 2 else bits .xor .u32 (n / 2) 3988292384
def bitsS (k : Nat) (n c : Int) : Int := (List.range k).foldl (fun m j => bitS j m c) n
theorem bitsS_succ (k : Nat) (n c : Int) : bitsS (k + 1) n c = bitS k (bitsS k n c) c := by
  unfold bitsS; rw [List.range_succ, List.foldl_append]; rfl
def refS (bs : List Int) : Int := 4294967295 - bs.foldl (bitsS 8) 4294967295

def pN (u : Bool) : Nat := if u then 3988292384 else 0
def sN (n : Nat) (u : Bool) : Nat := n / 2 ^^^ pN u
theorem pN_lt (u : Bool) : pN u < 4294967296 := by cases u <;> decide
theorem sN_lt (n : Nat) (u : Bool) (hn : n < 4294967296) : sN n u < 4294967296 := Nat.xor_lt_two_pow (n := 32) (by omega) (pN_lt u)
theorem bitS_nat (k n c : Nat) (hn : n < 4294967296) : bitS k (n : Int) (c : Int) = ((sN n (decide (n % 2 ≠ c / 2 ^ k % 2)) : Nat) : Int) := by
  have e : ((c : Int) / 2 ^ k) = ((c / 2 ^ k : Nat) : Int) := by
    rw [Int.natCast_ediv, Int.natCast_pow]; rfl
  unfold bitS sN
  rw [e]
  by_cases h : n % 2 = c / 2 ^ k % 2
  · rw [if_pos (by omega)]
    simp [h, pN]
  · rw [if_neg (by omega)]
    have h2 : decide (n % 2 ≠ c / 2 ^ k % 2) = true := by simpa using h
    rw [h2]
    show bits .xor .u32 ((n : Int) / 2) ((3988292384 : Nat) : Int) = _
    rw [show (n : Int) / 2 = ((n / 2 : Nat) : Int) from by omega, xor32 _ _ (by omega) (by decide)]
    rfl
theorem sN_mod (n : Nat) (u : Bool) : sN n u % 2 = n / 2 % 2 := by
  unfold sN
  exact xor_even _ _ (by cases u <;> decide)
theorem sN_div (n : Nat) (u : Bool) : sN n u / 2 = n / 4 ^^^ pN u / 2 := by
  unfold sN
  rw [Nat.xor_div_two, Nat.div_div_eq_div_mul]
def four4 (u0 u1 u2 u3 : Bool) : Nat := pN u0 / 8 ^^^ pN u1 / 4 ^^^ pN u2 / 2 ^^^ pN u3
theorem sN4 (n : Nat) (u0 u1 u2 u3 : Bool) : sN (sN (sN (sN n u0) u1) u2) u3 = n / 16 ^^^ four4 u0 u1 u2 u3 := by
  unfold sN four4
  simp only [Nat.xor_div_two, Nat.div_div_eq_div_mul, Nat.xor_assoc]
theorem sN2_mod (n : Nat) (u0 u1 : Bool) : sN (sN n u0) u1 % 2 = n / 4 % 2 := by
  rw [sN_mod, sN_div]
  exact xor_even _ _ (by cases u0 <;> decide)
theorem sN3_mod (n : Nat) (u0 u1 u2 : Bool) : sN (sN (sN n u0) u1) u2 % 2 = n / 8 % 2 := by
  rw [sN2_mod]
  unfold sN
  rw [show (4 : Nat) = 2 * 2 from rfl, ← Nat.div_div_eq_div_mul, Nat.xor_div_two, Nat.xor_div_two, xor_even _ _ (by cases u0 <;> decide), Nat.div_div_eq_div_mul, Nat.div_div_eq_div_mul]
def tN (a d : Nat) : Nat := four4 (decide (a % 2 ≠ d % 2)) (decide (a / 2 % 2 ≠ d / 2 % 2)) (decide (a / 4 % 2 ≠ d / 4 % 2)) (decide (a / 8 % 2 ≠ d / 8 % 2))
set_option maxRecDepth 100000 in
theorem tN_tab : ∀ a d : Fin 16, tabL.getD (a.val ^^^ d.val) 0 = ((tN a.val d.val : Nat) : Int) ∧ tN a.val d.val < 4294967296 := by decide +kernel
def hN (n d : Nat) : Nat := n / 16 ^^^ tN (n % 16) (d % 16)
theorem hN_lt (n d : Nat) (hn : n < 4294967296) : hN n d < 4294967296 :=
  Nat.xor_lt_two_pow (n := 32) (by omega) (tN_tab ⟨n % 16, by omega⟩ ⟨d % 16, by omega⟩).2
theorem half_nat (n d : Nat) (hn : n < 4294967296) (hd : d < 4294967296) : half (n : Int) (d : Int) = ((hN n d : Nat) : Int) := by
  have hx : n ^^^ d < 4294967296 := Nat.xor_lt_two_pow (n := 32) (by omega) (by omega)
  have ht := tN_tab ⟨n % 16, by omega⟩ ⟨d % 16, by omega⟩
  simp only at ht
  unfold half hN
  rw [xor32 _ _ hn hd, low4 _ hx, Int.toNat_natCast]
  have e : (n ^^^ d) % 16 = n % 16 ^^^ d % 16 := Nat.xor_mod_two_pow (n := 4)
  rw [e, ht.1, show (n : Int) / 16 = ((n / 16 : Nat) : Int) from by omega, xor32 _ _ (by omega) ht.2]
theorem four_bits (n d : Nat) (u0 u1 u2 u3 : Bool) (h0 : u0 = decide (n % 2 ≠ d % 2)) (h1 : u1 = decide (sN n u0 % 2 ≠ d / 2 % 2)) (h2 : u2 = decide (sN (sN n u0) u1 % 2 ≠ d / 4 % 2))
    (h3 : u3 = decide (sN (sN (sN n u0) u1) u2 % 2 ≠ d / 8 % 2)) : sN (sN (sN (sN n u0) u1) u2) u3 = hN n d := by
  rw [sN_mod] at h1
  rw [sN2_mod] at h2
  rw [sN3_mod] at h3
  rw [sN4, hN, tN, h0, h1, h2, h3]
  rw [show n % 16 % 2 = n % 2 from by omega, show d % 16 % 2 = d % 2 from by omega, show n % 16 / 2 % 2 = n / 2 % 2 from by omega, show d % 16 / 2 % 2 = d / 2 % 2 from by omega,
    show n % 16 / 4 % 2 = n / 4 % 2 from by omega, show d % 16 / 4 % 2 = d / 4 % 2 from by omega, show n % 16 / 8 % 2 = n / 8 % 2 from by omega, show d % 16 / 8 % 2 = d / 8 % 2 from by omega]
theorem bitsS4 (n c : Nat) (hn : n < 4294967296) : bitsS 4 (n : Int) (c : Int) = ((hN n c : Nat) : Int) := by
  show bitS 3 (bitS 2 (bitS 1 (bitS 0 (n : Int) c) c) c) c = _
  rw [bitS_nat 0 n c hn, bitS_nat 1 _ c (sN_lt _ _ hn), bitS_nat 2 _ c (sN_lt _ _ (sN_lt _ _ hn)), bitS_nat 3 _ c (sN_lt _ _ (sN_lt _ _ (sN_lt _ _ hn)))]
  exact congrArg _ (four_bits n c _ _ _ _ (by simp) rfl rfl rfl)
theorem bitsS8 (n c : Nat) (hn : n < 4294967296) (hc : c < 256) : bitsS 8 (n : Int) (c : Int) = stepS (n : Int) (c : Int) ∧ 0 ≤ stepS (n : Int) (c : Int) ∧ stepS (n : Int) (c : Int) < 4294967296 := by
  have hh := hN_lt n c hn
  have e2 : stepS (n : Int) (c : Int) = ((hN (hN n c) (c / 16) : Nat) : Int) := by
    unfold stepS
    rw [half_nat n c hn (by omega), show (c : Int) / 16 = ((c / 16 : Nat) : Int) from by omega, half_nat _ _ hh (by omega)]
  have e1 : bitsS 8 (n : Int) (c : Int) = bitS 7 (bitS 6 (bitS 5 (bitS 4 (bitsS 4 (n : Int) c) c) c) c) c := rfl
  have := hN_lt (hN n c) (c / 16) hh
  refine ⟨?_, by omega, by omega⟩
  rw [e1, e2, bitsS4 n c hn, bitS_nat 4 _ c hh, bitS_nat 5 _ c (sN_lt _ _ hh), bitS_nat 6 _ c (sN_lt _ _ (sN_lt _ _ hh)), bitS_nat 7 _ c (sN_lt _ _ (sN_lt _ _ (sN_lt _ _ hh)))]
  refine congrArg _ (four_bits (hN n c) (c / 16) _ _ _ _ ?_ ?_ ?_ ?_)
  · rfl
  · rw [show c / 16 / 2 = c / 2 ^ 5 from by rw [Nat.div_div_eq_div_mul]]
  · rw [show c / 16 / 4 = c / 2 ^ 6 from by rw [Nat.div_div_eq_div_mul]]
  · rw [show c / 16 / 8 = c / 2 ^ 7 from by rw [Nat.div_div_eq_div_mul]]
theorem fold_bits : ∀ (bs : List Int) (n : Nat), n < 4294967296 → (∀ c ∈ bs, byt c) → bs.foldl (bitsS 8) (n : Int) = bs.foldl stepS (n : Int) ∧ 0 ≤ bs.foldl stepS (n : Int) ∧ bs.foldl stepS (n : Int) < 4294967296
  | [], n, hn, _ => ⟨rfl, by simp, by simp; omega⟩
  | c :: r, n, hn, hb => by
    have hc := hb c (by simp)
    unfold byt at hc
    obtain ⟨c', rfl⟩ : ∃ k : Nat, c = (k : Int) := ⟨c.toNat, by omega⟩
    obtain ⟨e, h1, h2⟩ := bitsS8 n c' hn (by omega)
    rw [List.foldl_cons, List.foldl_cons, e]
    obtain ⟨m, hm⟩ : ∃ m : Nat, stepS (n : Int) (c' : Int) = (m : Int) := ⟨(stepS (n : Int) (c' : Int)).toNat, by omega⟩
    rw [hm]
    exact fold_bits r m (by omega) fun x hx => hb x (by simp [hx])
/-- The document's sum is the table's. -/
theorem refS_eq (bs : List Int) (hb : ∀ c ∈ bs, byt c) : refS bs = moreS 0 bs := by
  obtain ⟨e, h1, h2⟩ := fold_bits bs 4294967295 (by decide) hb
  unfold refS moreS
  rw [show bits .xor .u32 IntKind.u32.max 0 = ((4294967295 : Nat) : Int) from max32 0 (by decide)]
  rw [show (4294967295 : Int) = ((4294967295 : Nat) : Int) from rfl] at *
  rw [e]
  obtain ⟨m, hm⟩ : ∃ m : Nat, bs.foldl stepS ((4294967295 : Nat) : Int) = (m : Int) := ⟨(bs.foldl stepS ((4294967295 : Nat) : Int)).toNat, by omega⟩
  rw [hm] at h2 ⊢
  rw [max32 m (by omega)]
  rfl
end Go.Proofs.YtnegondlkfeleaaDoor
