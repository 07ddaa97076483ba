/- Getting numbers and bytes off what is being got: the code's. -/
import Derived.Test.YtnegondlkfeleaaDoorPlw
import Derived.WalkLawsBesides
namespace Go.Proofs.YtnegondlkfeleaaDoor
open Go.RowKit


/-- The panic by which getting ends. -/
def wr (k : Int) : List PanicEntry := [{ v := .iface 177 (.agg #[.int .i64 k]), recovered := false }]

/-- The struct in block g holds these bytes. -/
structure Gt (w : World) (g : Nat) (xs : List Int) : Prop where
  ex : ∃ v, Blk w g 181 #[v] ∧ Bs w v xs ∧ (xs.length = 0 ∨ ∀ k, v.ownBlock = some k → k < g)
  isb : ∀ c ∈ xs, byt c
  len : xs.length ≤ 70368744177664
theorem Gt.lt {w : World} {g : Nat} {xs : List Int} (h : Gt w g xs) : g < w.heap.size := h.ex.elim fun _ hh => hh.1.lt
theorem Gt.below {w w' : World} {g : Nat} {xs : List Int} (h : Gt w g xs) (hb : Below w.heap.size w w') : Gt w' g xs := by
  obtain ⟨⟨v, hk, hv, hw⟩, h1, h2⟩ := h
  exact ⟨⟨v, hk.below hb hk.lt, hv.below hb, hw⟩, h1, h2⟩
theorem Gt.alloc {w : World} {g : Nat} {xs : List Int} (h : Gt w g xs) (o : Obj) : Gt (w.alloc o) g xs := h.below (below_alloc_ w o)
theorem Bs.drop {w : World} {A : Option Addr} {n c : Nat} {xs : List Int} (h : Bs w (.slice A n c) xs) (k : Nat) (hk : k ≤ n) : xs.length = n ∧ n ≤ c ∧ (∀ g o, A = some ⟨g, o, none⟩ → Bs w (.slice (some ⟨g, o + k, none⟩) (n - k) (c - k)) (xs.drop k)) := by
  obtain ⟨A', c', hv, hc, hl, hh⟩ := h
  injection hv with h1 h2 h3
  subst h1; subst h2; subst h3
  refine ⟨rfl, hc, fun g o hA => ⟨_, _, by rw [List.length_drop], by rw [List.length_drop]; omega, by simp, ?_⟩⟩
  rcases hh with h0 | ⟨g', o', hA', hg, hcell⟩
  · left; simp; omega
  · rw [hA'] at hA
    injection hA with hA
    injection hA with e1 e2
    subst e1; subst e2
    right
    refine ⟨g', o' + k, rfl, hg, fun j u hu => ?_⟩
    rw [Nat.add_assoc]
    refine hcell (k + j) u ?_
    rw [← hu]
    simp [bc]

set_option maxHeartbeats 1000000 in
theorem gnum_err (g : Nat) (xs : List Int) (w : World) (h : Gt w g xs) (k : Int) (hk : numP xs = .error k) :
    Calls Tryd.prog 112 #[.pointer (some ⟨g, 0, none⟩)] w fun e w' => e = .panicked (wr k) ∧ w = w' := by
  obtain ⟨⟨v, hb, hv, hw⟩, hby, hl⟩ := id h
  have c0 := hb.cell 0
  simp at c0
  have h0 : ¬ (tk xs).2.2 = 0 ∧ (tk xs).2.2 = k := by
    unfold numP at hk
    split at hk
    · cases hk
    · rename_i hh; injection hk with hk; exact ⟨hh, hk⟩
  have HK := Lib.hid hk
  have HV := Lib.hid hv
  have HB := Lib.hid hby
  obtain ⟨t1, ht1⟩ : ∃ t, t = (tk xs).1 := ⟨_, rfl⟩
  obtain ⟨t2, ht2⟩ : ∃ t, t = (tk xs).2.1 := ⟨_, rfl⟩
  have E := Lib.hid (show tk xs = (t1, t2, k) by rw [ht1, ht2, ← h0.2])
  have hk0 : ¬ k = 0 := by rw [← h0.2]; exact h0.1
  clear hb hv hby hk ht1 ht2 h0 h
  go_enter Tryd.func112, Tryd.ntmps112
  go_wp2_with fail
  refine (take_any v xs w HV.out HB.out hl).mono ?_
  rintro e w1 ⟨rfl, rfl⟩
  rw [E.out]
  go_wp2
  exact ⟨rfl, rfl, rfl⟩

theorem tkGo_ok : ∀ (f i acc : Nat) (xs : List Int) (n s : Nat), f + i = 10 → acc < 2 ^ (7 * i) → (∀ c ∈ xs, byt c) → tkGo f i acc xs = (n, s, 0) → i < s ∧ s ≤ i + xs.length ∧ n < 18446744073709551616
  | 0, _, _, _, _, _, _, _, _, h => by simp [tkGo] at h
  | f + 1, i, acc, [], _, _, _, _, _, h => by simp [tkGo] at h
  | f + 1, i, acc, c :: rest, n, s, hf, ha, hb, h => by
    have hc := hb c (by simp)
    rw [tkGo] at h
    split at h
    · simp at h
    · rename_i h1
      split at h
      · rename_i h2
        split at h
        · simp at h
        · injection h with e1 e2
          injection e2 with e2 _
          subst e1; subst e2
          refine ⟨by omega, by simp, ?_⟩
          have hm : c.toNat % 128 < 128 := Nat.mod_lt _ (by omega)
          by_cases h9 : i = 9
          · subst h9
            have : c.toNat % 128 ≤ 1 := by have := hc.1; omega
            have h3 : c.toNat % 128 * 2 ^ (7 * 9) ≤ 1 * 2 ^ (7 * 9) := Nat.mul_le_mul_right _ this
            omega
          · have h4 := acc_next ha hm
            have : 2 ^ (7 * (i + 1)) ≤ 2 ^ 63 := Nat.pow_le_pow_right (by omega) (by omega)
            omega
      · have := tkGo_ok f (i + 1) _ rest n s (by omega) (acc_next ha (Nat.mod_lt _ (by omega))) (fun x hx => hb x (by simp [hx])) h
        simp only [List.length_cons]
        omega
theorem tk_ok {xs : List Int} {n s : Nat} (hb : ∀ c ∈ xs, byt c) (h : tk xs = (n, s, 0)) : 0 < s ∧ s ≤ xs.length ∧ n < 18446744073709551616 := by
  have := tkGo_ok 10 0 0 xs n s rfl (by simp) hb h
  omega
theorem numP_ok {xs r : List Int} {n : Nat} (h : numP xs = .ok (n, r)) : ∃ s, tk xs = (n, s, 0) ∧ r = xs.drop s := by
  unfold numP at h
  split at h
  · rename_i h0
    injection h with h
    injection h with h1 h2
    exact ⟨(tk xs).2.1, by rw [← h1, ← h0], h2.symm⟩
  · cases h
theorem Gt.lt_num {w : World} {g : Nat} {xs r : List Int} {n : Nat} (h : Gt w g xs) (hk : numP xs = .ok (n, r)) : n < 18446744073709551616 := by
  exact (numP_ok hk).elim fun s hs => (tk_ok h.isb hs.1).2.2

/-- Bytes are not told by a block that holds a slice. -/
theorem Bs.store {w : World} {g t : Nat} {a b : Option Addr} {n c n' c' : Nat} {u : Value} {ys : List Int} (hk : Blk w g t #[.slice a n c]) (h : Bs w u ys) : Bs (w.setCell ⟨g, 0, none⟩ (.slice b n' c')) u ys := by
  obtain ⟨A, k, rfl, hc, hl, hh⟩ := h
  refine ⟨A, k, rfl, hc, hl, ?_⟩
  rcases hh with h0 | ⟨gb, o, rfl, hgl, hcell⟩
  · exact .inl h0
  · cases ys with
    | nil => exact .inl rfl
    | cons y ys =>
      have hne : gb ≠ g := by
        rintro rfl
        have h1 := hcell 0 (.int .u8 y) rfl
        rw [hk.cell] at h1
        cases o with
        | zero => simp at h1
        | succ o => simp at h1
      exact .inr ⟨gb, o, rfl, by simpa using hgl, fun j u hu => (World.cell?_of_block (a := ⟨gb, o + j, none⟩) (heap_setCell_other w ⟨g, 0, none⟩ gb _ hne)).trans (hcell j u hu)⟩
theorem Gt.store {w : World} {g : Nat} {a b : Option Addr} {n c n' c' : Nat} {ys : List Int} (hk : Blk w g 181 #[.slice a n c]) (h : Bs w (.slice b n' c') ys) (hb : ∀ y ∈ ys, byt y) (hl : ys.length ≤ 70368744177664)
    (hw : ys.length = 0 ∨ ∀ k, (Value.slice b n' c').ownBlock = some k → k < g) : Gt (w.setCell ⟨g, 0, none⟩ (.slice b n' c')) g ys :=
  ⟨⟨_, by have := hk.set_ 0 (.slice b n' c'); simpa using this, h.store hk, hw⟩, hb, hl⟩
theorem Bs.empty {w : World} {A : Option Addr} {n c : Nat} {ys : List Int} (h : ys = []) (hn : n = 0) : Bs w (.slice A n c) ys := by
  subst h; subst hn; exact ⟨A, c, rfl, Nat.zero_le _, rfl, .inl rfl⟩

set_option maxHeartbeats 1000000 in
theorem gnum_ok (g : Nat) (xs : List Int) (w : World) (h : Gt w g xs) (n : Nat) (r : List Int) (hk : numP xs = .ok (n, r)) :
    Calls Tryd.prog 112 #[.pointer (some ⟨g, 0, none⟩)] w fun e w' => e = .returned (.int .u64 n) ∧ Gt w' g r ∧ w.grownBy w' (some g) := by
  obtain ⟨s, hs, rfl⟩ := numP_ok hk
  obtain ⟨hs0, hs1, hn⟩ := tk_ok h.isb hs
  obtain ⟨⟨v, hb, hv, hw⟩, hby, hl⟩ := id h
  obtain ⟨A, c, rfl, hc, hlx, hh⟩ := id hv
  rcases hh with h0 | ⟨gb, o, rfl, hgl, -⟩
  · omega
  have hgb : gb < g := by
    rcases hw with h0 | hw
    · omega
    · exact hw gb rfl
  clear hw
  obtain ⟨_, _, hd⟩ := Bs.drop hv s hs1
  have HD := Lib.hid (hd gb o rfl)
  have hbc := hb.cell 0
  have hfz := hb.free
  simp at hbc
  have HK := Lib.hid hb
  have HV := Lib.hid hv
  have HB := Lib.hid hby
  have HL := Lib.hid hl
  have HH := Lib.hid h
  have E := Lib.hid hs
  obtain ⟨m, hm⟩ : ∃ m, m = xs.length := ⟨_, rfl⟩
  have M := Lib.hid hm
  rw [← hm] at hs1 hc hbc HD HV HK hl
  have hs1' : (s : Int) ≤ m := by omega
  have hsc' : (s : Int) ≤ c := by omega
  have hmc' : (m : Int) ≤ c := by omega
  have hml' : (m : Int) ≤ 70368744177664 := by omega
  clear hb hv hby hk h hs hd hlx hm hl hs1 hc
  go_enter Tryd.func112, Tryd.ntmps112
  go_wp2_with fail
  refine (take_any _ xs w HV.out HB.out HL.out).mono ?_
  rintro e w1 ⟨rfl, rfl⟩
  rw [E.out]
  have hby2 : ∀ y ∈ xs.drop s, byt y := fun y hy => HB.out y (List.mem_of_mem_drop hy)
  have hl2 : (xs.drop s).length ≤ 70368744177664 := by rw [List.length_drop]; have := HL.out; omega
  have HY := Lib.hid hby2
  have HL2 := Lib.hid hl2
  clear hby2 hl2
  go_wp2
  · refine bodyPost_ret (results_tmp rfl _ _ _) rfl ⟨rfl, Gt.store HK.out (Bs.empty ?_ (by omega)) HY.out HL2.out (.inr (fun k hk => by simp [Value.ownBlock] at hk; omega)), grown_set_ _ _ _ _⟩
    exact List.drop_of_length_le (by have := M.out; omega)
  · exact bodyPost_ret (results_tmp rfl _ _ _) rfl ⟨rfl, Gt.store HK.out HD.out HY.out HL2.out (.inr (fun k hk => by simp [Value.ownBlock] at hk; omega)), grown_set_ _ _ _ _⟩

theorem xor_i64_0 {a : Nat} (h : a < 9223372036854775808) : bits .xor .i64 (a : Int) 0 = a := by
  have h1 : (BitVec.ofInt 64 (a : Int)).toNat = a := by
    rw [BitVec.ofInt_natCast, BitVec.toNat_ofNat]; exact Nat.mod_eq_of_lt (by omega)
  show IntKind.i64.wrap ((BitVec.ofInt 64 (a : Int) ^^^ BitVec.ofInt 64 0).toNat : Int) = _
  rw [show BitVec.ofInt 64 0 = 0#64 from rfl, BitVec.xor_zero, h1, IntKind.wrap_i64]
  omega
theorem xor_i64_1 {a : Nat} (h : a < 9223372036854775808) : bits .xor .i64 (a : Int) (-1) = -(a : Int) - 1 := by
  have h1 : (BitVec.ofInt 64 (a : Int)).toNat = a := by
    rw [BitVec.ofInt_natCast, BitVec.toNat_ofNat]; exact Nat.mod_eq_of_lt (by omega)
  show IntKind.i64.wrap ((BitVec.ofInt 64 (a : Int) ^^^ BitVec.ofInt 64 (-1)).toNat : Int) = _
  rw [show BitVec.ofInt 64 (-1) = BitVec.allOnes 64 from rfl, BitVec.xor_allOnes, BitVec.toNat_not, h1, IntKind.wrap_i64]
  omega

theorem signP_ok {xs r : List Int} {a : Int} (h : signP xs = .ok (a, r)) : ∃ n, numP xs = .ok (n, r) ∧ a = unzz n := by
  unfold signP bindP at h
  split at h
  · rename_i n r' hn; injection h with h; injection h with h1 h2; subst h2; exact ⟨n, hn, h1.symm⟩
  · cases h
theorem signP_err {xs : List Int} {k : Int} (h : signP xs = .error k) : numP xs = .error k := by
  unfold signP bindP at h
  split at h
  · cases h
  · rename_i e hn; injection h with h; subst h; exact hn

theorem gsign_err (g : Nat) (xs : List Int) (w : World) (h : Gt w g xs) (k : Int) (hk : signP xs = .error k) :
    Calls Tryd.prog 144 #[.pointer (some ⟨g, 0, none⟩)] w fun e w' => e = .panicked (wr k) ∧ w = w' := by
  have H := Lib.hid h
  have HK := Lib.hid (signP_err hk)
  clear h hk
  go_enter Tryd.func144, Tryd.ntmps144
  go_wp2_with fail
  refine (gnum_err g xs w H.out k HK.out).mono ?_
  rintro e w1 ⟨rfl, rfl⟩
  go_wp2
  exact ⟨rfl, rfl, rfl⟩

theorem unzz_even {n : Nat} (_hn : n < 18446744073709551616) (h : n % 2 = 0) : unzz n = ((n / 2 : Nat) : Int) := by rw [unzz, if_pos h]
theorem unzz_odd {n : Nat} (_hn : n < 18446744073709551616) (h : ¬ n % 2 = 0) : unzz n = -((n / 2 : Nat) : Int) - 1 := by rw [unzz, if_neg h]

set_option maxHeartbeats 1000000 in
theorem gsign_ok (g : Nat) (xs : List Int) (w : World) (h : Gt w g xs) (a : Int) (r : List Int) (hk : signP xs = .ok (a, r)) :
    Calls Tryd.prog 144 #[.pointer (some ⟨g, 0, none⟩)] w fun e w' => e = .returned (.int .i64 a) ∧ Gt w' g r ∧ w.grownBy w' (some g) := by
  obtain ⟨n, hn, rfl⟩ := signP_ok hk
  have hlt := h.lt_num hn
  have H := Lib.hid h
  have HN := Lib.hid hn
  clear h hk hn
  have hd : ((n / 2 : Nat) : Int) = (n : Int) / 2 := by omega
  have hlt' : (n : Int) ≤ 18446744073709551615 := by omega
  by_cases h2 : n % 2 = 0
  · have e1 : bits .and .u64 (n : Int) 1 = 0 := by rw [and_one_u64 _ (by omega) (by omega)]; omega
    have E := Lib.hid (unzz_even hlt h2)
    have X := Lib.hid (xor_i64_0 (a := n / 2) (by omega))
    go_enter Tryd.func144, Tryd.ntmps144
    go_wp2_with fail
    refine (gnum_ok g xs w H.out n r HN.out).mono ?_
    rintro e w1 ⟨rfl, hG, hg⟩
    have HG := Lib.hid hG
    have Hg := Lib.hid hg
    clear hG hg
    have x := X.out
    rw [hd] at x
    go_wp2
    refine bodyPost_ret (results_tmp rfl _ _ _) rfl ⟨?_, HG.out, Hg.out⟩
    rw [E.out, hd, ← x]
    rfl
  · have e1 : bits .and .u64 (n : Int) 1 = 1 := by rw [and_one_u64 _ (by omega) (by omega)]; omega
    have E := Lib.hid (unzz_odd hlt h2)
    have X := Lib.hid (xor_i64_1 (a := n / 2) (by omega))
    go_enter Tryd.func144, Tryd.ntmps144
    go_wp2_with fail
    refine (gnum_ok g xs w H.out n r HN.out).mono ?_
    rintro e w1 ⟨rfl, hG, hg⟩
    have HG := Lib.hid hG
    have Hg := Lib.hid hg
    clear hG hg
    have x := Lib.hid (hd ▸ X.out)
    go_wp2
    refine bodyPost_ret (results_tmp rfl _ _ _) rfl ⟨?_, HG.out, Hg.out⟩
    rw [E.out, ← X.out, hd]
    rfl

theorem gbyte_err (g : Nat) (xs : List Int) (w : World) (h : Gt w g xs) (k : Int) (hk : byteP xs = .error k) :
    Calls Tryd.prog 113 #[.pointer (some ⟨g, 0, none⟩)] w fun e w' => e = .panicked (wr k) ∧ w = w' := by
  cases xs with
  | cons c r => cases hk
  | nil =>
    injection hk with hk
    subst hk
    obtain ⟨⟨v, hb, hv, -⟩, _, _⟩ := h
    obtain ⟨A, c, rfl, hc, -⟩ := hv
    have c0 := hb.cell 0
    simp at c0
    clear hb hc
    go_enter Tryd.func113, Tryd.ntmps113
    go_wp2
    exact ⟨rfl, rfl, rfl⟩

set_option maxHeartbeats 1000000 in
theorem gbyte_ok (g : Nat) (xs : List Int) (w : World) (h : Gt w g xs) (a : Int) (r : List Int) (hk : byteP xs = .ok (a, r)) :
    Calls Tryd.prog 113 #[.pointer (some ⟨g, 0, none⟩)] w fun e w' => e = .returned (.int .u8 a) ∧ Gt w' g r ∧ w.grownBy w' (some g) := by
  cases xs with
  | nil => cases hk
  | cons x r' =>
    injection hk with hk
    injection hk with h1 h2
    subst h1; subst h2
    obtain ⟨⟨v, hb, hv, hw⟩, hby, hl⟩ := id h
    obtain ⟨A, c, rfl, hc, hlx, hh⟩ := id hv
    rcases hh with h0 | ⟨gb, o, rfl, hgl, hcell⟩
    · cases h0
    have hgb : gb < g := by
      rcases hw with h0 | hw
      · simp at h0
      · exact hw gb rfl
    clear hw
    obtain ⟨_, _, hd⟩ := Bs.drop hv 1 (by simp)
    have hx := hcell 0 (.int .u8 x) rfl
    rw [Nat.add_zero] at hx
    have HD := Lib.hid (hd gb o rfl)
    obtain ⟨m, hm⟩ : ∃ m, m = (x :: r').length := ⟨_, rfl⟩
    have M := Lib.hid hm
    have hbc := hb.cell 0
    have hfz := hb.free
    simp only [← hm] at hbc
    have HK := Lib.hid hb
    have HB := Lib.hid (show ∀ y ∈ r', byt y from fun y hy => hby y (by simp [hy]))
    have HL := Lib.hid (show r'.length ≤ 70368744177664 by simp at hl; omega)
    have hm0 : 0 < m := by rw [hm]; simp
    rw [← hm] at HD HK hc
    have hm0' : 0 < (m : Int) := by omega
    have hm1' : (1 : Int) ≤ (m : Int) := by omega
    have hmc' : (m : Int) ≤ (c : Int) := by omega
    have hmc1' : (1 : Int) ≤ (c : Int) := by omega
    have hml' : (m : Int) ≤ 70368744177664 := by omega
    have hmz : ¬ (m : Int) = 0 := by omega
    have hbc' : w.cell? ⟨g, 0, none⟩ = some (.slice (some ⟨gb, o, none⟩) m c) := hbc
    clear hb hv hby h hd hlx hm hl hcell hbc hc
    go_enter Tryd.func113, Tryd.ntmps113
    go_wp2
    · refine bodyPost_ret (results_tmp rfl _ _ _) rfl ⟨rfl, Gt.store HK.out (Bs.empty (ys := r') ?_ (by omega)) HB.out HL.out (.inr (fun k hk => by simp [Value.ownBlock] at hk; omega)), grown_set_ _ _ _ _⟩
      have hM := M.out
      simp at hM
      exact List.eq_nil_of_length_eq_zero (by omega)
    · exact bodyPost_ret (results_tmp rfl _ _ _) rfl ⟨rfl, Gt.store HK.out HD.out HB.out HL.out (.inr (fun k hk => by simp [Value.ownBlock] at hk; omega)), grown_set_ _ _ _ _⟩


/-- How getting ends. -/
def Gpost {α : Type} (x : Res α) (val : α → Value) (g : Nat) (w : World) (e : Ending) (w' : World) : Prop := match x with
  | .ok (a, r) => e = .returned (val a) ∧ Gt w' g r ∧ w.grownBy w' (some g)
  | .error k => e = .panicked (wr k) ∧ w.grownBy w' (some g)
theorem gsign_any (g : Nat) (xs : List Int) (w : World) (h : Gt w g xs) : Calls Tryd.prog 144 #[.pointer (some ⟨g, 0, none⟩)] w (Gpost (signP xs) (.int .i64 ·) g w) := by
  rcases hr : signP xs with k | ⟨a, r⟩
  · exact (gsign_err g xs w h k hr).mono fun _ _ hh => ⟨hh.1, hh.2 ▸ grown_refl_ _ _⟩
  · exact gsign_ok g xs w h a r hr
theorem gnum_any (g : Nat) (xs : List Int) (w : World) (h : Gt w g xs) : Calls Tryd.prog 112 #[.pointer (some ⟨g, 0, none⟩)] w (Gpost (numP xs) (fun n : Nat => .int .u64 n) g w) := by
  rcases hr : numP xs with k | ⟨a, r⟩
  · exact (gnum_err g xs w h k hr).mono fun _ _ hh => ⟨hh.1, hh.2 ▸ grown_refl_ _ _⟩
  · exact gnum_ok g xs w h a r hr
theorem gbyte_any (g : Nat) (xs : List Int) (w : World) (h : Gt w g xs) : Calls Tryd.prog 113 #[.pointer (some ⟨g, 0, none⟩)] w (Gpost (byteP xs) (.int .u8 ·) g w) := by
  rcases hr : byteP xs with k | ⟨a, r⟩
  · exact (gbyte_err g xs w h k hr).mono fun _ _ hh => ⟨hh.1, hh.2 ▸ grown_refl_ _ _⟩
  · exact gbyte_ok g xs w h a r hr
theorem grown_far_ {w w' : World} {r : Option Nat} (h : w.grownBy w' r) {p : Addr} (hp : w.heap.size ≤ p.block) (u : Value) : w.grownBy (w'.setCell p u) r :=
  ⟨h.os, h.tape, h.output, by simpa using h.size, fun i hi hne => (heap_setCell_other w' p i u (by omega)).trans (h.block i hi hne)⟩
/-- A store into a block behind. -/
theorem Gt.out_ {w : World} {g b : Nat} {xs : List Int} (h : Gt w g xs) (hlt : g < b) (i : Nat) (u : Value) : Gt (w.setCell ⟨b, i, none⟩ u) g xs := by
  obtain ⟨⟨v, hb, hv, hw⟩, h1, h2⟩ := h
  refine ⟨⟨v, hb.far (p := ⟨b, i, none⟩) (by simp; omega) u, ?_, hw⟩, h1, h2⟩
  obtain ⟨A, c, rfl, hc, hl, hh⟩ := hv
  refine ⟨A, c, rfl, hc, hl, ?_⟩
  rcases hh with h0 | ⟨gb, o, rfl, hgl, hcell⟩
  · exact .inl h0
  · rcases hw with h0 | hw
    · exact .inl h0
    · have := hw gb rfl
      exact .inr ⟨gb, o, rfl, by simpa using hgl, fun j u hu => (World.cell?_of_block (a := ⟨gb, o + j, none⟩) (heap_setCell_other w ⟨b, i, none⟩ gb _ (by simp; omega))).trans (hcell j u hu)⟩






theorem Ow.keep {B n size e g : Nat} {w w' : World} {v : Value} {xs : List Value} (h : Ow B w e size v n xs) (hg : w.grownBy w' (some g)) (hB : g < B) : Ow B w' e size v n xs := by
  rcases h with h | ⟨b, c, cur, rfl, hb, hk, h⟩
  · exact .inl h
  · exact .inr ⟨b, c, cur, rfl, hb, hk.grown hg (by simp; omega), h⟩

/-- How getting a list ends. -/
def Lpost {α : Type} (x : Res (List α)) (e0 : TypeId) (size : Nat) (cs : α → List Value) (g : Nat) (w : World) (e : Ending) (w' : World) : Prop := match x with
  | .ok (bs, r) => ∃ A, e = .returned (.slice A bs.length bs.length) ∧ Ow w.heap.size w' e0 size (.slice A bs.length bs.length) bs.length (bs.flatMap cs) ∧ Gt w' g r ∧ w.grownBy w' (some g)
  | .error k => e = .panicked (wr k) ∧ w.grownBy w' (some g)

/-- What lies up to block g goes on. -/
theorem Gt.upto {w w' : World} {g : Nat} {xs : List Int} (h : Gt w g xs) (hb : ∀ i, i ≤ g → w'.heap[i]? = w.heap[i]?) (hs : w.heap.size ≤ w'.heap.size) : Gt w' g xs := by
  obtain ⟨⟨v, hk, hv, hw⟩, h1, h2⟩ := h
  refine ⟨⟨v, (hb g (Nat.le_refl _)).trans hk, ?_, hw⟩, h1, h2⟩
  obtain ⟨A, c, rfl, hc, hl, hh⟩ := hv
  refine ⟨A, c, rfl, hc, hl, ?_⟩
  rcases hh with h0 | ⟨gb, o, rfl, hgl, hcell⟩
  · exact .inl h0
  · rcases hw with h0 | hw
    · exact .inl h0
    · have := hw gb rfl
      exact .inr ⟨gb, o, rfl, by omega, fun j u hu => (World.cell?_of_block (a := ⟨gb, o + j, none⟩) (hb gb (by omega))).trans (hcell j u hu)⟩
theorem Gt.grew {B n size e g : Nat} {w w' : World} {v v' : Value} {xs : List Value} {ys : List Int} (h : Gt w g ys) (ho : Ow B w e size v n xs) (hg : Grew w w' v v') (hB : g < B) : Gt w' g ys :=
  h.upto (fun i hi => hg.1.block i (by have := h.lt; omega) (fun e' => by have := Ow.blk_lt ho i e'.symm; omega)) hg.1.size
theorem grown_grew {B n size e g : Nat} {w w0 w' : World} {v v' : Value} {xs : List Value} (h : w.grownBy w0 (some g)) (ho : Ow B w0 e size v n xs) (hg : Grew w0 w' v v') (hB : w.heap.size ≤ B) : w.grownBy w' (some g) :=
  ⟨hg.1.os.trans h.os, hg.1.tape.trans h.tape, hg.1.output.trans h.output, Nat.le_trans h.size hg.1.size, fun i hi hne => (hg.1.block i (Nat.lt_of_lt_of_le hi h.size) (fun e' => by have := Ow.blk_lt ho i e'.symm; omega)).trans (h.block i hi hne)⟩

/-- How getting a struct ends. -/
def SPost {α : Type} (x : Res α) (Q : α → Nat → World → Value → Prop) (g : Nat) (w : World) (e : Ending) (w' : World) : Prop := match x with
  | .ok (a, r) => ∃ v, e = .returned v ∧ Q a w.heap.size w' v ∧ Gt w' g r ∧ w.grownBy w' (some g)
  | .error k => e = .panicked (wr k) ∧ w.grownBy w' (some g)
/-- How getting all ends. -/
def GPost {α : Type} (x : Res α) (Q : α → Nat → World → Value → Prop) (zero : Value) (w : World) (e : Ending) (w' : World) : Prop := match allP x with
  | .ok a => ∃ v, e = .returned (.tuple #[v, .int .i64 0]) ∧ Q a w.heap.size w' v ∧ Below w.heap.size w w'
  | .error k => e = .returned (.tuple #[zero, .int .i64 k]) ∧ Below w.heap.size w w'
theorem gpost_ok {α : Type} {Q : α → Nat → World → Value → Prop} {zero v : Value} {w w' : World} {a : α} {x : Res α} (hx : x = .ok (a, [])) (hq : Q a w.heap.size w' v) (hb : Below w.heap.size w w') : GPost x Q zero w (.returned (.tuple #[v, .int .i64 0])) w' := by
  subst hx; exact ⟨v, rfl, hq, hb⟩
theorem gpost_more {α : Type} {Q : α → Nat → World → Value → Prop} {zero : Value} {w w' : World} {a : α} {x : Res α} {r : List Int} (hx : x = .ok (a, r)) (hr : ¬ r.length = 0) (hb : Below w.heap.size w w') : GPost x Q zero w (.returned (.tuple #[zero, .int .i64 4])) w' := by
  subst hx
  cases r with
  | nil => exact absurd rfl hr
  | cons y ys => exact ⟨rfl, hb⟩
theorem gpost_err {α : Type} {Q : α → Nat → World → Value → Prop} {zero : Value} {w w' : World} {k : Int} {x : Res α} (hx : x = .error k) (hb : Below w.heap.size w w') : GPost x Q zero w (.returned (.tuple #[zero, .int .i64 k])) w' := by
  subst hx; exact ⟨rfl, hb⟩
theorem gpost_all {α : Type} {Q : α → Nat → World → Value → Prop} {zero v : Value} {w w' : World} {a : α} {x : Res α} (hx : allP x = .ok a) (hq : Q a w.heap.size w' v) (hb : Below w.heap.size w w') : GPost x Q zero w (.returned (.tuple #[v, .int .i64 0])) w' := by
  unfold GPost; rw [hx]; exact ⟨v, rfl, hq, hb⟩
theorem gpost_allerr {α : Type} {Q : α → Nat → World → Value → Prop} {zero : Value} {w w' : World} {k : Int} {x : Res α} (hx : allP x = .error k) (hb : Below w.heap.size w w') : GPost x Q zero w (.returned (.tuple #[zero, .int .i64 k])) w' := by
  unfold GPost; rw [hx]; exact ⟨rfl, hb⟩
theorem below_of_some_ {w w' : World} {g B : Nat} (h : w.grownBy w' (some g)) (hB : B ≤ g) : Below (min B w.heap.size) w w' :=
  ⟨h.os, h.tape, h.output, h.size, fun i hi => h.block i (by omega) (by simp; omega)⟩
end Go.Proofs.YtnegondlkfeleaaDoor
