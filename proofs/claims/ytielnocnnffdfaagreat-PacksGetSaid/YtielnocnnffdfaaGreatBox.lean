/- law01: a book of pages: Apart. -/
import Derived.Test.YtielnocnnffdfaaGreatJbk
import Derived.Test.YtielnocnnffdfaaGreatRow
import Derived.Test.YtielnocnnffdfaaGreatAll
namespace Go.Proofs.YtielnocnnffdfaaGreat
open Go.RowKit

/-- A page: its kind, where it lies, its mark, and the mark of what stands behind it. -/
structure Pg where
  kd : Nat
  lie : Option (Nat × Nat × Nat)
  m : List Int
  b : List Int
def slOf : Option (Nat × Nat × Nat) → Value
  | none => .slice none 0 0
  | some (g, n, c) => .slice (some ⟨g, 0, none⟩) n c
def bkOf : Option (Nat × Nat × Nat) → Option Nat
  | none => none
  | some (g, _, _) => some g
def kT : Nat → TypeId | 0 => 112 | 1 => 114 | 2 => 116 | 3 => 118 | 4 => 122 | _ => 126
def kE : Nat → TypeId | 0 => 5 | 1 => 91 | 2 => 103 | 3 => 86 | 4 => 120 | _ => 124
def kK : Nat → List IntKind | 0 => [.u8] | 1 => stepK | 2 => gotK | 3 => partyK | 4 => lineK | _ => offerK
def Pg.ifc (p : Pg) : Value := .iface (kT p.kd) (.agg (slOf p.lie :: (fc (kK p.kd) p.m ++ fc (kK p.kd) p.b)).toArray)
/-- Page p lies in the world w; where a holds its rows bear its mark, where b holds what is behind them the other one. -/
def Pg.In (p : Pg) (w : World) (a b : Prop) : Prop := match p.lie with
  | none => True
  | some (g, n, c) => ∃ cur, Blk w g (kE p.kd) cur ∧ n ≤ c ∧ c * (kK p.kd).length ≤ cur.size ∧ c ≤ 4611686018427387904 ∧
      (a → ∀ i, i < n → ∀ j u, (fc (kK p.kd) p.m)[j]? = some u → cur[i * (kK p.kd).length + j]? = some u) ∧ (b → ∀ i, n ≤ i → i < c → ∀ j u, (fc (kK p.kd) p.b)[j]? = some u → cur[i * (kK p.kd).length + j]? = some u)
def Pg.ok (p : Pg) : Prop := p.kd < 6 ∧ p.m.length = (kK p.kd).length ∧ p.b.length = (kK p.kd).length
theorem kE_page (k : Nat) : 128 ≠ kE k := by unfold kE; split <;> decide
theorem kE_book (k : Nat) : 63 ≠ kE k := by unfold kE; split <;> decide
theorem Pg.In.mono {p : Pg} {w : World} {a b a' b' : Prop} (h : p.In w a b) (ha : a' → a) (hb : b' → b) : p.In w a' b' := by
  obtain ⟨kd, lie, m, b0⟩ := p
  match lie, h with
  | none, _ => trivial
  | some (g, n, c), ⟨cur, hk, h1, h2, h3, h4, h5⟩ => exact ⟨cur, hk, h1, h2, h3, fun x => h4 (ha x), fun x => h5 (hb x)⟩
theorem Pg.In.grown {p : Pg} {w w' : World} {a b : Prop} {r : Option Nat} (h : p.In w a b) (hg : w.grownBy w' r) (hne : ∀ g, bkOf p.lie = some g → some g ≠ r) : p.In w' a b := by
  obtain ⟨kd, lie, m, b0⟩ := p
  match lie, h with
  | none, _ => trivial
  | some (g, n, c), ⟨cur, hk, h1⟩ => exact ⟨cur, hk.grown hg (hne g rfl), h1⟩
theorem Pg.In.keepBlk {p : Pg} {w w' : World} {a b : Prop} (h : p.In w a b) (hg : w.grownBy w' (bkOf p.lie)) {g' t : Nat} {cs : Array Value} (hk : Blk w g' t cs) (hne : t ≠ kE p.kd) : Blk w' g' t cs := by
  obtain ⟨kd, lie, m, b0⟩ := p
  match lie, h with
  | none, _ => exact hk.grown hg (by simp [bkOf])
  | some (g, n, c), ⟨cur, hb, _⟩ => exact hk.grown hg (fun e => hk.ne_ hb hne (Option.some.inj e))
theorem Pg.In.keepOw {p : Pg} {w w' : World} {a b : Prop} (h : p.In w a b) (hg : w.grownBy w' (bkOf p.lie)) {B e size n : Nat} {v : Value} {xs : List Value} (ho : Ow B w e size v n xs) (hne : e ≠ kE p.kd) : Ow B w' e size v n xs := by
  rcases ho with ho | ⟨g', c, cur, rfl, hB, hk, hr⟩
  · exact .inl ho
  · exact .inr ⟨g', c, cur, rfl, hB, h.keepBlk hg hk hne, hr⟩
theorem Ow.cell1 {B : Nat} {w : World} {e : TypeId} {v : Value} {xs : List Value} {n : Nat} (h : Ow B w e 1 v n xs) (k : Nat) (hk : k < xs.length) : ∃ g c, v = .slice (some ⟨g, 0, none⟩) n c ∧ n ≤ c ∧ w.cell? ⟨g, k, none⟩ = some xs[k] := by
  rcases h with ⟨_, _, rfl⟩ | ⟨g, c, cur, rfl, _, hg, hc, hl, _, ht⟩
  · simp at hk
  · refine ⟨g, c, rfl, hc, ?_⟩
    rw [hg.cell]
    have h1 : (cur.toList.take (n * 1))[k]? = some xs[k] := by rw [ht]; simp [hk]
    rw [List.getElem?_take, if_pos (by omega)] at h1
    simpa using h1
/-- The book's pages, some of them written. -/
structure St (ps : List Pg) (kb : Nat) (pv : Value) (B : Nat) (W w : World) (s t : Nat) : Prop where
  bk : Blk w kb 63 #[pv]
  ow : Ow 0 w 128 1 pv ps.length (ps.map Pg.ifc)
  bel : Below B W w
  le : B ≤ w.heap.size
  pgs : ∀ i (h : i < ps.length), (ps[i]).In w (i < s) (i < t)
theorem St.step {ps : List Pg} {kb : Nat} {pv : Value} {B : Nat} {W w w' : World} {s t s' t' : Nat} (h : St ps kb pv B W w s t) (hd : ∀ i j (hi : i < ps.length) (hj : j < ps.length), i ≠ j → ∀ g, bkOf (ps[i]).lie = some g → bkOf (ps[j]).lie ≠ some g) (hge : ∀ p ∈ ps, ∀ g, bkOf p.lie = some g → B ≤ g)
    (k : Nat) (hk : k < ps.length) (hg : w.grownBy w' (bkOf (ps[k]).lie)) (hin : (ps[k]).In w' (k < s') (k < t')) (m1 : ∀ i, i ≠ k → i < s' → i < s) (m2 : ∀ i, i ≠ k → i < t' → i < t) : St ps kb pv B W w' s' t' where
  bk := (h.pgs k hk).keepBlk hg h.bk (kE_book _)
  ow := (h.pgs k hk).keepOw hg h.ow (kE_page _)
  bel := h.bel.grown hg h.le (fun g hgg => hge _ (List.getElem_mem hk) g hgg)
  le := Nat.le_trans h.le hg.size
  pgs := fun i hi => by
    by_cases e : i = k
    · subst e; exact hin
    · exact ((h.pgs i hi).grown hg (fun g hgg he => hd i k hi hk e g hgg he.symm)).mono (m1 i e) (m2 i e)
theorem pgwr_byte (a : Option (Nat × Nat × Nat)) (m0 b0 : Int) (w : World) (h : (⟨0, a, [m0], [b0]⟩ : Pg).In w False False) :
    Calls Tryz.prog 111 #[.agg #[slOf a, .int .u8 m0, .int .u8 b0]] w fun e w' => e = .returned (.tuple #[]) ∧ (⟨0, a, [m0], [b0]⟩ : Pg).In w' True False ∧ w.grownBy w' (bkOf a) := by
  match a, h with
  | none, _ => exact (write_byte_none m0 b0 w).mono fun _ _ hh => ⟨hh.1, trivial, grown_below_ hh.2 _⟩
  | some (g, n, c), ⟨cur, hk, h1, h2, h3, h4, h5⟩ =>
    refine (write_byte g n c m0 b0 cur w hk h1 (by simpa [kK] using h2) h3).mono ?_
    rintro e w' ⟨he, cur', q0, qs, q1, q2, hg⟩
    exact ⟨he, ⟨cur', q0, h1, by rw [qs]; exact h2, h3, fun _ i hi => fun j u hj => by match j, hj with | 0, hj => (simp [kK, fc] at hj; subst hj; simpa [kK] using (q1 i (Nat.zero_le _) hi)) | (_ + 1), hj => (simp [kK, fc] at hj), fun x => x.elim⟩, hg⟩
theorem pgbe_byte (a : Option (Nat × Nat × Nat)) (m0 b0 : Int) (w : World) (h : (⟨0, a, [m0], [b0]⟩ : Pg).In w True False) :
    Calls Tryz.prog 112 #[.agg #[slOf a, .int .u8 m0, .int .u8 b0]] w fun e w' => e = .returned (.tuple #[]) ∧ (⟨0, a, [m0], [b0]⟩ : Pg).In w' True True ∧ w.grownBy w' (bkOf a) := by
  match a, h with
  | none, _ => exact (behind_byte_none m0 b0 w).mono fun _ _ hh => ⟨hh.1, trivial, grown_below_ hh.2 _⟩
  | some (g, n, c), ⟨cur, hk, h1, h2, h3, h4, h5⟩ =>
    refine (behind_byte g n c m0 b0 cur w hk h1 (by simpa [kK] using h2) h3).mono ?_
    rintro e w' ⟨he, cur', q0, qs, q1, q2, hg⟩
    exact ⟨he, ⟨cur', q0, h1, by rw [qs]; exact h2, h3, (by
      intro _ i hi j u hj
      have h := h4 trivial i hi j u hj
      have hj2 : j < 1 := by
        rcases Nat.lt_or_ge j 1 with h | h
        · exact h
        · exfalso
          rw [List.getElem?_eq_none (by simpa [kK, fc] using h)] at hj
          cases hj
      have hs : (kK 0).length = 1 := rfl
      simp only [hs] at h ⊢
      rw [q2 _ (.inl (by omega))]
      exact h), fun _ i hi1 hi2 => fun j u hj => by match j, hj with | 0, hj => (simp [kK, fc] at hj; subst hj; simpa [kK] using (q1 i hi1 hi2)) | (_ + 1), hj => (simp [kK, fc] at hj)⟩, hg⟩
theorem pgst_byte (a : Option (Nat × Nat × Nat)) (m0 b0 : Int) (w : World) (h : (⟨0, a, [m0], [b0]⟩ : Pg).In w True True) :
    Calls Tryz.prog 110 #[.agg #[slOf a, .int .u8 m0, .int .u8 b0]] w fun e w' => e = .returned (.bool true) ∧ Below w.heap.size w w' := by
  match a, h with
  | none, _ => exact stands_byte_none m0 b0 w
  | some (g, n, c), ⟨cur, hk, h1, h2, h3, h4, h5⟩ =>
    exact stands_byte g n c m0 b0 cur w hk h1 (by simpa [kK] using h2) h3 (fun i _ hi => by have := h4 trivial i hi 0 _ rfl; simpa [kK] using this) (fun i hi1 hi2 => by have := h5 trivial i hi1 hi2 0 _ rfl; simpa [kK] using this)
theorem pgwr_step (a : Option (Nat × Nat × Nat)) (m0 m1 m2 m3 m4 m5 m6 m7 m8 m9 b0 b1 b2 b3 b4 b5 b6 b7 b8 b9 : Int) (w : World) (h : (⟨1, a, [m0, m1, m2, m3, m4, m5, m6, m7, m8, m9], [b0, b1, b2, b3, b4, b5, b6, b7, b8, b9]⟩ : Pg).In w False False) :
    Calls Tryz.prog 114 #[.agg #[slOf a, .int .u8 m0, .int .u8 m1, .int .u8 m2, .int .u8 m3, .int .u8 m4, .int .i64 m5, .int .i64 m6, .int .i64 m7, .int .i64 m8, .int .u64 m9, .int .u8 b0, .int .u8 b1, .int .u8 b2, .int .u8 b3, .int .u8 b4, .int .i64 b5, .int .i64 b6, .int .i64 b7, .int .i64 b8, .int .u64 b9]] w fun e w' => e = .returned (.tuple #[]) ∧ (⟨1, a, [m0, m1, m2, m3, m4, m5, m6, m7, m8, m9], [b0, b1, b2, b3, b4, b5, b6, b7, b8, b9]⟩ : Pg).In w' True False ∧ w.grownBy w' (bkOf a) := by
  match a, h with
  | none, _ => exact (write_step_none m0 m1 m2 m3 m4 m5 m6 m7 m8 m9 b0 b1 b2 b3 b4 b5 b6 b7 b8 b9 w).mono fun _ _ hh => ⟨hh.1, trivial, grown_below_ hh.2 _⟩
  | some (g, n, c), ⟨cur, hk, h1, h2, h3, h4, h5⟩ =>
    refine (write_step g n c m0 m1 m2 m3 m4 m5 m6 m7 m8 m9 b0 b1 b2 b3 b4 b5 b6 b7 b8 b9 cur w hk h1 (by simpa [kK, stepK] using h2) h3).mono ?_
    rintro e w' ⟨he, cur', q0, qs, q1, q2, hg⟩
    exact ⟨he, ⟨cur', q0, h1, by rw [qs]; exact h2, h3, fun _ i hi => fun j u hj => by
            match j, hj with
            | 0, hj => (obtain rfl : _ = u := by simpa [kK, stepK, fc] using hj); simpa [kK, stepK] using ((q1 i (Nat.zero_le _) hi)).1
            | 1, hj => (obtain rfl : _ = u := by simpa [kK, stepK, fc] using hj); simpa [kK, stepK] using ((q1 i (Nat.zero_le _) hi)).2.1
            | 2, hj => (obtain rfl : _ = u := by simpa [kK, stepK, fc] using hj); simpa [kK, stepK] using ((q1 i (Nat.zero_le _) hi)).2.2.1
            | 3, hj => (obtain rfl : _ = u := by simpa [kK, stepK, fc] using hj); simpa [kK, stepK] using ((q1 i (Nat.zero_le _) hi)).2.2.2.1
            | 4, hj => (obtain rfl : _ = u := by simpa [kK, stepK, fc] using hj); simpa [kK, stepK] using ((q1 i (Nat.zero_le _) hi)).2.2.2.2.1
            | 5, hj => (obtain rfl : _ = u := by simpa [kK, stepK, fc] using hj); simpa [kK, stepK] using ((q1 i (Nat.zero_le _) hi)).2.2.2.2.2.1
            | 6, hj => (obtain rfl : _ = u := by simpa [kK, stepK, fc] using hj); simpa [kK, stepK] using ((q1 i (Nat.zero_le _) hi)).2.2.2.2.2.2.1
            | 7, hj => (obtain rfl : _ = u := by simpa [kK, stepK, fc] using hj); simpa [kK, stepK] using ((q1 i (Nat.zero_le _) hi)).2.2.2.2.2.2.2.1
            | 8, hj => (obtain rfl : _ = u := by simpa [kK, stepK, fc] using hj); simpa [kK, stepK] using ((q1 i (Nat.zero_le _) hi)).2.2.2.2.2.2.2.2.1
            | 9, hj => (obtain rfl : _ = u := by simpa [kK, stepK, fc] using hj); simpa [kK, stepK] using ((q1 i (Nat.zero_le _) hi)).2.2.2.2.2.2.2.2.2
            | (_ + 10), hj => simp [kK, stepK, fc] at hj, fun x => x.elim⟩, hg⟩
theorem pgbe_step (a : Option (Nat × Nat × Nat)) (m0 m1 m2 m3 m4 m5 m6 m7 m8 m9 b0 b1 b2 b3 b4 b5 b6 b7 b8 b9 : Int) (w : World) (h : (⟨1, a, [m0, m1, m2, m3, m4, m5, m6, m7, m8, m9], [b0, b1, b2, b3, b4, b5, b6, b7, b8, b9]⟩ : Pg).In w True False) :
    Calls Tryz.prog 115 #[.agg #[slOf a, .int .u8 m0, .int .u8 m1, .int .u8 m2, .int .u8 m3, .int .u8 m4, .int .i64 m5, .int .i64 m6, .int .i64 m7, .int .i64 m8, .int .u64 m9, .int .u8 b0, .int .u8 b1, .int .u8 b2, .int .u8 b3, .int .u8 b4, .int .i64 b5, .int .i64 b6, .int .i64 b7, .int .i64 b8, .int .u64 b9]] w fun e w' => e = .returned (.tuple #[]) ∧ (⟨1, a, [m0, m1, m2, m3, m4, m5, m6, m7, m8, m9], [b0, b1, b2, b3, b4, b5, b6, b7, b8, b9]⟩ : Pg).In w' True True ∧ w.grownBy w' (bkOf a) := by
  match a, h with
  | none, _ => exact (behind_step_none m0 m1 m2 m3 m4 m5 m6 m7 m8 m9 b0 b1 b2 b3 b4 b5 b6 b7 b8 b9 w).mono fun _ _ hh => ⟨hh.1, trivial, grown_below_ hh.2 _⟩
  | some (g, n, c), ⟨cur, hk, h1, h2, h3, h4, h5⟩ =>
    refine (behind_step g n c m0 m1 m2 m3 m4 m5 m6 m7 m8 m9 b0 b1 b2 b3 b4 b5 b6 b7 b8 b9 cur w hk h1 (by simpa [kK, stepK] using h2) h3).mono ?_
    rintro e w' ⟨he, cur', q0, qs, q1, q2, hg⟩
    exact ⟨he, ⟨cur', q0, h1, by rw [qs]; exact h2, h3, (by
      intro _ i hi j u hj
      have h := h4 trivial i hi j u hj
      have hj2 : j < 10 := by
        rcases Nat.lt_or_ge j 10 with h | h
        · exact h
        · exfalso
          rw [List.getElem?_eq_none (by simpa [kK, stepK, fc] using h)] at hj
          cases hj
      have hs : (kK 1).length = 10 := rfl
      simp only [hs] at h ⊢
      rw [q2 _ (.inl (by omega))]
      exact h), fun _ i hi1 hi2 => fun j u hj => by
            match j, hj with
            | 0, hj => (obtain rfl : _ = u := by simpa [kK, stepK, fc] using hj); simpa [kK, stepK] using ((q1 i hi1 hi2)).1
            | 1, hj => (obtain rfl : _ = u := by simpa [kK, stepK, fc] using hj); simpa [kK, stepK] using ((q1 i hi1 hi2)).2.1
            | 2, hj => (obtain rfl : _ = u := by simpa [kK, stepK, fc] using hj); simpa [kK, stepK] using ((q1 i hi1 hi2)).2.2.1
            | 3, hj => (obtain rfl : _ = u := by simpa [kK, stepK, fc] using hj); simpa [kK, stepK] using ((q1 i hi1 hi2)).2.2.2.1
            | 4, hj => (obtain rfl : _ = u := by simpa [kK, stepK, fc] using hj); simpa [kK, stepK] using ((q1 i hi1 hi2)).2.2.2.2.1
            | 5, hj => (obtain rfl : _ = u := by simpa [kK, stepK, fc] using hj); simpa [kK, stepK] using ((q1 i hi1 hi2)).2.2.2.2.2.1
            | 6, hj => (obtain rfl : _ = u := by simpa [kK, stepK, fc] using hj); simpa [kK, stepK] using ((q1 i hi1 hi2)).2.2.2.2.2.2.1
            | 7, hj => (obtain rfl : _ = u := by simpa [kK, stepK, fc] using hj); simpa [kK, stepK] using ((q1 i hi1 hi2)).2.2.2.2.2.2.2.1
            | 8, hj => (obtain rfl : _ = u := by simpa [kK, stepK, fc] using hj); simpa [kK, stepK] using ((q1 i hi1 hi2)).2.2.2.2.2.2.2.2.1
            | 9, hj => (obtain rfl : _ = u := by simpa [kK, stepK, fc] using hj); simpa [kK, stepK] using ((q1 i hi1 hi2)).2.2.2.2.2.2.2.2.2
            | (_ + 10), hj => simp [kK, stepK, fc] at hj⟩, hg⟩
theorem pgst_step (a : Option (Nat × Nat × Nat)) (m0 m1 m2 m3 m4 m5 m6 m7 m8 m9 b0 b1 b2 b3 b4 b5 b6 b7 b8 b9 : Int) (w : World) (h : (⟨1, a, [m0, m1, m2, m3, m4, m5, m6, m7, m8, m9], [b0, b1, b2, b3, b4, b5, b6, b7, b8, b9]⟩ : Pg).In w True True) :
    Calls Tryz.prog 113 #[.agg #[slOf a, .int .u8 m0, .int .u8 m1, .int .u8 m2, .int .u8 m3, .int .u8 m4, .int .i64 m5, .int .i64 m6, .int .i64 m7, .int .i64 m8, .int .u64 m9, .int .u8 b0, .int .u8 b1, .int .u8 b2, .int .u8 b3, .int .u8 b4, .int .i64 b5, .int .i64 b6, .int .i64 b7, .int .i64 b8, .int .u64 b9]] w fun e w' => e = .returned (.bool true) ∧ Below w.heap.size w w' := by
  match a, h with
  | none, _ => exact stands_step_none m0 m1 m2 m3 m4 m5 m6 m7 m8 m9 b0 b1 b2 b3 b4 b5 b6 b7 b8 b9 w
  | some (g, n, c), ⟨cur, hk, h1, h2, h3, h4, h5⟩ =>
    exact stands_step g n c m0 m1 m2 m3 m4 m5 m6 m7 m8 m9 b0 b1 b2 b3 b4 b5 b6 b7 b8 b9 cur w hk h1 (by simpa [kK, stepK] using h2) h3 (fun i _ hi => ⟨by have := h4 trivial i hi 0 _ rfl; simpa [kK, stepK] using this, by have := h4 trivial i hi 1 _ rfl; simpa [kK, stepK] using this, by have := h4 trivial i hi 2 _ rfl; simpa [kK, stepK] using this, by have := h4 trivial i hi 3 _ rfl; simpa [kK, stepK] using this, by have := h4 trivial i hi 4 _ rfl; simpa [kK, stepK] using this, by have := h4 trivial i hi 5 _ rfl; simpa [kK, stepK] using this, by have := h4 trivial i hi 6 _ rfl; simpa [kK, stepK] using this, by have := h4 trivial i hi 7 _ rfl; simpa [kK, stepK] using this, by have := h4 trivial i hi 8 _ rfl; simpa [kK, stepK] using this, by have := h4 trivial i hi 9 _ rfl; simpa [kK, stepK] using this⟩) (fun i hi1 hi2 => ⟨by have := h5 trivial i hi1 hi2 0 _ rfl; simpa [kK, stepK] using this, by have := h5 trivial i hi1 hi2 1 _ rfl; simpa [kK, stepK] using this, by have := h5 trivial i hi1 hi2 2 _ rfl; simpa [kK, stepK] using this, by have := h5 trivial i hi1 hi2 3 _ rfl; simpa [kK, stepK] using this, by have := h5 trivial i hi1 hi2 4 _ rfl; simpa [kK, stepK] using this, by have := h5 trivial i hi1 hi2 5 _ rfl; simpa [kK, stepK] using this, by have := h5 trivial i hi1 hi2 6 _ rfl; simpa [kK, stepK] using this, by have := h5 trivial i hi1 hi2 7 _ rfl; simpa [kK, stepK] using this, by have := h5 trivial i hi1 hi2 8 _ rfl; simpa [kK, stepK] using this, by have := h5 trivial i hi1 hi2 9 _ rfl; simpa [kK, stepK] using this⟩)
theorem pgwr_got (a : Option (Nat × Nat × Nat)) (m0 m1 b0 b1 : Int) (w : World) (h : (⟨2, a, [m0, m1], [b0, b1]⟩ : Pg).In w False False) :
    Calls Tryz.prog 117 #[.agg #[slOf a, .int .i64 m0, .int .i64 m1, .int .i64 b0, .int .i64 b1]] w fun e w' => e = .returned (.tuple #[]) ∧ (⟨2, a, [m0, m1], [b0, b1]⟩ : Pg).In w' True False ∧ w.grownBy w' (bkOf a) := by
  match a, h with
  | none, _ => exact (write_got_none m0 m1 b0 b1 w).mono fun _ _ hh => ⟨hh.1, trivial, grown_below_ hh.2 _⟩
  | some (g, n, c), ⟨cur, hk, h1, h2, h3, h4, h5⟩ =>
    refine (write_got g n c m0 m1 b0 b1 cur w hk h1 (by simpa [kK, gotK] using h2) h3).mono ?_
    rintro e w' ⟨he, cur', q0, qs, q1, q2, hg⟩
    exact ⟨he, ⟨cur', q0, h1, by rw [qs]; exact h2, h3, fun _ i hi => fun j u hj => by
            match j, hj with
            | 0, hj => (obtain rfl : _ = u := by simpa [kK, gotK, fc] using hj); simpa [kK, gotK] using ((q1 i (Nat.zero_le _) hi)).1
            | 1, hj => (obtain rfl : _ = u := by simpa [kK, gotK, fc] using hj); simpa [kK, gotK] using ((q1 i (Nat.zero_le _) hi)).2
            | (_ + 2), hj => simp [kK, gotK, fc] at hj, fun x => x.elim⟩, hg⟩
theorem pgbe_got (a : Option (Nat × Nat × Nat)) (m0 m1 b0 b1 : Int) (w : World) (h : (⟨2, a, [m0, m1], [b0, b1]⟩ : Pg).In w True False) :
    Calls Tryz.prog 118 #[.agg #[slOf a, .int .i64 m0, .int .i64 m1, .int .i64 b0, .int .i64 b1]] w fun e w' => e = .returned (.tuple #[]) ∧ (⟨2, a, [m0, m1], [b0, b1]⟩ : Pg).In w' True True ∧ w.grownBy w' (bkOf a) := by
  match a, h with
  | none, _ => exact (behind_got_none m0 m1 b0 b1 w).mono fun _ _ hh => ⟨hh.1, trivial, grown_below_ hh.2 _⟩
  | some (g, n, c), ⟨cur, hk, h1, h2, h3, h4, h5⟩ =>
    refine (behind_got g n c m0 m1 b0 b1 cur w hk h1 (by simpa [kK, gotK] using h2) h3).mono ?_
    rintro e w' ⟨he, cur', q0, qs, q1, q2, hg⟩
    exact ⟨he, ⟨cur', q0, h1, by rw [qs]; exact h2, h3, (by
      intro _ i hi j u hj
      have h := h4 trivial i hi j u hj
      have hj2 : j < 2 := by
        rcases Nat.lt_or_ge j 2 with h | h
        · exact h
        · exfalso
          rw [List.getElem?_eq_none (by simpa [kK, gotK, fc] using h)] at hj
          cases hj
      have hs : (kK 2).length = 2 := rfl
      simp only [hs] at h ⊢
      rw [q2 _ (.inl (by omega))]
      exact h), fun _ i hi1 hi2 => fun j u hj => by
            match j, hj with
            | 0, hj => (obtain rfl : _ = u := by simpa [kK, gotK, fc] using hj); simpa [kK, gotK] using ((q1 i hi1 hi2)).1
            | 1, hj => (obtain rfl : _ = u := by simpa [kK, gotK, fc] using hj); simpa [kK, gotK] using ((q1 i hi1 hi2)).2
            | (_ + 2), hj => simp [kK, gotK, fc] at hj⟩, hg⟩
theorem pgst_got (a : Option (Nat × Nat × Nat)) (m0 m1 b0 b1 : Int) (w : World) (h : (⟨2, a, [m0, m1], [b0, b1]⟩ : Pg).In w True True) :
    Calls Tryz.prog 116 #[.agg #[slOf a, .int .i64 m0, .int .i64 m1, .int .i64 b0, .int .i64 b1]] w fun e w' => e = .returned (.bool true) ∧ Below w.heap.size w w' := by
  match a, h with
  | none, _ => exact stands_got_none m0 m1 b0 b1 w
  | some (g, n, c), ⟨cur, hk, h1, h2, h3, h4, h5⟩ =>
    exact stands_got g n c m0 m1 b0 b1 cur w hk h1 (by simpa [kK, gotK] using h2) h3 (fun i _ hi => ⟨by have := h4 trivial i hi 0 _ rfl; simpa [kK, gotK] using this, by have := h4 trivial i hi 1 _ rfl; simpa [kK, gotK] using this⟩) (fun i hi1 hi2 => ⟨by have := h5 trivial i hi1 hi2 0 _ rfl; simpa [kK, gotK] using this, by have := h5 trivial i hi1 hi2 1 _ rfl; simpa [kK, gotK] using this⟩)
theorem pgwr_party (a : Option (Nat × Nat × Nat)) (m0 b0 : Int) (w : World) (h : (⟨3, a, [m0], [b0]⟩ : Pg).In w False False) :
    Calls Tryz.prog 120 #[.agg #[slOf a, .int .u8 m0, .int .u8 b0]] w fun e w' => e = .returned (.tuple #[]) ∧ (⟨3, a, [m0], [b0]⟩ : Pg).In w' True False ∧ w.grownBy w' (bkOf a) := by
  match a, h with
  | none, _ => exact (write_party_none m0 b0 w).mono fun _ _ hh => ⟨hh.1, trivial, grown_below_ hh.2 _⟩
  | some (g, n, c), ⟨cur, hk, h1, h2, h3, h4, h5⟩ =>
    refine (write_party g n c m0 b0 cur w hk h1 (by simpa [kK, partyK] using h2) h3).mono ?_
    rintro e w' ⟨he, cur', q0, qs, q1, q2, hg⟩
    exact ⟨he, ⟨cur', q0, h1, by rw [qs]; exact h2, h3, fun _ i hi => fun j u hj => by match j, hj with | 0, hj => (simp [kK, fc, partyK] at hj; subst hj; simpa [kK, partyK] using (q1 i (Nat.zero_le _) hi)) | (_ + 1), hj => (simp [kK, fc, partyK] at hj), fun x => x.elim⟩, hg⟩
theorem pgbe_party (a : Option (Nat × Nat × Nat)) (m0 b0 : Int) (w : World) (h : (⟨3, a, [m0], [b0]⟩ : Pg).In w True False) :
    Calls Tryz.prog 121 #[.agg #[slOf a, .int .u8 m0, .int .u8 b0]] w fun e w' => e = .returned (.tuple #[]) ∧ (⟨3, a, [m0], [b0]⟩ : Pg).In w' True True ∧ w.grownBy w' (bkOf a) := by
  match a, h with
  | none, _ => exact (behind_party_none m0 b0 w).mono fun _ _ hh => ⟨hh.1, trivial, grown_below_ hh.2 _⟩
  | some (g, n, c), ⟨cur, hk, h1, h2, h3, h4, h5⟩ =>
    refine (behind_party g n c m0 b0 cur w hk h1 (by simpa [kK, partyK] using h2) h3).mono ?_
    rintro e w' ⟨he, cur', q0, qs, q1, q2, hg⟩
    exact ⟨he, ⟨cur', q0, h1, by rw [qs]; exact h2, h3, (by
      intro _ i hi j u hj
      have h := h4 trivial i hi j u hj
      have hj2 : j < 1 := by
        rcases Nat.lt_or_ge j 1 with h | h
        · exact h
        · exfalso
          rw [List.getElem?_eq_none (by simpa [kK, partyK, fc] using h)] at hj
          cases hj
      have hs : (kK 3).length = 1 := rfl
      simp only [hs] at h ⊢
      rw [q2 _ (.inl (by omega))]
      exact h), fun _ i hi1 hi2 => fun j u hj => by match j, hj with | 0, hj => (simp [kK, fc, partyK] at hj; subst hj; simpa [kK, partyK] using (q1 i hi1 hi2)) | (_ + 1), hj => (simp [kK, fc, partyK] at hj)⟩, hg⟩
theorem pgst_party (a : Option (Nat × Nat × Nat)) (m0 b0 : Int) (w : World) (h : (⟨3, a, [m0], [b0]⟩ : Pg).In w True True) :
    Calls Tryz.prog 119 #[.agg #[slOf a, .int .u8 m0, .int .u8 b0]] w fun e w' => e = .returned (.bool true) ∧ Below w.heap.size w w' := by
  match a, h with
  | none, _ => exact stands_party_none m0 b0 w
  | some (g, n, c), ⟨cur, hk, h1, h2, h3, h4, h5⟩ =>
    exact stands_party g n c m0 b0 cur w hk h1 (by simpa [kK, partyK] using h2) h3 (fun i _ hi => by have := h4 trivial i hi 0 _ rfl; simpa [kK, partyK] using this) (fun i hi1 hi2 => by have := h5 trivial i hi1 hi2 0 _ rfl; simpa [kK, partyK] using this)
theorem pgwr_line (a : Option (Nat × Nat × Nat)) (m0 m1 m2 m3 m4 b0 b1 b2 b3 b4 : Int) (w : World) (h : (⟨4, a, [m0, m1, m2, m3, m4], [b0, b1, b2, b3, b4]⟩ : Pg).In w False False) :
    Calls Tryz.prog 123 #[.agg #[slOf a, .int .u8 m0, .int .u8 m1, .int .u8 m2, .int .i64 m3, .int .i64 m4, .int .u8 b0, .int .u8 b1, .int .u8 b2, .int .i64 b3, .int .i64 b4]] w fun e w' => e = .returned (.tuple #[]) ∧ (⟨4, a, [m0, m1, m2, m3, m4], [b0, b1, b2, b3, b4]⟩ : Pg).In w' True False ∧ w.grownBy w' (bkOf a) := by
  match a, h with
  | none, _ => exact (write_line_none m0 m1 m2 m3 m4 b0 b1 b2 b3 b4 w).mono fun _ _ hh => ⟨hh.1, trivial, grown_below_ hh.2 _⟩
  | some (g, n, c), ⟨cur, hk, h1, h2, h3, h4, h5⟩ =>
    refine (write_line g n c m0 m1 m2 m3 m4 b0 b1 b2 b3 b4 cur w hk h1 (by simpa [kK, lineK] using h2) h3).mono ?_
    rintro e w' ⟨he, cur', q0, qs, q1, q2, hg⟩
    exact ⟨he, ⟨cur', q0, h1, by rw [qs]; exact h2, h3, fun _ i hi => fun j u hj => by
            match j, hj with
            | 0, hj => (obtain rfl : _ = u := by simpa [kK, lineK, fc] using hj); simpa [kK, lineK] using ((q1 i (Nat.zero_le _) hi)).1
            | 1, hj => (obtain rfl : _ = u := by simpa [kK, lineK, fc] using hj); simpa [kK, lineK] using ((q1 i (Nat.zero_le _) hi)).2.1
            | 2, hj => (obtain rfl : _ = u := by simpa [kK, lineK, fc] using hj); simpa [kK, lineK] using ((q1 i (Nat.zero_le _) hi)).2.2.1
            | 3, hj => (obtain rfl : _ = u := by simpa [kK, lineK, fc] using hj); simpa [kK, lineK] using ((q1 i (Nat.zero_le _) hi)).2.2.2.1
            | 4, hj => (obtain rfl : _ = u := by simpa [kK, lineK, fc] using hj); simpa [kK, lineK] using ((q1 i (Nat.zero_le _) hi)).2.2.2.2
            | (_ + 5), hj => simp [kK, lineK, fc] at hj, fun x => x.elim⟩, hg⟩
theorem pgbe_line (a : Option (Nat × Nat × Nat)) (m0 m1 m2 m3 m4 b0 b1 b2 b3 b4 : Int) (w : World) (h : (⟨4, a, [m0, m1, m2, m3, m4], [b0, b1, b2, b3, b4]⟩ : Pg).In w True False) :
    Calls Tryz.prog 124 #[.agg #[slOf a, .int .u8 m0, .int .u8 m1, .int .u8 m2, .int .i64 m3, .int .i64 m4, .int .u8 b0, .int .u8 b1, .int .u8 b2, .int .i64 b3, .int .i64 b4]] w fun e w' => e = .returned (.tuple #[]) ∧ (⟨4, a, [m0, m1, m2, m3, m4], [b0, b1, b2, b3, b4]⟩ : Pg).In w' True True ∧ w.grownBy w' (bkOf a) := by
  match a, h with
  | none, _ => exact (behind_line_none m0 m1 m2 m3 m4 b0 b1 b2 b3 b4 w).mono fun _ _ hh => ⟨hh.1, trivial, grown_below_ hh.2 _⟩
  | some (g, n, c), ⟨cur, hk, h1, h2, h3, h4, h5⟩ =>
    refine (behind_line g n c m0 m1 m2 m3 m4 b0 b1 b2 b3 b4 cur w hk h1 (by simpa [kK, lineK] using h2) h3).mono ?_
    rintro e w' ⟨he, cur', q0, qs, q1, q2, hg⟩
    exact ⟨he, ⟨cur', q0, h1, by rw [qs]; exact h2, h3, (by
      intro _ i hi j u hj
      have h := h4 trivial i hi j u hj
      have hj2 : j < 5 := by
        rcases Nat.lt_or_ge j 5 with h | h
        · exact h
        · exfalso
          rw [List.getElem?_eq_none (by simpa [kK, lineK, fc] using h)] at hj
          cases hj
      have hs : (kK 4).length = 5 := rfl
      simp only [hs] at h ⊢
      rw [q2 _ (.inl (by omega))]
      exact h), fun _ i hi1 hi2 => fun j u hj => by
            match j, hj with
            | 0, hj => (obtain rfl : _ = u := by simpa [kK, lineK, fc] using hj); simpa [kK, lineK] using ((q1 i hi1 hi2)).1
            | 1, hj => (obtain rfl : _ = u := by simpa [kK, lineK, fc] using hj); simpa [kK, lineK] using ((q1 i hi1 hi2)).2.1
            | 2, hj => (obtain rfl : _ = u := by simpa [kK, lineK, fc] using hj); simpa [kK, lineK] using ((q1 i hi1 hi2)).2.2.1
            | 3, hj => (obtain rfl : _ = u := by simpa [kK, lineK, fc] using hj); simpa [kK, lineK] using ((q1 i hi1 hi2)).2.2.2.1
            | 4, hj => (obtain rfl : _ = u := by simpa [kK, lineK, fc] using hj); simpa [kK, lineK] using ((q1 i hi1 hi2)).2.2.2.2
            | (_ + 5), hj => simp [kK, lineK, fc] at hj⟩, hg⟩
theorem pgst_line (a : Option (Nat × Nat × Nat)) (m0 m1 m2 m3 m4 b0 b1 b2 b3 b4 : Int) (w : World) (h : (⟨4, a, [m0, m1, m2, m3, m4], [b0, b1, b2, b3, b4]⟩ : Pg).In w True True) :
    Calls Tryz.prog 122 #[.agg #[slOf a, .int .u8 m0, .int .u8 m1, .int .u8 m2, .int .i64 m3, .int .i64 m4, .int .u8 b0, .int .u8 b1, .int .u8 b2, .int .i64 b3, .int .i64 b4]] w fun e w' => e = .returned (.bool true) ∧ Below w.heap.size w w' := by
  match a, h with
  | none, _ => exact stands_line_none m0 m1 m2 m3 m4 b0 b1 b2 b3 b4 w
  | some (g, n, c), ⟨cur, hk, h1, h2, h3, h4, h5⟩ =>
    exact stands_line g n c m0 m1 m2 m3 m4 b0 b1 b2 b3 b4 cur w hk h1 (by simpa [kK, lineK] using h2) h3 (fun i _ hi => ⟨by have := h4 trivial i hi 0 _ rfl; simpa [kK, lineK] using this, by have := h4 trivial i hi 1 _ rfl; simpa [kK, lineK] using this, by have := h4 trivial i hi 2 _ rfl; simpa [kK, lineK] using this, by have := h4 trivial i hi 3 _ rfl; simpa [kK, lineK] using this, by have := h4 trivial i hi 4 _ rfl; simpa [kK, lineK] using this⟩) (fun i hi1 hi2 => ⟨by have := h5 trivial i hi1 hi2 0 _ rfl; simpa [kK, lineK] using this, by have := h5 trivial i hi1 hi2 1 _ rfl; simpa [kK, lineK] using this, by have := h5 trivial i hi1 hi2 2 _ rfl; simpa [kK, lineK] using this, by have := h5 trivial i hi1 hi2 3 _ rfl; simpa [kK, lineK] using this, by have := h5 trivial i hi1 hi2 4 _ rfl; simpa [kK, lineK] using this⟩)
theorem pgwr_offer (a : Option (Nat × Nat × Nat)) (m0 m1 m2 m3 m4 m5 m6 b0 b1 b2 b3 b4 b5 b6 : Int) (w : World) (h : (⟨5, a, [m0, m1, m2, m3, m4, m5, m6], [b0, b1, b2, b3, b4, b5, b6]⟩ : Pg).In w False False) :
    Calls Tryz.prog 126 #[.agg #[slOf a, .int .u64 m0, .int .u8 m1, .int .u8 m2, .int .u8 m3, .int .i64 m4, .int .i64 m5, .int .i64 m6, .int .u64 b0, .int .u8 b1, .int .u8 b2, .int .u8 b3, .int .i64 b4, .int .i64 b5, .int .i64 b6]] w fun e w' => e = .returned (.tuple #[]) ∧ (⟨5, a, [m0, m1, m2, m3, m4, m5, m6], [b0, b1, b2, b3, b4, b5, b6]⟩ : Pg).In w' True False ∧ w.grownBy w' (bkOf a) := by
  match a, h with
  | none, _ => exact (write_offer_none m0 m1 m2 m3 m4 m5 m6 b0 b1 b2 b3 b4 b5 b6 w).mono fun _ _ hh => ⟨hh.1, trivial, grown_below_ hh.2 _⟩
  | some (g, n, c), ⟨cur, hk, h1, h2, h3, h4, h5⟩ =>
    refine (write_offer g n c m0 m1 m2 m3 m4 m5 m6 b0 b1 b2 b3 b4 b5 b6 cur w hk h1 (by simpa [kK, offerK] using h2) h3).mono ?_
    rintro e w' ⟨he, cur', q0, qs, q1, q2, hg⟩
    exact ⟨he, ⟨cur', q0, h1, by rw [qs]; exact h2, h3, fun _ i hi => fun j u hj => by
            match j, hj with
            | 0, hj => (obtain rfl : _ = u := by simpa [kK, offerK, fc] using hj); simpa [kK, offerK] using ((q1 i (Nat.zero_le _) hi)).1
            | 1, hj => (obtain rfl : _ = u := by simpa [kK, offerK, fc] using hj); simpa [kK, offerK] using ((q1 i (Nat.zero_le _) hi)).2.1
            | 2, hj => (obtain rfl : _ = u := by simpa [kK, offerK, fc] using hj); simpa [kK, offerK] using ((q1 i (Nat.zero_le _) hi)).2.2.1
            | 3, hj => (obtain rfl : _ = u := by simpa [kK, offerK, fc] using hj); simpa [kK, offerK] using ((q1 i (Nat.zero_le _) hi)).2.2.2.1
            | 4, hj => (obtain rfl : _ = u := by simpa [kK, offerK, fc] using hj); simpa [kK, offerK] using ((q1 i (Nat.zero_le _) hi)).2.2.2.2.1
            | 5, hj => (obtain rfl : _ = u := by simpa [kK, offerK, fc] using hj); simpa [kK, offerK] using ((q1 i (Nat.zero_le _) hi)).2.2.2.2.2.1
            | 6, hj => (obtain rfl : _ = u := by simpa [kK, offerK, fc] using hj); simpa [kK, offerK] using ((q1 i (Nat.zero_le _) hi)).2.2.2.2.2.2
            | (_ + 7), hj => simp [kK, offerK, fc] at hj, fun x => x.elim⟩, hg⟩
theorem pgbe_offer (a : Option (Nat × Nat × Nat)) (m0 m1 m2 m3 m4 m5 m6 b0 b1 b2 b3 b4 b5 b6 : Int) (w : World) (h : (⟨5, a, [m0, m1, m2, m3, m4, m5, m6], [b0, b1, b2, b3, b4, b5, b6]⟩ : Pg).In w True False) :
    Calls Tryz.prog 127 #[.agg #[slOf a, .int .u64 m0, .int .u8 m1, .int .u8 m2, .int .u8 m3, .int .i64 m4, .int .i64 m5, .int .i64 m6, .int .u64 b0, .int .u8 b1, .int .u8 b2, .int .u8 b3, .int .i64 b4, .int .i64 b5, .int .i64 b6]] w fun e w' => e = .returned (.tuple #[]) ∧ (⟨5, a, [m0, m1, m2, m3, m4, m5, m6], [b0, b1, b2, b3, b4, b5, b6]⟩ : Pg).In w' True True ∧ w.grownBy w' (bkOf a) := by
  match a, h with
  | none, _ => exact (behind_offer_none m0 m1 m2 m3 m4 m5 m6 b0 b1 b2 b3 b4 b5 b6 w).mono fun _ _ hh => ⟨hh.1, trivial, grown_below_ hh.2 _⟩
  | some (g, n, c), ⟨cur, hk, h1, h2, h3, h4, h5⟩ =>
    refine (behind_offer g n c m0 m1 m2 m3 m4 m5 m6 b0 b1 b2 b3 b4 b5 b6 cur w hk h1 (by simpa [kK, offerK] using h2) h3).mono ?_
    rintro e w' ⟨he, cur', q0, qs, q1, q2, hg⟩
    exact ⟨he, ⟨cur', q0, h1, by rw [qs]; exact h2, h3, (by
      intro _ i hi j u hj
      have h := h4 trivial i hi j u hj
      have hj2 : j < 7 := by
        rcases Nat.lt_or_ge j 7 with h | h
        · exact h
        · exfalso
          rw [List.getElem?_eq_none (by simpa [kK, offerK, fc] using h)] at hj
          cases hj
      have hs : (kK 5).length = 7 := rfl
      simp only [hs] at h ⊢
      rw [q2 _ (.inl (by omega))]
      exact h), fun _ i hi1 hi2 => fun j u hj => by
            match j, hj with
            | 0, hj => (obtain rfl : _ = u := by simpa [kK, offerK, fc] using hj); simpa [kK, offerK] using ((q1 i hi1 hi2)).1
            | 1, hj => (obtain rfl : _ = u := by simpa [kK, offerK, fc] using hj); simpa [kK, offerK] using ((q1 i hi1 hi2)).2.1
            | 2, hj => (obtain rfl : _ = u := by simpa [kK, offerK, fc] using hj); simpa [kK, offerK] using ((q1 i hi1 hi2)).2.2.1
            | 3, hj => (obtain rfl : _ = u := by simpa [kK, offerK, fc] using hj); simpa [kK, offerK] using ((q1 i hi1 hi2)).2.2.2.1
            | 4, hj => (obtain rfl : _ = u := by simpa [kK, offerK, fc] using hj); simpa [kK, offerK] using ((q1 i hi1 hi2)).2.2.2.2.1
            | 5, hj => (obtain rfl : _ = u := by simpa [kK, offerK, fc] using hj); simpa [kK, offerK] using ((q1 i hi1 hi2)).2.2.2.2.2.1
            | 6, hj => (obtain rfl : _ = u := by simpa [kK, offerK, fc] using hj); simpa [kK, offerK] using ((q1 i hi1 hi2)).2.2.2.2.2.2
            | (_ + 7), hj => simp [kK, offerK, fc] at hj⟩, hg⟩
theorem pgst_offer (a : Option (Nat × Nat × Nat)) (m0 m1 m2 m3 m4 m5 m6 b0 b1 b2 b3 b4 b5 b6 : Int) (w : World) (h : (⟨5, a, [m0, m1, m2, m3, m4, m5, m6], [b0, b1, b2, b3, b4, b5, b6]⟩ : Pg).In w True True) :
    Calls Tryz.prog 125 #[.agg #[slOf a, .int .u64 m0, .int .u8 m1, .int .u8 m2, .int .u8 m3, .int .i64 m4, .int .i64 m5, .int .i64 m6, .int .u64 b0, .int .u8 b1, .int .u8 b2, .int .u8 b3, .int .i64 b4, .int .i64 b5, .int .i64 b6]] w fun e w' => e = .returned (.bool true) ∧ Below w.heap.size w w' := by
  match a, h with
  | none, _ => exact stands_offer_none m0 m1 m2 m3 m4 m5 m6 b0 b1 b2 b3 b4 b5 b6 w
  | some (g, n, c), ⟨cur, hk, h1, h2, h3, h4, h5⟩ =>
    exact stands_offer g n c m0 m1 m2 m3 m4 m5 m6 b0 b1 b2 b3 b4 b5 b6 cur w hk h1 (by simpa [kK, offerK] using h2) h3 (fun i _ hi => ⟨by have := h4 trivial i hi 0 _ rfl; simpa [kK, offerK] using this, by have := h4 trivial i hi 1 _ rfl; simpa [kK, offerK] using this, by have := h4 trivial i hi 2 _ rfl; simpa [kK, offerK] using this, by have := h4 trivial i hi 3 _ rfl; simpa [kK, offerK] using this, by have := h4 trivial i hi 4 _ rfl; simpa [kK, offerK] using this, by have := h4 trivial i hi 5 _ rfl; simpa [kK, offerK] using this, by have := h4 trivial i hi 6 _ rfl; simpa [kK, offerK] using this⟩) (fun i hi1 hi2 => ⟨by have := h5 trivial i hi1 hi2 0 _ rfl; simpa [kK, offerK] using this, by have := h5 trivial i hi1 hi2 1 _ rfl; simpa [kK, offerK] using this, by have := h5 trivial i hi1 hi2 2 _ rfl; simpa [kK, offerK] using this, by have := h5 trivial i hi1 hi2 3 _ rfl; simpa [kK, offerK] using this, by have := h5 trivial i hi1 hi2 4 _ rfl; simpa [kK, offerK] using this, by have := h5 trivial i hi1 hi2 5 _ rfl; simpa [kK, offerK] using this, by have := h5 trivial i hi1 hi2 6 _ rfl; simpa [kK, offerK] using this⟩)
set_option maxHeartbeats 8000000 in
set_option maxRecDepth 100000 in
theorem apart_any (ps : List Pg) (hok : ∀ p ∈ ps, p.ok) (hd : ∀ i j (hi : i < ps.length) (hj : j < ps.length), i ≠ j → ∀ g, bkOf (ps[i]).lie = some g → bkOf (ps[j]).lie ≠ some g) (hl : ps.length ≤ 120) (kb : Nat) (pv : Value) (B : Nat) (w : World) (hge : ∀ p ∈ ps, ∀ g, bkOf p.lie = some g → B ≤ g)
    (hk : Blk w kb 63 #[pv]) (hp : Ow 0 w 128 1 pv ps.length (ps.map Pg.ifc)) (hin : ∀ p ∈ ps, p.In w False False) (hB : B ≤ w.heap.size) :
    Calls Tryz.prog 27 #[.pointer (some ⟨kb, 0, none⟩)] w fun e w' => e = .returned (.bool true) ∧ Below B w w' := by
  have HOK := Lib.hid hok
  have HD := Lib.hid hd
  have HGE := Lib.hid hge
  have S0 := Lib.hid (show St ps kb pv B w w 0 0 from ⟨hk, hp, Below.refl _ _, hB, fun i hi => (hin _ (List.getElem_mem hi)).mono (fun h => by omega) (fun h => by omega)⟩)
  have hl' : (ps.length : Int) ≤ 120 := by omega
  have hl2 : ¬ (120 : Int) < (ps.length : Int) := by omega
  have c0 := hk.cell 0
  simp only [List.getElem?_toArray, List.getElem?_cons_zero] at c0
  obtain ⟨A0, cc, rfl⟩ := hp.sl_
  obtain ⟨pv, hpv0⟩ : ∃ v, v = (Value.slice A0 ps.length cc) := ⟨_, rfl⟩
  rw [← hpv0] at S0
  have HPV := Lib.hid hpv0
  clear hok hd hge hk hp hin hpv0
  go_enter Tryz.func27, Tryz.ntmps27
  go_wp2_with fail
  go_loopg [3] ps.length (fun q x wr => ∃ k : Nat, k ≤ ps.length ∧ q = ps.length - k ∧ x = .int .i64 k ∧ St ps kb pv B w wr k 0)
  case atStart => exact ⟨0, Nat.zero_le _, by omega, rfl, S0.out⟩
  case round =>
    obtain ⟨k, hk, rfl, rfl, hS⟩ := hrel
    have HS := Lib.hid hS
    have c0 := hS.bk.cell 0
    simp only [List.getElem?_toArray, List.getElem?_cons_zero] at c0
    obtain ⟨A1, c1, hpv⟩ := hS.ow.sl_
    by_cases hkn : k < ps.length
    · have hkn' : (k : Int) < ps.length := by omega
      have hk0 : (0 : Int) ≤ k := by omega
      obtain ⟨gp, cp, hpv2, hcp, hcell⟩ := hS.ow.cell1 k (by simpa using hkn)
      rw [List.getElem_map] at hcell
      have hy := hS.pgs k hkn
      have hokk := HOK.out _ (List.getElem_mem hkn)
      obtain ⟨p, hp⟩ : ∃ p, p = ps[k] := ⟨_, rfl⟩
      rw [← hp] at hcell hy hokk
      have HP := Lib.hid hp
      obtain ⟨kd, lie, mm, bb⟩ := p
      obtain ⟨hkd, hok1, hok2⟩ := hokk
      simp only at hkd hok1 hok2
      rw [hpv2] at c0
      clear hS hp hpv hpv2
      obtain rfl | rfl | rfl | rfl | rfl | rfl : kd = 0 ∨ kd = 1 ∨ kd = 2 ∨ kd = 3 ∨ kd = 4 ∨ kd = 5 := by omega
      · obtain ⟨m0, rfl⟩ := one_of hok1
        obtain ⟨b0, rfl⟩ := one_of hok2
        have hm : ∀ W, (method 281 112 (.agg #[slOf lie, .int .u8 m0, .int .u8 b0]) "countinghouse/countinghouselaw01.write").run Tryz.prog W = .ok (111, .agg #[slOf lie, .int .u8 m0, .int .u8 b0]) W := fun _ => by kernel_rfl
        have HY := Lib.hid hy
        have x0 : wr.cell? ⟨gp, k, none⟩ = some (.iface 112 (.agg #[slOf lie, .int .u8 m0, .int .u8 b0])) := hcell
        clear hcell hy hok1 hok2
        go_wp2_with fail
        refine (pgwr_byte lie m0 b0 wr (HY.out.mono False.elim False.elim)).mono ?_
        rintro e w2 ⟨rfl, hi2, hg2⟩
        have S2 := Lib.hid (HS.out.step (s' := k + 1) (t' := 0) HD.out HGE.out k hkn (by rw [← HP.out]; exact hg2) (by rw [← HP.out]; exact hi2.mono (fun _ => trivial) (fun h => absurd h (by omega))) (fun i h1 h2 => by omega) (fun i h1 h2 => by omega))
        clear hi2 hg2
        go_wp2
        go_roundg (ps.length - (k + 1))
        case measure => omega
        case rel => exact ⟨k + 1, by omega, rfl, by go_num, S2.out⟩
      · obtain ⟨m0, m1, m2, m3, m4, m5, m6, m7, m8, m9, rfl⟩ := step_of hok1
        obtain ⟨b0, b1, b2, b3, b4, b5, b6, b7, b8, b9, rfl⟩ := step_of hok2
        have hm : ∀ W, (method 281 114 (.agg #[slOf lie, .int .u8 m0, .int .u8 m1, .int .u8 m2, .int .u8 m3, .int .u8 m4, .int .i64 m5, .int .i64 m6, .int .i64 m7, .int .i64 m8, .int .u64 m9, .int .u8 b0, .int .u8 b1, .int .u8 b2, .int .u8 b3, .int .u8 b4, .int .i64 b5, .int .i64 b6, .int .i64 b7, .int .i64 b8, .int .u64 b9]) "countinghouse/countinghouselaw01.write").run Tryz.prog W = .ok (114, .agg #[slOf lie, .int .u8 m0, .int .u8 m1, .int .u8 m2, .int .u8 m3, .int .u8 m4, .int .i64 m5, .int .i64 m6, .int .i64 m7, .int .i64 m8, .int .u64 m9, .int .u8 b0, .int .u8 b1, .int .u8 b2, .int .u8 b3, .int .u8 b4, .int .i64 b5, .int .i64 b6, .int .i64 b7, .int .i64 b8, .int .u64 b9]) W := fun _ => by kernel_rfl
        have HY := Lib.hid hy
        have x0 : wr.cell? ⟨gp, k, none⟩ = some (.iface 114 (.agg #[slOf lie, .int .u8 m0, .int .u8 m1, .int .u8 m2, .int .u8 m3, .int .u8 m4, .int .i64 m5, .int .i64 m6, .int .i64 m7, .int .i64 m8, .int .u64 m9, .int .u8 b0, .int .u8 b1, .int .u8 b2, .int .u8 b3, .int .u8 b4, .int .i64 b5, .int .i64 b6, .int .i64 b7, .int .i64 b8, .int .u64 b9])) := hcell
        clear hcell hy hok1 hok2
        go_wp2_with fail
        refine (pgwr_step lie m0 m1 m2 m3 m4 m5 m6 m7 m8 m9 b0 b1 b2 b3 b4 b5 b6 b7 b8 b9 wr (HY.out.mono False.elim False.elim)).mono ?_
        rintro e w2 ⟨rfl, hi2, hg2⟩
        have S2 := Lib.hid (HS.out.step (s' := k + 1) (t' := 0) HD.out HGE.out k hkn (by rw [← HP.out]; exact hg2) (by rw [← HP.out]; exact hi2.mono (fun _ => trivial) (fun h => absurd h (by omega))) (fun i h1 h2 => by omega) (fun i h1 h2 => by omega))
        clear hi2 hg2
        go_wp2
        go_roundg (ps.length - (k + 1))
        case measure => omega
        case rel => exact ⟨k + 1, by omega, rfl, by go_num, S2.out⟩
      · obtain ⟨m0, m1, rfl⟩ := got_of hok1
        obtain ⟨b0, b1, rfl⟩ := got_of hok2
        have hm : ∀ W, (method 281 116 (.agg #[slOf lie, .int .i64 m0, .int .i64 m1, .int .i64 b0, .int .i64 b1]) "countinghouse/countinghouselaw01.write").run Tryz.prog W = .ok (117, .agg #[slOf lie, .int .i64 m0, .int .i64 m1, .int .i64 b0, .int .i64 b1]) W := fun _ => by kernel_rfl
        have HY := Lib.hid hy
        have x0 : wr.cell? ⟨gp, k, none⟩ = some (.iface 116 (.agg #[slOf lie, .int .i64 m0, .int .i64 m1, .int .i64 b0, .int .i64 b1])) := hcell
        clear hcell hy hok1 hok2
        go_wp2_with fail
        refine (pgwr_got lie m0 m1 b0 b1 wr (HY.out.mono False.elim False.elim)).mono ?_
        rintro e w2 ⟨rfl, hi2, hg2⟩
        have S2 := Lib.hid (HS.out.step (s' := k + 1) (t' := 0) HD.out HGE.out k hkn (by rw [← HP.out]; exact hg2) (by rw [← HP.out]; exact hi2.mono (fun _ => trivial) (fun h => absurd h (by omega))) (fun i h1 h2 => by omega) (fun i h1 h2 => by omega))
        clear hi2 hg2
        go_wp2
        go_roundg (ps.length - (k + 1))
        case measure => omega
        case rel => exact ⟨k + 1, by omega, rfl, by go_num, S2.out⟩
      · obtain ⟨m0, rfl⟩ := party_of hok1
        obtain ⟨b0, rfl⟩ := party_of hok2
        have hm : ∀ W, (method 281 118 (.agg #[slOf lie, .int .u8 m0, .int .u8 b0]) "countinghouse/countinghouselaw01.write").run Tryz.prog W = .ok (120, .agg #[slOf lie, .int .u8 m0, .int .u8 b0]) W := fun _ => by kernel_rfl
        have HY := Lib.hid hy
        have x0 : wr.cell? ⟨gp, k, none⟩ = some (.iface 118 (.agg #[slOf lie, .int .u8 m0, .int .u8 b0])) := hcell
        clear hcell hy hok1 hok2
        go_wp2_with fail
        refine (pgwr_party lie m0 b0 wr (HY.out.mono False.elim False.elim)).mono ?_
        rintro e w2 ⟨rfl, hi2, hg2⟩
        have S2 := Lib.hid (HS.out.step (s' := k + 1) (t' := 0) HD.out HGE.out k hkn (by rw [← HP.out]; exact hg2) (by rw [← HP.out]; exact hi2.mono (fun _ => trivial) (fun h => absurd h (by omega))) (fun i h1 h2 => by omega) (fun i h1 h2 => by omega))
        clear hi2 hg2
        go_wp2
        go_roundg (ps.length - (k + 1))
        case measure => omega
        case rel => exact ⟨k + 1, by omega, rfl, by go_num, S2.out⟩
      · obtain ⟨m0, m1, m2, m3, m4, rfl⟩ := line_of hok1
        obtain ⟨b0, b1, b2, b3, b4, rfl⟩ := line_of hok2
        have hm : ∀ W, (method 281 122 (.agg #[slOf lie, .int .u8 m0, .int .u8 m1, .int .u8 m2, .int .i64 m3, .int .i64 m4, .int .u8 b0, .int .u8 b1, .int .u8 b2, .int .i64 b3, .int .i64 b4]) "countinghouse/countinghouselaw01.write").run Tryz.prog W = .ok (123, .agg #[slOf lie, .int .u8 m0, .int .u8 m1, .int .u8 m2, .int .i64 m3, .int .i64 m4, .int .u8 b0, .int .u8 b1, .int .u8 b2, .int .i64 b3, .int .i64 b4]) W := fun _ => by kernel_rfl
        have HY := Lib.hid hy
        have x0 : wr.cell? ⟨gp, k, none⟩ = some (.iface 122 (.agg #[slOf lie, .int .u8 m0, .int .u8 m1, .int .u8 m2, .int .i64 m3, .int .i64 m4, .int .u8 b0, .int .u8 b1, .int .u8 b2, .int .i64 b3, .int .i64 b4])) := hcell
        clear hcell hy hok1 hok2
        go_wp2_with fail
        refine (pgwr_line lie m0 m1 m2 m3 m4 b0 b1 b2 b3 b4 wr (HY.out.mono False.elim False.elim)).mono ?_
        rintro e w2 ⟨rfl, hi2, hg2⟩
        have S2 := Lib.hid (HS.out.step (s' := k + 1) (t' := 0) HD.out HGE.out k hkn (by rw [← HP.out]; exact hg2) (by rw [← HP.out]; exact hi2.mono (fun _ => trivial) (fun h => absurd h (by omega))) (fun i h1 h2 => by omega) (fun i h1 h2 => by omega))
        clear hi2 hg2
        go_wp2
        go_roundg (ps.length - (k + 1))
        case measure => omega
        case rel => exact ⟨k + 1, by omega, rfl, by go_num, S2.out⟩
      · obtain ⟨m0, m1, m2, m3, m4, m5, m6, rfl⟩ := offer_of hok1
        obtain ⟨b0, b1, b2, b3, b4, b5, b6, rfl⟩ := offer_of hok2
        have hm : ∀ W, (method 281 126 (.agg #[slOf lie, .int .u64 m0, .int .u8 m1, .int .u8 m2, .int .u8 m3, .int .i64 m4, .int .i64 m5, .int .i64 m6, .int .u64 b0, .int .u8 b1, .int .u8 b2, .int .u8 b3, .int .i64 b4, .int .i64 b5, .int .i64 b6]) "countinghouse/countinghouselaw01.write").run Tryz.prog W = .ok (126, .agg #[slOf lie, .int .u64 m0, .int .u8 m1, .int .u8 m2, .int .u8 m3, .int .i64 m4, .int .i64 m5, .int .i64 m6, .int .u64 b0, .int .u8 b1, .int .u8 b2, .int .u8 b3, .int .i64 b4, .int .i64 b5, .int .i64 b6]) W := fun _ => by kernel_rfl
        have HY := Lib.hid hy
        have x0 : wr.cell? ⟨gp, k, none⟩ = some (.iface 126 (.agg #[slOf lie, .int .u64 m0, .int .u8 m1, .int .u8 m2, .int .u8 m3, .int .i64 m4, .int .i64 m5, .int .i64 m6, .int .u64 b0, .int .u8 b1, .int .u8 b2, .int .u8 b3, .int .i64 b4, .int .i64 b5, .int .i64 b6])) := hcell
        clear hcell hy hok1 hok2
        go_wp2_with fail
        refine (pgwr_offer lie m0 m1 m2 m3 m4 m5 m6 b0 b1 b2 b3 b4 b5 b6 wr (HY.out.mono False.elim False.elim)).mono ?_
        rintro e w2 ⟨rfl, hi2, hg2⟩
        have S2 := Lib.hid (HS.out.step (s' := k + 1) (t' := 0) HD.out HGE.out k hkn (by rw [← HP.out]; exact hg2) (by rw [← HP.out]; exact hi2.mono (fun _ => trivial) (fun h => absurd h (by omega))) (fun i h1 h2 => by omega) (fun i h1 h2 => by omega))
        clear hi2 hg2
        go_wp2
        go_roundg (ps.length - (k + 1))
        case measure => omega
        case rel => exact ⟨k + 1, by omega, rfl, by go_num, S2.out⟩
    · obtain rfl : k = ps.length := by omega
      have S1 := Lib.hid hS
      rw [hpv] at c0
      clear hS hpv HS
      go_wp2_with fail
      go_loopg [4] ps.length (fun q x wr => ∃ k : Nat, k ≤ ps.length ∧ q = ps.length - k ∧ x = .int .i64 k ∧ St ps kb pv B w wr ps.length k)
      case atStart => exact ⟨0, Nat.zero_le _, by omega, rfl, S1.out⟩
      case round =>
        obtain ⟨k, hk, rfl, rfl, hS⟩ := hrel
        have HS := Lib.hid hS
        have c0 := hS.bk.cell 0
        simp only [List.getElem?_toArray, List.getElem?_cons_zero] at c0
        obtain ⟨A1, c1, hpv⟩ := hS.ow.sl_
        by_cases hkn : k < ps.length
        · have hkn' : (k : Int) < ps.length := by omega
          have hk0 : (0 : Int) ≤ k := by omega
          obtain ⟨gp, cp, hpv2, hcp, hcell⟩ := hS.ow.cell1 k (by simpa using hkn)
          rw [List.getElem_map] at hcell
          have hy := hS.pgs k hkn
          have hokk := HOK.out _ (List.getElem_mem hkn)
          obtain ⟨p, hp⟩ : ∃ p, p = ps[k] := ⟨_, rfl⟩
          rw [← hp] at hcell hy hokk
          have HP := Lib.hid hp
          obtain ⟨kd, lie, mm, bb⟩ := p
          obtain ⟨hkd, hok1, hok2⟩ := hokk
          simp only at hkd hok1 hok2
          rw [hpv2] at c0
          clear hS hp hpv hpv2
          obtain rfl | rfl | rfl | rfl | rfl | rfl : kd = 0 ∨ kd = 1 ∨ kd = 2 ∨ kd = 3 ∨ kd = 4 ∨ kd = 5 := by omega
          · obtain ⟨m0, rfl⟩ := one_of hok1
            obtain ⟨b0, rfl⟩ := one_of hok2
            have hm : ∀ W, (method 281 112 (.agg #[slOf lie, .int .u8 m0, .int .u8 b0]) "countinghouse/countinghouselaw01.writeBehind").run Tryz.prog W = .ok (112, .agg #[slOf lie, .int .u8 m0, .int .u8 b0]) W := fun _ => by kernel_rfl
            have HY := Lib.hid hy
            have x0 : wr.cell? ⟨gp, k, none⟩ = some (.iface 112 (.agg #[slOf lie, .int .u8 m0, .int .u8 b0])) := hcell
            clear hcell hy hok1 hok2
            go_wp2_with fail
            refine (pgbe_byte lie m0 b0 wr (HY.out.mono (fun _ => hkn) False.elim)).mono ?_
            rintro e w2 ⟨rfl, hi2, hg2⟩
            have S2 := Lib.hid (HS.out.step (s' := ps.length) (t' := k + 1) HD.out HGE.out k hkn (by rw [← HP.out]; exact hg2) (by rw [← HP.out]; exact hi2.mono (fun _ => trivial) (fun _ => trivial)) (fun i h1 h2 => by omega) (fun i h1 h2 => by omega))
            clear hi2 hg2
            go_wp2
            go_roundg (ps.length - (k + 1))
            case measure => omega
            case rel => exact ⟨k + 1, by omega, rfl, by go_num, S2.out⟩
          · obtain ⟨m0, m1, m2, m3, m4, m5, m6, m7, m8, m9, rfl⟩ := step_of hok1
            obtain ⟨b0, b1, b2, b3, b4, b5, b6, b7, b8, b9, rfl⟩ := step_of hok2
            have hm : ∀ W, (method 281 114 (.agg #[slOf lie, .int .u8 m0, .int .u8 m1, .int .u8 m2, .int .u8 m3, .int .u8 m4, .int .i64 m5, .int .i64 m6, .int .i64 m7, .int .i64 m8, .int .u64 m9, .int .u8 b0, .int .u8 b1, .int .u8 b2, .int .u8 b3, .int .u8 b4, .int .i64 b5, .int .i64 b6, .int .i64 b7, .int .i64 b8, .int .u64 b9]) "countinghouse/countinghouselaw01.writeBehind").run Tryz.prog W = .ok (115, .agg #[slOf lie, .int .u8 m0, .int .u8 m1, .int .u8 m2, .int .u8 m3, .int .u8 m4, .int .i64 m5, .int .i64 m6, .int .i64 m7, .int .i64 m8, .int .u64 m9, .int .u8 b0, .int .u8 b1, .int .u8 b2, .int .u8 b3, .int .u8 b4, .int .i64 b5, .int .i64 b6, .int .i64 b7, .int .i64 b8, .int .u64 b9]) W := fun _ => by kernel_rfl
            have HY := Lib.hid hy
            have x0 : wr.cell? ⟨gp, k, none⟩ = some (.iface 114 (.agg #[slOf lie, .int .u8 m0, .int .u8 m1, .int .u8 m2, .int .u8 m3, .int .u8 m4, .int .i64 m5, .int .i64 m6, .int .i64 m7, .int .i64 m8, .int .u64 m9, .int .u8 b0, .int .u8 b1, .int .u8 b2, .int .u8 b3, .int .u8 b4, .int .i64 b5, .int .i64 b6, .int .i64 b7, .int .i64 b8, .int .u64 b9])) := hcell
            clear hcell hy hok1 hok2
            go_wp2_with fail
            refine (pgbe_step lie m0 m1 m2 m3 m4 m5 m6 m7 m8 m9 b0 b1 b2 b3 b4 b5 b6 b7 b8 b9 wr (HY.out.mono (fun _ => hkn) False.elim)).mono ?_
            rintro e w2 ⟨rfl, hi2, hg2⟩
            have S2 := Lib.hid (HS.out.step (s' := ps.length) (t' := k + 1) HD.out HGE.out k hkn (by rw [← HP.out]; exact hg2) (by rw [← HP.out]; exact hi2.mono (fun _ => trivial) (fun _ => trivial)) (fun i h1 h2 => by omega) (fun i h1 h2 => by omega))
            clear hi2 hg2
            go_wp2
            go_roundg (ps.length - (k + 1))
            case measure => omega
            case rel => exact ⟨k + 1, by omega, rfl, by go_num, S2.out⟩
          · obtain ⟨m0, m1, rfl⟩ := got_of hok1
            obtain ⟨b0, b1, rfl⟩ := got_of hok2
            have hm : ∀ W, (method 281 116 (.agg #[slOf lie, .int .i64 m0, .int .i64 m1, .int .i64 b0, .int .i64 b1]) "countinghouse/countinghouselaw01.writeBehind").run Tryz.prog W = .ok (118, .agg #[slOf lie, .int .i64 m0, .int .i64 m1, .int .i64 b0, .int .i64 b1]) W := fun _ => by kernel_rfl
            have HY := Lib.hid hy
            have x0 : wr.cell? ⟨gp, k, none⟩ = some (.iface 116 (.agg #[slOf lie, .int .i64 m0, .int .i64 m1, .int .i64 b0, .int .i64 b1])) := hcell
            clear hcell hy hok1 hok2
            go_wp2_with fail
            refine (pgbe_got lie m0 m1 b0 b1 wr (HY.out.mono (fun _ => hkn) False.elim)).mono ?_
            rintro e w2 ⟨rfl, hi2, hg2⟩
            have S2 := Lib.hid (HS.out.step (s' := ps.length) (t' := k + 1) HD.out HGE.out k hkn (by rw [← HP.out]; exact hg2) (by rw [← HP.out]; exact hi2.mono (fun _ => trivial) (fun _ => trivial)) (fun i h1 h2 => by omega) (fun i h1 h2 => by omega))
            clear hi2 hg2
            go_wp2
            go_roundg (ps.length - (k + 1))
            case measure => omega
            case rel => exact ⟨k + 1, by omega, rfl, by go_num, S2.out⟩
          · obtain ⟨m0, rfl⟩ := party_of hok1
            obtain ⟨b0, rfl⟩ := party_of hok2
            have hm : ∀ W, (method 281 118 (.agg #[slOf lie, .int .u8 m0, .int .u8 b0]) "countinghouse/countinghouselaw01.writeBehind").run Tryz.prog W = .ok (121, .agg #[slOf lie, .int .u8 m0, .int .u8 b0]) W := fun _ => by kernel_rfl
            have HY := Lib.hid hy
            have x0 : wr.cell? ⟨gp, k, none⟩ = some (.iface 118 (.agg #[slOf lie, .int .u8 m0, .int .u8 b0])) := hcell
            clear hcell hy hok1 hok2
            go_wp2_with fail
            refine (pgbe_party lie m0 b0 wr (HY.out.mono (fun _ => hkn) False.elim)).mono ?_
            rintro e w2 ⟨rfl, hi2, hg2⟩
            have S2 := Lib.hid (HS.out.step (s' := ps.length) (t' := k + 1) HD.out HGE.out k hkn (by rw [← HP.out]; exact hg2) (by rw [← HP.out]; exact hi2.mono (fun _ => trivial) (fun _ => trivial)) (fun i h1 h2 => by omega) (fun i h1 h2 => by omega))
            clear hi2 hg2
            go_wp2
            go_roundg (ps.length - (k + 1))
            case measure => omega
            case rel => exact ⟨k + 1, by omega, rfl, by go_num, S2.out⟩
          · obtain ⟨m0, m1, m2, m3, m4, rfl⟩ := line_of hok1
            obtain ⟨b0, b1, b2, b3, b4, rfl⟩ := line_of hok2
            have hm : ∀ W, (method 281 122 (.agg #[slOf lie, .int .u8 m0, .int .u8 m1, .int .u8 m2, .int .i64 m3, .int .i64 m4, .int .u8 b0, .int .u8 b1, .int .u8 b2, .int .i64 b3, .int .i64 b4]) "countinghouse/countinghouselaw01.writeBehind").run Tryz.prog W = .ok (124, .agg #[slOf lie, .int .u8 m0, .int .u8 m1, .int .u8 m2, .int .i64 m3, .int .i64 m4, .int .u8 b0, .int .u8 b1, .int .u8 b2, .int .i64 b3, .int .i64 b4]) W := fun _ => by kernel_rfl
            have HY := Lib.hid hy
            have x0 : wr.cell? ⟨gp, k, none⟩ = some (.iface 122 (.agg #[slOf lie, .int .u8 m0, .int .u8 m1, .int .u8 m2, .int .i64 m3, .int .i64 m4, .int .u8 b0, .int .u8 b1, .int .u8 b2, .int .i64 b3, .int .i64 b4])) := hcell
            clear hcell hy hok1 hok2
            go_wp2_with fail
            refine (pgbe_line lie m0 m1 m2 m3 m4 b0 b1 b2 b3 b4 wr (HY.out.mono (fun _ => hkn) False.elim)).mono ?_
            rintro e w2 ⟨rfl, hi2, hg2⟩
            have S2 := Lib.hid (HS.out.step (s' := ps.length) (t' := k + 1) HD.out HGE.out k hkn (by rw [← HP.out]; exact hg2) (by rw [← HP.out]; exact hi2.mono (fun _ => trivial) (fun _ => trivial)) (fun i h1 h2 => by omega) (fun i h1 h2 => by omega))
            clear hi2 hg2
            go_wp2
            go_roundg (ps.length - (k + 1))
            case measure => omega
            case rel => exact ⟨k + 1, by omega, rfl, by go_num, S2.out⟩
          · obtain ⟨m0, m1, m2, m3, m4, m5, m6, rfl⟩ := offer_of hok1
            obtain ⟨b0, b1, b2, b3, b4, b5, b6, rfl⟩ := offer_of hok2
            have hm : ∀ W, (method 281 126 (.agg #[slOf lie, .int .u64 m0, .int .u8 m1, .int .u8 m2, .int .u8 m3, .int .i64 m4, .int .i64 m5, .int .i64 m6, .int .u64 b0, .int .u8 b1, .int .u8 b2, .int .u8 b3, .int .i64 b4, .int .i64 b5, .int .i64 b6]) "countinghouse/countinghouselaw01.writeBehind").run Tryz.prog W = .ok (127, .agg #[slOf lie, .int .u64 m0, .int .u8 m1, .int .u8 m2, .int .u8 m3, .int .i64 m4, .int .i64 m5, .int .i64 m6, .int .u64 b0, .int .u8 b1, .int .u8 b2, .int .u8 b3, .int .i64 b4, .int .i64 b5, .int .i64 b6]) W := fun _ => by kernel_rfl
            have HY := Lib.hid hy
            have x0 : wr.cell? ⟨gp, k, none⟩ = some (.iface 126 (.agg #[slOf lie, .int .u64 m0, .int .u8 m1, .int .u8 m2, .int .u8 m3, .int .i64 m4, .int .i64 m5, .int .i64 m6, .int .u64 b0, .int .u8 b1, .int .u8 b2, .int .u8 b3, .int .i64 b4, .int .i64 b5, .int .i64 b6])) := hcell
            clear hcell hy hok1 hok2
            go_wp2_with fail
            refine (pgbe_offer lie m0 m1 m2 m3 m4 m5 m6 b0 b1 b2 b3 b4 b5 b6 wr (HY.out.mono (fun _ => hkn) False.elim)).mono ?_
            rintro e w2 ⟨rfl, hi2, hg2⟩
            have S2 := Lib.hid (HS.out.step (s' := ps.length) (t' := k + 1) HD.out HGE.out k hkn (by rw [← HP.out]; exact hg2) (by rw [← HP.out]; exact hi2.mono (fun _ => trivial) (fun _ => trivial)) (fun i h1 h2 => by omega) (fun i h1 h2 => by omega))
            clear hi2 hg2
            go_wp2
            go_roundg (ps.length - (k + 1))
            case measure => omega
            case rel => exact ⟨k + 1, by omega, rfl, by go_num, S2.out⟩
        · obtain rfl : k = ps.length := by omega
          have S2 := Lib.hid hS
          rw [hpv] at c0
          clear hS hpv HS
          go_wp2_with fail
          go_loopg [5] ps.length (fun q x wr => ∃ k : Nat, k ≤ ps.length ∧ q = ps.length - k ∧ x = .int .i64 k ∧ St ps kb pv B w wr ps.length ps.length)
          case atStart => exact ⟨0, Nat.zero_le _, by omega, rfl, S2.out⟩
          case round =>
            obtain ⟨k, hk, rfl, rfl, hS⟩ := hrel
            have HS := Lib.hid hS
            have c0 := hS.bk.cell 0
            simp only [List.getElem?_toArray, List.getElem?_cons_zero] at c0
            obtain ⟨A1, c1, hpv⟩ := hS.ow.sl_
            by_cases hkn : k < ps.length
            · have hkn' : (k : Int) < ps.length := by omega
              have hk0 : (0 : Int) ≤ k := by omega
              obtain ⟨gp, cp, hpv2, hcp, hcell⟩ := hS.ow.cell1 k (by simpa using hkn)
              rw [List.getElem_map] at hcell
              have hy := hS.pgs k hkn
              have hokk := HOK.out _ (List.getElem_mem hkn)
              obtain ⟨p, hp⟩ : ∃ p, p = ps[k] := ⟨_, rfl⟩
              rw [← hp] at hcell hy hokk
              have HP := Lib.hid hp
              obtain ⟨kd, lie, mm, bb⟩ := p
              obtain ⟨hkd, hok1, hok2⟩ := hokk
              simp only at hkd hok1 hok2
              rw [hpv2] at c0
              clear hS hp hpv hpv2
              obtain rfl | rfl | rfl | rfl | rfl | rfl : kd = 0 ∨ kd = 1 ∨ kd = 2 ∨ kd = 3 ∨ kd = 4 ∨ kd = 5 := by omega
              · obtain ⟨m0, rfl⟩ := one_of hok1
                obtain ⟨b0, rfl⟩ := one_of hok2
                have hm : ∀ W, (method 281 112 (.agg #[slOf lie, .int .u8 m0, .int .u8 b0]) "countinghouse/countinghouselaw01.stands").run Tryz.prog W = .ok (110, .agg #[slOf lie, .int .u8 m0, .int .u8 b0]) W := fun _ => by kernel_rfl
                have HY := Lib.hid hy
                have x0 : wr.cell? ⟨gp, k, none⟩ = some (.iface 112 (.agg #[slOf lie, .int .u8 m0, .int .u8 b0])) := hcell
                clear hcell hy hok1 hok2
                go_wp2_with fail
                refine (pgst_byte lie m0 b0 wr (HY.out.mono (fun _ => hkn) (fun _ => hkn))).mono ?_
                rintro e w2 ⟨rfl, hb2⟩
                have S2 := Lib.hid (HS.out.step (s' := ps.length) (t' := ps.length) HD.out HGE.out k hkn (grown_below_ hb2 _) ((HS.out.pgs k hkn).grown (grown_below_ hb2 none) (fun g _ => by simp)) (fun i h1 h2 => by omega) (fun i h1 h2 => by omega))
                clear hb2
                go_wp2
                go_roundg (ps.length - (k + 1))
                case measure => omega
                case rel => exact ⟨k + 1, by omega, rfl, by go_num, S2.out⟩
              · obtain ⟨m0, m1, m2, m3, m4, m5, m6, m7, m8, m9, rfl⟩ := step_of hok1
                obtain ⟨b0, b1, b2, b3, b4, b5, b6, b7, b8, b9, rfl⟩ := step_of hok2
                have hm : ∀ W, (method 281 114 (.agg #[slOf lie, .int .u8 m0, .int .u8 m1, .int .u8 m2, .int .u8 m3, .int .u8 m4, .int .i64 m5, .int .i64 m6, .int .i64 m7, .int .i64 m8, .int .u64 m9, .int .u8 b0, .int .u8 b1, .int .u8 b2, .int .u8 b3, .int .u8 b4, .int .i64 b5, .int .i64 b6, .int .i64 b7, .int .i64 b8, .int .u64 b9]) "countinghouse/countinghouselaw01.stands").run Tryz.prog W = .ok (113, .agg #[slOf lie, .int .u8 m0, .int .u8 m1, .int .u8 m2, .int .u8 m3, .int .u8 m4, .int .i64 m5, .int .i64 m6, .int .i64 m7, .int .i64 m8, .int .u64 m9, .int .u8 b0, .int .u8 b1, .int .u8 b2, .int .u8 b3, .int .u8 b4, .int .i64 b5, .int .i64 b6, .int .i64 b7, .int .i64 b8, .int .u64 b9]) W := fun _ => by kernel_rfl
                have HY := Lib.hid hy
                have x0 : wr.cell? ⟨gp, k, none⟩ = some (.iface 114 (.agg #[slOf lie, .int .u8 m0, .int .u8 m1, .int .u8 m2, .int .u8 m3, .int .u8 m4, .int .i64 m5, .int .i64 m6, .int .i64 m7, .int .i64 m8, .int .u64 m9, .int .u8 b0, .int .u8 b1, .int .u8 b2, .int .u8 b3, .int .u8 b4, .int .i64 b5, .int .i64 b6, .int .i64 b7, .int .i64 b8, .int .u64 b9])) := hcell
                clear hcell hy hok1 hok2
                go_wp2_with fail
                refine (pgst_step lie m0 m1 m2 m3 m4 m5 m6 m7 m8 m9 b0 b1 b2 b3 b4 b5 b6 b7 b8 b9 wr (HY.out.mono (fun _ => hkn) (fun _ => hkn))).mono ?_
                rintro e w2 ⟨rfl, hb2⟩
                have S2 := Lib.hid (HS.out.step (s' := ps.length) (t' := ps.length) HD.out HGE.out k hkn (grown_below_ hb2 _) ((HS.out.pgs k hkn).grown (grown_below_ hb2 none) (fun g _ => by simp)) (fun i h1 h2 => by omega) (fun i h1 h2 => by omega))
                clear hb2
                go_wp2
                go_roundg (ps.length - (k + 1))
                case measure => omega
                case rel => exact ⟨k + 1, by omega, rfl, by go_num, S2.out⟩
              · obtain ⟨m0, m1, rfl⟩ := got_of hok1
                obtain ⟨b0, b1, rfl⟩ := got_of hok2
                have hm : ∀ W, (method 281 116 (.agg #[slOf lie, .int .i64 m0, .int .i64 m1, .int .i64 b0, .int .i64 b1]) "countinghouse/countinghouselaw01.stands").run Tryz.prog W = .ok (116, .agg #[slOf lie, .int .i64 m0, .int .i64 m1, .int .i64 b0, .int .i64 b1]) W := fun _ => by kernel_rfl
                have HY := Lib.hid hy
                have x0 : wr.cell? ⟨gp, k, none⟩ = some (.iface 116 (.agg #[slOf lie, .int .i64 m0, .int .i64 m1, .int .i64 b0, .int .i64 b1])) := hcell
                clear hcell hy hok1 hok2
                go_wp2_with fail
                refine (pgst_got lie m0 m1 b0 b1 wr (HY.out.mono (fun _ => hkn) (fun _ => hkn))).mono ?_
                rintro e w2 ⟨rfl, hb2⟩
                have S2 := Lib.hid (HS.out.step (s' := ps.length) (t' := ps.length) HD.out HGE.out k hkn (grown_below_ hb2 _) ((HS.out.pgs k hkn).grown (grown_below_ hb2 none) (fun g _ => by simp)) (fun i h1 h2 => by omega) (fun i h1 h2 => by omega))
                clear hb2
                go_wp2
                go_roundg (ps.length - (k + 1))
                case measure => omega
                case rel => exact ⟨k + 1, by omega, rfl, by go_num, S2.out⟩
              · obtain ⟨m0, rfl⟩ := party_of hok1
                obtain ⟨b0, rfl⟩ := party_of hok2
                have hm : ∀ W, (method 281 118 (.agg #[slOf lie, .int .u8 m0, .int .u8 b0]) "countinghouse/countinghouselaw01.stands").run Tryz.prog W = .ok (119, .agg #[slOf lie, .int .u8 m0, .int .u8 b0]) W := fun _ => by kernel_rfl
                have HY := Lib.hid hy
                have x0 : wr.cell? ⟨gp, k, none⟩ = some (.iface 118 (.agg #[slOf lie, .int .u8 m0, .int .u8 b0])) := hcell
                clear hcell hy hok1 hok2
                go_wp2_with fail
                refine (pgst_party lie m0 b0 wr (HY.out.mono (fun _ => hkn) (fun _ => hkn))).mono ?_
                rintro e w2 ⟨rfl, hb2⟩
                have S2 := Lib.hid (HS.out.step (s' := ps.length) (t' := ps.length) HD.out HGE.out k hkn (grown_below_ hb2 _) ((HS.out.pgs k hkn).grown (grown_below_ hb2 none) (fun g _ => by simp)) (fun i h1 h2 => by omega) (fun i h1 h2 => by omega))
                clear hb2
                go_wp2
                go_roundg (ps.length - (k + 1))
                case measure => omega
                case rel => exact ⟨k + 1, by omega, rfl, by go_num, S2.out⟩
              · obtain ⟨m0, m1, m2, m3, m4, rfl⟩ := line_of hok1
                obtain ⟨b0, b1, b2, b3, b4, rfl⟩ := line_of hok2
                have hm : ∀ W, (method 281 122 (.agg #[slOf lie, .int .u8 m0, .int .u8 m1, .int .u8 m2, .int .i64 m3, .int .i64 m4, .int .u8 b0, .int .u8 b1, .int .u8 b2, .int .i64 b3, .int .i64 b4]) "countinghouse/countinghouselaw01.stands").run Tryz.prog W = .ok (122, .agg #[slOf lie, .int .u8 m0, .int .u8 m1, .int .u8 m2, .int .i64 m3, .int .i64 m4, .int .u8 b0, .int .u8 b1, .int .u8 b2, .int .i64 b3, .int .i64 b4]) W := fun _ => by kernel_rfl
                have HY := Lib.hid hy
                have x0 : wr.cell? ⟨gp, k, none⟩ = some (.iface 122 (.agg #[slOf lie, .int .u8 m0, .int .u8 m1, .int .u8 m2, .int .i64 m3, .int .i64 m4, .int .u8 b0, .int .u8 b1, .int .u8 b2, .int .i64 b3, .int .i64 b4])) := hcell
                clear hcell hy hok1 hok2
                go_wp2_with fail
                refine (pgst_line lie m0 m1 m2 m3 m4 b0 b1 b2 b3 b4 wr (HY.out.mono (fun _ => hkn) (fun _ => hkn))).mono ?_
                rintro e w2 ⟨rfl, hb2⟩
                have S2 := Lib.hid (HS.out.step (s' := ps.length) (t' := ps.length) HD.out HGE.out k hkn (grown_below_ hb2 _) ((HS.out.pgs k hkn).grown (grown_below_ hb2 none) (fun g _ => by simp)) (fun i h1 h2 => by omega) (fun i h1 h2 => by omega))
                clear hb2
                go_wp2
                go_roundg (ps.length - (k + 1))
                case measure => omega
                case rel => exact ⟨k + 1, by omega, rfl, by go_num, S2.out⟩
              · obtain ⟨m0, m1, m2, m3, m4, m5, m6, rfl⟩ := offer_of hok1
                obtain ⟨b0, b1, b2, b3, b4, b5, b6, rfl⟩ := offer_of hok2
                have hm : ∀ W, (method 281 126 (.agg #[slOf lie, .int .u64 m0, .int .u8 m1, .int .u8 m2, .int .u8 m3, .int .i64 m4, .int .i64 m5, .int .i64 m6, .int .u64 b0, .int .u8 b1, .int .u8 b2, .int .u8 b3, .int .i64 b4, .int .i64 b5, .int .i64 b6]) "countinghouse/countinghouselaw01.stands").run Tryz.prog W = .ok (125, .agg #[slOf lie, .int .u64 m0, .int .u8 m1, .int .u8 m2, .int .u8 m3, .int .i64 m4, .int .i64 m5, .int .i64 m6, .int .u64 b0, .int .u8 b1, .int .u8 b2, .int .u8 b3, .int .i64 b4, .int .i64 b5, .int .i64 b6]) W := fun _ => by kernel_rfl
                have HY := Lib.hid hy
                have x0 : wr.cell? ⟨gp, k, none⟩ = some (.iface 126 (.agg #[slOf lie, .int .u64 m0, .int .u8 m1, .int .u8 m2, .int .u8 m3, .int .i64 m4, .int .i64 m5, .int .i64 m6, .int .u64 b0, .int .u8 b1, .int .u8 b2, .int .u8 b3, .int .i64 b4, .int .i64 b5, .int .i64 b6])) := hcell
                clear hcell hy hok1 hok2
                go_wp2_with fail
                refine (pgst_offer lie m0 m1 m2 m3 m4 m5 m6 b0 b1 b2 b3 b4 b5 b6 wr (HY.out.mono (fun _ => hkn) (fun _ => hkn))).mono ?_
                rintro e w2 ⟨rfl, hb2⟩
                have S2 := Lib.hid (HS.out.step (s' := ps.length) (t' := ps.length) HD.out HGE.out k hkn (grown_below_ hb2 _) ((HS.out.pgs k hkn).grown (grown_below_ hb2 none) (fun g _ => by simp)) (fun i h1 h2 => by omega) (fun i h1 h2 => by omega))
                clear hb2
                go_wp2
                go_roundg (ps.length - (k + 1))
                case measure => omega
                case rel => exact ⟨k + 1, by omega, rfl, by go_num, S2.out⟩
            · obtain rfl : k = ps.length := by omega
              have S3 := Lib.hid hS
              rw [hpv] at c0
              clear hS hpv HS
              go_wp2
              go_ret
              exact ⟨rfl, S3.out.bel⟩
end Go.Proofs.YtielnocnnffdfaaGreat
