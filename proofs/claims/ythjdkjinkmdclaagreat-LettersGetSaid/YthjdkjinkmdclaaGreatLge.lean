/- Letters: entries that are being got: what is owned. -/
import Derived.Test.YthjdkjinkmdclaaGreatLgb
import Derived.Test.YthjdkjinkmdclaaGreatPwe
import Derived.Test.YthjdkjinkmdclaaGreatRow
import Derived.Test.YthjdkjinkmdclaaGreatClp
namespace Go.Proofs.YthjdkjinkmdclaaGreat
open Go.RowKit

theorem entry_info : (Tryz.prog.info? 63).map (fun i => (i.zero, i.size, i.bytes)) = some (some (.agg #[.int .u64 0, .int .u64 0, .int .u8 0, .int .u64 0, .slice none 0 0]), 5, 56) := by kernel_rfl
/-- A list of steps in a block of its own, without room behind. -/
def StO (B : Nat) (w : World) (s : Value) (rows : List (List Int)) : Prop := ∃ A, s = .slice A rows.length rows.length ∧ Ow B w 104 10 s rows.length (rows.flatMap (fc stepK))
/-- A list of entries in a block of its own; the steps of each in a block of their own. -/
def EntsO (B : Nat) (w : World) (v : Value) (es : List Ent) : Prop :=
  ∃ ss : List Value, ss.length = es.length ∧ Ow B w 63 5 v es.length ((es.zip ss).flatMap ecells) ∧ (∀ (j : Nat) (h : j < es.length) (h' : j < ss.length), StO B w ss[j] es[j].2) ∧ ss.Pairwise fun a b => ∀ k, a.ownBlock = some k → b.ownBlock ≠ some k
theorem EntsO.nil_ (B : Nat) (w : World) : EntsO B w (.slice none 0 0) [] := ⟨[], rfl, .inl ⟨rfl, rfl, rfl⟩, fun j h => by simp at h, List.Pairwise.nil⟩
theorem StO.below {B : Nat} {w w' : World} {s : Value} {rows : List (List Int)} (h : StO B w s rows) (hb : Below w.heap.size w w') : StO B w' s rows := by
  obtain ⟨A, hs, ho⟩ := h; exact ⟨A, hs, ho.below hb⟩
theorem EntsO.below {B : Nat} {w w' : World} {v : Value} {es : List Ent} (h : EntsO B w v es) (hb : Below w.heap.size w w') : EntsO B w' v es := by
  obtain ⟨ss, h1, h2, h3, h4⟩ := h
  exact ⟨ss, h1, h2.below hb, fun j a b => (h3 j a b).below hb, h4⟩
/-- What is owned goes on where only two blocks of other types turn. -/
theorem Ow.kq {B size n p g : Nat} {e tp tg : TypeId} {w w' : World} {v : Value} {xs : List Value} {cp cg : Array Value} (h : Ow B w e size v n xs) (k : Kq w w' p g) (hp : Blk w p tp cp) (hpe : e ≠ tp) (hg : Blk w g tg cg) (hge : e ≠ tg) : Ow B w' e size v n xs := by
  rcases h with h | ⟨b, c, cur, rfl, hB, hb, h⟩
  · exact .inl h
  · exact .inr ⟨b, c, cur, rfl, hB, k.2 _ _ _ (hb.ne_ hp hpe) (hb.ne_ hg hge) hb, h⟩
theorem EntsO.kq {B p g : Nat} {tp tg : TypeId} {w w' : World} {v : Value} {es : List Ent} {cp cg : Array Value} (h : EntsO B w v es) (k : Kq w w' p g) (hp : Blk w p tp cp) (hp1 : 63 ≠ tp) (hp2 : 104 ≠ tp) (hg : Blk w g tg cg) (hg1 : 63 ≠ tg) (hg2 : 104 ≠ tg) : EntsO B w' v es := by
  obtain ⟨ss, h1, h2, h3, h4⟩ := h
  refine ⟨ss, h1, h2.kq k hp hp1 hg hg1, fun j a b => ?_, h4⟩
  obtain ⟨A, hs, ho⟩ := h3 j a b
  exact ⟨A, hs, ho.kq k hp hp2 hg hg2⟩
theorem Ow.blk_lt' {B size n : Nat} {e : TypeId} {w : World} {v : Value} {xs : List Value} (h : Ow B w e size v n xs) : ∀ k, v.ownBlock = some k → k < w.heap.size := by
  intro k hk
  rcases h with ⟨rfl, _⟩ | ⟨g, cap, cur, rfl, _, hg, _⟩
  · simp [Value.ownBlock] at hk
  · simp [Value.ownBlock] at hk; subst hk; exact hg.lt
theorem Ow.grew {B B2 size size2 n n2 : Nat} {e e2 : TypeId} {w w' : World} {s v v' : Value} {xs ys : List Value} (h : Ow B w e size s n xs) (ho : Ow B2 w e2 size2 v n2 ys) (hg : Grew w w' v v') (hne : e ≠ e2) : Ow B w' e size s n xs := by
  rcases h with h | ⟨g, c, cur, rfl, hB, hk, h⟩
  · exact .inl h
  · exact .inr ⟨g, c, cur, rfl, hB, hk.grown hg.1 (fun he => Ow.notat ho hk hne he.symm), h⟩
/-- One entry more. -/
theorem EntsO.snoc {B B1 : Nat} {w w' : World} {v v' : Value} {es : List Ent} {e : Ent} {s : Value} {ss : List Value} (h1 : ss.length = es.length) (h2 : Ow B w 63 5 v es.length ((es.zip ss).flatMap ecells))
    (h3 : ∀ (j : Nat) (h : j < es.length) (h' : j < ss.length), StO B w ss[j] es[j].2) (h4 : ss.Pairwise fun a b => ∀ k, a.ownBlock = some k → b.ownBlock ≠ some k)
    (hg : Grew w w' v v') (ho : Ow B w' 63 5 v' (es.length + 1) ((es.zip ss).flatMap ecells ++ ecells (e, s))) (hs : StO B1 w' s e.2) (hB : B ≤ B1) (hl : ∀ t ∈ ss, ∀ k, t.ownBlock = some k → k < B1) : EntsO B w' v' (es ++ [e]) := by
  refine ⟨ss ++ [s], by simp [h1], ?_, ?_, ?_⟩
  · rw [List.zip_append h1.symm, List.flatMap_append, List.length_append]
    simpa using ho
  · intro j a b
    rcases Nat.lt_or_ge j es.length with hj | hj
    · rw [List.getElem_append_left (by omega), List.getElem_append_left hj]
      obtain ⟨A, q1, q2⟩ := h3 j hj (by omega)
      exact ⟨A, q1, q2.grew h2 hg (by decide)⟩
    · have hje : j = es.length := by simp at a; omega
      subst hje
      rw [List.getElem_append_right (by omega), List.getElem_append_right (by omega)]
      simp only [h1, Nat.sub_self, List.getElem_cons_zero]
      obtain ⟨A, q1, q2⟩ := hs
      exact ⟨A, q1, q2.le hB⟩
  · rw [List.pairwise_append]
    refine ⟨h4, List.pairwise_singleton _ _, ?_⟩
    intro a ha b hb k hk hk2
    obtain rfl : b = s := by simpa using hb
    have := hl a ha k hk
    obtain ⟨A, -, q2⟩ := hs
    have := Ow.blk_lt q2 k hk2
    omega
/-- All that is there lies below. -/
theorem StO.all_lt {B : Nat} {w : World} {es : List Ent} {ss : List Value} (h1 : ss.length = es.length) (h3 : ∀ (j : Nat) (h : j < es.length) (h' : j < ss.length), StO B w ss[j] es[j].2) : ∀ t ∈ ss, ∀ k, t.ownBlock = some k → k < w.heap.size := by
  intro t ht k hk
  obtain ⟨j, hj, rfl⟩ := List.mem_iff_getElem.1 ht
  obtain ⟨A, -, ho⟩ := h3 j (by omega) hj
  exact ho.blk_lt' k hk
/-- Getting goes on behind an append to what is the call's own. -/
theorem Gl.grew {W0 w w' : World} {p B size n : Nat} {s : Gs} {v v' : Value} {xs : List Value} (h : Gl W0 w p s) (ho : Ow B w 63 size v n xs) (hB : W0.heap.size ≤ B) (hg : Grew w w' v v') : Gl W0 w' p s := by
  obtain ⟨A, c, hk, hf⟩ := h.ex
  exact ⟨⟨A, c, hk.grown hg.1 (fun e => Ow.notat ho hk (by decide) e.symm), hf⟩, h.p0, h.bel.grown hg.1 h.bel.size (fun k hk => Nat.le_trans hB (Ow.blk_lt ho k hk)), h.ok, h.le⟩
theorem Kq.grew {w w1 w' : World} {p g size n : Nat} {e : TypeId} {v v' : Value} {xs : List Value} (k : Kq w w1 p g) (ho : Ow w.heap.size w1 e size v n xs) (hg : Grew w1 w' v v') : Kq w w' p g :=
  ⟨Nat.le_trans k.1 hg.1.size, fun x t cs h1 h2 hk => (k.2 x t cs h1 h2 hk).grown hg.1 (fun he => by have := Ow.blk_lt ho x he.symm; have := hk.lt; omega)⟩
/-- The clip. -/
theorem EntsO.clip {B : Nat} {w : World} {v : Value} {es : List Ent} (h : EntsO B w v es) : ∃ A c, v = .slice A es.length c ∧ es.length ≤ c ∧ EntsO B w (.slice A es.length es.length) es := by
  obtain ⟨ss, h1, h2, h3, h4⟩ := h
  obtain ⟨A, c, hv, hc, ho⟩ := h2.clip
  exact ⟨A, c, hv, hc, ss, h1, ho, h3, h4⟩
theorem EntsO.ents {B : Nat} {w : World} {v : Value} {es : List Ent} (h : EntsO B w v es) : Ents w v es := by
  obtain ⟨ss, h1, h2, h3, -⟩ := h
  exact ⟨ss, h1, h2.rd, fun j a b => by obtain ⟨A, q1, q2⟩ := h3 j a b; exact q2.rd⟩
theorem ent_clip (A : Option Addr) (n c : Nat) (w : World) (hc : n ≤ c) (hn : n ≤ 4611686018427387904) :
    Calls Tryz.prog 125 #[.slice A n c] w fun e w' => e = .returned (.slice A n n) ∧ w = w' := by
  have h1 : (n : Int) ≤ (c : Int) := by omega
  have h2 : (n : Int) ≤ 4611686018427387904 := by omega
  have h3 : ¬ (c : Int) < (n : Int) := by omega
  go_enter Tryz.func125, Tryz.ntmps125
  go_wp2
  go_ret
  exact ⟨by cases A <;> simp, rfl⟩
/-- An entry got; whether the bytes are none. -/
theorem getentry_any (v : Value) (xs : List Int) (w : World) (h : Bs w v xs) (hby : ∀ c ∈ xs, byt c) (hl : xs.length ≤ 70368744177664) :
    Calls Tryz.prog 124 #[v] w fun e w' => ∃ x0 x1 x2 x3 A k, (getE xs).1.1 = [x0, x1, x2, x3] ∧ e = .returned (.tuple #[.agg #[.int .u64 x0, .int .u64 x1, .int .u8 x2, .int .u64 x3, .slice A (getE xs).1.2.length (getE xs).1.2.length], .int .i64 k]) ∧ decide (k ≠ 0) = (getE xs).2 ∧ StO w.heap.size w' (.slice A (getE xs).1.2.length (getE xs).1.2.length) (getE xs).1.2 ∧ Below w.heap.size w w' := by
  refine (Get_entry_any v xs w h hby hl).mono ?_
  intro e w' hp
  unfold GPost at hp
  unfold getE
  rcases hr : allP (entryP xs) with k | a
  · rw [hr] at hp
    obtain ⟨rfl, hb⟩ := hp
    have hk := allP_bad cod_entry hr
    exact ⟨0, 0, 0, 0, none, k, rfl, rfl, by simp; omega, ⟨none, rfl, .inl ⟨rfl, rfl, rfl⟩⟩, hb⟩
  · rw [hr] at hp
    obtain ⟨v, rfl, hq, hb⟩ := hp
    obtain ⟨x0, x1, x2, x3, r4, A4, rfl, rfl, ho⟩ := entryQ_ex hq
    exact ⟨x0, x1, x2, x3, A4, 0, rfl, rfl, by simp, ⟨A4, rfl, ho⟩, hb⟩
end Go.Proofs.YthjdkjinkmdclaaGreat
