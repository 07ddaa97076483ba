/- ShotsSure: the plain law; what the argument holds. -/
import Derived.Test.YtglghlfmjokgdaaDoorAof
import Derived.BigQuiet
namespace Go.Proofs.YtglghlfmjokgdaaDoor
open Go.RowKit

/-- A region that draws, whose operations only read, and whose calls leave the world in a class (here: what may be new memory besides): walked once, in the order of the text. -/
theorem wp_region_quiet_cls {ι : Type} (F : ι → World) (n0 : ι) {P : Program} {id : Nat} {Q : Exit → Act → World → Prop} {a : Act} {w : World} {l : List Oper} (h0 : F n0 = w.drew) (hm : P.follows .mixedOrders = true) (hB : Region.lexB .any l.toArray = true)
    (h : wpQuiet P l.toArray (fun w' => ∃ n, w' = F n) (fun a' => ∀ w', (∃ n, w' = F n) → Q .normal a' w') l a) : (Code.region id l.toArray true).wp P Q a w :=
  wp_region_quiet (C := fun w' => ∃ n, w' = F n) hm hB ⟨n0, h0.symm⟩ (by simpa using h)
/-- The worlds in which only memory was made. -/
theorem cls_new (w : World) : ∃ (ι : Type) (F : ι → World) (n0 : ι), F n0 = w.drew ∧ (∀ n, Below w.heap.size w (F n)) ∧ ∀ w', Below w.heap.size w w' → ∃ n, w' = F n :=
  ⟨{ w' : World // Below w.heap.size w w' }, Subtype.val, ⟨w.drew, (Below.refl _ w).drew⟩, rfl, fun n => n.2, fun w' h => ⟨⟨w', h⟩, rfl⟩⟩

/-- The rows of a [][]byte: each slice value, its bytes. -/
structure Lv (w : World) (v : Value) (rs : List (Value × List Int)) : Prop where
  rd : Rd w 1 v rs.length (rs.flatMap fun r => [r.1])
  ok : ∀ r ∈ rs, Bs w r.1 r.2 ∧ ∀ c ∈ r.2, byt c
theorem Lv.below {w w' : World} {v : Value} {rs : List (Value × List Int)} (h : Lv w v rs) (hb : Below w.heap.size w w') : Lv w' v rs := ⟨h.rd.below hb, fun r hr => ⟨(h.ok r hr).1.below hb, (h.ok r hr).2⟩⟩
theorem Lv.at_ {w : World} {A : Option Addr} {n c : Nat} {rs : List (Value × List Int)} (h : Lv w (.slice A n c) rs) (k : Nat) (hk : k < rs.length) :
    ∃ g o A' c', A = some ⟨g, o, none⟩ ∧ w.cell? ⟨g, o + k, none⟩ = some (.slice A' rs[k].2.length c') ∧ Bs w (.slice A' rs[k].2.length c') rs[k].2 ∧ (∀ c ∈ rs[k].2, byt c) ∧ rs[k].1 = .slice A' rs[k].2.length c' := by
  obtain ⟨g, o, c', hv, hc, hg, hh⟩ := Rd.at_ (f := fun r : Value × List Int => [r.1]) (s := 1) (fun _ => rfl) h.rd (by omega)
  injection hv with h1 h2 h3
  obtain ⟨b1, b2⟩ := h.ok rs[k] (List.getElem_mem hk)
  obtain ⟨A', c2, e, -⟩ := id b1
  have h4 := hh k hk 0 _ (by omega) rfl
  rw [Nat.mul_one, Nat.add_zero] at h4
  rw [e] at b1 h4
  exact ⟨g, o, A', c2, h1, h4, b1, b2, e⟩

/-- Bytes of the world W, by the objects they lie in. -/
theorem Bs.sl_W {W : World} {v : Value} {xs : List Int} (h : Bs W v xs) : ∃ X, (∀ p ∈ X, p.1 < W.heap.size ∧ W.heap[p.1]? = some p.2) ∧ Sl v xs X := by
  obtain ⟨A, c, rfl, hc, hl, h0 | ⟨g, o, rfl, hg, hh⟩⟩ := h
  · exact ⟨[], by simp, fun w _ => ⟨A, c, rfl, hc, hl, .inl h0⟩⟩
  · refine ⟨[(g, W.heap[g])], fun p hp => ?_, fun w hw => ⟨_, c, rfl, hc, hl, .inr ⟨g, o, rfl, ?_, fun j u hu => ?_⟩⟩⟩
    · simp at hp; subst hp
      exact ⟨hg, Array.getElem?_eq_getElem hg⟩
    · exact lt_of_heap (hw _ (List.mem_cons_self ..))
    · have h1 := hw _ (List.mem_cons_self ..)
      have h2 : W.heap[g]? = some W.heap[g] := Array.getElem?_eq_getElem hg
      refine Eq.trans ?_ (hh j u hu)
      simp only [World.cell?, h1, h2]
theorem On.addX {X Y : List (Nat × Obj)} {B : Nat} {W w : World} {d : Nat} {nm : ByteArray} {s : Dst} (h : On X B W w d nm s) (hY : ∀ p ∈ Y, p.1 < B ∧ W.heap[p.1]? = some p.2) : On (Y ++ X) B W w d nm s := by
  obtain ⟨⟨F, hd, hF, hX⟩, hk, h1, h2⟩ := h
  refine ⟨⟨F, hd, hF, fun p hp hf => ?_⟩, fun p hp => ?_, h1, h2⟩
  · rcases List.mem_append.1 hp with hp | hp
    · have := (hY p hp).1; have := hF _ hf; omega
    · exact hX p hp hf
  · rcases List.mem_append.1 hp with hp | hp
    · exact (h1.block p.1 (hY p hp).1).trans (hY p hp).2
    · exact hk p hp
theorem Am.addX {Y : List (Nat × Obj)} {B : Nat} {W w : World} {p d t v : Nat} {xs : List Int} {lost : Bool} {s : Dst} (h : Am [] B W w p d t v xs lost s) (hY : ∀ p ∈ Y, p.1 < B ∧ W.heap[p.1]? = some p.2) : Am Y B W w p d t v xs lost s := by
  obtain ⟨dv, Z, h1, h2, h3, h4, h5⟩ := h
  refine ⟨dv, Z, h1, h2, h3, fun q hq => ?_, (h5.addX hY).mono fun q hq => ?_⟩
  · rcases List.mem_append.1 hq with hq | hq
    · exact h4 q (List.mem_append_left _ hq)
    · have := (hY q hq).1; omega
  · rcases List.mem_cons.1 hq with rfl | hq
    · exact List.mem_append_right _ (List.mem_cons_self ..)
    · rcases List.mem_append.1 hq with hq | hq
      · exact List.mem_append_right _ (List.mem_cons_of_mem _ (List.mem_append_left _ hq))
      · exact List.mem_append_left _ hq
theorem Am.on {X : List (Nat × Obj)} {B : Nat} {W w : World} {p d t v : Nat} {xs : List Int} {lost : Bool} {s : Dst} (h : Am X B W w p d t v xs lost s) : On [] B W w d nmS s := by
  obtain ⟨dv, Z, h1, h2, h3, h4, h5⟩ := h
  exact h5.mono fun q hq => by cases hq
theorem am_fuse {X : List (Nat × Obj)} {B : Nat} {W w : World} {p d t v : Nat} {xs : List Int} {lost : Bool} {s : Dst} (n : Int) (hn : n ≤ 9223372036854775807) (h : Am X B W w p d t v xs lost s) :
    Calls Tryd.prog 25 #[.pointer (some ⟨d, 0, none⟩), .int .i64 n] w fun e w' => e = .returned (.tuple #[]) ∧ Am X B W w' p d t v xs lost { s with fuse := max 0 n } := by
  obtain ⟨dv, Z, h1, h2, h3, h4, h5⟩ := h
  exact (on_fuse n hn h5).mono fun e w' ⟨he, ho⟩ => ⟨he, dv, Z, h1, h2, h3, h4, ho⟩

/-- Behind k shots that were answered OK. -/
def Hs (rs : List (Value × List Int)) (k t v : Nat) (xs : List Int) (s : Dst) : Prop :=
  (k = 0 ∧ t = 0 ∧ v = 0 ∧ xs = [] ∧ s.file = none) ∨
  (0 < k ∧ k ≤ 20 ∧ t = k ∧ v = (k - 1) / 3 ∧ xs.length ≤ 20000 ∧ (∀ c ∈ xs, byt c) ∧ (∃ r, rs[k - 1]? = some r ∧ r.2 = xs) ∧ s.file = some (shotB k ((k - 1) / 3) xs, (shotB k ((k - 1) / 3) xs).length))
theorem Hs.same {rs : List (Value × List Int)} {k t v : Nat} {xs : List Int} {s s' : Dst} (h : Hs rs k t v xs s) (he : s'.file = s.file) : Hs rs k t v xs s' := by
  unfold Hs at *
  rw [he]; exact h
theorem dno {s : Dst} {n : Int} {m : Bool} {eff : List Int × Nat → Option (List Int × Nat)} (h : ¬ (doesS s n m eff).2 = 0) : (doesS s n m eff).1.file = s.file := by
  unfold doesS at *
  split
  · rfl
  · split
    · rfl
    · split
      · rfl
      · split
        · rfl
        · rename_i h1 h2 h3 h4; simp [h1, h2, h3, h4] at h
theorem dok {s : Dst} {n : Int} {m : Bool} {eff : List Int × Nat → Option (List Int × Nat)} (h : (doesS s n m eff).2 = 0) : (doesS s n m eff).1.file = eff (s.file.getD ([], 0)) := by
  unfold doesS at *
  split
  · rename_i h1; simp [h1] at h
  · split
    · rename_i h1 h2; simp [h1, h2] at h
    · split
      · rename_i h1 h2 h3; simp [h1, h2, h3] at h
      · split
        · rename_i h1 h2 h3 h4; simp [h1, h2, h3, h4] at h
        · rfl
theorem hs_set {rs : List (Value × List Int)} {k t v : Nat} {xs : List Int} {s : Dst} (h : Hs rs k t v xs s) (hk : k < 20) {r : Value × List Int} (hr : rs[k]? = some r) (hby : ∀ c ∈ r.2, byt c) (hl : r.2.length ≤ 20000) :
    ∃ a t' v' xs' lost' s', setA t v xs false s (k + 1) (k / 3) r.2 = (a, t', v', xs', lost', s') ∧ ((a = 0 ∧ lost' = false ∧ Hs rs (k + 1) t' v' xs' s') ∨ (a = 17 ∧ Hs rs k t' v' xs' s')) := by
  have hn : ¬ (k + 1 ≤ t ∨ k / 3 < v) := by
    rcases h with ⟨rfl, rfl, rfl, -⟩ | ⟨h0, -, rfl, rfl, -⟩ <;> omega
  unfold setA
  rw [if_neg (by simp), if_neg hn, if_neg (by omega)]
  by_cases h0 : (doesS s (shotB (k + 1) (k / 3) r.2).length true (fun _ => some (shotB (k + 1) (k / 3) r.2, (shotB (k + 1) (k / 3) r.2).length))).2 = 0
  · rw [if_pos h0]
    refine ⟨_, _, _, _, _, _, rfl, .inl ⟨rfl, rfl, .inr ⟨by omega, by omega, rfl, by simp, hl, hby, ⟨r, by simpa using hr, rfl⟩, ?_⟩⟩⟩
    rw [dok h0]
    simp
  · rw [if_neg h0]
    exact ⟨_, _, _, _, _, _, rfl, .inr ⟨rfl, h.same (dno h0)⟩⟩
theorem hs_lift {rs : List (Value × List Int)} {k t v : Nat} {xs : List Int} {s : Dst} (h : Hs rs k t v xs s) (ls : List Int) : Hs rs k t v xs (liftS s ls) ∧ (liftS s ls).dead = false := by
  refine ⟨?_, rfl⟩
  rcases h with ⟨h1, h2, h3, h4, h5⟩ | ⟨h1, h2, h3, h4, h5, h6, h7, h8⟩
  · exact .inl ⟨h1, h2, h3, h4, by simp [liftS, h5]⟩
  · refine .inr ⟨h1, h2, h3, h4, h5, h6, h7, ?_⟩
    simp [liftS, h8, liftN]
theorem hs_read0 {rs : List (Value × List Int)} {t v : Nat} {xs : List Int} {s : Dst} (h : Hs rs 0 t v xs s) (hd : s.dead = false) : readS s = ([], 7) := by
  rcases h with ⟨-, -, -, -, h5⟩ | ⟨h1, -⟩
  · simp [readS, hd, h5]
  · omega
theorem hs_read {rs : List (Value × List Int)} {k t v : Nat} {xs : List Int} {s : Dst} (h : Hs rs k t v xs s) (h0 : 0 < k) (hd : s.dead = false) : readS s = (shotB k ((k - 1) / 3) xs, 0) ∧ xs.length ≤ 20000 ∧ (∀ c ∈ xs, byt c) ∧ ∃ r, rs[k - 1]? = some r ∧ r.2 = xs := by
  rcases h with ⟨h1, -⟩ | ⟨h1, h2, h3, h4, h5, h6, h7, h8⟩
  · omega
  · exact ⟨by simp [readS, hd, h8], h5, h6, h7⟩
theorem Hs.nil (rs : List (Value × List Int)) (f : Int) (b : Bool) : Hs rs 0 0 0 [] ⟨none, f, b⟩ := .inl ⟨rfl, rfl, rfl, rfl, rfl⟩
end Go.Proofs.YtglghlfmjokgdaaDoor
