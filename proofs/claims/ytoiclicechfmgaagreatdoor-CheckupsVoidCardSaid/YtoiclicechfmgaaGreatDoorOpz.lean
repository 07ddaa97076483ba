import Derived.Test.YtoiclicechfmgaaGreatDoorMem
import Derived.ProofKit
import Derived.OpenShut
import Derived.Deep.Slices
import Derived.Test.YtoiclicechfmgaaGreatDoorMemB
import Derived.ChangeSlices
import Derived.SizedLaws
/- How arguments that are structs, and slices of structs, read. -/
namespace Go.Proofs.YtoiclicechfmgaaGreatDoor
open Go.ChangeShapes Go.WideShapes Go.ChangeAt Go.RowKit

section
variable {H : Type} {enc : TypeId × Value → H} {P : Program} {w : World} {base : Nat} {spare : Nat → Bool} {held : Bool}
/-- Each field of a struct reads. -/
theorem open_fields {t : TypeId} {fs : Array Field} {fuel : Nat} {cs : List Value} {x : DataW H × List MemPlace} (ht : P.underlying t = some (.struct fs))
    (h : DataW.trod enc P w base spare held fuel t cs = some x) :
    cs.length = P.cellsOf t ∧ ∀ (i : Nat) (f : Field), fs[i]? = some f → ∃ n y, DataW.trod enc P w base spare held n f.type ((cs.drop f.offset).take (P.cellsOf f.type)) = some y := by
  obtain ⟨xs, n, _, _, hl, hx, hh⟩ := DataW.trod_struct ht h
  refine ⟨hl, fun i f hf => ?_⟩
  have hi : i < fs.size := by
    rcases Nat.lt_or_ge i fs.size with h | h
    · exact h
    · rw [Array.getElem?_eq_none h] at hf; cases hf
  exact ⟨n, xs[i], (hh i f hf).trans (List.getElem?_eq_getElem (by omega))⟩
theorem len1 {α : Type} : ∀ {l : List α}, l.length = 1 → ∃ a, l = [a]
  | [a], _ => ⟨a, rfl⟩
theorem len2 {α : Type} : ∀ {l : List α}, l.length = 2 → ∃ a b, l = [a, b]
  | [a, b], _ => ⟨a, b, rfl⟩
theorem len3 {α : Type} : ∀ {l : List α}, l.length = 3 → ∃ a b c, l = [a, b, c]
  | [a, b, c], _ => ⟨a, b, c, rfl⟩
theorem len4 {α : Type} : ∀ {l : List α}, l.length = 4 → ∃ a b c d, l = [a, b, c, d]
  | [a, b, c, d], _ => ⟨a, b, c, d, rfl⟩
theorem len5 {α : Type} : ∀ {l : List α}, l.length = 5 → ∃ a b c d e, l = [a, b, c, d, e]
  | [a, b, c, d, e], _ => ⟨a, b, c, d, e, rfl⟩
theorem len6 {α : Type} : ∀ {l : List α}, l.length = 6 → ∃ a b c d e f, l = [a, b, c, d, e, f]
  | [a, b, c, d, e, f], _ => ⟨a, b, c, d, e, f, rfl⟩
theorem arr_of {α : Type} {cs : Array α} {l : List α} (h : cs.toList = l) : cs = l.toArray := by rw [← h]
end
end Go.Proofs.YtoiclicechfmgaaGreatDoor

/- How arguments that are slices of numbers read. -/
namespace Go.Proofs.YtoiclicechfmgaaGreatDoor
open Go.ChangeShapes Go.WideShapes Go.ChangeAt Go.RowKit Go.ChangeShapes

section
variable {H : Type} {enc : TypeId × Value → H} {P : Program} {w : World} {base : Nat} {spare : Nat → Bool} {held : Bool}
theorem open_rd {t e : TypeId} {k : IntKind} {fuel : Nat} {cs : List Value} {x : DataW H × List MemPlace} (ht : P.underlying t = some (.slice e)) (he : P.underlying e = some (.int k)) (hc : P.cellsOf e = 1)
    (h : DataW.trod enc P w base spare held fuel t cs = some x) :
    ∃ (A : Option Addr) (n c : Nat) (zs : List Int), cs = [.slice A n c] ∧ zs.length = n ∧ n ≤ c ∧ c ≤ maxLen ∧ Rd w 1 (.slice A n c) n (zs.map (Value.int k)) ∧ (∀ z ∈ zs, (Lit.int k z).wf = true) ∧ (n = 0 ∨ ∀ g, (Value.slice A n c).ownBlock = some g → base ≤ g) := by
  rcases open_ints ht he hc h with ⟨rfl, _⟩ | ⟨a, len, cap, zs, rfl, hb, hl, hm, hz, _, hcell, hwf⟩
  · exact ⟨none, 0, 0, [], rfl, rfl, Nat.le_refl _, Nat.zero_le _, ⟨none, 0, rfl, Nat.le_refl _, rfl, .inl rfl⟩, by simp, .inl rfl⟩
  · have hzl : len ≤ zs.length := by rw [hz]; split <;> omega
    have hlt : (zs.take len).length = len := by simp; omega
    refine ⟨some a, len, cap, zs.take len, rfl, hlt, hl, hm, ⟨_, _, rfl, hl, by simp; omega, ?_⟩, fun z hz => hwf z (List.mem_of_mem_take hz), .inr fun g hg => by simp [Value.ownBlock] at hg; omega⟩
    rcases Nat.eq_zero_or_pos len with h0 | h0
    · exact .inl h0
    · obtain ⟨b, o, spot⟩ := a
      have hspot : spot = none := by
        have := hcell 0 (by omega)
        simpa [Addr.add] using World.cell?_spot this
      subst hspot
      have h1 := hcell 0 (by omega)
      refine .inr ⟨b, o, rfl, block_lt_of_cell (by simpa [Addr.add] using h1), fun j u hu => ?_⟩
      have hj : j < len := by
        rcases Nat.lt_or_ge j len with h | h
        · exact h
        · rw [List.getElem?_eq_none (by simp; omega)] at hu; cases hu
      have h2 := hcell j (by omega)
      rw [Addr.add_lit] at h2
      rw [h2, ← hu]
      simp [hj, List.getD, List.getElem?_eq_getElem (show j < zs.length by omega)]
theorem okWide_array {r : Reach} {b0 : Nat} {t e : TypeId} {n : Nat} {v : Value} (ht : P.underlying t = some (.array n e)) (h : Value.okWide P w r b0 t v) : ∃ cs, v = .agg cs ∧ cs.size = P.cellsOf t := by
  unfold Value.okWide at h
  rw [ht] at h
  cases v <;> simp_all
/-- An array of numbers. -/
theorem open_arr {t e : TypeId} {n : Nat} {k : IntKind} {fuel : Nat} {cs : List Value} {x : DataW H × List MemPlace} (ht : P.underlying t = some (.array n e)) (he : P.underlying e = some (.int k)) (hc : P.cellsOf e = 1) (hC : P.cellsOf t = n)
    (h : DataW.trod enc P w base spare held fuel t cs = some x) : ∃ zs : List Int, cs = zs.map (Value.int k) ∧ zs.length = P.cellsOf t ∧ ∀ z ∈ zs, (Lit.int k z).wf = true := by
  obtain ⟨xs, m, _, _, hl, hx, hh⟩ := DataW.trod_array ht h
  have each : ∀ i (hi : i < cs.length), ∃ z, cs[i] = Value.int k z ∧ (Lit.int k z).wf = true := by
    intro i hi
    have h1 := hh i (by omega)
    rw [hc, Nat.mul_one] at h1
    have h2 : (cs.drop i).take 1 = [cs[i]] := by rw [List.drop_eq_getElem_cons hi]; rfl
    rw [h2, List.getElem?_eq_getElem (by omega)] at h1
    obtain ⟨z, e1, _, e2⟩ := DataW.trod_int he h1
    exact ⟨z, by simpa using e1, e2⟩
  refine ⟨cs.map fun v => match v with | .int _ z => z | _ => 0, ?_, by simp [hl], fun z hz => ?_⟩
  · apply List.ext_getElem (by simp)
    intro i h1 h2
    obtain ⟨z, e1, _⟩ := each i h1
    simp [e1]
  · obtain ⟨v, hv, rfl⟩ := List.mem_map.1 hz
    obtain ⟨i, hi, rfl⟩ := List.getElem_of_mem hv
    obtain ⟨z, e1, e2⟩ := each i hi
    rw [e1]; exact e2
theorem wf_byt {z : Int} (h : (Lit.int .u8 z).wf = true) : byt z := by
  simp [Lit.wf, IntKind.min, IntKind.max, IntKind.signed, IntKind.bits] at h
  exact ⟨by omega, by omega⟩
theorem wf_i64 {z : Int} (h : (Lit.int .i64 z).wf = true) : -9223372036854775808 ≤ z ∧ z ≤ 9223372036854775807 := by
  simp [Lit.wf, IntKind.min, IntKind.max, IntKind.signed, IntKind.bits] at h
  omega
end
end Go.Proofs.YtoiclicechfmgaaGreatDoor

/- How an argument that is a slice of rows reads. -/
namespace Go.Proofs.YtoiclicechfmgaaGreatDoor
open Go.ChangeShapes Go.WideShapes Go.ChangeAt Go.RowKit

section
variable {H : Type} {enc : TypeId × Value → H} {P : Program} {w : World} {base : Nat} {spare : Nat → Bool} {held : Bool}
theorem weightsAll_mem {e : TypeId} {d : DataW H} {n : Nat} : ∀ {ds : List (DataW H)}, d ∈ ds → n ∈ d.weights P e → n ∈ DataW.weightsAll P e ds
  | d' :: ds, hd, hn => by
    simp only [DataW.weightsAll, List.mem_append]
    rcases List.mem_cons.1 hd with rfl | hd
    · exact .inl hn
    · exact .inr (weightsAll_mem hd hn)
/-- Each field of a struct reads; its weights are the struct's. -/
theorem fields_w {t : TypeId} {fs : Array Field} {fuel : Nat} {cs : List Value} {x : DataW H × List MemPlace} (ht : P.underlying t = some (.struct fs))
    (h : DataW.trod enc P w base spare held fuel t cs = some x) (i : Nat) (f : Field) (hf : fs[i]? = some f) :
    ∃ n y, DataW.trod enc P w base spare held n f.type ((cs.drop f.offset).take (P.cellsOf f.type)) = some y ∧ ∀ m ∈ y.1.weights P f.type, m ∈ x.1.weights P t := by
  obtain ⟨xs, n, _, rfl, hl, hx, hh⟩ := DataW.trod_struct ht h
  have hi : i < fs.size := by
    rcases Nat.lt_or_ge i fs.size with h | h
    · exact h
    · rw [Array.getElem?_eq_none h] at hf; cases hf
  have hi' : i < xs.length := by omega
  refine ⟨n, xs[i], (hh i f hf).trans (List.getElem?_eq_getElem hi'), fun m hm => ?_⟩
  simp only [DataW.weights, ht]
  exact DataW.weights_mem_each (j := i) (t := f.type) (d := xs[i].1) (by simp [hf]) (by simp [hi']) m hm
/-- A slice's length, from its weights. -/
theorem slice_w {t e : TypeId} {fuel n c : Nat} {A : Option Addr} {x : DataW H × List MemPlace} (ht : P.underlying t = some (.slice e)) (hb : 0 < P.bytesOf e)
    (h : DataW.trod enc P w base spare held fuel t [.slice A n c] = some x) (hw : ∀ m ∈ x.1.weights P t, m ≤ reachBytes) : n ≤ reachBytes := by
  rcases Go.Deep.open_slice ht h with ⟨h1, _⟩ | ⟨a, len, cap, m, _, D, Pl, h1, _, _, _, _, rfl, _⟩
  · injection h1 with h1; injection h1 with _ h1; omega
  · injection h1 with h1; injection h1 with _ h1
    subst h1
    have := hw ((((List.range n).map D).length + ((List.range (m - n)).map fun j => D (n + j)).length) * P.bytesOf e) (by simp [DataW.weights, ht])
    simp only [List.length_map, List.length_range] at this
    have h2 : n * 1 ≤ (n + (m - n)) * P.bytesOf e := Nat.mul_le_mul (by omega) hb
    omega
theorem open_rows {R : Type} [Inhabited R] (cells : R → List Value) (ok : R → Prop) {size : Nat} (hc : ∀ r, (cells r).length = size) (h0 : 0 < size) {t e : TypeId} {fuel : Nat} {cs : List Value} {x : DataW H × List MemPlace}
    (ht : P.underlying t = some (.slice e)) (hs : P.cellsOf e = size)
    (each : ∀ (cs' : List Value) (n : Nat) (y : DataW H × List MemPlace), cs'.length = size → DataW.trod enc P w base spare held n e cs' = some y → (∀ m ∈ y.1.weights P e, m ≤ reachBytes) → ∃ r, cs' = cells r ∧ ok r)
    (h : DataW.trod enc P w base spare held fuel t cs = some x) (hw : ∀ m ∈ x.1.weights P t, m ≤ reachBytes) :
    ∃ (A : Option Addr) (n c : Nat) (rs : List R), cs = [.slice A n c] ∧ rs.length = n ∧ Rd w size (.slice A n c) n (rs.flatMap cells) ∧ ∀ r ∈ rs, ok r := by
  rcases Go.Deep.open_slice ht h with ⟨rfl, _⟩ | ⟨a, len, cap, m, n, D, Pl, rfl, hb, hl, hm, hmm, rfl, hx⟩
  · exact ⟨none, 0, 0, [], rfl, rfl, ⟨none, 0, rfl, Nat.le_refl _, by simp, .inl rfl⟩, by simp⟩
  · rw [hs] at hx
    have hlm : len ≤ m := by rw [hmm]; split <;> omega
    have hy : ∀ i, i < len → ∃ r : R, w.cells? base (a.add (i * size)) size = some (cells r) ∧ ok r := by
      intro i hi
      obtain ⟨cs', h1, h2⟩ := hx i (by omega)
      obtain ⟨r, rfl, hr⟩ := each cs' _ _ (World.cells?_some h1).2.1 h2 (fun k hk => hw k (by
        simp only [DataW.weights, ht, List.mem_cons, List.mem_append]
        exact .inr (.inl (weightsAll_mem (List.mem_map.2 ⟨i, List.mem_range.2 hi, rfl⟩) hk))))
      exact ⟨r, h1, hr⟩
    obtain ⟨F, hF⟩ := Go.Deep.choose_lt hy
    refine ⟨some a, len, cap, (List.range len).map F, rfl, by simp, ⟨_, _, rfl, hl, by rw [flatMap_len cells size hc]; simp, ?_⟩, ?_⟩
    · rcases Nat.eq_zero_or_pos len with hz | hz
      · exact .inl hz
      · obtain ⟨b, o, spot⟩ := a
        have hspot : spot = none := by
          have h1 := (World.cells?_some (hF 0 hz).1).2.2 0 h0
          rw [List.getElem?_eq_getElem (show 0 < (cells (F 0)).length by rw [hc]; exact h0)] at h1
          simpa [Addr.add] using World.cell?_spot h1
        subst hspot
        have hcell : ∀ k i u, k < len → i < size → (cells (F k))[i]? = some u → w.cell? ⟨b, o + (k * size + i), none⟩ = some u := by
          intro k i u hk hi hu
          have := (World.cells?_some (hF k hk).1).2.2 i hi
          rw [Addr.add_lit, Addr.add_lit, hu, Nat.add_assoc] at this
          exact this
        have h1 := hcell 0 0 ((cells (F 0))[0]'(by rw [hc]; exact h0)) hz h0 (List.getElem?_eq_getElem _)
        refine .inr ⟨b, o, rfl, block_lt_of_cell h1, fun j u hu => ?_⟩
        have hj : j < len * size := by
          rcases Nat.lt_or_ge j (len * size) with h | h
          · exact h
          · rw [List.getElem?_eq_none (by rw [flatMap_len cells size hc]; simpa using h)] at hu; cases hu
        have hk : j / size < len := (Nat.div_lt_iff_lt_mul h0).2 hj
        have hi : j % size < size := Nat.mod_lt _ h0
        have hjj : j / size * size + j % size = j := by rw [Nat.mul_comm]; exact Nat.div_add_mod j size
        have hg := flatMap_get cells size hc ((List.range len).map F) (j / size) (j % size) (by simpa using hk) hi
        rw [hjj, hu] at hg
        have := hcell (j / size) (j % size) u hk hi (by simpa using hg.symm)
        rw [hjj] at this
        exact this
    · intro r hr
      obtain ⟨k, hk, rfl⟩ := List.mem_map.1 hr
      exact (hF k (by simpa using hk)).2
end
end Go.Proofs.YtoiclicechfmgaaGreatDoor
