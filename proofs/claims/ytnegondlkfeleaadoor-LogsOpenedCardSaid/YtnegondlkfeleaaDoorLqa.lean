/- logs: Add, where all entries may be. -/
import Derived.Test.YtnegondlkfeleaaDoorLoi
import Derived.StillTailTactics
namespace Go.Proofs.YtnegondlkfeleaaDoor
open Go.RowKit

/-- A quiet walk in a class of one world is a still one. -/
theorem still_of_quiet {ι : Type} {P : Program} {ops : Array Oper} {w0 : World} (F : ι → World) (n0 : ι) (h0 : ∀ n, F n = w0) {Q : Act → Prop} : ∀ (l : List Oper) (a : Act), wpQuiet P ops (fun w' => ∃ n, w' = F n) Q l a → wpStill P ops w0 Q l a
  | [], a, h => h
  | o :: rest, a, h => by
    unfold wpQuiet at h
    unfold wpStill
    split at h
    · rename_i hw
      rw [if_pos hw]
      obtain ⟨v, h1, h2⟩ := h
      have h3 := h1 w0 ⟨n0, (h0 n0).symm⟩
      have h4 := still_of_quiet F n0 h0 rest _ h2
      unfold Oper.quietAt at h3
      unfold Oper.still
      generalize (execOp a.eval o).run P w0 = r at h3
      cases r with
      | ok nx w' =>
        cases nx with
        | value u => exact ⟨h3.1, h3.2 ▸ h4⟩
        | skip => exact ⟨h3.1, by rw [← h3.2]; exact h4⟩
        | enter f args => exact ⟨h3.1, v, h3.2.mono fun _ _ ⟨he, n, hn⟩ => ⟨he, hn.trans (h0 n)⟩, h4⟩
        | _ => exact h3.elim
      | halt x w' => exact h3.elim
    · rename_i hw
      rw [if_neg hw]
      exact still_of_quiet F n0 h0 rest _ h
/-- A region that draws: the first n operations read alone, the others wait for them. -/
theorem wp_region_quiet_tail {ι : Type} (F : ι → World) (n0 : ι) (n : Nat) {P : Program} {id : Nat} {Q : Exit → Act → World → Prop} {a : Act} {w : World} {l : List Oper} (hF : ∀ n, F n = w.drew) (hm : P.follows .mixedOrders = true) (hB : Region.lexTailB .any l.toArray n = true)
    (h : wpQuiet P l.toArray (fun w' => ∃ n, w' = F n) (fun a' => wpList P l.toArray Q (l.drop n) a' w.drew) (l.take n) a) : (Code.region id l.toArray true).wp P Q a w :=
  wp_region_still_tail n hm hB (still_of_quiet F n0 hF _ _ h)

theorem cell_F {ι : Type} {F : ι → World} {w : World} (hF : ∀ n, F n = w.drew) {p : Addr} {v : Value} (c : w.cell? p = some v) : ∀ n, (F n).cell? p = some v := fun n => by rw [hF]; exact c
/-- What is new beside the disk. -/
theorem On.addNew {X Y : List (Nat × Obj)} {B : Nat} {W w w' : World} {d : Nat} {nm : ByteArray} {s : Dst} (h : On X B W w d nm s) (hb : Below w.heap.size w w') (hY : ∀ q ∈ Y, w.heap.size ≤ q.1 ∧ w'.heap[q.1]? = some q.2) : On (Y ++ X) B W w' d nm s := by
  obtain ⟨F, hd, hF, hX⟩ := h.ex
  have h' := h.below hb
  refine ⟨⟨F, hd.below hb, hF, fun p hp hf => ?_⟩, fun p hp => ?_, h'.bel, h'.le⟩
  · rcases List.mem_append.1 hp with hp | hp
    · have := (hY p hp).1; have := hd.lt _ hf; omega
    · exact hX p hp hf
  · rcases List.mem_append.1 hp with hp | hp
    · exact (hY p hp).2
    · exact h'.keep p hp
theorem cell_grown {w w' : World} {r : Nat} {p : Addr} {v : Value} (g : w.grownBy w' (some r)) (hne : p.block ≠ r) (c : w.cell? p = some v) : w'.cell? p = some v :=
  (World.cell?_of_block (g.block p.block (block_lt_of_cell c) (by simpa using hne))).trans c
theorem addP_ok {bi bt i : Nat} {t : Int} {es es' : List Ent} {e : Ent} (h : addP bi bt es i t e = some es') : bi < i ∧ i ≤ bi + es.length + 1 ∧ es' = es.take (i - bi - 1) ++ [e] := by
  unfold addP at h
  split at h
  · cases h
  · split at h
    · cases h
    · injection h with h; exact ⟨by omega, by omega, h.symm⟩
theorem addP_len {bi bt i : Nat} {t : Int} {es es' : List Ent} {e : Ent} (h : addP bi bt es i t e = some es') : bi + es'.length = i := by
  obtain ⟨h1, h2, rfl⟩ := addP_ok h
  rw [List.length_append, List.length_take, List.length_singleton]; omega
theorem addP_wf {bi bt i : Nat} {t t' c n : Int} {es es' : List Ent} {e : Ent} (h : addP bi bt es i t e = some es') (hw : Wf bi es) (he : e.1 = [(i : Int), t', c, n]) : Wf bi es' := by
  obtain ⟨h1, h2, rfl⟩ := addP_ok h
  intro j hj
  rcases Nat.lt_or_ge j (es.take (i - bi - 1)).length with hlt | hge
  · rw [List.getElem_append_left hlt, List.getElem_take]
    exact hw j (by rw [List.length_take] at hlt; omega)
  · have hl : (es.take (i - bi - 1)).length = i - bi - 1 := by rw [List.length_take]; omega
    rw [List.length_append, List.length_singleton] at hj
    obtain rfl : j = i - bi - 1 := by omega
    rw [List.getElem_append_right (by omega)]
    simp only [hl, Nat.sub_self, List.getElem_cons_zero]
    refine ⟨t', c, n, ?_⟩
    rw [he, show bi + 1 + (i - bi - 1) = i by omega]
/-- What adding bytes and making them sure does. -/
def addS (s : Dst) (bs : List Int) : Dst × Int :=
  if (doesS s ((sizeS s : Nat) + (bs.length : Nat) : Int) true (fun q => some (q.1 ++ bs, q.2))).2 = 0 then doesS (doesS s ((sizeS s : Nat) + (bs.length : Nat) : Int) true (fun q => some (q.1 ++ bs, q.2))).1 0 false (fun q => some (q.1, q.1.length))
  else doesS s ((sizeS s : Nat) + (bs.length : Nat) : Int) true (fun q => some (q.1 ++ bs, q.2))
def bsOf (ns : List Ent) : List Int := (ns.map efB).flatten
theorem bsOf_snoc (ns : List Ent) (e : Ent) : bsOf (ns ++ [e]) = bsOf ns ++ efB e := by simp [bsOf]
theorem bsOf_byt {ns : List Ent} (h : ∀ e ∈ ns, EOk e) : ∀ c ∈ bsOf ns, byt c := by
  intro c hc
  obtain ⟨l, hl, hcl⟩ := List.mem_flatten.1 hc
  obtain ⟨e, he, rfl⟩ := List.mem_map.1 hl
  obtain ⟨_, _, _, _, -, -, -, -, -, -, -, -, hb⟩ := h e he
  exact frameB_byt hb c hcl
theorem bsOf_take {ns : List Ent} {k : Nat} (hk : k < ns.length) : bsOf (ns.take (k + 1)) = bsOf (ns.take k) ++ efB ns[k] := by
  rw [← bsOf_snoc, List.take_add_one, List.getElem?_eq_getElem hk]; rfl
theorem bsOf_le {ns : List Ent} (k : Nat) : (bsOf (ns.take k)).length ≤ (bsOf ns).length := by
  have h : bsOf ns = bsOf (ns.take k) ++ bsOf (ns.drop k) := by unfold bsOf; rw [← List.flatten_append, ← List.map_append, List.take_append_drop]
  rw [h, List.length_append]; omega
theorem efB_pos (e : Ent) : 0 < (efB e).length := by unfold efB; rw [frameB_len]; omega
end Go.Proofs.YtnegondlkfeleaaDoor
