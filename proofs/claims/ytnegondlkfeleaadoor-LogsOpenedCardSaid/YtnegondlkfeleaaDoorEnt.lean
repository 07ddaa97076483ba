/- Slices of entries: what reads as a list; SameEntries of the same ones. -/
import Derived.Test.YtnegondlkfeleaaDoorSmz
import Derived.Test.YtnegondlkfeleaaDoorPcz
namespace Go.Proofs.YtnegondlkfeleaaDoor
open Go.RowKit

/-- An entry: its fields, its steps. -/
abbrev Ent := List Int × List (List Int)
def ecells (p : Ent × Value) : List Value := fc entryK p.1.1 ++ [p.2]
theorem ecells_len (p : Ent × Value) : (ecells p).length = 5 := by simp [ecells, fc_len, entryK]
/-- The slice v holds these entries. -/
def Ents (w : World) (v : Value) (es : List Ent) : Prop :=
  ∃ ss : List Value, ss.length = es.length ∧ Rd w 5 v es.length ((es.zip ss).flatMap ecells) ∧ ∀ (j : Nat) (h : j < es.length) (h' : j < ss.length), Steps w ss[j] es[j].2
theorem Ents.below {w w' : World} {v : Value} {es : List Ent} (h : Ents w v es) (hb : Below w.heap.size w w') : Ents w' v es := by
  obtain ⟨ss, h1, h2, h3⟩ := h
  exact ⟨ss, h1, h2.below hb, fun j a b => Rd.below (h3 j a b) hb⟩
theorem Ents.alloc {w : World} {v : Value} {es : List Ent} (h : Ents w v es) (o : Obj) : Ents (w.alloc o) v es := h.below (below_alloc_ _ _)
theorem Ents.at_ {w : World} {v : Value} {es : List Ent} (h : Ents w v es) (h0 : 0 < es.length) :
    ∃ g o c, v = .slice (some ⟨g, o, none⟩) es.length c ∧ es.length ≤ c ∧ g < w.heap.size ∧ ∀ (j : Nat) (hj : j < es.length), ∃ s, Steps w s es[j].2 ∧ ∀ i u, i < 5 → (ecells (es[j], s))[i]? = some u → w.cell? ⟨g, o + j * 5 + i, none⟩ = some u := by
  obtain ⟨ss, h1, h2, h3⟩ := h
  have hz : (es.zip ss).length = es.length := by rw [List.length_zip]; omega
  rw [← hz] at h2
  obtain ⟨g, o, c, rfl, hc, hg, hh⟩ := Rd.at_ ecells_len h2 (by omega)
  rw [hz] at hc ⊢
  refine ⟨g, o, c, rfl, hc, hg, fun j hj => ⟨ss[j]'(by omega), h3 j hj (by omega), fun i u hi hu => hh j (by omega) i u hi ?_⟩⟩
  rw [List.getElem_zip]; exact hu
/-- One entry, written out. -/
theorem Ents.one {w : World} {e : Ent} {s : Value} (h : Steps w s e.2) : Ents (w.alloc (.cells (ecells (e, s)).toArray 59)) (.slice (some ⟨w.heap.size, 0, none⟩) 1 1) [e] := by
  have hk := Blk.new w 59 (ecells (e, s)).toArray
  refine ⟨[s], rfl, ⟨_, _, rfl, Nat.le_refl _, by simp [ecells_len], .inr ⟨w.heap.size, 0, rfl, by simp, fun j u hu => ?_⟩⟩, fun j h1 h2 => ?_⟩
  · rw [Nat.zero_add, hk.cell]
    simpa using hu
  · obtain rfl : j = 0 := by simp at h1; exact h1
    exact Rd.alloc h _

set_option maxHeartbeats 8000000 in
set_option maxRecDepth 100000 in
/-- The same entries, in whatever memory. -/
theorem samees_any (es : List Ent) (hes : ∀ e ∈ es, e.1.length = 4 ∧ e.2.length ≤ 1000000 ∧ ∀ q ∈ e.2, q.length = 10) (v u : Value) (w : World) (hv : Ents w v es) (hu : Ents w u es) (hb : es.length ≤ 4611686018427387904) :
    Calls Tryd.prog 18 #[v, u] w fun e w' => e = .returned (.bool true) ∧ Below w.heap.size w w' := by
  rcases Nat.eq_zero_or_pos es.length with h0 | hpos
  · obtain rfl := List.eq_nil_of_length_eq_zero h0
    obtain ⟨_, _, ⟨A, c, rfl, -⟩, -⟩ := hv
    obtain ⟨_, _, ⟨B, d, rfl, -⟩, -⟩ := hu
    go_enter Tryd.func18, Tryd.ntmps18
    go_wp2
    refine wp_loop_rounds 1 ?_
    rw [rounds_succ]
    go_wp2
    go_ret
    exact ⟨rfl, Below.refl _ _⟩
  obtain ⟨g, o, c, rfl, hc, hg, hcell⟩ := hv.at_ hpos
  obtain ⟨g', o', d, rfl, hd, hg', hcell'⟩ := hu.at_ hpos
  obtain ⟨n, hn⟩ : ∃ n, n = es.length := ⟨_, rfl⟩
  have HN := Lib.hid hn
  have HC := Lib.hid hcell
  have HC' := Lib.hid hcell'
  have HE := Lib.hid hes
  rw [← hn] at hc hd hb ⊢
  have hb' : (n : Int) ≤ 4611686018427387904 := by omega
  have hcn : (n : Int) ≤ c := by omega
  have hdn : (n : Int) ≤ d := by omega
  have HG := Lib.hid hg
  have HG' := Lib.hid hg'
  clear hcell hcell' hn hpos hv hu hes hg hg'
  go_enter Tryd.func18, Tryd.ntmps18
  go_wp2_with fail
  go_loopg [5] n (fun q c5 wr => ∃ k : Nat, k ≤ n ∧ q = n - k ∧ c5 = .int .i64 k ∧ Below w.heap.size w wr)
  case atStart => exact ⟨0, Nat.zero_le _, by omega, rfl, Below.refl _ _⟩
  case round =>
    obtain ⟨k, hk, hq, rfl, hbw⟩ := hrel
    have GQ := Lib.hid hq
    have BW := Lib.hid hbw
    clear hq hbw
    by_cases hkn : k < n
    · have hkl : k < es.length := by have := HN.out; omega
      obtain ⟨s, hs, hh⟩ := HC.out k hkl
      obtain ⟨s', hs', hh'⟩ := HC'.out k hkl
      obtain ⟨l4, lst, l10⟩ := HE.out _ (List.getElem_mem hkl)
      obtain ⟨e, he⟩ : ∃ e, e = es[k] := ⟨_, rfl⟩
      rw [← he] at hs hs' hh hh' l4 lst l10
      obtain ⟨ef, rows⟩ := e
      simp only at hs hs' l4 lst l10
      match ef, l4 with
      | [x0, x1, x2, x3], _ =>
      have c0 : wr.cell? ⟨g, o + k * 5, none⟩ = some (.int .u64 x0) := cell_on BW.out HG.out (by have := hh 0 (.int .u64 x0) (by omega) rfl; simpa using this)
      have c1 : wr.cell? ⟨g, o + k * 5 + 1, none⟩ = some (.int .u64 x1) := cell_on BW.out HG.out (hh 1 (.int .u64 x1) (by omega) rfl)
      have c2 : wr.cell? ⟨g, o + k * 5 + 2, none⟩ = some (.int .u8 x2) := cell_on BW.out HG.out (hh 2 (.int .u8 x2) (by omega) rfl)
      have c3 : wr.cell? ⟨g, o + k * 5 + 3, none⟩ = some (.int .u64 x3) := cell_on BW.out HG.out (hh 3 (.int .u64 x3) (by omega) rfl)
      have c4 : wr.cell? ⟨g, o + k * 5 + 4, none⟩ = some s := cell_on BW.out HG.out (hh 4 s (by omega) rfl)
      have d0 : wr.cell? ⟨g', o' + k * 5, none⟩ = some (.int .u64 x0) := cell_on BW.out HG'.out (by have := hh' 0 (.int .u64 x0) (by omega) rfl; simpa using this)
      have d1 : wr.cell? ⟨g', o' + k * 5 + 1, none⟩ = some (.int .u64 x1) := cell_on BW.out HG'.out (hh' 1 (.int .u64 x1) (by omega) rfl)
      have d2 : wr.cell? ⟨g', o' + k * 5 + 2, none⟩ = some (.int .u8 x2) := cell_on BW.out HG'.out (hh' 2 (.int .u8 x2) (by omega) rfl)
      have d3 : wr.cell? ⟨g', o' + k * 5 + 3, none⟩ = some (.int .u64 x3) := cell_on BW.out HG'.out (hh' 3 (.int .u64 x3) (by omega) rfl)
      have d4 : wr.cell? ⟨g', o' + k * 5 + 4, none⟩ = some s' := cell_on BW.out HG'.out (hh' 4 s' (by omega) rfl)
      have S1 := Lib.hid (Rd.below hs BW.out)
      have S2 := Lib.hid (Rd.below hs' BW.out)
      obtain ⟨A1, n1, rfl, -⟩ := id hs
      obtain ⟨A2, n2, rfl, -⟩ := id hs'
      have L10 := Lib.hid l10
      have hk0 : (0 : Int) ≤ (k : Int) := by omega
      have hkn' : (k : Int) < (n : Int) := by omega
      have hgl := Lib.hid (Nat.lt_of_lt_of_le HG.out BW.out.size)
      have hgl' := Lib.hid (Nat.lt_of_lt_of_le HG'.out BW.out.size)
      clear hh hh' hs hs' he l10
      go_wp2_with fail
      go_region_held3 (fun w' => w'.cell? ⟨g, o + k * 5, none⟩ = some (.int .u64 x0) ∧ w'.cell? ⟨g, o + k * 5 + 1, none⟩ = some (.int .u64 x1) ∧ w'.cell? ⟨g, o + k * 5 + 2, none⟩ = some (.int .u8 x2) ∧ w'.cell? ⟨g, o + k * 5 + 3, none⟩ = some (.int .u64 x3) ∧ w'.cell? ⟨g, o + k * 5 + 4, none⟩ = some (.slice A1 rows.length n1) ∧ w'.cell? ⟨g', o' + k * 5, none⟩ = some (.int .u64 x0) ∧ w'.cell? ⟨g', o' + k * 5 + 1, none⟩ = some (.int .u64 x1) ∧ w'.cell? ⟨g', o' + k * 5 + 2, none⟩ = some (.int .u8 x2) ∧ w'.cell? ⟨g', o' + k * 5 + 3, none⟩ = some (.int .u64 x3) ∧ w'.cell? ⟨g', o' + k * 5 + 4, none⟩ = some (.slice A2 rows.length n2))
        (first
          | exact ⟨cell_on b7 hgl.out c0, cell_on b7 hgl.out c1, cell_on b7 hgl.out c2, cell_on b7 hgl.out c3, cell_on b7 hgl.out c4, cell_on b7 hgl'.out d0, cell_on b7 hgl'.out d1, cell_on b7 hgl'.out d2, cell_on b7 hgl'.out d3, cell_on b7 hgl'.out d4⟩
          | exact ⟨c0, c1, c2, c3, c4, d0, d1, d2, d3, d4⟩)
        (first
          | (go_at_call 47; refine (samecall_any x2 x3 x2 x3 _ _ rows rows L10.out L10.out _ ?_ ?_ lst).mono ?_; (first | exact Rd.drew S1.out | exact S1.out); (first | exact Rd.drew S2.out | exact S2.out); rintro e w7 ⟨rfl, b7⟩))
      have e7 : Below w.heap.size w w7 := by first | exact BW.out.trans (b7.mono BW.out.size) | exact (BW.out.drew).trans (b7.mono BW.out.size)
      have E7 := Lib.hid e7
      clear e7 b7 c0 c1 c2 c3 c4 d0 d1 d2 d3 d4
      go_wp2
      go_roundg (n - (k + 1))
      case measure => have := GQ.out; omega
      case rel => exact ⟨k + 1, by omega, rfl, by go_num, E7.out⟩
    · obtain rfl : k = n := by omega
      go_wp2
      go_ret
      exact ⟨rfl, BW.out⟩
end Go.Proofs.YtnegondlkfeleaaDoor
