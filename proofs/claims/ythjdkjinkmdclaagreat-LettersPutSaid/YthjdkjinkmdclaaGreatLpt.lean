/- Letters: through a letter, putting it. -/
import Derived.Test.YthjdkjinkmdclaaGreatLpq
import Derived.Test.YthjdkjinkmdclaaGreatLpm
import Derived.Shelf.Abstract
namespace Go.Proofs.YthjdkjinkmdclaaGreat
open Go.RowKit Go.Shelf

def fnP : Pc → Nat
  | .index => 57
  | .mark => 58
  | .commit => 60
  | .yes => 59
  | .entries => 61
  | .data => 62
  | .client => 63
  | .num => 64
  | .command => 65
  | .wrong => 66
  | .reply => 67
  | _ => 0
theorem fnP_enters (pc : Pc) (h : pc ∉ heads) : ∀ args W, (callFunc (fnP pc) args).run Tryz.prog W = .ok (.enter (fnP pc) args) W := by
  cases pc
  case kind => exact absurd (by decide) h
  case src => exact absurd (by decide) h
  case dst => exact absurd (by decide) h
  case term => exact absurd (by decide) h
  case index => exact enters_of Tryz.func57 (by kernel_rfl) rfl
  case mark => exact enters_of Tryz.func58 (by kernel_rfl) rfl
  case commit => exact enters_of Tryz.func60 (by kernel_rfl) rfl
  case yes => exact enters_of Tryz.func59 (by kernel_rfl) rfl
  case entries => exact enters_of Tryz.func61 (by kernel_rfl) rfl
  case data => exact enters_of Tryz.func62 (by kernel_rfl) rfl
  case client => exact enters_of Tryz.func63 (by kernel_rfl) rfl
  case num => exact enters_of Tryz.func64 (by kernel_rfl) rfl
  case command => exact enters_of Tryz.func65 (by kernel_rfl) rfl
  case wrong => exact enters_of Tryz.func66 (by kernel_rfl) rfl
  case reply => exact enters_of Tryz.func67 (by kernel_rfl) rfl
theorem table_at {k : Int} {ps : List Pc} (h : pcs k = some ps) : ∃ n, ∃ hn : n < table.length, table[n].1 = k ∧ table[n].2 = ps.map fnP ∧ ∀ m (hm : m < table.length), m < n → table[m].1 ≠ k := by
  have key : ∀ n (hn : n < 7) (ps' : List Pc), (table[n]'hn).1 = k → (table[n]'hn).2 = ps'.map fnP → ps' = ps → (∀ m (hm : m < 7), m < n → (table[m]'hm).1 ≠ k) → ∃ n, ∃ hn : n < table.length, table[n].1 = k ∧ table[n].2 = ps.map fnP ∧ ∀ m (hm : m < table.length), m < n → table[m].1 ≠ k :=
    fun n hn ps' h1 h2 h3 h4 => ⟨n, hn, h1, by rw [← h3]; exact h2, h4⟩
  unfold pcs at h
  split at h
  · rename_i h1; subst h1; injection h with h; exact key 0 (by omega) _ rfl rfl h (fun m _ hm => by omega)
  split at h
  · rename_i h1; subst h1; injection h with h; exact key 1 (by omega) _ rfl rfl h (by decide)
  split at h
  · rename_i h1; subst h1; injection h with h; exact key 2 (by omega) _ rfl rfl h (by decide)
  split at h
  · rename_i h1; subst h1; injection h with h; exact key 3 (by omega) _ rfl rfl h (by decide)
  split at h
  · rename_i h1; subst h1; injection h with h; exact key 4 (by omega) _ rfl rfl h (by decide)
  split at h
  · rename_i h1; subst h1; injection h with h; exact key 5 (by omega) _ rfl rfl h (by decide)
  split at h
  · rename_i h1; subst h1; injection h with h; exact key 6 (by omega) _ rfl rfl h (by decide)
  · cases h
theorem table_none {k : Int} (h : pcs k = none) : ∀ p ∈ table, p.1 ≠ k := by
  intro p hp e
  subst e
  simp only [table, List.mem_cons, List.not_mem_nil, or_false] at hp
  rcases hp with rfl | rfl | rfl | rfl | rfl | rfl | rfl <;> simp [pcs] at h
theorem pcs_len {k : Int} {ps : List Pc} (h : pcs k = some ps) : ps.length ≤ 5 := by
  unfold pcs at h
  repeat' split at h
  all_goals first
    | (injection h with h; subst h; decide)
    | cases h
theorem Mi.look {w0 w : World} {m : Nat} {L : List (Int × List Nat)} (h : Mi w0 w m L) (k : Int) (n : Nat) (hn : n < L.length) (he : L[n].1 = k) (hlt : ∀ j (hj : j < L.length), j < n → L[j].1 ≠ k) :
    ∃ v, PVs w v L[n].2 ∧ (Instr.lookup 121 (.map (some m)) (.int .u8 k) true).run Tryz.prog w = .ok (.tuple #[v, .bool true]) w := by
  obtain ⟨⟨vs, hvl, hm, hv⟩, -, -⟩ := h
  have hf := find_some k 0 0 L vs n hn (by omega) he hlt
  have hc := MapKept.run_checkKey (P := Tryz.prog) (w := w) (k := .int .u8 k) Tryz.underlying22 (by simp [MapKept.IsKey]) (ments 0 L vs).toArray.isEmpty 9999
  refine ⟨vs[n]'(by omega), hv n hn (by omega), ?_⟩
  simp only [List.isEmpty_toArray] at hc
  simp [Instr.lookup, run_underlying Tryz.underlying121, MapKept.run_getObj_map hm, hc, MapKept.run_findKey Tryz.underlying22 hf, Result.andThen]
theorem Mi.look0 {w0 w : World} {m : Nat} {L : List (Int × List Nat)} (h : Mi w0 w m L) (k : Int) (hk : ∀ p ∈ L, p.1 ≠ k) :
    (Instr.lookup 121 (.map (some m)) (.int .u8 k) true).run Tryz.prog w = .ok (.tuple #[.slice none 0 0, .bool false]) w := by
  obtain ⟨⟨vs, hvl, hm, hv⟩, -, -⟩ := h
  have hf := find_none k 0 0 L vs hk
  have hc := MapKept.run_checkKey (P := Tryz.prog) (w := w) (k := .int .u8 k) Tryz.underlying22 (by simp [MapKept.IsKey]) (ments 0 L vs).toArray.isEmpty 9999
  simp only [List.isEmpty_toArray] at hc
  have hz : (zeroValue 119).run Tryz.prog w = .ok (.slice none 0 0) w := by kernel_rfl
  simp [Instr.lookup, run_underlying Tryz.underlying121, MapKept.run_getObj_map hm, hc, MapKept.run_findKey Tryz.underlying22 hf, hz, Result.andThen]

theorem pp_any (pc : Pc) (hpc : pc ∉ heads) {W0 w : World} {p l : Nat} {L : Lt} {ve vd vs vg : Value} {xs : List Int} {bad : Bool} (h : Lp W0 w p l (letC L ve vd vs vg) xs bad) (hw : Lw W0 L ve vd vs vg) (hl : xs.length ≤ 1000000000) :
    Calls Tryz.prog (fnP pc) #[.iface 65 (.pointer (some ⟨p, 0, none⟩)), .pointer (some ⟨l, 0, none⟩)] w fun e w' => e = .returned (.tuple #[]) ∧ Lp W0 w' p l (letC L ve vd vs vg) (xs ++ (putPc L pc).1) (bad || (putPc L pc).2) ∧ Ks w w' p := by
  cases pc
  case kind => exact absurd (by decide) hpc
  case src => exact absurd (by decide) hpc
  case dst => exact absurd (by decide) hpc
  case term => exact absurd (by decide) hpc
  case index => exact pp_index h hw hl
  case mark => exact pp_mark h hw hl
  case commit => exact pp_commit h hw hl
  case yes => exact pp_yes h hw hl
  case entries => exact pp_entries h hw hl
  case data => exact pp_data h hw hl
  case client => exact pp_client h hw hl
  case num => exact pp_num h hw hl
  case command => exact pp_command h hw hl
  case wrong => exact pp_wrong h hw hl
  case reply => exact pp_reply h hw hl
theorem putPc_len {W0 : World} {L : Lt} {ve vd vs vg : Value} (hw : Lw W0 L ve vd vs vg) (pc : Pc) : (putPc L pc).1.length ≤ 80000000 := by
  have one : ∀ x : Int, [x].length ≤ 80000000 := fun x => by simp
  have num : ∀ x : Int, fok1 .u64 x → (nb x.toNat).length ≤ 80000000 := fun x hx => Nat.le_trans (nb_ten (toNat_u64 hx).1) (by omega)
  cases pc
  case kind => exact one _
  case src => exact one _
  case dst => exact one _
  case client => exact one _
  case yes => exact one _
  case term => exact num _ hw.ok.term
  case index => exact num _ hw.ok.index
  case mark => exact num _ hw.ok.mark
  case commit => exact num _ hw.ok.commit
  case num => exact num _ hw.ok.num
  case wrong => exact Nat.le_trans (nb_ten (uns_lt _)) (by omega)
  case data =>
    have h1 := hw.d6
    have := nb_ten (n := L.data.length) (by omega)
    simp only [putPc, textB, List.length_append]; omega
  case entries =>
    have h1 := hw.e6
    have h2 := upE_len hw.ok.es L.es.length (Nat.le_refl _)
    unfold upE at h2
    rw [List.take_length] at h2
    have := nb_ten (n := L.es.length) (by omega)
    have h3 : L.es.length * 70000 ≤ 1000 * 70000 := Nat.mul_le_mul_right _ h1
    simp only [putPc, List.length_append]; omega
  case command =>
    simp only [putPc]; unfold cmdR; split
    · rename_i h8; exact Nat.le_trans (cmdLen h8 hw.ok.steps) (by omega)
    · simp
  case reply =>
    simp only [putPc]; unfold replyR; split
    · rename_i h8; exact Nat.le_trans (replyLen hw.ok.re hw.ok.ra h8 hw.ok.gots) (by omega)
    · simp
end Go.Proofs.YthjdkjinkmdclaaGreat
