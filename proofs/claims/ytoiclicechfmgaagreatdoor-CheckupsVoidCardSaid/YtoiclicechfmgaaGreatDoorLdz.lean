import Derived.Test.YtoiclicechfmgaaGreatDoorPuz
import Derived.Test.YtoiclicechfmgaaGreatDoorCaz
import Derived.Test.YtoiclicechfmgaaGreatDoorLcz
import Derived.Test.YtoiclicechfmgaaGreatDoorNuz
/- Frames taken off bytes: the plain laws. -/
namespace Go.Proofs.YtoiclicechfmgaaGreatDoor
open Go.RowKit

/-- Do bytes end with their sum? -/
def endsB (bs : List Int) : Bool := decide (4 ≤ bs.length) && decide (bs.drop (bs.length - 4) = fourS (moreS 0 (bs.take (bs.length - 4))))
/-- A frame's size: the body's, its number's, what is wrong. -/
def sizeF (bs : List Int) : Nat × Nat × Int :=
  if (tk bs).2.1 = 0 then (if bs.length < 10 ∧ ∀ c ∈ bs, 128 ≤ c then (0, 0, 5) else (0, 0, 4)) else if 8192 < (tk bs).1 then (0, 0, 4) else ((tk bs).1, (tk bs).2.1, 0)
/-- The first frame: its body, how long it is, what is wrong. -/
def getF (bs : List Int) : List Int × Nat × Int :=
  if (sizeF bs).2.2 ≠ 0 then ([], 0, (sizeF bs).2.2)
  else if bs.length < (sizeF bs).2.1 + (sizeF bs).1 + 4 then ([], 0, 5)
  else if endsB (bs.take ((sizeF bs).2.1 + (sizeF bs).1 + 4)) = false then ([], 0, 6)
  else ((bs.drop (sizeF bs).2.1).take (sizeF bs).1, (sizeF bs).2.1 + (sizeF bs).1 + 4, 0)

theorem endsB_sumB (bs : List Int) : endsB (sumB bs) = true := by
  have hl := sumB_len bs
  have h1 : (sumB bs).drop ((sumB bs).length - 4) = fourS (moreS 0 bs) := by
    rw [hl, Nat.add_sub_cancel]
    exact List.drop_left' rfl
  have h2 : (sumB bs).take ((sumB bs).length - 4) = bs := by
    rw [hl, Nat.add_sub_cancel]
    exact List.take_left' rfl
  unfold endsB
  rw [h1, h2, hl]
  simp
theorem sizeF_frame (bs rest : List Int) (hl : bs.length ≤ 8192) : sizeF (frameB bs ++ rest) = (bs.length, (nb bs.length).length, 0) := by
  have h : tk (frameB bs ++ rest) = (bs.length, (nb bs.length).length, 0) := by
    unfold frameB sumB
    rw [List.append_assoc, List.append_assoc]
    exact tk_nb (by omega) _
  have := nb_len_pos bs.length
  unfold sizeF
  rw [h]
  simp only
  rw [if_neg (by omega), if_neg (by omega)]
theorem frameB_len (bs : List Int) : (frameB bs).length = (nb bs.length).length + bs.length + 4 := by
  unfold frameB
  rw [sumB_len, List.length_append]
theorem getF_frame (bs rest : List Int) (hl : bs.length ≤ 8192) : getF (frameB bs ++ rest) = (bs, (frameB bs).length, 0) := by
  unfold getF
  rw [sizeF_frame bs rest hl]
  simp only
  rw [if_neg (by simp), ← frameB_len, if_neg (by rw [List.length_append]; omega), List.take_left' rfl,
    if_neg (by unfold frameB; rw [endsB_sumB]; simp)]
  have h1 : (frameB bs ++ rest).drop (nb bs.length).length = bs ++ (fourS (moreS 0 (nb bs.length ++ bs)) ++ rest) := by
    unfold frameB sumB
    rw [List.append_assoc, List.append_assoc]
    exact List.drop_left' rfl
  rw [h1, List.take_left' rfl]
theorem sizeF_err (bs : List Int) : (sizeF bs).2.2 = 0 ∨ ((sizeF bs).2.2 = 5 ∨ (sizeF bs).2.2 = 4) ∧ (sizeF bs).1 = 0 ∧ (sizeF bs).2.1 = 0 := by
  unfold sizeF
  split
  · split <;> simp
  · split <;> simp
theorem sizeF_ok {bs : List Int} (h : (sizeF bs).2.2 = 0) : sizeF bs = ((tk bs).1, (tk bs).2.1, 0) ∧ 0 < (tk bs).2.1 ∧ (tk bs).1 ≤ 8192 := by
  unfold sizeF at h ⊢
  split at h
  · split at h <;> simp at h
  · rename_i h1
    split at h
    · simp at h
    · rename_i h2
      rw [if_neg h1, if_neg h2]
      exact ⟨rfl, by omega, by omega⟩
theorem getF_len {bs : List Int} : (getF bs).1.length ≤ 8192 ∧ (getF bs).2.1 ≤ bs.length := by
  unfold getF
  split
  · simp
  · rename_i h0
    split
    · simp
    · split
      · simp
      · rename_i h1 h2
        have := (sizeF_ok (by simpa using h0)).2.2
        have e := (sizeF_ok (bs := bs) (by simpa using h0)).1
        rw [e]
        rw [e] at h1
        simp only at h1 ⊢
        simp only [List.length_take, List.length_drop]
        omega
theorem getF_byt {bs : List Int} (h : ∀ c ∈ bs, byt c) : ∀ c ∈ (getF bs).1, byt c := by
  unfold getF
  intro c hc
  split at hc
  · simp at hc
  · split at hc
    · simp at hc
    · split at hc
      · simp at hc
      · exact h c (List.mem_of_mem_drop (List.mem_of_mem_take hc))

/-- A part of bytes. -/
theorem Bs.sub {w : World} {g o n c : Nat} {xs : List Int} (h : Bs w (.slice (some ⟨g, o, none⟩) n c) xs) (lo k c' : Nat) (hn : lo + k ≤ n) (hc : k ≤ c') :
    Bs w (.slice (some ⟨g, o + lo, none⟩) k c') ((xs.drop lo).take k) := by
  obtain ⟨A', c0, hv, hc0, hl, hh⟩ := h
  injection hv with h1 h2 h3
  subst h1; subst h2; subst h3
  have hk : ((xs.drop lo).take k).length = k := by rw [List.length_take, List.length_drop]; omega
  refine ⟨_, c', by rw [hk], by omega, by simp, ?_⟩
  rcases hh with h0 | ⟨g', o', hA', hg, hcell⟩
  · left; omega
  · injection hA' with hA
    injection hA with e1 e2
    subst e1; subst e2
    right
    refine ⟨g, o + lo, rfl, hg, fun j u hu => ?_⟩
    rw [Nat.add_assoc]
    refine hcell (lo + j) u ?_
    rw [← hu]
    have hj : j < k := by
      rcases Nat.lt_or_ge j k with h | h
      · exact h
      · rw [List.getElem?_eq_none (by rw [bc_len]; omega)] at hu; cases hu
    simp [bc, List.getElem?_take, hj]
theorem Bs.some_ {w : World} {A : Option Addr} {n c : Nat} {xs : List Int} (h : Bs w (.slice A n c) xs) (h0 : 0 < n) : ∃ g o, A = some ⟨g, o, none⟩ := by
  obtain ⟨A', c0, hv, hc0, hl, hh⟩ := h
  injection hv with h1 h2 h3
  rcases hh with h | ⟨g, o, hA, _⟩
  · omega
  · exact ⟨g, o, h1.trans hA⟩
theorem Bs.len_ {w : World} {A : Option Addr} {n c : Nat} {xs : List Int} (h : Bs w (.slice A n c) xs) : xs.length = n ∧ n ≤ c := by
  obtain ⟨A', c0, hv, hc0, hl, hh⟩ := h
  injection hv with h1 h2 h3
  subst h2; subst h3
  exact ⟨rfl, hc0⟩
theorem Bs.nil_ (w : World) (A : Option Addr) (c : Nat) : Bs w (.slice A 0 c) [] := ⟨A, c, rfl, Nat.zero_le _, rfl, .inl rfl⟩
end Go.Proofs.YtoiclicechfmgaaGreatDoor

/- Shots: the plain laws: what a shot's file is; what frames.Read reads. -/
namespace Go.Proofs.YtoiclicechfmgaaGreatDoor
open Go.RowKit

/-- Part i of data: of 4096 bytes at most. -/
def part (xs : List Int) (i : Nat) : List Int := (xs.drop (4096 * i)).take 4096
/-- How many parts there are. -/
def parts (xs : List Int) : Nat := (xs.length + 4095) / 4096
/-- A shot's file behind its head and k parts. -/
def fileK (T V : Nat) (xs : List Int) : Nat → List Int
  | 0 => frameB (nb T ++ nb V)
  | k + 1 => fileK T V xs k ++ frameB (part xs k)
def shotB (T V : Nat) (xs : List Int) : List Int := fileK T V xs (parts xs)
theorem part_len (xs : List Int) (i : Nat) : (part xs i).length = min 4096 (xs.length - 4096 * i) := by simp [part]
theorem part_byt {xs : List Int} (h : ∀ c ∈ xs, byt c) (i : Nat) : ∀ c ∈ part xs i, byt c := fun c hc => h c (List.mem_of_mem_drop (List.mem_of_mem_take hc))
theorem parts_lt {xs : List Int} {i : Nat} (h : i < parts xs) : 4096 * i < xs.length := by unfold parts at h; omega
theorem parts_ge {xs : List Int} {i : Nat} (h : ¬ i < parts xs) : xs.length ≤ 4096 * i := by unfold parts at h; omega
theorem parts_le {xs : List Int} {n : Nat} (h : xs.length ≤ 4096 * n) : parts xs ≤ n := by unfold parts; omega
theorem take_part (xs : List Int) (k : Nat) : xs.take (4096 * (k + 1)) = xs.take (4096 * k) ++ part xs k := by
  unfold part
  rw [show 4096 * (k + 1) = 4096 * k + 4096 by omega, List.take_add]
theorem head_len (T V : Nat) (hT : T < 18446744073709551616) (hV : V < 18446744073709551616) : (nb T ++ nb V).length ≤ 20 := by
  have := nb_ten hT
  have := nb_ten hV
  rw [List.length_append]; omega
theorem fileK_len (T V : Nat) (xs : List Int) (hT : T < 18446744073709551616) (hV : V < 18446744073709551616) : ∀ k, (fileK T V xs k).length ≤ 34 + 4110 * k
  | 0 => by
    have h := head_len T V hT hV
    have h2 := nb_ten (n := (nb T ++ nb V).length) (by omega)
    show (frameB (nb T ++ nb V)).length ≤ _
    rw [frameB_len]; omega
  | k + 1 => by
    have h := fileK_len T V xs hT hV k
    have h1 : (part xs k).length ≤ 4096 := by rw [part_len]; omega
    have h2 := nb_ten (n := (part xs k).length) (by omega)
    show (fileK T V xs k ++ frameB (part xs k)).length ≤ _
    rw [List.length_append, frameB_len]; omega
theorem fileK_byt (T V : Nat) {xs : List Int} (h : ∀ c ∈ xs, byt c) : ∀ k, ∀ c ∈ fileK T V xs k, byt c
  | 0 => frameB_byt (fun c hc => by rcases List.mem_append.1 hc with h | h <;> exact nb_byt _ c h)
  | k + 1 => fun c hc => by
    rcases List.mem_append.1 hc with h1 | h1
    · exact fileK_byt T V h k c h1
    · exact frameB_byt (part_byt h k) c h1

/-- What frames.Read reads: the bodies, how many bytes. -/
def rdGo : Nat → List Int → List (List Int) × Nat
  | 0, _ => ([], 0)
  | f + 1, xs => if (getF xs).2.2 = 0 then ((getF xs).1 :: (rdGo f (xs.drop (getF xs).2.1)).1, (getF xs).2.1 + (rdGo f (xs.drop (getF xs).2.1)).2) else ([], 0)
def rdF (xs : List Int) : List (List Int) × Nat := rdGo (xs.length + 1) xs
theorem getF_pos {xs : List Int} (h : (getF xs).2.2 = 0) : 5 ≤ (getF xs).2.1 ∧ (getF xs).2.1 ≤ xs.length := by
  refine ⟨?_, getF_len.2⟩
  revert h
  unfold getF
  split
  · intro h; exact absurd h (by assumption)
  · rename_i h0
    have h0' : (sizeF xs).2.2 = 0 := by simpa using h0
    have h1 := sizeF_ok h0'
    have h2 : (sizeF xs).2.1 = (tk xs).2.1 := by rw [h1.1]
    split
    · intro h; simp at h
    · split
      · intro h; simp at h
      · intro _; simp only; omega
theorem getF_bad {xs : List Int} (h : ¬ (getF xs).2.2 = 0) : (getF xs).2.1 = 0 := by
  revert h
  unfold getF
  split
  · intro _; rfl
  · split
    · intro _; rfl
    · split
      · intro _; rfl
      · intro h; exact absurd rfl h
theorem getF_none : (getF []).2.2 ≠ 0 := by decide
/-- The frames of bodies. -/
def framesB (ls : List (List Int)) : List Int := (ls.map frameB).flatten
theorem framesB_len (ls : List (List Int)) : ls.length ≤ (framesB ls).length := by
  induction ls with
  | nil => simp
  | cons a l ih =>
    show _ ≤ (frameB a ++ framesB l).length
    rw [List.length_append, frameB_len, List.length_cons]; omega
theorem rdGo_frames : ∀ (f : Nat) (ls : List (List Int)), ls.length < f → (∀ l ∈ ls, l.length ≤ 8192) → rdGo f (framesB ls) = (ls, (framesB ls).length)
  | 0, _, h, _ => by omega
  | f + 1, [], _, _ => by
    show (if (getF []).2.2 = 0 then _ else _) = _
    rw [if_neg getF_none]; rfl
  | f + 1, a :: ls, h, hl => by
    have e : getF (framesB (a :: ls)) = (a, (frameB a).length, 0) := getF_frame a (framesB ls) (hl a (List.mem_cons_self ..))
    have ih := rdGo_frames f ls (by simpa using h) (fun l h => hl l (List.mem_cons_of_mem _ h))
    have hd : (framesB (a :: ls)).drop (frameB a).length = framesB ls := List.drop_left' rfl
    show (if (getF (framesB (a :: ls))).2.2 = 0 then _ else _) = _
    rw [e]
    simp only
    rw [if_pos trivial, hd, ih]
    simp only
    show _ = (_, (frameB a ++ framesB ls).length)
    rw [List.length_append]
theorem rdF_frames (ls : List (List Int)) (hl : ∀ l ∈ ls, l.length ≤ 8192) : rdF (framesB ls) = (ls, (framesB ls).length) :=
  rdGo_frames _ ls (by have := framesB_len ls; omega) hl
theorem rdGo_fuel : ∀ (f g : Nat) (xs : List Int), xs.length < f → xs.length < g → rdGo f xs = rdGo g xs
  | 0, _, _, h, _ => by omega
  | _, 0, _, _, h => by omega
  | f + 1, g + 1, xs, hf, hg => by
    by_cases h : (getF xs).2.2 = 0
    · have hp := getF_pos h
      have hd : (xs.drop (getF xs).2.1).length < f ∧ (xs.drop (getF xs).2.1).length < g := by rw [List.length_drop]; omega
      have e := rdGo_fuel f g (xs.drop (getF xs).2.1) hd.1 hd.2
      show (if (getF xs).2.2 = 0 then _ else _) = (if (getF xs).2.2 = 0 then _ else _)
      rw [if_pos h, if_pos h, e]
    · show (if (getF xs).2.2 = 0 then _ else _) = (if (getF xs).2.2 = 0 then _ else _)
      rw [if_neg h, if_neg h]
theorem rdF_ok {xs : List Int} (h : (getF xs).2.2 = 0) : rdF xs = ((getF xs).1 :: (rdF (xs.drop (getF xs).2.1)).1, (getF xs).2.1 + (rdF (xs.drop (getF xs).2.1)).2) := by
  have hp := getF_pos h
  have e := rdGo_fuel xs.length ((xs.drop (getF xs).2.1).length + 1) (xs.drop (getF xs).2.1) (by rw [List.length_drop]; omega) (by omega)
  show (if (getF xs).2.2 = 0 then _ else _) = _
  rw [if_pos h, e]
  rfl
theorem rdF_bad {xs : List Int} (h : ¬ (getF xs).2.2 = 0) : rdF xs = ([], 0) := by
  show (if (getF xs).2.2 = 0 then _ else _) = _
  rw [if_neg h]
theorem rdF_le : ∀ (n : Nat) (xs : List Int), xs.length ≤ n → (rdF xs).2 ≤ xs.length ∧ (rdF xs).1.length ≤ xs.length ∧ (∀ l ∈ (rdF xs).1, l.length ≤ 8192) ∧ ((∀ c ∈ xs, byt c) → ∀ l ∈ (rdF xs).1, ∀ c ∈ l, byt c)
  | 0, xs, h => by
    obtain rfl : xs = [] := List.eq_nil_of_length_eq_zero (by omega)
    rw [rdF_bad getF_none]
    simp
  | n + 1, xs, h => by
    by_cases h0 : (getF xs).2.2 = 0
    · have hp := getF_pos h0
      have hd : (xs.drop (getF xs).2.1).length = xs.length - (getF xs).2.1 := List.length_drop
      obtain ⟨h1, h2, h3, h4⟩ := rdF_le n (xs.drop (getF xs).2.1) (by omega)
      rw [rdF_ok h0]
      refine ⟨by simp only; omega, by simp only [List.length_cons]; omega, ?_, ?_⟩
      · intro l hl
        rcases List.mem_cons.1 hl with rfl | hl
        · exact getF_len.1
        · exact h3 l hl
      · intro hb l hl
        rcases List.mem_cons.1 hl with rfl | hl
        · exact getF_byt hb
        · exact h4 (fun c hc => hb c (List.mem_of_mem_drop hc)) l hl
    · rw [rdF_bad h0]
      simp
/-- A shot's file is its frames'. -/
def shotL (T V : Nat) (xs : List Int) (k : Nat) : List (List Int) := (nb T ++ nb V) :: (List.range k).map (part xs)
theorem fileK_frames (T V : Nat) (xs : List Int) : ∀ k, fileK T V xs k = framesB (shotL T V xs k)
  | 0 => by show _ = frameB _ ++ []; rw [List.append_nil]; rfl
  | k + 1 => by
    have h := fileK_frames T V xs k
    show fileK T V xs k ++ _ = _
    rw [h]
    simp [framesB, shotL, List.range_succ]
end Go.Proofs.YtoiclicechfmgaaGreatDoor

/- logs: the file of a content. -/
namespace Go.Proofs.YtoiclicechfmgaaGreatDoor
open Go.RowKit

/-- An entry that has a frame. -/
def EOk (e : Ent) : Prop := ∃ x0 x1 x2 x3 : Int, e.1 = [x0, x1, x2, x3] ∧ fok1 .u64 x0 ∧ fok1 .u64 x1 ∧ fok1 .u8 x2 ∧ fok1 .u64 x3 ∧ (∀ q ∈ e.2, fok stepK q) ∧ e.2.length ≤ 8 ∧ (entryB e).length ≤ 8192 ∧ ∀ c ∈ entryB e, byt c
def efB (e : Ent) : List Int := frameB (entryB e)
/-- A log's file. -/
def logB (bi bt : Nat) (es : List Ent) : List Int := frameB (nb bi ++ nb bt) ++ (es.map efB).flatten
theorem logB_snoc (bi bt : Nat) (es : List Ent) (e : Ent) : logB bi bt (es ++ [e]) = logB bi bt es ++ efB e := by simp [logB, List.append_assoc]
theorem efB_len {e : Ent} (h : EOk e) : (efB e).length ≤ 8300 := by
  obtain ⟨_, _, _, _, -, -, -, -, -, -, -, h1, -⟩ := h
  have h3 := nb_ten (n := (entryB e).length) (by omega)
  unfold efB
  rw [frameB_len]; omega
theorem logB_len (bi bt : Nat) (hi : bi < 18446744073709551616) (ht : bt < 18446744073709551616) : ∀ es : List Ent, (∀ e ∈ es, EOk e) → (logB bi bt es).length ≤ 34 + 8300 * es.length := by
  intro es h
  have h1 : (frameB (nb bi ++ nb bt)).length ≤ 34 := by
    have := nb_ten hi; have := nb_ten ht
    have h2 := nb_ten (n := (nb bi ++ nb bt).length) (by rw [List.length_append]; omega)
    rw [frameB_len]; rw [List.length_append] at *; omega
  have h4 : ((es.map efB).flatten).length ≤ 8300 * es.length := by
    clear h1
    induction es with
    | nil => simp
    | cons a es ih =>
      have := ih (fun e he => h e (List.mem_cons_of_mem _ he))
      have h5 := efB_len (h a (List.mem_cons_self ..))
      simp only [List.map_cons, List.flatten_cons, List.length_append, List.length_cons]; omega
  unfold logB
  rw [List.length_append]; omega

set_option maxHeartbeats 2000000 in
set_option maxRecDepth 100000 in
theorem lfile_any (p bi bt : Nat) (ev : Value) (es : List Ent) (w : World) (h : Ct w p bi bt ev) (he : Ents w ev es) (hw : Wf bi es) (hok : ∀ e ∈ es, EOk e) (hl : es.length ≤ 100000) (hi : bi < 18446744073709551616) (ht : bt < 18446744073709551616) (T : Tab w) :
    Calls Tryz.prog 92 #[.pointer (some ⟨p, 0, none⟩)] w fun e w' => ∃ v', e = .returned v' ∧ Bo w.heap.size w' v' (logB bi bt es) ∧ Below w.heap.size w w' := by
  obtain ⟨c0, c1, c2⟩ := id h
  have CT := Lib.hid h
  have EN := Lib.hid he
  have HW := Lib.hid hw
  have OK := Lib.hid hok
  have HL := Lib.hid hl
  have HI := Lib.hid hi
  have HT := Lib.hid ht
  have TT := Lib.hid T
  have hbb : ∀ c ∈ (([] ++ nb bi) ++ nb bt), byt c := by
    intro c hc
    rw [List.nil_append] at hc
    rcases List.mem_append.1 hc with hc | hc <;> exact nb_byt _ c hc
  have BB := Lib.hid hbb
  have hbl : (([] ++ nb bi) ++ nb bt).length ≤ 20 := by have := nb_ten hi; have := nb_ten ht; simp only [List.length_append, List.length_nil]; omega
  have BL := Lib.hid hbl
  clear hbb hbl h he hw hok hl hi ht T
  go_enter Tryz.func92, Tryz.ntmps92
  go_wp2_with fail
  go_region_held3 (fun w' => w'.cell? ⟨p, 0, none⟩ = some (.int .u64 bi) ∧ w'.cell? ⟨p, 1, none⟩ = some (.int .u64 bt)) (first
    | exact ⟨c0, c1⟩
    | exact ⟨((bel2 b1 b2).cell (block_lt_of_cell c0)).trans c0, ((bel2 b1 b2).cell (block_lt_of_cell c1)).trans c1⟩
    | exact ⟨((bel2 (bel2 b1 b2) b3).cell (block_lt_of_cell c0)).trans c0, ((bel2 (bel2 b1 b2) b3).cell (block_lt_of_cell c1)).trans c1⟩
    | exact ⟨(b1.cell (block_lt_of_cell c0)).trans c0, (b1.cell (block_lt_of_cell c1)).trans c1⟩
    | fail)
    (first
    | (go_at_call 119; refine (fput_any (.slice none 0 0) _ [] _ _ (Bo.nil_ 0 _).bs h2.bs BB.out (TT.out.below (bel2 ((Below.refl _ _).drew) (bel2 b1 b2))) (by simp) (by have := BL.out; omega)).mono ?_; rintro e w3 ⟨v3, rfl, h3, b3⟩)
    | (go_at_call 120; refine (num_any _ _ bt _ h1.bs HT.out (by have := nb_ten HI.out; simp; omega)).mono ?_; rintro e w2 ⟨v2, rfl, h2, b2⟩)
    | (go_at_call 120; refine (num_any (.slice none 0 0) [] bi _ (Bo.nil_ 0 _).bs HI.out (by simp)).mono ?_; rintro e w1 ⟨v1, rfl, h1, b1⟩))
  obtain ⟨A3, n3, q3, rfl⟩ := h3.sl
  have B3 := Lib.hid (show Below w.heap.size w w3 from bel2 ((Below.refl _ _).drew) (bel2 (bel2 b1 b2) b3))
  have H3 := Lib.hid (show Bo w.heap.size w3 (.slice A3 n3 q3) (logB bi bt (es.take 0)) from by
    have h := h3.le (show w.heap.size ≤ w2.heap.size from (bel2 ((Below.refl _ w).drew) (bel2 b1 b2)).size)
    simpa [logB] using h)
  have e2 := (B3.out.cell (block_lt_of_cell c2)).trans c2
  have hsl : ∃ A c, ev = .slice A es.length c ∧ es.length ≤ c := by obtain ⟨_, _, ⟨A, c, hv, hc, -⟩, -⟩ := EN.out; exact ⟨A, c, hv, hc⟩
  obtain ⟨A, c, rfl, hc⟩ := hsl
  obtain ⟨L, hL⟩ : ∃ L, L = es.length := ⟨_, rfl⟩
  have LL := Lib.hid hL
  rw [← hL] at e2 hc
  have hLl : (L : Int) ≤ 100000 := by have := HL.out; omega
  clear h3 h2 h1 b1 b2 b3 c0 c1 c2 hL
  go_wp2_with fail
  go_loopw [3, 28] (fun s3 s28 wr => ∃ k : Nat, s28 = .int .i64 (k : Int) ∧ k ≤ L ∧ (∃ A n c, s3 = .slice A n c) ∧ Bo w.heap.size wr s3 (logB bi bt (es.take k)) ∧ Below w.heap.size w wr) (fun _ s28 _ => L - (intOf s28).toNat)
  case atStart => exact ⟨0, rfl, Nat.zero_le _, ⟨_, _, _, rfl⟩, H3.out, B3.out⟩
  case round =>
    obtain ⟨k, rfl, hk, ⟨Ak, nk, ck, rfl⟩, hB, hbw⟩ := hrel
    have HB := Lib.hid hB
    have BW := Lib.hid hbw
    clear hB hbw
    by_cases hlt : k < L
    · have hkl : k < es.length := by have := LL.out; omega
      obtain ⟨g, o, c', hv, hc', hg, hh⟩ := EN.out.at_ (by omega)
      injection hv with hv1 hv2 hv3
      subst hv1
      obtain ⟨sv, hs, hcell⟩ := hh k hkl
      obtain ⟨x0, x1, x2, x3, hx, f0, f1, f2, f3, fin, f8, fl, fb⟩ := OK.out _ (List.getElem_mem hkl)
      have hec : ecells (es[k], sv) = [.int .u64 x0, .int .u64 x1, .int .u8 x2, .int .u64 x3, sv] := by simp [ecells, hx, entryK, fc]
      rw [hec] at hcell
      have he2 : es[k] = ([x0, x1, x2, x3], es[k].2) := by rw [← hx]
      have hsn : es.take (k + 1) = es.take k ++ [es[k]] := by rw [List.take_add_one, List.getElem?_eq_getElem hkl]; rfl
      have d0 : wr.cell? ⟨g, o + k * 5, none⟩ = some (.int .u64 x0) := cell_on BW.out hg (by have := hcell 0 (.int .u64 x0) (by omega) rfl; simpa using this)
      have d1 := cell_on BW.out hg (hcell 1 (.int .u64 x1) (by omega) rfl)
      have d2 := cell_on BW.out hg (hcell 2 (.int .u8 x2) (by omega) rfl)
      have d3 := cell_on BW.out hg (hcell 3 (.int .u64 x3) (by omega) rfl)
      have d4 := cell_on BW.out hg (hcell 4 sv (by omega) rfl)
      obtain ⟨Asv, csv, rfl, -⟩ := id hs
      obtain ⟨r, hr⟩ : ∃ r, r = es[k].2 := ⟨_, rfl⟩
      rw [← hr] at hs d4 he2 fin f8
      obtain ⟨m, hm⟩ : ∃ m, m = r.length := ⟨_, rfl⟩
      rw [← hm] at hs d4
      have hef : efB es[k] = frameB (entryB ([x0, x1, x2, x3], r)) := by rw [he2]; rfl
      have FR := Lib.hid (lframe_any x0 x1 x2 x3 (.slice Asv m csv) r f0 f1 f2 f3 fin (wr.alloc (.cells #[.int .u64 x0, .int .u64 x1, .int .u8 x2, .int .u64 x3, .slice Asv m csv] 170)) (Rd.below hs (BW.out.trans ((below_alloc_ wr _).mono BW.out.size))) f8 (by rw [← he2]; exact fl) (by rw [← he2]; exact fb) (TT.out.below (BW.out.trans ((below_alloc_ wr _).mono BW.out.size))))
      have SN := Lib.hid (show logB bi bt (es.take (k + 1)) = logB bi bt (es.take k) ++ frameB (entryB ([x0, x1, x2, x3], r)) from by rw [hsn, logB_snoc, hef])
      have FL := Lib.hid (show (logB bi bt (es.take k)).length + (frameB (entryB ([x0, x1, x2, x3], r))).length ≤ 140737488355328 from by
        have h1 := logB_len bi bt HI.out HT.out (es.take k) (fun e he => OK.out e (List.mem_of_mem_take he))
        have h2 := efB_len (OK.out _ (List.getElem_mem hkl))
        rw [hef] at h2
        have h3 : (es.take k).length ≤ 100000 := by rw [List.length_take]; have := HL.out; omega
        omega)
      have LT := Lib.hid hlt
      have hlt' : (k : Int) < (L : Int) := by omega
      clear hkl hh hs hcell hx f0 f1 f2 f3 fin f8 fl fb hec he2 hsn hr hm hef hk hc' hv2 hv3 hg
      go_wp2_with fail
      refine FR.out.mono ?_
      rintro e w5 ⟨v5, rfl, h5, b5⟩
      have B5 := Lib.hid (show Below w.heap.size w w5 from BW.out.trans ((bel2 (below_alloc_ wr _) b5).mono BW.out.size))
      have BF := Lib.hid (show Bf w.heap.size w w5 (.slice Ak nk ck) (logB bi bt (es.take k)) from ⟨HB.out.below (bel2 (below_alloc_ wr _) b5), B5.out, B5.out.size⟩)
      have Y5 := Lib.hid h5.bs
      obtain ⟨A5, n5, c5, rfl⟩ := h5.sl
      clear h5 b5 d0 d1 d2 d3 d4
      go_wp2_with (at_builtin; refine wpList_bf_bytes rfl _ _ 22 rfl Tryz.underlying22 rfl BF.out Y5.out rfl FL.out ?_; intro v6 w6 hB6; have B6 := Lib.hid hB6; obtain ⟨A6, n6, c6, rfl⟩ := hB6.own.sl; clear hB6)
      exact ⟨⟨k + 1, by go_num, LT.out, ⟨_, _, _, rfl⟩, by rw [SN.out]; exact B6.out.own, B6.out.bel⟩, by have := LT.out; simp [intOf]; omega⟩
    · obtain rfl : k = L := by omega
      go_wp2
      go_ret
      exact ⟨_, rfl, by have := HB.out; rwa [LL.out, List.take_length] at this, BW.out⟩
end Go.Proofs.YtoiclicechfmgaaGreatDoor
