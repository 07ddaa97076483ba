/- sessions.Book: page, own, New, Note, Ask, Last; the chapter's example. -/
import Derived.Test.YtcpiockmkpdkjaaRow
import Derived.Test.YtcpiockmkpdkjaaPkg
import Derived.Test.YtcpiockmkpdkjaaSmr
import Derived.Laws.AppendOwnNone
namespace Go.Proofs.Ytcpiockmkpdkjaa
open Go.RowKit

/- from CloG -/

theorem got_clone_nil (w : World) : Calls Try.prog 43 #[.slice none 0 0] w fun e w' => e = .returned (.slice none 0 0) ∧ w = w' := by
  have q := fun (w : World) (a : Option Addr) (n c n' c' : Nat) => Lib.run_eql_slice_nil (P := Try.prog) w _ _ a n c n' c' Try.underlying31
  go_enter Try.func43, Try.ntmps43
  go_wp2
  go_ret
  exact ⟨rfl, rfl⟩

set_option maxHeartbeats 400000 in
theorem got_clone_any (v : Value) (n : Nat) (xs : List Value) (w : World) (h : Rd w 2 v n xs) (h1 : ∀ u ∈ xs, u.oneCell' = true) (hn : n * 16 ≤ 140737488355328) (hn2 : n ≤ 4611686018427387904) :
    Calls Try.prog 43 #[v] w fun e w' => ∃ v', e = .returned v' ∧ Ow w.heap.size w' 42 2 v' n xs ∧ Below w.heap.size w w' := by
  obtain ⟨A, c, rfl, hc, hl, hcell⟩ := h
  have q := fun (w : World) (a : Option Addr) (n c n' c' : Nat) => Lib.run_eql_slice_nil (P := Try.prog) w _ _ a n c n' c' Try.underlying31
  obtain ⟨i0, hi, hz0, hz1, hz2⟩ := info_parts got_info
  have hnm : n ≤ maxLen := by unfold maxLen; omega
  cases A with
  | none =>
    rcases hcell with rfl | ⟨g, o, hA, _⟩
    · have hx : xs = [] := List.eq_nil_of_length_eq_zero (by simpa using hl)
      subst hx
      go_enter Try.func43, Try.ntmps43
      go_wp2
      go_ret
      exact ⟨_, rfl, .inl ⟨rfl, rfl, rfl⟩, Below.refl _ _⟩
    · cases hA
  | some ad =>
    rcases Nat.eq_zero_or_pos n with h0 | h0
    · subst h0
      have hx : xs = [] := List.eq_nil_of_length_eq_zero (by simpa using hl)
      subst hx
      clear hcell
      go_enter Try.func43, Try.ntmps43
      go_wp2
      go_ret
      exact ⟨_, rfl, .inr ⟨w.heap.size, 0, #[], rfl, Nat.le_refl _, Blk.new _ _ _, Nat.le_refl _, by simp, by simp, by simp⟩, below_alloc_ _ _⟩
    · rcases hcell with h | ⟨g, o, hA, hg, hcells⟩
      · omega
      · injection hA with hA
        subst hA
        have hown : (w.alloc (.cells #[] 42)).ownsRow w.heap.size 42 2 (.slice (some ⟨w.heap.size, 0, none⟩) 0 0) 0 [] :=
          ⟨by simp, .inr ⟨w.heap.size, 0, #[], rfl, Nat.le_refl _, heap_alloc_new _ _, Nat.le_refl _, by unfold maxLen; omega, by simp, by simp⟩⟩
        have hnews : ∀ j u, xs[j]? = some u → (w.alloc (.cells #[] 42)).cell? ((⟨g, o, none⟩ : Addr).add j) = some u := fun j u hu => by
          have := hcells j u hu
          rw [World.cell?_alloc_lt _ _ _ (by simp [Addr.add]; split <;> exact hg)]
          rcases Nat.eq_zero_or_pos j with hj | hj
          · subst hj; simpa [Addr.add] using this
          · have hj' : ¬ j = 0 := by omega
            simpa [Addr.add, hj'] using this
        have HO := Lib.hid hown
        have HN := Lib.hid hnews
        have HL := Lib.hid hl
        have H1 := Lib.hid h1
        clear hown hnews hl h1 hcells
        go_enter Try.func43, Try.ntmps43
        go_wp2_with (at_builtin; refine wpList_append_lies _ rfl _ _ 31 rfl w.heap.size 42 i0 (.agg #[.int .i64 0, .int .i64 0]) 2 16 Try.underlying31 hi hz0 hz1 hz2 rfl (by decide) _ _ _ rfl HO.out ⟨g, o, none⟩ n c xs rfl HL.out HN.out H1.out h0 (by simpa using hnm) (by simpa using hn) (by simp) (w.heap.size + 1) (by simp) ?_; intro g' cap' w1 hown' hgrow _ _)
        go_ret
        refine ⟨_, rfl, ?_, ?_⟩
        · have := Ow.of_own hown'
          simpa using this
        · exact (below_alloc_ w _).grown hgrow (by simp) (fun k e => by cases e; exact Nat.le_refl _)

/- from Rep -/

/-- A reply's value. -/
abbrev repV (E A : Int) (v : Value) : Value := .agg #[.int .i64 E, .int .i64 A, v]

set_option maxHeartbeats 1000000 in
theorem own_any (E A : Int) (v : Value) (gs : List (List Int)) (w : World) (h : Gots w v gs) (hn : gs.length ≤ 1000000) :
    Calls Try.prog 26 #[repV E A v] w fun e w' => ∃ P, e = .returned (repV E A (.slice P gs.length gs.length)) ∧ Ow w.heap.size w' 42 2 (.slice P gs.length gs.length) gs.length (gs.flatMap (fc gotK)) ∧ Below w.heap.size w w' := by
  have b1 := (Blk.new w 33 #[.int .i64 E, .int .i64 A, v]).alloc (.cells #[.int .i64 0, .int .i64 0, .slice none 0 0] 33)
  have b2 := Blk.new (w.alloc (.cells #[.int .i64 E, .int .i64 A, v] 33)) 33 #[.int .i64 0, .int .i64 0, .slice none 0 0]
  rw [World.size_alloc] at b2
  have B1 := Lib.hid b1
  have B2 := Lib.hid b2
  have H := Lib.hid ((h.alloc (.cells #[.int .i64 E, .int .i64 A, v] 33)).alloc (.cells #[.int .i64 0, .int .i64 0, .slice none 0 0] 33))
  have hv : ∃ P c, v = .slice P gs.length c := by obtain ⟨P, c, hv, _⟩ := h; exact ⟨P, c, hv⟩
  obtain ⟨P0, c0, rfl⟩ := hv
  clear h b1 b2
  go_enter Try.func26, Try.ntmps26
  go_wp2_with fail
  refine (got_clone_any _ gs.length (gs.flatMap (fc gotK)) _ H.out (rows_one gotK gs) (by omega) (by omega)).mono ?_
  rintro e w1 ⟨v', rfl, ho, hb⟩
  obtain ⟨P, c', rfl, hcc, ho'⟩ := ho.clip
  have O := Lib.hid (ho'.le (B' := w.heap.size + 2) (by simp))
  have b1 := B1.out.below hb (by simp; omega)
  have b2 := B2.out.below hb (by simp)
  have HB := Lib.hid ((below_alloc2_ w (.cells #[.int .i64 E, .int .i64 A, .slice P0 gs.length c0] 33) (.cells #[.int .i64 0, .int .i64 0, .slice none 0 0] 33)).trans (hb.mono (by simp; omega)))
  have hs1 : w.heap.size + 1 < w1.heap.size := b2.lt
  have c10 := b1.cell 0
  have c11 := b1.cell 1
  have c12 := b1.cell 2
  have c20 := b2.cell 0
  have c21 := b2.cell 1
  have c22 := b2.cell 2
  simp at c10 c11 c12 c20 c21 c22
  have f1 := b1.free
  have f2 := b2.free
  have B1' := Lib.hid b1
  have B2' := Lib.hid b2
  clear ho ho' hb b1 b2
  go_wp2_with fail
  refine (got_clip _ _ _ _ hcc (by omega)).mono ?_
  rintro e w' ⟨rfl, rfl⟩
  go_wp2
  have bf := (((B2'.out.far (p := ⟨w.heap.size, 2, none⟩) (by simp) (.slice P gs.length gs.length)).set_ 0 (.int .i64 E)).set_ 1 (.int .i64 A)).set_ 2 (.slice P gs.length gs.length)
  have r0 := bf.cell 0
  have r1 := bf.cell 1
  have r2 := bf.cell 2
  simp at r0 r1 r2
  refine bodyPost_ret (v := repV E A (.slice P gs.length gs.length)) (by simp [results, Try.results26, go_sem, r0, r1, r2]) rfl ⟨P, rfl, ?_, ?_⟩
  · exact ((((O.out.far (p := ⟨w.heap.size, 2, none⟩) (by simp) _).far (p := ⟨w.heap.size + 1, 0, none⟩) (by simp) _).far (p := ⟨w.heap.size + 1, 1, none⟩) (by simp) _).far (p := ⟨w.heap.size + 1, 2, none⟩) (by simp) _).le (by omega)
  · exact (((HB.out.setCell (p := ⟨w.heap.size, 2, none⟩) (Nat.le_refl _) _).setCell (p := ⟨w.heap.size + 1, 0, none⟩) (Nat.le_succ _) _).setCell (p := ⟨w.heap.size + 1, 1, none⟩) (Nat.le_succ _) _).setCell (p := ⟨w.heap.size + 1, 2, none⟩) (Nat.le_succ _) _


/- from Bk -/

/-- A page: the number, the reply. -/
structure Sp where
  num : Int
  e : Int
  a : Int
  gs : List (List Int)
def Sp.zero : Sp := ⟨0, 0, 0, []⟩

/-- What a page may be. -/
structure SpOk (p : Sp) : Prop where
  few : p.gs.length ≤ 8
  lo : 0 ≤ p.num
  hi : p.num ≤ 18446744073709551615
  e : fok1 .i64 p.e
  a : fok1 .i64 p.a
  gs : ∀ q ∈ p.gs, fok gotK q
  z : p.num = 0 → p = Sp.zero
theorem SpOk.zero : SpOk Sp.zero := ⟨by simp [Sp.zero], by simp [Sp.zero], by simp [Sp.zero], ⟨by simp [Sp.zero], by simp [Sp.zero]⟩, ⟨by simp [Sp.zero], by simp [Sp.zero]⟩, by simp [Sp.zero], fun _ => rfl⟩
def pgCells (p : Sp) (v : Value) : List Value := [.int .u64 p.num, .int .i64 p.e, .int .i64 p.a, v]
def bkCells (B : Nat → Sp) (V : Nat → Value) : List Value :=
  pgCells (B 0) (V 0) ++ pgCells (B 1) (V 1) ++ pgCells (B 2) (V 2) ++ pgCells (B 3) (V 3) ++ pgCells (B 4) (V 4) ++ pgCells (B 5) (V 5) ++ pgCells (B 6) (V 6) ++ pgCells (B 7) (V 7) ++ [.bool true]
theorem bkCells_get (B : Nat → Sp) (V : Nat → Value) (i j : Nat) (hi : i < 8) (hj : j < 4) : (bkCells B V).toArray[i * 4 + j]? = (pgCells (B i) (V i))[j]? := by
  match i, hi, j, hj with
  | 0, _, 0, _ => rfl | 0, _, 1, _ => rfl | 0, _, 2, _ => rfl | 0, _, 3, _ => rfl
  | 1, _, 0, _ => rfl | 1, _, 1, _ => rfl | 1, _, 2, _ => rfl | 1, _, 3, _ => rfl
  | 2, _, 0, _ => rfl | 2, _, 1, _ => rfl | 2, _, 2, _ => rfl | 2, _, 3, _ => rfl
  | 3, _, 0, _ => rfl | 3, _, 1, _ => rfl | 3, _, 2, _ => rfl | 3, _, 3, _ => rfl
  | 4, _, 0, _ => rfl | 4, _, 1, _ => rfl | 4, _, 2, _ => rfl | 4, _, 3, _ => rfl
  | 5, _, 0, _ => rfl | 5, _, 1, _ => rfl | 5, _, 2, _ => rfl | 5, _, 3, _ => rfl
  | 6, _, 0, _ => rfl | 6, _, 1, _ => rfl | 6, _, 2, _ => rfl | 6, _, 3, _ => rfl
  | 7, _, 0, _ => rfl | 7, _, 1, _ => rfl | 7, _, 2, _ => rfl | 7, _, 3, _ => rfl
theorem bkCells_set (B : Nat → Sp) (V : Nat → Value) (i : Nat) (hi : i < 8) (p : Sp) (v : Value) :
    ((((bkCells B V).toArray.setIfInBounds (i * 4) (.int .u64 p.num)).setIfInBounds (i * 4 + 1) (.int .i64 p.e)).setIfInBounds (i * 4 + 2) (.int .i64 p.a)).setIfInBounds (i * 4 + 3) v =
      (bkCells (fun k => if k = i then p else B k) (fun k => if k = i then v else V k)).toArray := by
  simp only [List.setIfInBounds_toArray]
  congr 1
  match i, hi with
  | 0, _ => simp [bkCells, pgCells]
  | 1, _ => simp [bkCells, pgCells]
  | 2, _ => simp [bkCells, pgCells]
  | 3, _ => simp [bkCells, pgCells]
  | 4, _ => simp [bkCells, pgCells]
  | 5, _ => simp [bkCells, pgCells]
  | 6, _ => simp [bkCells, pgCells]
  | 7, _ => simp [bkCells, pgCells]

/-- Block b is a book of these pages; the pages' rows lie in blocks of F. -/
def IsBk (F : Nat → Prop) (w : World) (b : Nat) (B : Nat → Sp) : Prop :=
  ∃ V, Blk w b 64 (bkCells B V).toArray ∧ ∀ i, i < 8 → Ow 0 w 42 2 (V i) (B i).gs.length ((B i).gs.flatMap (fc gotK)) ∧ (∀ k, (V i).ownBlock = some k → F k) ∧ SpOk (B i)

theorem IsBk.made {F : Nat → Prop} {w : World} {b : Nat} {B : Nat → Sp} (h : IsBk F w b B) : w.cell? ⟨b, 32, none⟩ = some (.bool true) := by
  obtain ⟨V, hb, _⟩ := h
  rw [hb.cell]; rfl
theorem IsBk.lt {F : Nat → Prop} {w : World} {b : Nat} {B : Nat → Sp} (h : IsBk F w b B) : b < w.heap.size := by
  obtain ⟨V, hb, _⟩ := h; exact hb.lt
theorem IsBk.below {F : Nat → Prop} {w w' : World} {b : Nat} {B : Nat → Sp} (h : IsBk F w b B) (hb : Below w.heap.size w w') : IsBk F w' b B := by
  obtain ⟨V, hk, hv⟩ := h
  exact ⟨V, hk.below hb hk.lt, fun i hi => ⟨(hv i hi).1.below hb, (hv i hi).2⟩⟩
theorem IsBk.mono {F G : Nat → Prop} {w : World} {b : Nat} {B : Nat → Sp} (h : IsBk F w b B) (hg : ∀ k, F k → G k) : IsBk G w b B := by
  obtain ⟨V, hk, hv⟩ := h
  exact ⟨V, hk, fun i hi => ⟨(hv i hi).1, fun k hk => hg k ((hv i hi).2.1 k hk), (hv i hi).2.2⟩⟩
theorem ow_lt {w : World} {B e size n : Nat} {v : Value} {xs : List Value} (h : Ow B w e size v n xs) : ∀ k, v.ownBlock = some k → k < w.heap.size := by
  intro k hk
  rcases h with ⟨rfl, _, _⟩ | ⟨g, c, cur, rfl, _, hg, _⟩
  · cases hk
  · obtain rfl : g = k := by simpa [Value.ownBlock] using hk
    exact hg.lt
theorem IsBk.lts {F : Nat → Prop} {w : World} {b : Nat} {B : Nat → Sp} (h : IsBk F w b B) : IsBk (· < w.heap.size) w b B := by
  obtain ⟨V, hk, hv⟩ := h
  exact ⟨V, hk, fun i hi => ⟨(hv i hi).1, ow_lt (hv i hi).1, (hv i hi).2.2⟩⟩
theorem IsBk.ok {F : Nat → Prop} {w : World} {b : Nat} {B : Nat → Sp} (h : IsBk F w b B) (i : Nat) (hi : i < 8) : SpOk (B i) := by
  obtain ⟨V, hk, hv⟩ := h; exact (hv i hi).2.2
/-- Block r has turned, which is none of the book's. -/
theorem IsBk.keep {F : Nat → Prop} {w w' : World} {b r : Nat} {B : Nat → Sp} (h : IsBk F w b B) (hg : w.grownBy w' (some r)) (hb : b ≠ r) (hr : ¬ F r) : IsBk F w' b B := by
  obtain ⟨V, hk, hv⟩ := h
  refine ⟨V, hk.grown hg (fun e => hb (Option.some.inj e)), fun i hi => ⟨?_, (hv i hi).2⟩⟩
  rcases (hv i hi).1 with h | ⟨g, c, cur, hV, hB, hk', h'⟩
  · exact .inl h
  · refine .inr ⟨g, c, cur, hV, hB, hk'.grown hg (fun e => ?_), h'⟩
    have hfg := (hv i hi).2.1 g (by rw [hV]; simp [Value.ownBlock])
    rw [Option.some.inj e] at hfg
    exact hr hfg

theorem page_arg (b : Nat) (c : Int) (w : World) (hm : w.cell? ⟨b, 32, none⟩ = some (.bool true)) (hc : c < 1 ∨ 8 < c) :
    Calls Try.prog 25 #[.pointer (some ⟨b, 0, none⟩), .int .u8 c] w fun e w' => e = .returned (.tuple #[.pointer none, .int .i64 1]) ∧ w = w' := by
  rcases hc with hc | hc
  · go_enter Try.func25, Try.ntmps25
    go_wp2
    go_ret2
    exact ⟨rfl, rfl⟩
  · have hc' : ¬ c < 1 := by omega
    go_enter Try.func25, Try.ntmps25
    go_wp2
    go_ret2
    exact ⟨rfl, rfl⟩

theorem page_ok (b i : Nat) (w : World) (hm : w.cell? ⟨b, 32, none⟩ = some (.bool true)) (hi : i < 8) :
    Calls Try.prog 25 #[.pointer (some ⟨b, 0, none⟩), .int .u8 (i + 1)] w fun e w' => e = .returned (.tuple #[.pointer (some ⟨b, i * 4, none⟩), .int .i64 0]) ∧ w = w' := by
  have h1 : ¬ ((i : Int) + 1) < 1 := by omega
  have h2 : ¬ 8 < ((i : Int) + 1) := by omega
  go_enter Try.func25, Try.ntmps25
  go_wp2
  go_ret2
  exact ⟨rfl, rfl⟩

theorem last_ok (b i : Nat) (B : Nat → Sp) (w : World) {F : Nat → Prop} (h : IsBk F w b B) (hi : i < 8) :
    Calls Try.prog 13 #[.pointer (some ⟨b, 0, none⟩), .int .u8 (i + 1)] w fun e w' => e = .returned (.int .u64 (B i).num) ∧ w = w' := by
  have hm := Lib.hid h.made
  obtain ⟨V, hb, _⟩ := h
  have hc : w.cell? ⟨b, i * 4, none⟩ = some (.int .u64 (B i).num) := by rw [hb.cell]; exact bkCells_get B V i 0 hi (by omega)
  clear hb
  go_enter Try.func13, Try.ntmps13
  go_wp2_with (go_at_call 25; refine (page_ok b i _ hm.out hi).mono ?_; rintro e w' ⟨rfl, rfl⟩)
  go_ret
  exact ⟨rfl, rfl⟩

theorem last_arg (b : Nat) (c : Int) (B : Nat → Sp) (w : World) {F : Nat → Prop} (h : IsBk F w b B) (hc : c < 1 ∨ 8 < c) :
    Calls Try.prog 13 #[.pointer (some ⟨b, 0, none⟩), .int .u8 c] w fun e w' => e = .returned (.int .u64 0) ∧ w = w' := by
  have hm := Lib.hid h.made
  have HC := Lib.hid hc
  clear h hc
  go_enter Try.func13, Try.ntmps13
  go_wp2_with (go_at_call 25; refine (page_arg b c _ hm.out HC.out).mono ?_; rintro e w' ⟨rfl, rfl⟩)
  go_ret
  exact ⟨rfl, rfl⟩

/- from BkB -/

def updB (B : Nat → Sp) (i : Nat) (p : Sp) : Nat → Sp := fun k => if k = i then p else B k

theorem note_arg (b : Nat) (B : Nat → Sp) (c n E A : Int) (v : Value) (w : World) {F : Nat → Prop} (h : IsBk F w b B) (hc : c < 1 ∨ 8 < c) :
    Calls Try.prog 9 #[.pointer (some ⟨b, 0, none⟩), .int .u8 c, .int .u64 n, repV E A v] w fun e w' => e = .returned (.int .i64 1) ∧ Below w.heap.size w w' := by
  have hm := Lib.hid (show (w.alloc (.cells #[.int .i64 E, .int .i64 A, v] 33)).cell? ⟨b, 32, none⟩ = some (.bool true) from (World.cell?_alloc_lt _ _ _ h.lt).trans h.made)
  have HC := Lib.hid hc
  clear h hc
  go_enter Try.func9, Try.ntmps9
  go_wp2_with (go_at_call 25; refine (page_arg b c _ hm.out HC.out).mono ?_; rintro e w' ⟨rfl, rfl⟩)
  go_ret
  exact ⟨rfl, below_alloc_ _ _⟩

theorem note_long (b i : Nat) (B : Nat → Sp) (n E A : Int) (P : Option Addr) (k c0 : Nat) (w : World) {F : Nat → Prop} (h : IsBk F w b B) (hi : i < 8) (hk : 8 < k) :
    Calls Try.prog 9 #[.pointer (some ⟨b, 0, none⟩), .int .u8 (i + 1), .int .u64 n, repV E A (.slice P k c0)] w fun e w' => e = .returned (.int .i64 1) ∧ Below w.heap.size w w' := by
  have hm := Lib.hid (show (w.alloc (.cells #[.int .i64 E, .int .i64 A, .slice P k c0] 33)).cell? ⟨b, 32, none⟩ = some (.bool true) from (World.cell?_alloc_lt _ _ _ h.lt).trans h.made)
  have hk' : (8 : Int) < (k : Int) := by omega
  clear h
  go_enter Try.func9, Try.ntmps9
  go_wp2_with (go_at_call 25; refine (page_ok b i _ hm.out hi).mono ?_; rintro e w' ⟨rfl, rfl⟩)
  go_ret
  exact ⟨rfl, below_alloc_ _ _⟩

theorem note_old (b i : Nat) (B : Nat → Sp) (n E A : Int) (P : Option Addr) (k c0 : Nat) (w : World) {F : Nat → Prop} (h : IsBk F w b B) (hi : i < 8) (hk : k ≤ 8) (hn : n ≤ (B i).num) :
    Calls Try.prog 9 #[.pointer (some ⟨b, 0, none⟩), .int .u8 (i + 1), .int .u64 n, repV E A (.slice P k c0)] w fun e w' => e = .returned (.int .i64 18) ∧ Below w.heap.size w w' := by
  have hm := Lib.hid (show (w.alloc (.cells #[.int .i64 E, .int .i64 A, .slice P k c0] 33)).cell? ⟨b, 32, none⟩ = some (.bool true) from (World.cell?_alloc_lt _ _ _ h.lt).trans h.made)
  have hk' : ¬ (8 : Int) < (k : Int) := by omega
  have hlt := h.lt
  obtain ⟨V, hb, _⟩ := h
  have hc : w.cell? ⟨b, i * 4, none⟩ = some (.int .u64 (B i).num) := by rw [hb.cell]; exact bkCells_get B V i 0 hi (by omega)
  have hc' : (w.alloc (.cells #[.int .i64 E, .int .i64 A, .slice P k c0] 33)).cell? ⟨b, i * 4, none⟩ = some (.int .u64 (B i).num) := (World.cell?_alloc_lt _ _ _ hlt).trans hc
  clear hb hc hlt
  go_enter Try.func9, Try.ntmps9
  go_wp2_with (go_at_call 25; refine (page_ok b i _ hm.out hi).mono ?_; rintro e w' ⟨rfl, rfl⟩)
  go_ret
  exact ⟨rfl, below_alloc_ _ _⟩

set_option maxHeartbeats 1000000 in
theorem note_new (b i : Nat) (B : Nat → Sp) (n E A : Int) (v : Value) (gs : List (List Int)) (w : World) {F : Nat → Prop} (h : IsBk F w b B) (hi : i < 8) (hv : Gots w v gs) (hk : gs.length ≤ 8) (hn : (B i).num < n) (hn2 : n ≤ 18446744073709551615) (fE : fok1 .i64 E) (fA : fok1 .i64 A) (fG : ∀ q ∈ gs, fok gotK q) :
    Calls Try.prog 9 #[.pointer (some ⟨b, 0, none⟩), .int .u8 (i + 1), .int .u64 n, repV E A v] w fun e w' => e = .returned (.int .i64 0) ∧ IsBk (fun k => F k ∨ w.heap.size ≤ k) w' b (updB B i ⟨n, E, A, gs⟩) ∧ w.grownBy w' (some b) := by
  have hv' : ∃ P c, v = .slice P gs.length c := by obtain ⟨P, c, hv, _⟩ := hv; exact ⟨P, c, hv⟩
  obtain ⟨P0, c0, rfl⟩ := hv'
  have hm := Lib.hid (show (w.alloc (.cells #[.int .i64 E, .int .i64 A, .slice P0 gs.length c0] 33)).cell? ⟨b, 32, none⟩ = some (.bool true) from (World.cell?_alloc_lt _ _ _ h.lt).trans h.made)
  have hk' : ¬ (8 : Int) < (gs.length : Int) := by omega
  have hn' : ¬ n ≤ (B i).num := by omega
  have H := Lib.hid h
  have hlt := h.lt
  have HV := Lib.hid (Rd.alloc hv (.cells #[.int .i64 E, .int .i64 A, .slice P0 gs.length c0] 33))
  obtain ⟨V, hb, _⟩ := h
  have hc : w.cell? ⟨b, i * 4, none⟩ = some (.int .u64 (B i).num) := by rw [hb.cell]; exact bkCells_get B V i 0 hi (by omega)
  have hc' : (w.alloc (.cells #[.int .i64 E, .int .i64 A, .slice P0 gs.length c0] 33)).cell? ⟨b, i * 4, none⟩ = some (.int .u64 (B i).num) := (World.cell?_alloc_lt _ _ _ hlt).trans hc
  clear hb hc hv
  go_enter Try.func9, Try.ntmps9
  go_wp2_with (go_at_call 25; refine (page_ok b i _ hm.out hi).mono ?_; rintro e w' ⟨rfl, rfl⟩)
  refine (own_any E A _ gs _ HV.out (by omega)).mono ?_
  rintro e w1 ⟨P, rfl, ho, hb1⟩
  have HBel := Lib.hid ((below_alloc_ w (.cells #[.int .i64 E, .int .i64 A, .slice P0 gs.length c0] 33)).trans (hb1.mono (by simp)))
  have HO := Lib.hid ho
  obtain ⟨V, hk1, hvs⟩ := H.out.below HBel.out
  have g0 : w1.cell? ⟨b, i * 4, none⟩ = some (.int .u64 (B i).num) := by rw [hk1.cell]; exact bkCells_get B V i 0 hi (by omega)
  have g1 : w1.cell? ⟨b, i * 4 + 1, none⟩ = some (.int .i64 (B i).e) := by rw [hk1.cell]; exact bkCells_get B V i 1 hi (by omega)
  have g2 : w1.cell? ⟨b, i * 4 + 2, none⟩ = some (.int .i64 (B i).a) := by rw [hk1.cell]; exact bkCells_get B V i 2 hi (by omega)
  have g3 : w1.cell? ⟨b, i * 4 + 3, none⟩ = some (V i) := by rw [hk1.cell]; exact bkCells_get B V i 3 hi (by omega)
  have f1 := hk1.free
  have HK := Lib.hid hk1
  have HVS := Lib.hid hvs
  clear ho hb1 hk1 hvs hc'
  go_wp2
  go_ret
  refine ⟨rfl, ⟨fun k => if k = i then .slice P gs.length gs.length else V k, ?_, ?_⟩, ?_⟩
  · have := (((HK.out.set_ (i * 4) (.int .u64 n)).set_ (i * 4 + 1) (.int .i64 E)).set_ (i * 4 + 2) (.int .i64 A)).set_ (i * 4 + 3) (.slice P gs.length gs.length)
    rw [bkCells_set B V i hi ⟨n, E, A, gs⟩] at this
    exact this
  · intro j hj
    have K1 := HK.out.set_ (i * 4) (.int .u64 n)
    have K2 := K1.set_ (i * 4 + 1) (.int .i64 E)
    have K3 := K2.set_ (i * 4 + 2) (.int .i64 A)
    have far : ∀ {v : Value} {k : Nat} {xs : List Value} {D : Nat}, Ow D w1 42 2 v k xs → Ow 0 ((((w1.setCell ⟨b, i * 4, none⟩ (.int .u64 n)).setCell ⟨b, i * 4 + 1, none⟩ (.int .i64 E)).setCell ⟨b, i * 4 + 2, none⟩ (.int .i64 A)).setCell ⟨b, i * 4 + 3, none⟩ (.slice P gs.length gs.length)) 42 2 v k xs :=
      fun h => ((((h.aside HK.out (by decide) _ _).aside K1 (by decide) _ _).aside K2 (by decide) _ _).aside K3 (by decide) _ _).le (Nat.zero_le _)
    by_cases hji : j = i
    · subst hji
      simp only [updB, if_true]
      have ok := (HVS.out j hj).2.2
      exact ⟨far HO.out, fun k hk => .inr (Nat.le_trans (by simp) (Ow.blk_lt HO.out k hk)), hk, by have := ok.lo; simp only; omega, hn2, fE, fA, fG, fun h0 => by have := ok.lo; simp only at h0; omega⟩
    · simp only [updB, if_neg hji]
      exact ⟨far (HVS.out j hj).1, fun k hk => .inl ((HVS.out j hj).2.1 k hk), (HVS.out j hj).2.2⟩
  · exact grown_trans_ (grown_trans_ (grown_trans_ (grown_trans_ (grown_below_ HBel.out _) (grown_set_ _ b _ _)) (grown_set_ _ b _ _)) (grown_set_ _ b _ _)) (grown_set_ _ b _ _)

/-- Note's answer: whatever is noted. -/
def noteE (B : Nat → Sp) (c n : Int) (k : Nat) : Int := if c < 1 ∨ 8 < c then 1 else if 8 < k then 1 else if n ≤ (B (c - 1).toNat).num then 18 else 0
def noteB (B : Nat → Sp) (c n E A : Int) (gs : List (List Int)) : Nat → Sp := if noteE B c n gs.length = 0 then updB B (c - 1).toNat ⟨n, E, A, gs⟩ else B

theorem note_any (b : Nat) (B : Nat → Sp) (c n E A : Int) (v : Value) (gs : List (List Int)) (w : World) {F : Nat → Prop} (h : IsBk F w b B) (hv : Gots w v gs) (hn2 : n ≤ 18446744073709551615) (fE : fok1 .i64 E) (fA : fok1 .i64 A) (fG : ∀ q ∈ gs, fok gotK q) :
    Calls Try.prog 9 #[.pointer (some ⟨b, 0, none⟩), .int .u8 c, .int .u64 n, repV E A v] w fun e w' => e = .returned (.int .i64 (noteE B c n gs.length)) ∧ IsBk (fun k => F k ∨ w.heap.size ≤ k) w' b (noteB B c n E A gs) ∧ w.grownBy w' (some b) := by
  unfold noteB noteE
  by_cases h1 : c < 1 ∨ 8 < c
  · rw [if_pos h1, if_neg (by decide)]
    exact (note_arg b B c n E A v w h h1).mono fun _ _ ⟨he, hb⟩ => ⟨he, (h.below hb).mono fun _ hk => .inl hk, grown_below_ hb _⟩
  · rw [if_neg h1]
    obtain ⟨i, hi, rfl⟩ : ∃ i : Nat, i < 8 ∧ c = i + 1 := ⟨(c - 1).toNat, by omega, by omega⟩
    have e1 : ((i : Int) + 1 - 1).toNat = i := by omega
    rw [e1]
    have hv' : ∃ P c, v = .slice P gs.length c := by obtain ⟨P, c, hv, _⟩ := hv; exact ⟨P, c, hv⟩
    obtain ⟨P0, c0, rfl⟩ := hv'
    by_cases h2 : 8 < gs.length
    · rw [if_pos h2, if_neg (by decide)]
      exact (note_long b i B n E A P0 gs.length c0 w h hi h2).mono fun _ _ ⟨he, hb⟩ => ⟨he, (h.below hb).mono fun _ hk => .inl hk, grown_below_ hb _⟩
    · rw [if_neg h2]
      by_cases h3 : n ≤ (B i).num
      · rw [if_pos h3, if_neg (by decide)]
        exact (note_old b i B n E A P0 gs.length c0 w h hi (by omega) h3).mono fun _ _ ⟨he, hb⟩ => ⟨he, (h.below hb).mono fun _ hk => .inl hk, grown_below_ hb _⟩
      · rw [if_neg h3, if_pos rfl]
        exact note_new b i B n E A _ gs w h hi hv (by omega) (by omega) hn2 fE fA fG

/- from BkC -/

abbrev rz : Array Value := #[.int .i64 0, .int .i64 0, .slice none 0 0]

theorem new_any (w : World) : Calls Try.prog 8 #[] w fun e w' => e = .returned (.pointer (some ⟨w.heap.size, 0, none⟩)) ∧ IsBk (fun _ => False) w' w.heap.size (fun _ => Sp.zero) ∧ Below w.heap.size w w' := by
  go_enter Try.func8, Try.ntmps8
  go_wp2
  go_ret
  refine ⟨rfl, ⟨fun _ => .slice none 0 0, Blk.new _ _ _, fun i _ => ⟨.inl ⟨rfl, rfl, rfl⟩, (fun k hk => by cases hk), SpOk.zero⟩⟩, below_alloc_ _ _⟩

theorem ask_arg (b : Nat) (B : Nat → Sp) (c n : Int) (w : World) {F : Nat → Prop} (h : IsBk F w b B) (hc : c < 1 ∨ 8 < c) :
    Calls Try.prog 14 #[.pointer (some ⟨b, 0, none⟩), .int .u8 c, .int .u64 n] w fun e w' => e = .returned (.tuple #[repV 0 0 (.slice none 0 0), .bool false, .int .i64 1]) ∧ Below w.heap.size w w' := by
  have hm := Lib.hid (show (w.alloc (.cells rz 33)).cell? ⟨b, 32, none⟩ = some (.bool true) from (World.cell?_alloc_lt _ _ _ h.lt).trans h.made)
  have HC := Lib.hid hc
  clear h hc
  go_enter Try.func14, Try.ntmps14
  go_wp2_with (go_at_call 25; refine (page_arg b c _ hm.out HC.out).mono ?_; rintro e w' ⟨rfl, rfl⟩)
  refine bodyPost_ret (v := .tuple #[repV 0 0 (.slice none 0 0), .bool false, .int .i64 1]) (by simp [results, Try.results14, go_sem]) rfl ⟨rfl, below_alloc_ _ _⟩

theorem ask_new (b i : Nat) (B : Nat → Sp) (n : Int) (w : World) {F : Nat → Prop} (h : IsBk F w b B) (hi : i < 8) (hn : (B i).num < n) :
    Calls Try.prog 14 #[.pointer (some ⟨b, 0, none⟩), .int .u8 (i + 1), .int .u64 n] w fun e w' => e = .returned (.tuple #[repV 0 0 (.slice none 0 0), .bool false, .int .i64 0]) ∧ Below w.heap.size w w' := by
  have hm := Lib.hid (show (w.alloc (.cells rz 33)).cell? ⟨b, 32, none⟩ = some (.bool true) from (World.cell?_alloc_lt _ _ _ h.lt).trans h.made)
  have hlt := h.lt
  obtain ⟨V, hb, _⟩ := h
  have hc : w.cell? ⟨b, i * 4, none⟩ = some (.int .u64 (B i).num) := by rw [hb.cell]; exact bkCells_get B V i 0 hi (by omega)
  have hc' : (w.alloc (.cells rz 33)).cell? ⟨b, i * 4, none⟩ = some (.int .u64 (B i).num) := (World.cell?_alloc_lt _ _ _ hlt).trans hc
  clear hb hc hlt
  go_enter Try.func14, Try.ntmps14
  go_wp2_with (go_at_call 25; refine (page_ok b i _ hm.out hi).mono ?_; rintro e w' ⟨rfl, rfl⟩)
  refine bodyPost_ret (v := .tuple #[repV 0 0 (.slice none 0 0), .bool false, .int .i64 0]) (by simp [results, Try.results14, go_sem]) rfl ⟨rfl, below_alloc_ _ _⟩

theorem ask_old (b i : Nat) (B : Nat → Sp) (n : Int) (w : World) {F : Nat → Prop} (h : IsBk F w b B) (hi : i < 8) (hn : n < (B i).num ∨ n = 0) (hn' : ¬ (B i).num < n) :
    Calls Try.prog 14 #[.pointer (some ⟨b, 0, none⟩), .int .u8 (i + 1), .int .u64 n] w fun e w' => e = .returned (.tuple #[repV 0 0 (.slice none 0 0), .bool false, .int .i64 18]) ∧ Below w.heap.size w w' := by
  have hm := Lib.hid (show (w.alloc (.cells rz 33)).cell? ⟨b, 32, none⟩ = some (.bool true) from (World.cell?_alloc_lt _ _ _ h.lt).trans h.made)
  have hlt := h.lt
  obtain ⟨V, hb, _⟩ := h
  have hc : w.cell? ⟨b, i * 4, none⟩ = some (.int .u64 (B i).num) := by rw [hb.cell]; exact bkCells_get B V i 0 hi (by omega)
  have hc' : (w.alloc (.cells rz 33)).cell? ⟨b, i * 4, none⟩ = some (.int .u64 (B i).num) := (World.cell?_alloc_lt _ _ _ hlt).trans hc
  clear hb hc hlt
  by_cases h1 : n < (B i).num
  · clear hn
    go_enter Try.func14, Try.ntmps14
    go_wp2_with (go_at_call 25; refine (page_ok b i _ hm.out hi).mono ?_; rintro e w' ⟨rfl, rfl⟩)
    refine bodyPost_ret (v := .tuple #[repV 0 0 (.slice none 0 0), .bool false, .int .i64 18]) (by simp [results, Try.results14, go_sem]) rfl ⟨rfl, below_alloc_ _ _⟩
  · have h0 : n = 0 := by omega
    clear hn
    subst h0
    go_enter Try.func14, Try.ntmps14
    go_wp2_with (go_at_call 25; refine (page_ok b i _ hm.out hi).mono ?_; rintro e w' ⟨rfl, rfl⟩)
    refine bodyPost_ret (v := .tuple #[repV 0 0 (.slice none 0 0), .bool false, .int .i64 18]) (by simp [results, Try.results14, go_sem]) rfl ⟨rfl, below_alloc_ _ _⟩

set_option maxHeartbeats 1000000 in
theorem ask_last (b i : Nat) (B : Nat → Sp) (n : Int) (w : World) {F : Nat → Prop} (h : IsBk F w b B) (hi : i < 8) (hn : (B i).num = n) (hn0 : ¬ n = 0) :
    Calls Try.prog 14 #[.pointer (some ⟨b, 0, none⟩), .int .u8 (i + 1), .int .u64 n] w fun e w' => ∃ P, e = .returned (.tuple #[repV (B i).e (B i).a (.slice P (B i).gs.length (B i).gs.length), .bool true, .int .i64 0]) ∧
      Ow w.heap.size w' 42 2 (.slice P (B i).gs.length (B i).gs.length) (B i).gs.length ((B i).gs.flatMap (fc gotK)) ∧ Below w.heap.size w w' := by
  have hm := Lib.hid (show (w.alloc (.cells rz 33)).cell? ⟨b, 32, none⟩ = some (.bool true) from (World.cell?_alloc_lt _ _ _ h.lt).trans h.made)
  have h' := h.below (below_alloc_ w (.cells rz 33))
  obtain ⟨V, hb, hv⟩ := h'
  have c0 : (w.alloc (.cells rz 33)).cell? ⟨b, i * 4, none⟩ = some (.int .u64 (B i).num) := by rw [hb.cell]; exact bkCells_get B V i 0 hi (by omega)
  have c1 : (w.alloc (.cells rz 33)).cell? ⟨b, i * 4 + 1, none⟩ = some (.int .i64 (B i).e) := by rw [hb.cell]; exact bkCells_get B V i 1 hi (by omega)
  have c2 : (w.alloc (.cells rz 33)).cell? ⟨b, i * 4 + 2, none⟩ = some (.int .i64 (B i).a) := by rw [hb.cell]; exact bkCells_get B V i 2 hi (by omega)
  have c3 : (w.alloc (.cells rz 33)).cell? ⟨b, i * 4 + 3, none⟩ = some (V i) := by rw [hb.cell]; exact bkCells_get B V i 3 hi (by omega)
  have hvi := (hv i hi).1.rd
  obtain ⟨E, hE⟩ : ∃ E, E = (B i).e := ⟨_, rfl⟩
  obtain ⟨A, hA⟩ : ∃ A, A = (B i).a := ⟨_, rfl⟩
  obtain ⟨gs, hgs⟩ : ∃ gs, gs = (B i).gs := ⟨_, rfl⟩
  have h8 : gs.length ≤ 8 := by rw [hgs]; exact (hv i hi).2.2.few
  rw [hn] at c0
  rw [← hE] at c1
  rw [← hA] at c2
  rw [← hgs] at hvi
  rw [← hE, ← hA, ← hgs]
  obtain ⟨P0, k0, hV, _⟩ := id hvi
  rw [hV] at c3 hvi
  have HV := Lib.hid hvi
  have HB := Lib.hid (Blk.new w 33 rz)
  have nb : ¬ n < n := by omega
  clear hb hv hvi hE hA hgs hV hn h
  go_enter Try.func14, Try.ntmps14
  go_wp2_with (go_at_call 25; refine (page_ok b i _ hm.out hi).mono ?_; rintro e w' ⟨rfl, rfl⟩)
  refine (own_any E A _ gs _ HV.out (by omega)).mono ?_
  rintro e w1 ⟨P, rfl, ho, hb1⟩
  have HBel := Lib.hid ((below_alloc_ w (.cells rz 33)).trans (hb1.mono (by simp)))
  have HO := Lib.hid ho
  have hk1 := HB.out.below hb1 (by simp)
  have g0 := hk1.cell 0
  have g1 := hk1.cell 1
  have g2 := hk1.cell 2
  simp at g0 g1 g2
  have f1 := hk1.free
  have HK := Lib.hid hk1
  have hs1 : w.heap.size < w1.heap.size := hk1.lt
  clear ho hb1 hk1 c0 c1 c2 c3
  go_wp2
  have bf := ((HK.out.set_ 0 (.int .i64 E)).set_ 1 (.int .i64 A)).set_ 2 (.slice P gs.length gs.length)
  have r0 := bf.cell 0
  have r1 := bf.cell 1
  have r2 := bf.cell 2
  simp at r0 r1 r2
  refine bodyPost_ret (v := .tuple #[repV E A (.slice P gs.length gs.length), .bool true, .int .i64 0]) (by simp [results, Try.results14, go_sem, r0, r1, r2]) rfl ⟨P, rfl, ?_, ?_⟩
  · exact (((HO.out.far (p := ⟨w.heap.size, 0, none⟩) (by simp) _).far (p := ⟨w.heap.size, 1, none⟩) (by simp) _).far (p := ⟨w.heap.size, 2, none⟩) (by simp) _).le (by simp)
  · exact ((HBel.out.setCell (p := ⟨w.heap.size, 0, none⟩) (Nat.le_refl _) _).setCell (p := ⟨w.heap.size, 1, none⟩) (Nat.le_refl _) _).setCell (p := ⟨w.heap.size, 2, none⟩) (Nat.le_refl _) _

/-- Ask's answer: the reply, whether it is the last, the error. -/
def askR (B : Nat → Sp) (c n : Int) : (Int × Int × List (List Int)) × Bool × Int :=
  if c < 1 ∨ 8 < c then ((0, 0, []), false, 1) else if (B (c - 1).toNat).num < n then ((0, 0, []), false, 0) else if n < (B (c - 1).toNat).num ∨ n = 0 then ((0, 0, []), false, 18)
  else (((B (c - 1).toNat).e, (B (c - 1).toNat).a, (B (c - 1).toNat).gs), true, 0)

theorem ask_any (b : Nat) (B : Nat → Sp) (c n : Int) (w : World) {F : Nat → Prop} (h : IsBk F w b B) :
    Calls Try.prog 14 #[.pointer (some ⟨b, 0, none⟩), .int .u8 c, .int .u64 n] w fun e w' => ∃ P, e = .returned (.tuple #[repV (askR B c n).1.1 (askR B c n).1.2.1 (.slice P (askR B c n).1.2.2.length (askR B c n).1.2.2.length), .bool (askR B c n).2.1, .int .i64 (askR B c n).2.2]) ∧
      Ow w.heap.size w' 42 2 (.slice P (askR B c n).1.2.2.length (askR B c n).1.2.2.length) (askR B c n).1.2.2.length ((askR B c n).1.2.2.flatMap (fc gotK)) ∧ Below w.heap.size w w' := by
  unfold askR
  by_cases h1 : c < 1 ∨ 8 < c
  · rw [if_pos h1]
    exact (ask_arg b B c n w h h1).mono fun _ _ ⟨he, hb⟩ => ⟨none, he, .inl ⟨rfl, rfl, rfl⟩, hb⟩
  · rw [if_neg h1]
    obtain ⟨i, hi, rfl⟩ : ∃ i : Nat, i < 8 ∧ c = i + 1 := ⟨(c - 1).toNat, by omega, by omega⟩
    have e1 : ((i : Int) + 1 - 1).toNat = i := by omega
    rw [e1]
    by_cases h2 : (B i).num < n
    · rw [if_pos h2]
      exact (ask_new b i B n w h hi h2).mono fun _ _ ⟨he, hb⟩ => ⟨none, he, .inl ⟨rfl, rfl, rfl⟩, hb⟩
    · rw [if_neg h2]
      by_cases h3 : n < (B i).num ∨ n = 0
      · rw [if_pos h3]
        exact (ask_old b i B n w h hi h3 h2).mono fun _ _ ⟨he, hb⟩ => ⟨none, he, .inl ⟨rfl, rfl, rfl⟩, hb⟩
      · rw [if_neg h3]
        exact ask_last b i B n w h hi (by omega) (by omega)

/- from SesL -/

theorem note_ex : noteE (fun _ => Sp.zero) 1 5 1 = 0 := by decide
def BL : Nat → Sp := noteB (fun _ => Sp.zero) 1 5 0 0 [[3, 0]]
theorem ask_ex5 : askR BL 1 5 = ((0, 0, [[3, 0]]), true, 0) := rfl
theorem ask_ex4 : askR BL 1 4 = ((0, 0, []), false, 18) := rfl
theorem ask_ex9 : askR BL 1 9 = ((0, 0, []), false, 0) := rfl

theorem ask_at (b : Nat) (B : Nat → Sp) (c n E A R : Int) (gs : List (List Int)) (l : Bool) (w : World) {F : Nat → Prop} (h : IsBk F w b B) (hr : askR B c n = ((E, A, gs), l, R)) :
    Calls Try.prog 14 #[.pointer (some ⟨b, 0, none⟩), .int .u8 c, .int .u64 n] w fun e w' => ∃ P, e = .returned (.tuple #[repV E A (.slice P gs.length gs.length), .bool l, .int .i64 R]) ∧
      Ow w.heap.size w' 42 2 (.slice P gs.length gs.length) gs.length (gs.flatMap (fc gotK)) ∧ Below w.heap.size w w' := by
  have := ask_any b B c n w h
  rw [hr] at this
  exact this

theorem note_at (b : Nat) (B B' : Nat → Sp) (c n E A R : Int) (v : Value) (gs : List (List Int)) (w : World) {F : Nat → Prop} (h : IsBk F w b B) (hv : Gots w v gs) (hn2 : n ≤ 18446744073709551615) (fE : fok1 .i64 E) (fA : fok1 .i64 A) (fG : ∀ q ∈ gs, fok gotK q) (hR : noteE B c n gs.length = R) (hB : noteB B c n E A gs = B') :
    Calls Try.prog 9 #[.pointer (some ⟨b, 0, none⟩), .int .u8 c, .int .u64 n, repV E A v] w fun e w' => e = .returned (.int .i64 R) ∧ IsBk (fun k => F k ∨ w.heap.size ≤ k) w' b B' ∧ w.grownBy w' (some b) := by
  subst hR; subst hB; exact note_any b B c n E A v gs w h hv hn2 fE fA fG
theorem IsBk.blk {F : Nat → Prop} {w : World} {b : Nat} {B : Nat → Sp} (h : IsBk F w b B) : ∃ cs, Blk w b 64 cs := by
  obtain ⟨V, hb, _⟩ := h; exact ⟨_, hb⟩

set_option maxHeartbeats 2000000 in
theorem slives (w : World) : Calls Try.prog 7 #[] w fun e w' => e = .returned (.bool true) ∧ Below w.heap.size w w' := by
  go_enter Try.func7, Try.ntmps7
  go_wp2_with fail
  refine (new_any _).mono ?_
  rintro e w1 ⟨rfl, hB, hb1⟩
  have HB := Lib.hid ((hB.below (below_alloc_ w1 (.cells #[.int .i64 3, .int .i64 0] 42))).below (below_alloc_ _ (.cells #[.int .i64 0, .int .i64 0, .slice (some ⟨w1.heap.size, 0, none⟩) 1 1] 33)))
  have hG : Ow 0 ((w1.alloc (.cells #[.int .i64 3, .int .i64 0] 42)).alloc (.cells #[.int .i64 0, .int .i64 0, .slice (some ⟨w1.heap.size, 0, none⟩) 1 1] 33)) 42 2 (.slice (some ⟨w1.heap.size, 0, none⟩) 1 1) 1 ([[3, 0]].flatMap (fc gotK)) :=
    .inr ⟨w1.heap.size, 1, _, rfl, Nat.zero_le _, (Blk.new _ _ _).alloc _, Nat.le_refl _, rfl, by simp, rfl⟩
  have HG := Lib.hid hG
  have HW := Lib.hid (hb1.trans ((below_alloc2_ w1 (.cells #[.int .i64 3, .int .i64 0] 42) (.cells #[.int .i64 0, .int .i64 0, .slice (some ⟨w1.heap.size, 0, none⟩) 1 1] 33)).mono hb1.size))
  have hR := Blk.new (w1.alloc (.cells #[.int .i64 3, .int .i64 0] 42)) 33 #[.int .i64 0, .int .i64 0, .slice (some ⟨w1.heap.size, 0, none⟩) 1 1]
  rw [World.size_alloc] at hR
  have HR := Lib.hid hR
  have hbl : w.heap.size < w1.heap.size := hB.lt
  clear hB hb1 hG hR
  go_wp2_with fail
  refine (note_at w.heap.size (fun _ => Sp.zero) BL 1 5 0 0 0 _ [[3, 0]] _ HB.out (show Gots _ _ [[3, 0]] from HG.out.rd) (by omega) ⟨by omega, by omega⟩ ⟨by omega, by omega⟩ (by intro q hq; obtain rfl := List.mem_singleton.1 hq; exact ⟨⟨by omega, by omega⟩, ⟨by omega, by omega⟩, rfl⟩) rfl rfl).mono ?_
  rintro e w2 ⟨rfl, hB2, hg2⟩
  obtain ⟨cs2, hcs2⟩ := HB.out.blk
  have HB2 := Lib.hid hB2
  have HG2 := Lib.hid (HG.out.grown hg2 hcs2 (by decide))
  have HR2 := Lib.hid (HR.out.grown hg2 (by simp; omega))
  have HW2 := Lib.hid (below_grown_ HW.out hg2 HW.out.size (Nat.le_refl _))
  clear hB2 hg2 hcs2 HB HG HR HW
  go_wp2_with fail
  refine (ask_at w.heap.size BL 1 5 0 0 0 [[3, 0]] true _ HB2.out ask_ex5).mono ?_
  rintro e w3 ⟨P, rfl, ho, hb3⟩
  have HB3 := Lib.hid ((HB2.out.below hb3).below (below_alloc_ w3 (.cells #[.int .i64 0, .int .i64 0, .slice P 1 1] 33)))
  have HG3 := Lib.hid ((HG2.out.below hb3).below (below_alloc_ w3 (.cells #[.int .i64 0, .int .i64 0, .slice P 1 1] 33)))
  have HS3 := Lib.hid (ho.below (below_alloc_ w3 (.cells #[.int .i64 0, .int .i64 0, .slice P 1 1] 33)))
  have HR3 := Lib.hid ((HR2.out.below hb3 HR2.out.lt).alloc (.cells #[.int .i64 0, .int .i64 0, .slice P 1 1] 33))
  have HT3 := Lib.hid (Blk.new w3 33 #[.int .i64 0, .int .i64 0, .slice P 1 1])
  have HW3 := Lib.hid ((HW2.out.trans (hb3.mono HW2.out.size)).trans ((below_alloc_ w3 (.cells #[.int .i64 0, .int .i64 0, .slice P 1 1] 33)).mono (Nat.le_trans HW2.out.size hb3.size)))
  clear ho hb3 HB2 HG2 HR2 HW2
  go_wp2_with fail
  refine (ask_at w.heap.size BL 1 4 0 0 18 [] false _ HB3.out ask_ex4).mono ?_
  rintro e w4 ⟨P4, rfl, _, hb4⟩
  have hb4' := hb4.trans ((below_alloc_ w4 (.cells #[.int .i64 0, .int .i64 0, .slice P4 0 0] 33)).mono hb4.size)
  have HB4 := Lib.hid (HB3.out.below hb4')
  have HG4 := Lib.hid (HG3.out.below hb4')
  have HS4 := Lib.hid (HS3.out.below hb4')
  have HR4 := Lib.hid (HR3.out.below hb4' HR3.out.lt)
  have HT4 := Lib.hid (HT3.out.below hb4' HT3.out.lt)
  have HW4 := Lib.hid (HW3.out.trans (hb4'.mono HW3.out.size))
  clear hb4 hb4' HB3 HG3 HS3 HR3 HT3 HW3
  go_wp2_with fail
  refine (ask_at w.heap.size BL 1 9 0 0 0 [] false _ HB4.out ask_ex9).mono ?_
  rintro e w5 ⟨P5, rfl, _, hb5⟩
  have hb5' := hb5.trans ((below_alloc_ w5 (.cells #[.int .i64 0, .int .i64 0, .slice P5 0 0] 33)).mono hb5.size)
  have HG5 := Lib.hid (HG4.out.below hb5')
  have HS5 := Lib.hid (HS4.out.below hb5')
  have HR5 := HR4.out.below hb5' HR4.out.lt
  have HT5 := HT4.out.below hb5' HT4.out.lt
  have HW5 := Lib.hid (HW4.out.trans (hb5'.mono HW4.out.size))
  have r0 := HR5.cell 0
  have r1 := HR5.cell 1
  have r2 := HR5.cell 2
  have t0 := HT5.cell 0
  have t1 := HT5.cell 1
  have t2 := HT5.cell 2
  simp at r0 r1 r2 t0 t1 t2
  clear hb5 hb5' HB4 HG4 HS4 HR4 HT4 HW4 HR5 HT5
  go_wp2_with fail
  refine (samer_any 0 0 0 0 _ _ [[3, 0]] [[3, 0]] (by decide) (by decide) _ (show Gots _ _ [[3, 0]] from HG5.out.rd) (show Gots _ _ [[3, 0]] from HS5.out.rd) (by decide)).mono ?_
  rintro e w6 ⟨rfl, hb6⟩
  go_wp2
  go_ret
  exact ⟨rfl, HW5.out.trans (hb6.mono HW5.out.size)⟩

end Go.Proofs.Ytcpiockmkpdkjaa
