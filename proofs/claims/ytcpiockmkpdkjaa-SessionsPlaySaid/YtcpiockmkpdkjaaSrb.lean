/- The document's book: Is, Note, Ask. -/
import Derived.Test.YtcpiockmkpdkjaaSac
import Derived.Test.YtcpiockmkpdkjaaQbl
import Derived.RegionTactic
import Derived.BigRegion
namespace Go.Proofs.Ytcpiockmkpdkjaa
open Go.RowKit

def rpCells (p : Sp) (v : Value) : List Value := [.int .i64 p.e, .int .i64 p.a, v]
def rbCells (C : Nat → Sp) (V : Nat → Value) : List Value :=
  [.int .u64 (C 0).num, .int .u64 (C 1).num, .int .u64 (C 2).num, .int .u64 (C 3).num, .int .u64 (C 4).num, .int .u64 (C 5).num, .int .u64 (C 6).num, .int .u64 (C 7).num, .int .u64 (C 8).num, .int .i64 (C 0).e, .int .i64 (C 0).a, V 0, .int .i64 (C 1).e, .int .i64 (C 1).a, V 1, .int .i64 (C 2).e, .int .i64 (C 2).a, V 2, .int .i64 (C 3).e, .int .i64 (C 3).a, V 3, .int .i64 (C 4).e, .int .i64 (C 4).a, V 4, .int .i64 (C 5).e, .int .i64 (C 5).a, V 5, .int .i64 (C 6).e, .int .i64 (C 6).a, V 6, .int .i64 (C 7).e, .int .i64 (C 7).a, V 7, .int .i64 (C 8).e, .int .i64 (C 8).a, V 8]
theorem rbCells_num (C : Nat → Sp) (V : Nat → Value) (m : Nat) (hm : m < 9) : (rbCells C V).toArray[m]? = some (.int .u64 (C m).num) := by
  match m, hm with
  | 0, _ => rfl | 1, _ => rfl | 2, _ => rfl | 3, _ => rfl | 4, _ => rfl | 5, _ => rfl | 6, _ => rfl | 7, _ => rfl | 8, _ => rfl
theorem rbCells_rep (C : Nat → Sp) (V : Nat → Value) (m j : Nat) (hm : m < 9) (hj : j < 3) : (rbCells C V).toArray[9 + m * 3 + j]? = (rpCells (C m) (V m))[j]? := by
  match m, hm, j, hj with
  | 0, _, 0, _ => rfl | 0, _, 1, _ => rfl | 0, _, 2, _ => rfl
  | 1, _, 0, _ => rfl | 1, _, 1, _ => rfl | 1, _, 2, _ => rfl
  | 2, _, 0, _ => rfl | 2, _, 1, _ => rfl | 2, _, 2, _ => rfl
  | 3, _, 0, _ => rfl | 3, _, 1, _ => rfl | 3, _, 2, _ => rfl
  | 4, _, 0, _ => rfl | 4, _, 1, _ => rfl | 4, _, 2, _ => rfl
  | 5, _, 0, _ => rfl | 5, _, 1, _ => rfl | 5, _, 2, _ => rfl
  | 6, _, 0, _ => rfl | 6, _, 1, _ => rfl | 6, _, 2, _ => rfl
  | 7, _, 0, _ => rfl | 7, _, 1, _ => rfl | 7, _, 2, _ => rfl
  | 8, _, 0, _ => rfl | 8, _, 1, _ => rfl | 8, _, 2, _ => rfl
theorem rbCells_set (C : Nat → Sp) (V : Nat → Value) (m : Nat) (hm : m < 9) (p : Sp) (v : Value) :
    ((((rbCells C V).toArray.setIfInBounds m (.int .u64 p.num)).setIfInBounds (9 + m * 3) (.int .i64 p.e)).setIfInBounds (9 + m * 3 + 1) (.int .i64 p.a)).setIfInBounds (9 + m * 3 + 2) v =
      (rbCells (fun k => if k = m then p else C k) (fun k => if k = m then v else V k)).toArray := by
  simp only [List.setIfInBounds_toArray]
  congr 1
  match m, hm with
  | 0, _ => simp [rbCells]
  | 1, _ => simp [rbCells]
  | 2, _ => simp [rbCells]
  | 3, _ => simp [rbCells]
  | 4, _ => simp [rbCells]
  | 5, _ => simp [rbCells]
  | 6, _ => simp [rbCells]
  | 7, _ => simp [rbCells]
  | 8, _ => simp [rbCells]

/-- Block b is the document's book of these pages; the pages' rows lie in blocks of F. -/
def IsRb (F : Nat → Prop) (w : World) (b : Nat) (B : Nat → Sp) : Prop :=
  ∃ V, Blk w b 36 (rbCells (shB B) V).toArray ∧ ∀ m, m < 9 → Ow 0 w 42 2 (V m) (shB B m).gs.length ((shB B m).gs.flatMap (fc gotK)) ∧ (∀ k, (V m).ownBlock = some k → F k) ∧ SpOk (shB B m)
theorem IsRb.lt {F : Nat → Prop} {w : World} {b : Nat} {B : Nat → Sp} (h : IsRb F w b B) : b < w.heap.size := by
  obtain ⟨V, hb, _⟩ := h; exact hb.lt
theorem IsRb.below {F : Nat → Prop} {w w' : World} {b : Nat} {B : Nat → Sp} (h : IsRb F w b B) (hb : Below w.heap.size w w') : IsRb F w' b B := by
  obtain ⟨V, hk, hv⟩ := h
  exact ⟨V, hk.below hb hk.lt, fun i hi => ⟨(hv i hi).1.below hb, (hv i hi).2⟩⟩
theorem IsRb.mono {F G : Nat → Prop} {w : World} {b : Nat} {B : Nat → Sp} (h : IsRb F w b B) (hg : ∀ k, F k → G k) : IsRb G w b B := by
  obtain ⟨V, hk, hv⟩ := h
  exact ⟨V, hk, fun i hi => ⟨(hv i hi).1, fun k hk => hg k ((hv i hi).2.1 k hk), (hv i hi).2.2⟩⟩
theorem IsRb.lts {F : Nat → Prop} {w : World} {b : Nat} {B : Nat → Sp} (h : IsRb F w b B) : IsRb (· < w.heap.size) w b B := by
  obtain ⟨V, hk, hv⟩ := h
  exact ⟨V, hk, fun i hi => ⟨(hv i hi).1, ow_lt (hv i hi).1, (hv i hi).2.2⟩⟩
theorem IsRb.ok {F : Nat → Prop} {w : World} {b : Nat} {B : Nat → Sp} (h : IsRb F w b B) (i : Nat) (hi : i < 8) : SpOk (B i) := by
  obtain ⟨V, hk, hv⟩ := h; exact (hv (i + 1) (by omega)).2.2
theorem IsRb.keep {F : Nat → Prop} {w w' : World} {b r : Nat} {B : Nat → Sp} (h : IsRb F w b B) (hg : w.grownBy w' (some r)) (hb : b ≠ r) (hr : ¬ F r) : IsRb F w' b B := by
  obtain ⟨V, hk, hv⟩ := h
  refine ⟨V, hk.grown hg (fun e => hb (Option.some.inj e)), fun i hi => ⟨?_, (hv i hi).2⟩⟩
  rcases (hv i hi).1 with h | ⟨g, c, cur, hV, hB, hk', h'⟩
  · exact .inl h
  · refine .inr ⟨g, c, cur, hV, hB, hk'.grown hg (fun e => ?_), h'⟩
    have hfg := (hv i hi).2.1 g (by rw [hV]; simp [Value.ownBlock])
    rw [Option.some.inj e] at hfg
    exact hr hfg
/-- A new one. -/
theorem IsRb.new_ {w : World} {b : Nat} (h : Blk w b 36 (rbCells (fun _ => Sp.zero) (fun _ => .slice none 0 0)).toArray) : IsRb (fun _ => False) w b (fun _ => Sp.zero) := by
  refine ⟨fun _ => .slice none 0 0, ?_, fun m _ => ?_⟩
  · have e : shB (fun _ => Sp.zero) = fun _ => Sp.zero := by funext m; unfold shB; split <;> rfl
    rw [e]; exact h
  · have e : shB (fun _ => Sp.zero) m = Sp.zero := by unfold shB; split <;> rfl
    rw [e]
    exact ⟨.inl ⟨rfl, rfl, rfl⟩, (fun k hk => by cases hk), SpOk.zero⟩

theorem ris_any (c : Int) (w : World) : Calls Try.prog 12 #[.int .u8 c] w fun e w' => e = .returned (.bool (decide (1 ≤ c ∧ c ≤ 8))) ∧ w = w' := by
  by_cases h1 : 1 ≤ c
  · by_cases h2 : c ≤ 8
    · have e : decide (1 ≤ c ∧ c ≤ 8) = true := decide_eq_true ⟨h1, h2⟩
      rw [e]
      go_enter Try.func12, Try.ntmps12
      go_wp2
      refine bodyPost_ret (v := .bool true) (by simp [results, Try.results12, go_sem]) rfl ⟨rfl, rfl⟩
    · have e : decide (1 ≤ c ∧ c ≤ 8) = false := decide_eq_false (fun h => h2 h.2)
      rw [e]
      go_enter Try.func12, Try.ntmps12
      go_wp2
      refine bodyPost_ret (v := .bool false) (by simp [results, Try.results12, go_sem]) rfl ⟨rfl, rfl⟩
  · have e : decide (1 ≤ c ∧ c ≤ 8) = false := decide_eq_false (fun h => h1 h.1)
    rw [e]
    go_enter Try.func12, Try.ntmps12
    go_wp2
    refine bodyPost_ret (v := .bool false) (by simp [results, Try.results12, go_sem]) rfl ⟨rfl, rfl⟩
theorem ris_at (c : Int) (t : Bool) (w : World) (h : decide (1 ≤ c ∧ c ≤ 8) = t) : Calls Try.prog 12 #[.int .u8 c] w fun e w' => e = .returned (.bool t) ∧ w = w' := by
  subst h; exact ris_any c w

theorem rask_arg (b : Nat) (c n : Int) (w : World) (hc : c < 1 ∨ 8 < c) :
    Calls Try.prog 15 #[.pointer (some ⟨b, 0, none⟩), .int .u8 c, .int .u64 n] w fun e w' => e = .returned (.tuple #[repV 0 0 (.slice none 0 0), .bool false, .int .i64 1]) ∧ Below w.heap.size w w' := by
  have hi := Lib.hid (ris_at c false (w.alloc (.cells rz 33)) (decide_eq_false (by omega)))
  clear hc
  go_enter Try.func15, Try.ntmps15
  go_wp2_with fail
  refine hi.out.mono ?_
  rintro e w' ⟨rfl, rfl⟩
  go_wp2
  refine bodyPost_ret (v := .tuple #[repV 0 0 (.slice none 0 0), .bool false, .int .i64 1]) (by simp [results, Try.results15, go_sem]) rfl ⟨rfl, below_alloc_ _ _⟩
theorem rask_new (b m : Nat) (B : Nat → Sp) (n : Int) (w : World) {F : Nat → Prop} (h : IsRb F w b B) (hm : 1 ≤ m ∧ m ≤ 8) (hn : (shB B m).num < n) :
    Calls Try.prog 15 #[.pointer (some ⟨b, 0, none⟩), .int .u8 m, .int .u64 n] w fun e w' => e = .returned (.tuple #[repV 0 0 (.slice none 0 0), .bool false, .int .i64 0]) ∧ Below w.heap.size w w' := by
  have hi := Lib.hid (ris_at m true (w.alloc (.cells rz 33)) (decide_eq_true (by omega)))
  obtain ⟨V, hb, -⟩ := h
  have c0 := (hb.alloc (.cells rz 33)).cell m
  rw [rbCells_num _ _ m (by omega)] at c0
  clear hb
  have hm1 : (m : Int) < 9 := by omega
  have hm2 : m < 9 := by omega
  go_enter Try.func15, Try.ntmps15
  go_wp2_with fail
  refine hi.out.mono ?_
  rintro e w' ⟨rfl, rfl⟩
  go_wp2
  refine bodyPost_ret (v := .tuple #[repV 0 0 (.slice none 0 0), .bool false, .int .i64 0]) (by simp [results, Try.results15, go_sem]) rfl ⟨rfl, below_alloc_ _ _⟩
theorem rask_old (b m : Nat) (B : Nat → Sp) (n : Int) (w : World) {F : Nat → Prop} (h : IsRb F w b B) (hm : 1 ≤ m ∧ m ≤ 8) (hn : n < (shB B m).num ∨ n = 0) (hn' : ¬ (shB B m).num < n) :
    Calls Try.prog 15 #[.pointer (some ⟨b, 0, none⟩), .int .u8 m, .int .u64 n] w fun e w' => e = .returned (.tuple #[repV 0 0 (.slice none 0 0), .bool false, .int .i64 18]) ∧ Below w.heap.size w w' := by
  have hi := Lib.hid (ris_at m true (w.alloc (.cells rz 33)) (decide_eq_true (by omega)))
  obtain ⟨V, hb, -⟩ := h
  have c0 := (hb.alloc (.cells rz 33)).cell m
  rw [rbCells_num _ _ m (by omega)] at c0
  clear hb
  have hm1 : (m : Int) < 9 := by omega
  have hm2 : m < 9 := by omega
  have HN := Lib.hid hn
  by_cases h1 : n = (shB B m).num
  · have h0 : n = 0 := by omega
    subst h0
    rw [← h1] at c0
    clear hn hn' h1
    go_enter Try.func15, Try.ntmps15
    go_wp2_with fail
    refine hi.out.mono ?_
    rintro e w' ⟨rfl, rfl⟩
    go_wp2
    refine bodyPost_ret (v := .tuple #[repV 0 0 (.slice none 0 0), .bool false, .int .i64 18]) (by simp [results, Try.results15, go_sem]) rfl ⟨rfl, below_alloc_ _ _⟩
  · have h2 : (n == (shB B m).num) = false := beq_eq_false_iff_ne.2 h1
    clear hn
    go_enter Try.func15, Try.ntmps15
    go_wp2_with fail
    refine hi.out.mono ?_
    rintro e w' ⟨rfl, rfl⟩
    go_wp2
    refine bodyPost_ret (v := .tuple #[repV 0 0 (.slice none 0 0), .bool false, .int .i64 18]) (by simp [results, Try.results15, go_sem]) rfl ⟨rfl, below_alloc_ _ _⟩
set_option maxHeartbeats 1000000 in
theorem rask_last (b m : Nat) (B : Nat → Sp) (n : Int) (w : World) {F : Nat → Prop} (h : IsRb F w b B) (hm : 1 ≤ m ∧ m ≤ 8) (hn : (shB B m).num = n) (hn0 : ¬ n = 0) :
    Calls Try.prog 15 #[.pointer (some ⟨b, 0, none⟩), .int .u8 m, .int .u64 n] w fun e w' => ∃ v, e = .returned (.tuple #[repV (shB B m).e (shB B m).a v, .bool true, .int .i64 0]) ∧ Gots w' v (shB B m).gs ∧ Below w.heap.size w w' := by
  have hi := Lib.hid (ris_at m true (w.alloc (.cells rz 33)) (decide_eq_true (by omega)))
  obtain ⟨V, hb, hv⟩ := h
  have hb' := hb.alloc (.cells rz 33)
  have c0 := hb'.cell m
  have c1 := hb'.cell (9 + m * 3 + 0)
  have c2 := hb'.cell (9 + m * 3 + 1)
  have c3 := hb'.cell (9 + m * 3 + 2)
  rw [rbCells_num _ _ m (by omega), hn] at c0
  rw [rbCells_rep _ _ m _ (by omega) (by omega)] at c1 c2 c3
  simp only [rpCells, List.getElem?_cons_zero, List.getElem?_cons_succ, Nat.add_zero] at c1 c2 c3
  have HV := Lib.hid (hv m (by omega)).1.rd
  obtain ⟨E, hE⟩ : ∃ E, E = (shB B m).e := ⟨_, rfl⟩
  obtain ⟨A, hA⟩ : ∃ A, A = (shB B m).a := ⟨_, rfl⟩
  obtain ⟨gs, hgs⟩ : ∃ gs, gs = (shB B m).gs := ⟨_, rfl⟩
  obtain ⟨u, hu⟩ : ∃ u, u = V m := ⟨_, rfl⟩
  obtain ⟨P, q, hV⟩ := (hv m (by omega)).1.sl_
  rw [← hE] at c1
  rw [← hA] at c2
  rw [← hgs, ← hu] at HV
  rw [hV] at hu
  rw [← hE, ← hA, ← hgs]
  rw [← hgs] at hu
  rw [hV, ← hgs] at c3
  subst hu
  have KB := Lib.hid (Blk.new w 33 rz)
  have hm1 : (m : Int) < 9 := by omega
  have hm2 : m < 9 := by omega
  have hn1 : ¬ n < n := by omega
  have hn2 : (n == 0) = false := beq_eq_false_iff_ne.2 hn0
  clear hb hv hE hA hgs hV hn hb'
  go_enter Try.func15, Try.ntmps15
  go_wp2_with fail
  refine hi.out.mono ?_
  rintro e w' ⟨rfl, rfl⟩
  go_wp2
  refine bodyPost_ret (v := .tuple #[repV E A (.slice P gs.length q), .bool true, .int .i64 0]) (by simp [results, Try.results15, go_sem]) rfl ⟨_, rfl, ?_, below_alloc_ _ _⟩
  exact Rd.alloc HV.out _
set_option maxHeartbeats 1000000 in
theorem rnote_bad (b : Nat) (c n E A : Int) (P : Option Addr) (k c0 : Nat) (w : World) (hc : ¬ (1 ≤ c ∧ c ≤ 8) ∨ 8 < k) :
    Calls Try.prog 10 #[.pointer (some ⟨b, 0, none⟩), .int .u8 c, .int .u64 n, repV E A (.slice P k c0)] w fun e w' => e = .returned (.int .i64 1) ∧ Below w.heap.size w w' := by
  by_cases h1 : 1 ≤ c ∧ c ≤ 8
  · have hi := Lib.hid (ris_at c true (w.alloc (.cells #[.int .i64 E, .int .i64 A, .slice P k c0] 33)) (decide_eq_true h1))
    have hk : 8 < k := hc.elim (fun h => absurd h1 h) id
    have hk' : (8 : Int) < k := by omega
    clear hc h1
    go_enter Try.func10, Try.ntmps10
    go_wp2_with fail
    refine hi.out.mono ?_
    rintro e w' ⟨rfl, rfl⟩
    go_wp2
    go_ret
    exact ⟨rfl, below_alloc_ _ _⟩
  · have hi := Lib.hid (ris_at c false (w.alloc (.cells #[.int .i64 E, .int .i64 A, .slice P k c0] 33)) (decide_eq_false h1))
    clear hc h1
    go_enter Try.func10, Try.ntmps10
    go_wp2_with fail
    refine hi.out.mono ?_
    rintro e w' ⟨rfl, rfl⟩
    go_wp2
    go_ret
    exact ⟨rfl, below_alloc_ _ _⟩
set_option maxHeartbeats 1000000 in
theorem rnote_old (b m : Nat) (B : Nat → Sp) (n E A : Int) (P : Option Addr) (k c0 : Nat) (w : World) {F : Nat → Prop} (h : IsRb F w b B) (hm : 1 ≤ m ∧ m ≤ 8) (hk : k ≤ 8) (hn : n ≤ (shB B m).num) :
    Calls Try.prog 10 #[.pointer (some ⟨b, 0, none⟩), .int .u8 m, .int .u64 n, repV E A (.slice P k c0)] w fun e w' => e = .returned (.int .i64 18) ∧ Below w.heap.size w w' := by
  have hi := Lib.hid (ris_at m true (w.alloc (.cells #[.int .i64 E, .int .i64 A, .slice P k c0] 33)) (decide_eq_true (by omega)))
  obtain ⟨V, hb, -⟩ := h
  have c1 := (hb.alloc (.cells #[.int .i64 E, .int .i64 A, .slice P k c0] 33)).cell m
  rw [rbCells_num _ _ m (by omega)] at c1
  have hk' : ¬ (8 : Int) < k := by omega
  have hm1 : (m : Int) < 9 := by omega
  have hm2 : m < 9 := by omega
  clear hb
  go_enter Try.func10, Try.ntmps10
  go_wp2_with fail
  refine hi.out.mono ?_
  rintro e w' ⟨rfl, rfl⟩
  go_wp2
  go_ret
  exact ⟨rfl, below_alloc_ _ _⟩
theorem fc_got_i64 (gs : List (List Int)) : ∀ u ∈ gs.flatMap (fc gotK), ∃ x, u = .int .i64 x := by
  intro u hu
  obtain ⟨q, -, hq⟩ := List.mem_flatMap.1 hu
  simp only [gotK, fc, List.mem_cons, List.not_mem_nil, or_false] at hq
  rcases hq with rfl | rfl <;> exact ⟨_, rfl⟩
/-- Rows of two numbers with signs stand where a cell of another kind is set. -/
theorem Gots.setnum {w : World} {v : Value} {gs : List (List Int)} {p : Addr} {x : Int} (hv : Gots w v gs) (hc : w.cell? p = some (.int .u64 x)) (u : Value) : Gots (w.setCell p u) v gs := by
  obtain ⟨A, c, rfl, hc', hl, hh⟩ := hv
  refine ⟨A, c, rfl, hc', hl, hh.imp id ?_⟩
  rintro ⟨g, o, rfl, hg, hcell⟩
  refine ⟨g, o, rfl, by simpa [World.setCell] using hg, fun j y hj => ?_⟩
  rw [World.cell?_setCell_other]
  · exact hcell j y hj
  · rintro rfl
    obtain ⟨z, rfl⟩ := fc_got_i64 gs y (List.mem_of_getElem? hj)
    rw [hcell j _ hj] at hc
    cases hc
set_option maxHeartbeats 2000000 in
set_option maxRecDepth 100000 in
theorem rnote_new (b m : Nat) (B : Nat → Sp) (n E A : Int) (v : Value) (gs : List (List Int)) (w : World) {F : Nat → Prop} (h : IsRb F w b B) (hm : 1 ≤ m ∧ m ≤ 8) (hv : Gots w v gs) (hk : gs.length ≤ 8) (hn : (shB B m).num < n) (hn2 : n ≤ 18446744073709551615) (fE : fok1 .i64 E) (fA : fok1 .i64 A) (fG : ∀ q ∈ gs, fok gotK q) :
    Calls Try.prog 10 #[.pointer (some ⟨b, 0, none⟩), .int .u8 m, .int .u64 n, repV E A v] w fun e w' => e = .returned (.int .i64 0) ∧ IsRb (fun k => F k ∨ w.heap.size ≤ k) w' b (updB B (m - 1) ⟨n, E, A, gs⟩) ∧ w.grownBy w' (some b) := by
  obtain ⟨P0, c0, rfl, -⟩ := id hv
  have hi := Lib.hid (ris_at m true (w.alloc (.cells #[.int .i64 E, .int .i64 A, .slice P0 gs.length c0] 33)) (decide_eq_true (by omega)))
  have H := Lib.hid h
  have hlt := h.lt
  obtain ⟨V, hb, hvs⟩ := h
  have c0' := hb.cell m
  rw [rbCells_num _ _ m (by omega)] at c0'
  have HV := Lib.hid (Rd.alloc (Gots.setnum hv c0' (.int .u64 n)) (.cells #[.int .i64 E, .int .i64 A, .slice P0 gs.length c0] 33))
  have K1 := Lib.hid ((hb.set_ m (.int .u64 n)).alloc (.cells #[.int .i64 E, .int .i64 A, .slice P0 gs.length c0] 33))
  have hkr := Blk.new (w.setCell ⟨b, m, none⟩ (.int .u64 n)) 33 #[.int .i64 E, .int .i64 A, .slice P0 gs.length c0]
  have hsz : (w.setCell ⟨b, m, none⟩ (.int .u64 n)).heap.size = w.heap.size := by simp [World.setCell]
  rw [hsz] at hkr
  have KR := Lib.hid hkr
  have G1 := Lib.hid (grown_set_ w b m (.int .u64 n))
  have HB := Lib.hid (hb.alloc (.cells #[.int .i64 E, .int .i64 A, .slice P0 gs.length c0] 33))
  have H1 := Lib.hid (rows_one gotK gs)
  have HVS := Lib.hid hvs
  have c1 := HB.out.cell m
  rw [rbCells_num _ _ m (by omega)] at c1
  have f1 := HB.out.free
  have hk' : ¬ (8 : Int) < gs.length := by omega
  have hn' : ¬ n ≤ (shB B m).num := by omega
  have hm1 : (m : Int) < 9 := by omega
  have hm2 : m < 9 := by omega
  obtain ⟨ng, hng⟩ : ∃ k, k = gs.length := ⟨_, rfl⟩
  rw [← hng] at hi HV K1 KR hk hk' c1 f1 ⊢
  have NG := Lib.hid hng
  clear hb hvs hv c0' hkr hng
  go_enter Try.func10, Try.ntmps10
  go_wp2_with fail
  refine hi.out.mono ?_
  rintro e w' ⟨rfl, rfl⟩
  go_wp2_with (at_builtin; refine wpList_ow_rows (B := w.heap.size + 1) (n := 0) (m := ng) rfl _ _ 31 42 (.agg #[.int .i64 0, .int .i64 0]) 2 16 rfl Try.underlying31 got_info rfl (by decide) rfl (.inl ⟨rfl, rfl, rfl⟩) (by simp [World.setCell]) HV.out H1.out rfl (by omega) (by unfold maxLen; omega) ?_; intro v2 w2 ho2 hg2; obtain ⟨A2, q2, rfl⟩ := ho2.sl_; have b2 := below_of_grown_ hg2.1; have O2 := Lib.hid ho2; have k1 := K1.out.below b2 K1.out.lt; have kr := KR.out.below b2 KR.out.lt; have B2 := Lib.hid b2; have f2 := k1.free; have f3 := kr.free; have d0 := kr.cell 0; have d1 := kr.cell 1; have d2 := kr.cell 2; simp only [List.getElem?_toArray, List.getElem?_cons_zero, List.getElem?_cons_succ] at d0 d1 d2; have KK := Lib.hid k1; have KQ := Lib.hid kr; have hlt2 : w.heap.size < w2.heap.size := kr.lt; clear k1 kr b2 ho2 hg2 c1 f1)
  obtain ⟨w3, hw3⟩ : ∃ w3, w3 = w2.setCell ⟨w.heap.size, 2, none⟩ (.slice A2 ng q2) := ⟨_, rfl⟩
  have hbw : b ≠ w.heap.size := by omega
  have kk3 : Blk w3 b 36 ((rbCells (shB B) V).toArray.setIfInBounds m (.int .u64 n)) := by rw [hw3]; exact KK.out.far hbw _
  have kq3 : Blk w3 w.heap.size 33 #[.int .i64 E, .int .i64 A, .slice A2 ng q2] := by
    rw [hw3]; have := KQ.out.set_ 2 (.slice A2 ng q2); simpa using this
  have ho3 : Ow (w.heap.size + 1) w3 42 2 (.slice A2 ng q2) ng (gs.flatMap (fc gotK)) := by
    rw [hw3]; have := O2.out.far (p := ⟨w.heap.size, 2, none⟩) (by simp) (.slice A2 ng q2)
    simpa using this
  have hg3 : w.grownBy w3 (some b) := by
    rw [hw3]
    refine grown_then_below_ G1.out ?_
    rw [hsz]
    refine Below.setCell (p := ⟨w.heap.size, 2, none⟩) ?_ (Nat.le_refl _) _
    have := (below_alloc_ (w.setCell ⟨b, m, none⟩ (.int .u64 n)) (.cells #[.int .i64 E, .int .i64 A, .slice P0 ng c0] 33)).trans (B2.out.mono (by simp))
    rw [hsz] at this
    exact this
  have r0 := kk3.cell (9 + m * 3 + 0)
  have r1 := kk3.cell (9 + m * 3 + 1)
  have r2 := kk3.cell (9 + m * 3 + 2)
  rw [Array.getElem?_setIfInBounds_ne (by omega), rbCells_rep _ _ m _ hm2 (by omega)] at r0 r1 r2
  simp only [rpCells, List.getElem?_cons_zero, List.getElem?_cons_succ, Nat.add_zero] at r0 r1 r2
  have s0 := kq3.cell 0
  have s1 := kq3.cell 1
  have s2 := kq3.cell 2
  simp only [List.getElem?_toArray, List.getElem?_cons_zero, List.getElem?_cons_succ] at s0 s1 s2
  have f5 := kk3.free
  have KK3 := Lib.hid kk3
  have HO3 := Lib.hid ho3
  have HG3 := Lib.hid hg3
  rw [← hw3]
  clear kk3 kq3 ho3 hg3 hw3 f2 f3 d0 d1 d2
  go_region
  go_wp2
  go_ret
  refine ⟨rfl, ⟨fun k => if k = m then .slice A2 ng q2 else V k, ?_, ?_⟩, ?_⟩
  · have := ((KK3.out.set_ (9 + m * 3) (.int .i64 E)).set_ (9 + m * 3 + 1) (.int .i64 A)).set_ (9 + m * 3 + 2) (.slice A2 ng q2)
    rw [rbCells_set _ _ m hm2 ⟨n, E, A, gs⟩] at this
    rw [shB_upd, show m - 1 + 1 = m from by omega]
    exact this
  · intro j hj
    have a1 := KK3.out.set_ (9 + m * 3) (.int .i64 E)
    have a2 := a1.set_ (9 + m * 3 + 1) (.int .i64 A)
    have far : ∀ {v : Value} {k : Nat} {xs : List Value} {D : Nat}, Ow D w3 42 2 v k xs → Ow 0 ((((w3.setCell ⟨b, 9 + m * 3, none⟩ (.int .i64 E)).setCell ⟨b, 9 + m * 3 + 1, none⟩ (.int .i64 A)).setCell ⟨b, 9 + m * 3 + 2, none⟩ (.slice A2 ng q2)).drew) 42 2 v k xs :=
      fun h => (((h.aside KK3.out (by decide) _ _).aside a1 (by decide) _ _).aside a2 (by decide) _ _).le (Nat.zero_le _)
    rw [shB_upd, show m - 1 + 1 = m from by omega]
    by_cases hji : j = m
    · subst hji
      simp only [if_true]
      have hng := NG.out
      have ok := (HVS.out j hj).2.2
      refine ⟨?_, fun k hk => .inr ?_, by simp only; omega, by have := ok.lo; simp only; omega, hn2, fE, fA, fG, fun h0 => by have := ok.lo; simp only at h0; omega⟩
      · have := far HO3.out; rw [hng] at this ⊢; exact this
      · have := Ow.blk_lt HO3.out k hk; omega
    · simp only [if_neg hji]
      refine ⟨?_, fun k hk => .inl ((HVS.out j hj).2.1 k hk), (HVS.out j hj).2.2⟩
      obtain ⟨V', hb', hv'⟩ := H.out
      exact far ((HVS.out j hj).1.grown HG3.out hb' (by decide))
  · have := grown_trans_ (grown_trans_ (grown_trans_ HG3.out (grown_set_ w3 b (9 + m * 3) (.int .i64 E))) (grown_set_ _ b (9 + m * 3 + 1) (.int .i64 A))) (grown_set_ _ b (9 + m * 3 + 2) (.slice A2 ng q2))
    exact grown_then_below_ this (Below.refl _ _).drew

theorem rnote_any (b : Nat) (B : Nat → Sp) (c n E A : Int) (v : Value) (gs : List (List Int)) (w : World) {F : Nat → Prop} (h : IsRb F w b B) (hv : Gots w v gs) (hn2 : n ≤ 18446744073709551615) (fE : fok1 .i64 E) (fA : fok1 .i64 A) (fG : ∀ q ∈ gs, fok gotK q) :
    Calls Try.prog 10 #[.pointer (some ⟨b, 0, none⟩), .int .u8 c, .int .u64 n, repV E A v] w fun e w' => e = .returned (.int .i64 (noteE B c n gs.length)) ∧ IsRb (fun k => F k ∨ w.heap.size ≤ k) w' b (noteB B c n E A gs) ∧ w.grownBy w' (some b) := by
  unfold noteB noteE
  by_cases h1 : c < 1 ∨ 8 < c
  · rw [if_pos h1, if_neg (by decide)]
    obtain ⟨P0, c0, rfl, -⟩ := id hv
    exact (rnote_bad b c n E A P0 gs.length c0 w (.inl (by omega))).mono fun _ _ ⟨he, hb⟩ => ⟨he, (h.below hb).mono fun _ hk => .inl hk, grown_below_ hb _⟩
  · rw [if_neg h1]
    obtain ⟨m, hm, rfl⟩ : ∃ m : Nat, (1 ≤ m ∧ m ≤ 8) ∧ c = m := ⟨c.toNat, by omega, by omega⟩
    have e1 : ((m : Int) - 1).toNat = m - 1 := by omega
    have e2 : shB B m = B (m - 1) := by unfold shB; rw [if_neg (by omega)]
    rw [e1]
    by_cases h2 : 8 < gs.length
    · rw [if_pos h2, if_neg (by decide)]
      obtain ⟨P0, c0, rfl, -⟩ := id hv
      exact (rnote_bad b m n E A P0 gs.length c0 w (.inr h2)).mono fun _ _ ⟨he, hb⟩ => ⟨he, (h.below hb).mono fun _ hk => .inl hk, grown_below_ hb _⟩
    · rw [if_neg h2]
      by_cases h3 : n ≤ (B (m - 1)).num
      · rw [if_pos h3, if_neg (by decide)]
        obtain ⟨P0, c0, rfl, -⟩ := id hv
        exact (rnote_old b m B n E A P0 gs.length c0 w h hm (by omega) (by rw [e2]; exact h3)).mono fun _ _ ⟨he, hb⟩ => ⟨he, (h.below hb).mono fun _ hk => .inl hk, grown_below_ hb _⟩
      · rw [if_neg h3, if_pos rfl]
        exact rnote_new b m B n E A v gs w h hm hv (by omega) (by rw [e2]; omega) hn2 fE fA fG

theorem rask_any (b : Nat) (B : Nat → Sp) (c n : Int) (w : World) {F : Nat → Prop} (h : IsRb F w b B) :
    Calls Try.prog 15 #[.pointer (some ⟨b, 0, none⟩), .int .u8 c, .int .u64 n] w fun e w' => ∃ v, e = .returned (.tuple #[repV (askR B c n).1.1 (askR B c n).1.2.1 v, .bool (askR B c n).2.1, .int .i64 (askR B c n).2.2]) ∧ Gots w' v (askR B c n).1.2.2 ∧ Below w.heap.size w w' := by
  have nil : ∀ w, Gots w (.slice none 0 0) [] := fun w => ⟨none, 0, rfl, Nat.le_refl _, by simp, .inl rfl⟩
  unfold askR
  by_cases h1 : c < 1 ∨ 8 < c
  · rw [if_pos h1]
    exact (rask_arg b c n w h1).mono fun _ _ ⟨he, hb⟩ => ⟨_, he, nil _, hb⟩
  · rw [if_neg h1]
    obtain ⟨m, hm, rfl⟩ : ∃ m : Nat, (1 ≤ m ∧ m ≤ 8) ∧ c = m := ⟨c.toNat, by omega, by omega⟩
    have e1 : ((m : Int) - 1).toNat = m - 1 := by omega
    have e2 : shB B m = B (m - 1) := by unfold shB; rw [if_neg (by omega)]
    rw [e1, ← e2]
    by_cases h2 : (shB B m).num < n
    · rw [if_pos h2]
      exact (rask_new b m B n w h hm h2).mono fun _ _ ⟨he, hb⟩ => ⟨_, he, nil _, hb⟩
    · rw [if_neg h2]
      by_cases h3 : n < (shB B m).num ∨ n = 0
      · rw [if_pos h3]
        exact (rask_old b m B n w h hm h3 h2).mono fun _ _ ⟨he, hb⟩ => ⟨_, he, nil _, hb⟩
      · rw [if_neg h3]
        exact rask_last b m B n w h hm (by omega) (by omega)
end Go.Proofs.Ytcpiockmkpdkjaa
