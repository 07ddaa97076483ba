/- SessionsPlay: walk. -/
import Derived.Test.YtcpiockmkpdkjaaRsp
import Derived.Test.YtcpiockmkpdkjaaBag
import Derived.Test.YtcpiockmkpdkjaaSmb
import Derived.Test.YtcpiockmkpdkjaaSrw
namespace Go.Proofs.Ytcpiockmkpdkjaa
open Go.RowKit

theorem Ow.belowC {w w' : World} {B C e size n : Nat} {v : Value} {xs : List Value} (h : Ow B w e size v n xs) (hb : Below C w w') (hr : ∀ k, v.ownBlock = some k → k < C) : Ow B w' e size v n xs := by
  rcases h with h | ⟨g, c, cur, rfl, hB, hk', h'⟩
  · exact .inl h
  · exact .inr ⟨g, c, cur, rfl, hB, hk'.below hb (hr g (by simp [Value.ownBlock])), h'⟩
theorem IsBk.belowC {F : Nat → Prop} {w w' : World} {b C : Nat} {B : Nat → Sp} (h : IsBk F w b B) (hb : Below C w w') (hbC : b < C) (hF : ∀ k, F k → k < C) : IsBk F w' b B := by
  obtain ⟨V, hk, hv⟩ := h
  exact ⟨V, hk.below hb hbC, fun i hi => ⟨(hv i hi).1.belowC hb fun k hk => hF k ((hv i hi).2.1 k hk), (hv i hi).2⟩⟩
theorem IsRb.belowC {F : Nat → Prop} {w w' : World} {b C : Nat} {B : Nat → Sp} (h : IsRb F w b B) (hb : Below C w w') (hbC : b < C) (hF : ∀ k, F k → k < C) : IsRb F w' b B := by
  obtain ⟨V, hk, hv⟩ := h
  exact ⟨V, hk.below hb hbC, fun i hi => ⟨(hv i hi).1.belowC hb fun k hk => hF k ((hv i hi).2.1 k hk), (hv i hi).2⟩⟩
/-- A block of another kind has turned: no rows. -/
theorem IsBk.turn {F : Nat → Prop} {w w' : World} {b r t : Nat} {cs : Array Value} {B : Nat → Sp} (h : IsBk F w b B) (hg : w.grownBy w' (some r)) (hb : b ≠ r) (hr : Blk w r t cs) (hne : 42 ≠ t) : IsBk F w' b B := by
  obtain ⟨V, hk, hv⟩ := h
  exact ⟨V, hk.grown hg (fun e => hb (Option.some.inj e)), fun i hi => ⟨(hv i hi).1.grown hg hr hne, (hv i hi).2⟩⟩
theorem IsRb.turn {F : Nat → Prop} {w w' : World} {b r t : Nat} {cs : Array Value} {B : Nat → Sp} (h : IsRb F w b B) (hg : w.grownBy w' (some r)) (hb : b ≠ r) (hr : Blk w r t cs) (hne : 42 ≠ t) : IsRb F w' b B := by
  obtain ⟨V, hk, hv⟩ := h
  exact ⟨V, hk.grown hg (fun e => hb (Option.some.inj e)), fun i hi => ⟨(hv i hi).1.grown hg hr hne, (hv i hi).2⟩⟩
theorem IsRb.blk {F : Nat → Prop} {w : World} {b : Nat} {B : Nat → Sp} (h : IsRb F w b B) : ∃ cs, Blk w b 36 cs := by
  obtain ⟨V, hb, _⟩ := h; exact ⟨_, hb⟩

/-- Two books of the same pages, all since the world W. -/
structure PlI (W : World) (b m : Nat) (F : Nat → Prop) (w : World) (B : Nat → Sp) : Prop where
  bk : IsBk F w b B
  rb : IsRb F w m B
  bel : Below W.heap.size W w
  b0 : W.heap.size ≤ b
  m0 : W.heap.size ≤ m
theorem PlI.ne {W : World} {b m : Nat} {F : Nat → Prop} {w : World} {B : Nat → Sp} (h : PlI W b m F w B) : b ≠ m := by
  obtain ⟨c1, h1⟩ := h.bk.blk
  obtain ⟨c2, h2⟩ := h.rb.blk
  exact h1.ne_ h2 (by decide)
theorem PlI.below {W : World} {b m : Nat} {F : Nat → Prop} {w w' : World} {B : Nat → Sp} (h : PlI W b m F w B) (hb : Below w.heap.size w w') : PlI W b m F w' B :=
  ⟨h.bk.below hb, h.rb.below hb, h.bel.trans (hb.mono h.bel.size), h.b0, h.m0⟩
theorem PlI.belowC {W : World} {b m C : Nat} {F : Nat → Prop} {w w' : World} {B : Nat → Sp} (h : PlI W b m F w B) (hb : Below C w w') (hW : W.heap.size ≤ C) (h1 : b < C) (h2 : m < C) (hF : ∀ k, F k → k < C) : PlI W b m F w' B :=
  ⟨h.bk.belowC hb h1 hF, h.rb.belowC hb h2 hF, h.bel.trans (hb.mono hW), h.b0, h.m0⟩
theorem PlI.mono {W : World} {b m : Nat} {F G : Nat → Prop} {w : World} {B : Nat → Sp} (h : PlI W b m F w B) (hg : ∀ k, F k → G k) : PlI W b m G w B := ⟨h.bk.mono hg, h.rb.mono hg, h.bel, h.b0, h.m0⟩
theorem PlI.lts {W : World} {b m : Nat} {F : Nat → Prop} {w : World} {B : Nat → Sp} (h : PlI W b m F w B) : PlI W b m (· < w.heap.size) w B := ⟨h.bk.lts, h.rb.lts, h.bel, h.b0, h.m0⟩
/-- What the law asks of the document's book for Last. -/
def lastL (B : Nat → Sp) (c : Int) : Int := if 1 ≤ c ∧ c ≤ 8 then (B (c - 1).toNat).num else 0
theorem last_any (b : Nat) (c : Int) (B : Nat → Sp) (w : World) {F : Nat → Prop} (h : IsBk F w b B) (L : Int) (hL : lastL B c = L) :
    Calls Try.prog 13 #[.pointer (some ⟨b, 0, none⟩), .int .u8 c] w fun e w' => e = .returned (.int .u64 L) ∧ w = w' := by
  subst hL
  unfold lastL
  by_cases h1 : 1 ≤ c ∧ c ≤ 8
  · rw [if_pos h1]
    obtain ⟨i, hi, rfl⟩ : ∃ i : Nat, i < 8 ∧ c = i + 1 := ⟨(c - 1).toNat, by omega, by omega⟩
    have e1 : ((i : Int) + 1 - 1).toNat = i := by omega
    rw [e1]
    exact last_ok b i B w h hi
  · rw [if_neg h1]
    exact last_arg b c B w h (by omega)
theorem askR_ok {B : Nat → Sp} (hB : ∀ i, i < 8 → SpOk (B i)) {c n E A R : Int} {gs : List (List Int)} {l : Bool} (h : askR B c n = ((E, A, gs), l, R)) : gs.length ≤ 8 ∧ ∀ q ∈ gs, fok gotK q := by
  have nil : ([] : List (List Int)).length ≤ 8 ∧ ∀ q ∈ ([] : List (List Int)), fok gotK q := ⟨by simp, by simp⟩
  unfold askR at h
  split at h
  · injection h with h _; injection h with _ h; injection h with _ h; subst h; exact nil
  · split at h
    · injection h with h _; injection h with _ h; injection h with _ h; subst h; exact nil
    · split at h
      · injection h with h _; injection h with _ h; injection h with _ h; subst h; exact nil
      · rename_i h1 _ _
        have := hB (c - 1).toNat (by omega)
        injection h with h _; injection h with _ h; injection h with _ h; subst h; exact ⟨this.few, this.gs⟩

theorem gots_k {w : World} {v : Value} {gs : List (List Int)} {k : Nat} (hk : k = gs.length) (h : Rd w 2 v k (gs.flatMap (fc gotK))) : Gots w v gs := by subst hk; exact h
theorem got_two {gs : List (List Int)} (h : ∀ q ∈ gs, fok gotK q) : ∀ q ∈ gs, q.length = 2 := fun q hq => by obtain ⟨x0, x1, rfl, -⟩ := got_fok (h q hq); rfl
theorem samer_eq (E A : Int) (v u : Value) (gs : List (List Int)) (w : World) (hg : ∀ q ∈ gs, fok gotK q) (hn : gs.length ≤ 50) (hv : Gots w v gs) (hu : Gots w u gs) :
    Calls Try.prog 11 #[.agg #[.int .i64 E, .int .i64 A, v], .agg #[.int .i64 E, .int .i64 A, u]] w fun e w' => e = .returned (.bool true) ∧ Below w.heap.size w w' := by
  refine (samer_any E A E A v u gs gs (got_two hg) (got_two hg) w hv hu (by omega)).mono ?_
  rintro e w' ⟨rfl, hb⟩
  exact ⟨by simp, hb⟩
theorem rnote_at (b : Nat) (B B' : Nat → Sp) (c n E A R : Int) (v : Value) (gs : List (List Int)) (w : World) {F : Nat → Prop} (h : IsRb F w b B) (hv : Gots w v gs) (hn2 : n ≤ 18446744073709551615) (fE : fok1 .i64 E) (fA : fok1 .i64 A) (fG : ∀ q ∈ gs, fok gotK q) (hR : noteE B c n gs.length = R) (hB : noteB B c n E A gs = B') :
    Calls Try.prog 10 #[.pointer (some ⟨b, 0, none⟩), .int .u8 c, .int .u64 n, repV E A v] w fun e w' => e = .returned (.int .i64 R) ∧ IsRb (fun k => F k ∨ w.heap.size ≤ k) w' b B' ∧ w.grownBy w' (some b) := by
  subst hR; subst hB; exact rnote_any b B c n E A v gs w h hv hn2 fE fA fG
theorem rask_at (b : Nat) (B : Nat → Sp) (c n E A R : Int) (gs : List (List Int)) (l : Bool) (w : World) {F : Nat → Prop} (h : IsRb F w b B) (hr : askR B c n = ((E, A, gs), l, R)) :
    Calls Try.prog 15 #[.pointer (some ⟨b, 0, none⟩), .int .u8 c, .int .u64 n] w fun e w' => ∃ v, e = .returned (.tuple #[repV E A v, .bool l, .int .i64 R]) ∧ Gots w' v gs ∧ Below w.heap.size w w' := by
  have := rask_any b B c n w h
  rw [hr] at this
  exact this
/-- Replies' rows of one's own, as a page. -/
theorem got_page {B n : Nat} {w : World} {A : Option Addr} {xs : List Value} (h : Ow B w 42 2 (.slice A n n) n xs) (hn : n ≤ 4611686018427387904) :
    ∃ lie, Value.slice A n n = slOf lie ∧ (∀ m b, (⟨0, lie, m, b⟩ : Pg).In w False False) ∧ ∀ g, bkOf lie = some g → B ≤ g ∧ g < w.heap.size := by
  rcases h with ⟨hv, rfl, _⟩ | ⟨g, c, cur, hv, hB, hg, hcc, hl, hs, ht⟩
  · exact ⟨none, hv, fun _ _ => trivial, fun _ h => by cases h⟩
  · injection hv with h1 h2 h3
    subst h1; subst h3
    refine ⟨some (g, n, n), rfl, fun m b => ⟨cur, hg, hcc, hs, hn, fun h => h.elim, fun h => h.elim⟩, fun k hk => ?_⟩
    obtain rfl : g = k := by simpa [bkOf] using hk
    exact ⟨hB, hg.lt⟩
theorem Pg.In.keep {p : Pg} {w w' : World} {a b : Prop} (h : p.In w a b) (hk : ∀ g t cs, t ≠ 49 → t ≠ 78 → Blk w g t cs → Blk w' g t cs) : p.In w' a b := by
  obtain ⟨kd, lie, m, b0⟩ := p
  match lie, h with
  | none, _ => trivial
  | some (g, n, c), ⟨cur, hb, h1⟩ => exact ⟨cur, hk _ _ _ (fun e => kE_book kd e.symm) (fun e => kE_page kd e.symm) hb, h1⟩
/-- Rows of two numbers with signs, in a block of their own between B and C. -/
def Wr (B C : Nat) (w : World) (A : Option Addr) (k : Nat) : Prop := k = 0 ∨ ∃ g cur, A = some ⟨g, 0, none⟩ ∧ B ≤ g ∧ g < C ∧ Blk w g 42 cur ∧ ∀ i, i < k → ∃ x, cur[i * 2]? = some (.int .i64 x)
theorem Wr.of {B C : Nat} {w : World} {A : Option Addr} {k c : Nat} {gs : List (List Int)} (h : Ow B w 42 2 (.slice A k c) k (gs.flatMap (fc gotK))) (hk : k = gs.length) (hC : ∀ g, (Value.slice A k c).ownBlock = some g → g < C) : Wr B C w A k := by
  rcases h with ⟨hv, rfl, _⟩ | ⟨g, c', cur, hv, hB, hg, hcc, hl, hs, ht⟩
  · exact .inl rfl
  · injection hv with h1 h2 h3
    subst h1
    refine .inr ⟨g, cur, rfl, hB, hC g (by simp [Value.ownBlock]), hg, fun i hi => ?_⟩
    have h0 : (gs.flatMap (fc gotK))[i * 2 + 0]? = (fc gotK (gs[i]'(by omega)))[0]? := flatMap_get (fc gotK) 2 (fc_len gotK) gs i 0 (by omega) (by omega)
    rw [← ht, List.getElem?_take, if_pos (by omega)] at h0
    exact ⟨_, by simpa [gotK, fc] using h0⟩
theorem Wr.set {B C g k : Nat} {w : World} {cur : Array Value} (hB : B ≤ g) (hC : g < C) (hk : Blk w g 42 cur) (hx : ∀ i, i < k → ∃ x, cur[i * 2]? = some (.int .i64 x)) (j : Nat) (y : Int) (hj : j < k) :
    Wr B C (w.setCell ⟨g, j * 2, none⟩ (.int .i64 y)) (some ⟨g, 0, none⟩) k := by
  refine .inr ⟨g, _, rfl, hB, hC, hk.set_ (j * 2) _, fun i hi => ?_⟩
  by_cases hij : j = i
  · subst hij
    obtain ⟨x, hx⟩ := hx j hj
    refine ⟨y, set_eq_ ?_⟩
    rcases Nat.lt_or_ge (j * 2) cur.size with h | h
    · exact h
    · rw [Array.getElem?_eq_none h] at hx; cases hx
  · rw [set_ne_ (by omega)]; exact hx i hi
/-- The books, the act and the reply between the two Notes. -/
structure NtI (W wr wa : World) (b m SZ : Nat) (ca cb : Array Value) (v : Value) (k : Nat) (gs : List (List Int)) (w : World) (B1 B2 : Nat → Sp) : Prop where
  bk : IsBk (fun j => j < wr.heap.size ∨ SZ ≤ j) w b B1
  rb : IsRb (fun j => j < wr.heap.size ∨ SZ ≤ j) w m B2
  bel : Below W.heap.size W w
  a : Blk w wr.heap.size 38 ca
  c : Blk w wa.heap.size 33 cb
  o : Ow (wa.heap.size + 1) w 42 2 v k (gs.flatMap (fc gotK))
  sz : SZ ≤ w.heap.size
  b0 : W.heap.size ≤ b ∧ b < wr.heap.size
  m0 : W.heap.size ≤ m ∧ m < wr.heap.size
  wa : wr.heap.size < wa.heap.size
theorem NtI.below {W wr wa : World} {b m SZ : Nat} {ca cb : Array Value} {v : Value} {k : Nat} {gs : List (List Int)} {w w' : World} {B1 B2 : Nat → Sp} (h : NtI W wr wa b m SZ ca cb v k gs w B1 B2) (hb : Below w.heap.size w w') : NtI W wr wa b m SZ ca cb v k gs w' B1 B2 :=
  ⟨h.bk.below hb, h.rb.below hb, h.bel.trans (hb.mono h.bel.size), h.a.below hb h.a.lt, h.c.below hb h.c.lt, h.o.below hb, Nat.le_trans h.sz hb.size, h.b0, h.m0, h.wa⟩
theorem NtI.note {W wr wa : World} {b m SZ : Nat} {ca cb : Array Value} {v : Value} {k : Nat} {gs : List (List Int)} {w w' : World} {B1 B2 B' : Nat → Sp} (h : NtI W wr wa b m SZ ca cb v k gs w B1 B2) (hne : b ≠ m)
    (h' : IsBk (fun j => (j < wr.heap.size ∨ SZ ≤ j) ∨ w.heap.size ≤ j) w' b B') (hg : w.grownBy w' (some b)) : NtI W wr wa b m SZ ca cb v k gs w' B' B2 := by
  obtain ⟨cs, hcs⟩ := h.bk.blk
  have hwa := h.wa
  have hb0 := h.b0
  refine ⟨h'.mono fun j hj => hj.elim id fun hj => .inr (Nat.le_trans h.sz hj), h.rb.turn hg (fun e => hne e.symm) hcs (by decide), below_grown_ h.bel hg h.bel.size h.b0.1, ?_, ?_, h.o.grown hg hcs (by decide), Nat.le_trans h.sz hg.size, h.b0, h.m0, h.wa⟩
  · exact h.a.grown hg (fun e => by have := Option.some.inj e; omega)
  · exact h.c.grown hg (fun e => by have := Option.some.inj e; omega)
theorem NtI.rnote {W wr wa : World} {b m SZ : Nat} {ca cb : Array Value} {v : Value} {k : Nat} {gs : List (List Int)} {w w' : World} {B1 B2 B' : Nat → Sp} (h : NtI W wr wa b m SZ ca cb v k gs w B1 B2) (hne : b ≠ m)
    (h' : IsRb (fun j => (j < wr.heap.size ∨ SZ ≤ j) ∨ w.heap.size ≤ j) w' m B') (hg : w.grownBy w' (some m)) : NtI W wr wa b m SZ ca cb v k gs w' B1 B' := by
  obtain ⟨cs, hcs⟩ := h.rb.blk
  have hwa := h.wa
  have hm0 := h.m0
  refine ⟨h.bk.turn hg hne hcs (by decide), h'.mono fun j hj => hj.elim id fun hj => .inr (Nat.le_trans h.sz hj), below_grown_ h.bel hg h.bel.size h.m0.1, ?_, ?_, h.o.grown hg hcs (by decide), Nat.le_trans h.sz hg.size, h.b0, h.m0, h.wa⟩
  · exact h.a.grown hg (fun e => by have := Option.some.inj e; omega)
  · exact h.c.grown hg (fun e => by have := Option.some.inj e; omega)

/-- .. while the reply's rows are turned. -/
structure LpI (W wr wa : World) (b m SZ : Nat) (ca cb : Array Value) (A : Option Addr) (k : Nat) (w : World) (B : Nat → Sp) : Prop where
  bk : IsBk (fun j => j < wr.heap.size ∨ SZ ≤ j) w b B
  rb : IsRb (fun j => j < wr.heap.size ∨ SZ ≤ j) w m B
  bel : Below W.heap.size W w
  a : Blk w wr.heap.size 38 ca
  c : Blk w wa.heap.size 33 cb
  o : Wr (wa.heap.size + 1) SZ w A k
  b0 : W.heap.size ≤ b ∧ b < wr.heap.size
  m0 : W.heap.size ≤ m ∧ m < wr.heap.size
  wa : wr.heap.size < wa.heap.size
theorem LpI.set {W wr wa : World} {b m SZ : Nat} {ca cb : Array Value} {k : Nat} {w : World} {B : Nat → Sp} {g : Nat} {cur : Array Value} (h : LpI W wr wa b m SZ ca cb (some ⟨g, 0, none⟩) k w B) (hB : wa.heap.size + 1 ≤ g) (hC : g < SZ) (hk : Blk w g 42 cur)
    (hx : ∀ i, i < k → ∃ x, cur[i * 2]? = some (.int .i64 x)) (j : Nat) (y : Int) (hj : j < k) : LpI W wr wa b m SZ ca cb (some ⟨g, 0, none⟩) k (w.setCell ⟨g, j * 2, none⟩ (.int .i64 y)) B := by
  have hb0 := h.b0
  have hm0 := h.m0
  have hwa := h.wa
  exact ⟨h.bk.keep (grown_set_ w g _ _) (by omega) (by omega), h.rb.keep (grown_set_ w g _ _) (by omega) (by omega), h.bel.setCell (p := ⟨g, j * 2, none⟩) (by simp only; omega) _, h.a.far (by simp only; omega) _, h.c.far (by simp only; omega) _,
    Wr.set hB hC hk hx j y hj, h.b0, h.m0, h.wa⟩

set_option maxHeartbeats 16000000 in
set_option maxRecDepth 100000 in
theorem splay_walk (v : Value) (rs : List SaR) (w : World) (h : Sas w v rs) :
    Calls Try.prog 3 #[v] w fun e w' => e = .returned (.bool true) ∧ Below w.heap.size w w' := by
  have H := Lib.hid h
  obtain ⟨A, c, rfl, -⟩ := h.shape
  clear h
  go_enter Try.func3, Try.ntmps3
  go_wp2_with fail
  refine (sgreat_any _ rs w H.out).mono ?_
  rintro e w1 ⟨⟨b, rfl, hlen⟩, rfl⟩
  have LE := Lib.hid hlen
  clear hlen
  cases b
  case true =>
    go_wp2_with fail
    refine (slives _).mono ?_
    rintro e w2 ⟨rfl, hb⟩
    go_wp2
    go_ret
    exact ⟨rfl, hb⟩
  case false =>
    go_wp2_with fail
    refine (new_any _).mono ?_
    rintro e w2 ⟨rfl, hbk, hbe⟩
    have P0 := Lib.hid (show PlI w w.heap.size w2.heap.size (fun _ => True) (w2.alloc (.cells (rbCells (fun _ => Sp.zero) (fun _ => .slice none 0 0)).toArray 36)) (fun _ => Sp.zero) from
      ⟨(hbk.below (below_alloc_ _ _)).mono (fun _ h => h.elim), (IsRb.new_ (Blk.new w2 36 (rbCells (fun _ => Sp.zero) (fun _ => .slice none 0 0)).toArray)).mono (fun _ h => h.elim), hbe.trans ((below_alloc_ w2 _).mono hbe.size), Nat.le_refl _, hbe.size⟩)
    clear hbk hbe
    go_wp2
    obtain ⟨n, hn⟩ : ∃ n, n = rs.length := ⟨_, rfl⟩
    have N := Lib.hid hn
    rw [← hn]
    have hn150 : n ≤ 150 := by have := LE.out trivial; omega
    clear hn
    obtain ⟨m, hm⟩ : ∃ m, m = w2.heap.size := ⟨_, rfl⟩
    rw [← hm] at P0 ⊢
    clear hm
    go_loopg [5] n (fun q c5 wr => ∃ (i : Nat) (B : Nat → Sp), i ≤ n ∧ q = n - i ∧ c5 = .int .i64 i ∧ PlI w w.heap.size m (fun _ => True) wr B)
    case atStart => exact ⟨0, _, by omega, rfl, rfl, P0.out⟩
    case round =>
      obtain ⟨i, B, hi, hg, rfl, hR⟩ := hrel
      have G := Lib.hid hg
      have R := Lib.hid hR.lts
      clear hg hR P0
      by_cases hin : i < n
      · have hib : i < rs.length := by have := N.out; omega
        obtain ⟨g0, o0, rfl, -, c0, c1, c2, c3, c4, c5⟩ := (show Sas _ (.slice A n c) rs from by have := H.out.below R.out.bel; rw [← N.out] at this; exact this).at_ i hib
        have OK := Lib.hid (H.out.ok _ (List.getElem_mem hib))
        have h50 := (LE.out trivial).2 _ (List.getElem_mem hib)
        obtain ⟨r, hr⟩ : ∃ r, r = rs[i] := ⟨_, rfl⟩
        rw [← hr] at c0 c1 c2 c3 c4 c5 OK h50
        clear hr
        obtain ⟨nt, cl, num, E, AA, v, gs⟩ := r
        simp only at c0 c1 c2 c3 c4 c5 h50
        obtain ⟨AG, cG, hv, -⟩ := id OK.out.v
        simp only at hv
        subst hv
        have hcl := OK.out.cl
        simp only [byt] at hcl
        have BY := Lib.hid hcl
        have H50 := Lib.hid h50
        clear hcl h50
        have ba := below_alloc_ wr (.cells #[.bool nt, .int .u8 cl, .int .u64 num, .int .i64 E, .int .i64 AA, .slice AG gs.length cG] 38)
        have RA := Lib.hid (R.out.below ba)
        have GA := Lib.hid (Rd.below (Rd.below OK.out.v R.out.bel) ba)
        have KA := Lib.hid (Blk.new wr 38 #[.bool nt, .int .u8 cl, .int .u64 num, .int .i64 E, .int .i64 AA, .slice AG gs.length cG])
        obtain ⟨k, hk⟩ : ∃ k, k = gs.length := ⟨_, rfl⟩
        have KK := Lib.hid hk
        simp only at GA
        rw [← hk] at KA GA H50 RA c5
        obtain ⟨wa, hwa⟩ : ∃ wa, wa = wr.alloc (.cells #[.bool nt, .int .u8 cl, .int .u64 num, .int .i64 E, .int .i64 AA, .slice AG k cG] 38) := ⟨_, rfl⟩
        rw [← hwa] at KA GA RA
        have k0 := KA.out.cell 0
        have k5 := KA.out.cell 5
        simp only [List.getElem?_toArray, List.getElem?_cons_zero, List.getElem?_cons_succ] at k0 k5
        have hta : wr.heap.size < wa.heap.size := KA.out.lt
        clear ba hk
        go_upto_region 9 with fail
        rw [← hwa]
        clear c0 c1 c2 c3 c4 c5 hwa
        go_upto_if 37 with fail
        go_cut [] (fun wx => ∃ B', PlI w w.heap.size m (fun _ => True) wx B' ∧ Blk wx wr.heap.size 38 #[.bool nt, .int .u8 cl, .int .u64 num, .int .i64 E, .int .i64 AA, .slice AG k cG])
        case first =>
          cases nt
          case false =>
            go_wp2
            go_meet
            exact ⟨B, RA.out.mono (fun _ _ => trivial), KA.out⟩
          case true =>
            have k3 := KA.out.cell 3
            have k4 := KA.out.cell 4
            simp only [List.getElem?_toArray, List.getElem?_cons_zero, List.getElem?_cons_succ] at k3 k4
            have bb := below_alloc_ wa (.cells #[.int .i64 E, .int .i64 AA, .slice AG k cG] 33)
            have KB := Lib.hid (Blk.new wa 33 #[.int .i64 E, .int .i64 AA, .slice AG k cG])
            have GB := Lib.hid (Rd.below GA.out bb)
            have RB := Lib.hid (RA.out.below bb)
            have KAB := Lib.hid (KA.out.below bb hta)
            have H1 := Lib.hid (rows_one gotK gs)
            obtain ⟨wb, hwb⟩ : ∃ wb, wb = wa.alloc (.cells #[.int .i64 E, .int .i64 AA, .slice AG k cG] 33) := ⟨_, rfl⟩
            rw [← hwb] at KB GB RB KAB
            have htb : wa.heap.size < wb.heap.size := KB.out.lt
            clear bb
            go_upto_region 11 with fail
            rw [← hwb]
            clear k0 k3 k4 k5 hwb
            have k5 := KAB.out.cell 5
            simp only [List.getElem?_toArray, List.getElem?_cons_zero, List.getElem?_cons_succ] at k5
            have h50 := H50.out
            go_wp2_with (at_builtin; refine wpList_ow_rows (B := wa.heap.size + 1) (n := 0) (m := k) rfl _ _ 31 42 (.agg #[.int .i64 0, .int .i64 0]) 2 16 rfl Try.underlying31 got_info rfl (by decide) rfl (.inl ⟨rfl, rfl, rfl⟩) (by omega) GB.out H1.out rfl (by omega) (by unfold maxLen; omega) ?_; intro v2 w2 ho2 hg2; obtain ⟨A2, q2, rfl⟩ := ho2.sl_; have b2 := below_of_grown_ hg2.1; have O2 := Lib.hid ho2; have kq := KB.out.below b2 KB.out.lt; have f2 := kq.free; have d2 := kq.cell 2; simp only [List.getElem?_toArray, List.getElem?_cons_zero, List.getElem?_cons_succ] at d2; have B2 := Lib.hid b2; clear b2 ho2 hg2 kq)
            have HNE := Lib.hid RA.out.ne
            obtain ⟨RR, hRR⟩ : ∃ R, noteE B cl num gs.length = R := ⟨_, rfl⟩
            obtain ⟨B', hBB⟩ : ∃ B', noteB B cl num E AA gs = B' := ⟨_, rfl⟩
            have HRR := Lib.hid hRR
            have HBB := Lib.hid hBB
            have XG := Lib.hid (show Rd w 2 (.slice AG k cG) k (gs.flatMap (fc gotK)) by rw [KK.out]; exact OK.out.v)
            obtain ⟨w3, hw3⟩ : ∃ w3, w3 = w2.setCell ⟨wa.heap.size, 2, none⟩ (.slice A2 k q2) := ⟨_, rfl⟩
            have i3 : NtI w wr wa w.heap.size m w3.heap.size #[.bool true, .int .u8 cl, .int .u64 num, .int .i64 E, .int .i64 AA, .slice AG k cG] #[.int .i64 E, .int .i64 AA, .slice A2 k q2] (.slice A2 k q2) k gs w3 B B := by
              have s1 := R.out.bel.size
              have s2 := B2.out.size
              have s3 : w3.heap.size = w2.heap.size := by rw [hw3]; simp [World.setCell]
              have p3 := (RB.out.below B2.out).belowC ((Below.refl wr.heap.size w2).setCell (p := ⟨wa.heap.size, 2, none⟩) (Nat.le_of_lt hta) (.slice A2 k q2)) s1 R.out.bk.lt R.out.rb.lt (fun k hk => hk)
              rw [← hw3] at p3
              refine ⟨p3.bk.mono fun _ h => .inl h, p3.rb.mono fun _ h => .inl h, p3.bel, ?_, ?_, ?_, Nat.le_refl _, ⟨p3.b0, R.out.bk.lt⟩, ⟨p3.m0, R.out.rb.lt⟩, hta⟩
              · rw [hw3]; exact (KAB.out.below B2.out KAB.out.lt).far (by simp; omega) _
              · rw [hw3]; have := (KB.out.below B2.out KB.out.lt).set_ 2 (.slice A2 k q2); simpa using this
              · rw [hw3]; have := O2.out.far (p := ⟨wa.heap.size, 2, none⟩) (by simp) (.slice A2 k q2); simpa using this
            have LT := Lib.hid (show ∀ g, (Value.slice A2 k q2).ownBlock = some g → g < w3.heap.size from fun g hg => ow_lt i3.o g hg)
            have I0 := Lib.hid (i3.below (Below.refl _ _).drew)
            have KS := Lib.hid (fun X B1 B2 (h : NtI w wr wa w.heap.size m w3.heap.size #[.bool true, .int .u8 cl, .int .u64 num, .int .i64 E, .int .i64 AA, .slice AG k cG] #[.int .i64 E, .int .i64 AA, .slice A2 k q2] (.slice A2 k q2) k gs X B1 B2) =>
              (⟨(h.a.cell 1).trans rfl, (h.a.cell 2).trans rfl, (h.a.cell 3).trans rfl, (h.a.cell 4).trans rfl, (h.a.cell 5).trans rfl, (h.c.cell 0).trans rfl, (h.c.cell 1).trans rfl, (h.c.cell 2).trans rfl⟩ :
                X.cell? ⟨wr.heap.size, 1, none⟩ = some (.int .u8 cl) ∧ X.cell? ⟨wr.heap.size, 2, none⟩ = some (.int .u64 num) ∧ X.cell? ⟨wr.heap.size, 3, none⟩ = some (.int .i64 E) ∧ X.cell? ⟨wr.heap.size, 4, none⟩ = some (.int .i64 AA) ∧ X.cell? ⟨wr.heap.size, 5, none⟩ = some (.slice AG k cG) ∧
                X.cell? ⟨wa.heap.size, 0, none⟩ = some (.int .i64 E) ∧ X.cell? ⟨wa.heap.size, 1, none⟩ = some (.int .i64 AA) ∧ X.cell? ⟨wa.heap.size, 2, none⟩ = some (.slice A2 k q2)))
            rw [← hw3]
            clear i3 hw3 hRR hBB k5 f2 d2 O2 B2 KB GB RB KAB h50
            go_region_held3 (fun X => X.cell? ⟨wr.heap.size, 1, none⟩ = some (.int .u8 cl) ∧ X.cell? ⟨wr.heap.size, 2, none⟩ = some (.int .u64 num) ∧ X.cell? ⟨wr.heap.size, 3, none⟩ = some (.int .i64 E) ∧ X.cell? ⟨wr.heap.size, 4, none⟩ = some (.int .i64 AA) ∧ X.cell? ⟨wr.heap.size, 5, none⟩ = some (.slice AG k cG) ∧
                X.cell? ⟨wa.heap.size, 0, none⟩ = some (.int .i64 E) ∧ X.cell? ⟨wa.heap.size, 1, none⟩ = some (.int .i64 AA) ∧ X.cell? ⟨wa.heap.size, 2, none⟩ = some (.slice A2 k q2)) (first
              | (with_reducible exact KS.out _ _ _ I3.out)
              | (with_reducible exact KS.out _ _ _ I2.out)
              | (with_reducible exact KS.out _ _ _ I1.out)
              | (with_reducible exact KS.out _ _ _ I0.out)
              | fail)
             (first
              | (go_at_call 11; refine (samer_eq E AA _ _ gs _ OK.out.gs (by have := KK.out; have := H50.out; omega) (gots_k KK.out I2.out.o.rd) (gots_k KK.out (Rd.below XG.out I2.out.bel))).mono ?_; rintro e w6 ⟨rfl, b6⟩; have I3 := Lib.hid (I2.out.below b6); clear b6)
              | (go_at_call 10; refine (rnote_at m B B' cl num E AA RR _ gs _ I1.out.rb (gots_k KK.out (Rd.below XG.out I1.out.bel)) OK.out.num.2 OK.out.e OK.out.a OK.out.gs HRR.out HBB.out).mono ?_; rintro e w5 ⟨rfl, h5, g5⟩; have I2 := Lib.hid (I1.out.rnote HNE.out h5 g5); clear h5 g5)
              | (go_at_call 9; refine (note_at w.heap.size B B' cl num E AA RR _ gs _ I0.out.bk (gots_k KK.out I0.out.o.rd) OK.out.num.2 OK.out.e OK.out.a OK.out.gs HRR.out HBB.out).mono ?_; rintro e w4 ⟨rfl, h4, g4⟩; have I1 := Lib.hid (I0.out.note HNE.out h4 g4); clear h4 g4))
            have J0 := Lib.hid (show LpI w wr wa w.heap.size m w3.heap.size #[.bool true, .int .u8 cl, .int .u64 num, .int .i64 E, .int .i64 AA, .slice AG k cG] #[.int .i64 E, .int .i64 AA, .slice A2 k q2] A2 k w6 B' from
              ⟨I3.out.bk, I3.out.rb, I3.out.bel, I3.out.a, I3.out.c, Wr.of I3.out.o KK.out LT.out, I3.out.b0, I3.out.m0, I3.out.wa⟩)
            clear I0 I1 I2 I3 KS
            go_wp2_with fail
            go_loopg [8] k (fun q c8 wl => ∃ j : Nat, j ≤ k ∧ q = k - j ∧ c8 = .int .i64 j ∧ LpI w wr wa w.heap.size m w3.heap.size #[.bool true, .int .u8 cl, .int .u64 num, .int .i64 E, .int .i64 AA, .slice AG k cG] #[.int .i64 E, .int .i64 AA, .slice A2 k q2] A2 k wl B')
            case atStart => exact ⟨0, by omega, rfl, rfl, J0.out⟩
            case round =>
              obtain ⟨j, hj, hq, rfl, hL⟩ := hrel
              have LL := Lib.hid hL
              have Q := Lib.hid hq
              have c2 := hL.c.cell 2
              simp only [List.getElem?_toArray, List.getElem?_cons_zero, List.getElem?_cons_succ] at c2
              clear hq hL J0
              by_cases hjk : j < k
              · rcases LL.out.o with h0 | ⟨g, cur, rfl, hB, hC, hk, hx⟩
                · omega
                obtain ⟨x, hxj⟩ := hx j hjk
                have y0 := hk.cell (j * 2)
                rw [hxj] at y0
                have f0 := hk.free
                have HB := Lib.hid hB
                have HC := Lib.hid hC
                have HK := Lib.hid hk
                have HX := Lib.hid hx
                have hk50 := H50.out
                clear hB hC hk hx hxj
                go_wp2
                go_roundg (k - (j + 1))
                case measure => have := Q.out; omega
                case rel => exact ⟨j + 1, by omega, rfl, by go_num, LL.out.set HB.out HC.out HK.out HX.out j _ hjk⟩
              · obtain rfl : j = k := by omega
                go_wp2
                go_meet
                exact ⟨B', ⟨LL.out.bk.mono fun _ _ => trivial, LL.out.rb.mono fun _ _ => trivial, LL.out.bel, LL.out.b0.1, LL.out.m0.1⟩, LL.out.a⟩
        case rest =>
          obtain ⟨B', hP, hK⟩ := hcut
          have P := Lib.hid hP.lts
          have KC := Lib.hid hK
          have k1 := hK.cell 1
          simp only [List.getElem?_toArray, List.getElem?_cons_zero, List.getElem?_cons_succ] at k1
          clear hP hK k0 k5 KA RA GA
          obtain ⟨t, ht⟩ : ∃ t, decide (1 ≤ cl ∧ cl ≤ 8) = t := ⟨_, rfl⟩
          have HT := Lib.hid ht
          clear ht
          go_wp2_with fail
          refine (ris_at cl t _ HT.out).mono ?_
          rintro e wi ⟨rfl, rfl⟩
          go_upto_if 86 with fail
          go_cut [9] (fun s9 wx => s9 = .int .u64 (lastL B' cl) ∧ Below wc.heap.size wc wx)
          case first =>
            cases t
            case false =>
              have hL : lastL B' cl = 0 := if_neg (of_decide_eq_false HT.out)
              have HL := Lib.hid hL
              clear hL
              go_wp2
              go_meet
              exact ⟨by rw [HL.out], Below.refl _ _⟩
            case true =>
              obtain ⟨mc, rfl⟩ : ∃ mc : Nat, cl = mc := ⟨cl.toNat, by have := of_decide_eq_true HT.out; omega⟩
              have hmc : 1 ≤ mc ∧ mc ≤ 8 := by have := of_decide_eq_true HT.out; omega
              have hm1 : (mc : Int) < 9 := by omega
              have hm2 : mc < 9 := by omega
              obtain ⟨V, hb, -⟩ := P.out.rb
              have x0 := hb.cell mc
              rw [rbCells_num _ _ mc hm2] at x0
              have HL := Lib.hid (show lastL B' mc = (shB B' mc).num by
                unfold lastL shB
                rw [if_pos (by omega), if_neg (by omega), show ((mc : Int) - 1).toNat = mc - 1 from by omega])
              clear hb
              go_wp2_with fail
              go_quiet (fail)
              go_wp2
              go_meet
              exact ⟨by rw [HL.out], below_drewN_ _ _ _⟩
          case rest =>
            obtain ⟨rfl, hbd⟩ := hcut
            have P2 := Lib.hid (P.out.below hbd).lts
            have KD := Lib.hid (KC.out.below hbd KC.out.lt)
            clear hbd k1 P KC
            obtain ⟨L, hL⟩ : ∃ L, lastL B' cl = L := ⟨_, rfl⟩
            obtain ⟨E1, A1, gs1, l1, R1, hask⟩ : ∃ E1 A1 gs1 l1 R1, askR B' cl num = ((E1, A1, gs1), l1, R1) := ⟨_, _, _, _, _, rfl⟩
            rw [hL]
            have hgo := askR_ok (fun i hi => P2.out.bk.ok i hi) hask
            have GF := Lib.hid hgo.2
            have hn8 := hgo.1
            obtain ⟨n1, hn1⟩ : ∃ n1, n1 = gs1.length := ⟨_, rfl⟩
            have HL := Lib.hid hL
            have AK := Lib.hid hask
            have N1 := Lib.hid hn1
            rw [← hn1] at hn8
            have x1 := KD.out.cell 1
            have x2 := KD.out.cell 2
            simp only [List.getElem?_toArray, List.getElem?_cons_zero, List.getElem?_cons_succ] at x1 x2
            clear hL hask hgo hn1
            go_wp2_with fail
            refine (last_any w.heap.size cl B' _ P2.out.bk L HL.out).mono ?_
            rintro e wi ⟨rfl, rfl⟩
            go_wp2_with fail
            refine (ask_at w.heap.size B' cl num E1 A1 R1 gs1 l1 _ P2.out.bk AK.out).mono ?_
            rintro e we ⟨P1, rfl, ho1, hb1⟩
            rw [← N1.out] at ho1 ⊢
            have ba := below_alloc_ we (.cells #[.int .i64 E1, .int .i64 A1, .slice P1 n1 n1] 33)
            have hbf := hb1.trans (ba.mono hb1.size)
            have O3 := Lib.hid (ho1.below ba)
            have Q3 := Lib.hid (Blk.new we 33 #[.int .i64 E1, .int .i64 A1, .slice P1 n1 n1])
            obtain ⟨wf, hwf⟩ : ∃ wf, wf = we.alloc (.cells #[.int .i64 E1, .int .i64 A1, .slice P1 n1 n1] 33) := ⟨_, rfl⟩
            rw [← hwf] at hbf O3 Q3
            have P3 := Lib.hid (P2.out.below hbf)
            have K3 := Lib.hid (KD.out.below hbf KD.out.lt)
            have PG1 := Lib.hid (got_page O3.out (by omega))
            have S0' := Lib.hid (show wc.heap.size ≤ wf.heap.size from hbf.size)
            clear ba hb1 ho1 hbf
            go_upto_region 24 with fail
            rw [← hwf]
            clear hwf x1 x2
            have x1 := K3.out.cell 1
            have x2 := K3.out.cell 2
            simp only [List.getElem?_toArray, List.getElem?_cons_zero, List.getElem?_cons_succ] at x1 x2
            go_wp2_with fail
            refine (rask_at m B' cl num E1 A1 R1 gs1 l1 _ P3.out.rb AK.out).mono ?_
            rintro e wg ⟨v2, rfl, hg2, hb2⟩
            obtain ⟨P4, c4, rfl, -⟩ := id hg2
            have hg2' : Rd wg 2 (.slice P4 n1 c4) n1 (gs1.flatMap (fc gotK)) := by rw [N1.out]; exact hg2
            rw [← N1.out]
            have ba := below_alloc_ wg (.cells #[.int .i64 E1, .int .i64 A1, .slice P4 n1 c4] 33)
            have hbf := hb2.trans (ba.mono hb2.size)
            have V4 := Lib.hid (Rd.below hg2' ba)
            have Q4 := Lib.hid (Blk.new wg 33 #[.int .i64 E1, .int .i64 A1, .slice P4 n1 c4])
            obtain ⟨wh, hwh⟩ : ∃ wh, wh = wg.alloc (.cells #[.int .i64 E1, .int .i64 A1, .slice P4 n1 c4] 33) := ⟨_, rfl⟩
            rw [← hwh] at hbf V4 Q4
            have P4' := Lib.hid (P3.out.below hbf)
            have K4 := Lib.hid (K3.out.below hbf K3.out.lt)
            have O4 := Lib.hid (O3.out.below hbf)
            have Q34 := Lib.hid (Q3.out.below hbf Q3.out.lt)
            have B4 := Lib.hid hbf
            clear ba hb2 hg2 hg2' hbf
            go_upto_region 25 with fail
            rw [← hwh]
            clear hwh x1 x2
            have x1 := K4.out.cell 1
            have x2 := K4.out.cell 2
            simp only [List.getElem?_toArray, List.getElem?_cons_zero, List.getElem?_cons_succ] at x1 x2
            go_wp2_with fail
            refine (ask_at w.heap.size B' cl num E1 A1 R1 gs1 l1 _ P4'.out.bk AK.out).mono ?_
            rintro e wi ⟨P5, rfl, ho1, hb1⟩
            rw [← N1.out] at ho1 ⊢
            have ba := below_alloc_ wi (.cells #[.int .i64 E1, .int .i64 A1, .slice P5 n1 n1] 33)
            have hbf := hb1.trans (ba.mono hb1.size)
            have O5 := Lib.hid (ho1.below ba)
            have Q5 := Lib.hid (Blk.new wi 33 #[.int .i64 E1, .int .i64 A1, .slice P5 n1 n1])
            obtain ⟨wj, hwj⟩ : ∃ wj, wj = wi.alloc (.cells #[.int .i64 E1, .int .i64 A1, .slice P5 n1 n1] 33) := ⟨_, rfl⟩
            rw [← hwj] at hbf O5 Q5
            have P5' := Lib.hid (P4'.out.below hbf)
            have O35 := Lib.hid (O4.out.below hbf)
            have Q35 := Lib.hid (Q34.out.below hbf Q34.out.lt)
            have Q45 := Lib.hid (Q4.out.below hbf Q4.out.lt)
            have V5 := Lib.hid (Rd.below V4.out hbf)
            have B5 := Lib.hid (B4.out.trans (hbf.mono B4.out.size))
            clear ba hb1 ho1 hbf
            go_upto_region 26 with fail
            rw [← hwj]
            clear hwj x1 x2
            have M0 := Lib.hid (Bks.new_ (Below.refl wj.heap.size wj) (Nat.le_refl _))
            obtain ⟨lie1, hl1, pi1, ge1⟩ := PG1.out
            obtain ⟨lie2, hl2, pi2, ge2⟩ := got_page O5.out (by omega)
            have HL1 := Lib.hid hl1
            have HL2 := Lib.hid hl2
            have GE1 := Lib.hid ge1
            have GE2 := Lib.hid ge2
            have PA := Lib.hid (fun m b => ((pi1 m b).keep fun _ _ _ _ _ hk => hk.below B5.out hk.lt).keep (w' := wj.alloc (.cells #[.slice none 0 0] 49)) fun _ _ _ _ _ hk => hk.alloc _)
            have PB := Lib.hid (fun m b => (pi2 m b).keep (w' := wj.alloc (.cells #[.slice none 0 0] 49)) fun _ _ _ _ _ hk => hk.alloc _)
            have x3 := (Q35.out.alloc (.cells #[.slice none 0 0] 49)).cell 2
            simp only [List.getElem?_toArray, List.getElem?_cons_zero, List.getElem?_cons_succ] at x3
            clear hl1 hl2 pi1 pi2 ge1 ge2
            go_wp2_with fail
            rw [HL1.out]
            refine (add_got [] _ _ _ _ _ M0.out (by simp) lie1).mono ?_
            rintro e w15 ⟨rfl, pv1, m1, b1, em1, eb1, hM1, hk1⟩
            have M1 := Lib.hid hM1
            have PA1 := Lib.hid ((PA.out m1 b1).keep hk1)
            have PB1 := Lib.hid (fun m b => (PB.out m b).keep hk1)
            have x5 := (hk1 _ _ _ (by decide) (by decide) (Q5.out.alloc (.cells #[.slice none 0 0] 49))).cell 2
            simp only [List.getElem?_toArray, List.getElem?_cons_zero, List.getElem?_cons_succ] at x5
            clear hM1 hk1 PA PB M0 x3
            go_wp2_with fail
            rw [HL2.out]
            refine (add_got _ _ _ _ _ _ M1.out (by simp) lie2).mono ?_
            rintro e w16 ⟨rfl, pv2, m2, b2, em2, eb2, hM2, hk2⟩
            have M2 := Lib.hid (show Bks [⟨0, lie1, m1, b1⟩, ⟨0, lie2, m2, b2⟩] _ _ _ _ _ from hM2)
            have PA2 := Lib.hid (PA1.out.keep hk2)
            have PB2 := Lib.hid ((PB1.out m2 b2).keep hk2)
            have X16 := Lib.hid hM2.bel
            clear hM2 hk2 PA1 PB1 M1 x5
            have x3 := Q35.out.below X16.out Q35.out.lt
            have x4 := Q45.out.below X16.out Q45.out.lt
            have y0 := x3.cell 0
            have y1 := x3.cell 1
            have y2 := x3.cell 2
            have z0 := x4.cell 0
            have z1 := x4.cell 1
            have z2 := x4.cell 2
            simp only [List.getElem?_toArray, List.getElem?_cons_zero, List.getElem?_cons_succ] at y0 y1 y2 z0 z1 z2
            clear x3 x4
            go_wp2_with fail
            refine (samer_eq E1 A1 _ _ gs1 _ GF.out (by have := N1.out; omega) (gots_k N1.out (Rd.below O35.out.rd X16.out)) (gots_k N1.out (Rd.below V5.out X16.out))).mono ?_
            rintro e w17 ⟨rfl, hb⟩
            have Y17 := Lib.hid hb
            have X17 := Lib.hid (X16.out.trans (hb.mono X16.out.size))
            clear hb y0 y1 y2 z0 z1 z2
            go_wp2_with fail
            refine (put_any w.heap.size B' _ (P5'.out.below X17.out).bk).mono ?_
            rintro e w18 ⟨v18, rfl, ho18, hb⟩
            have Y18 := Lib.hid (Y17.out.trans (hb.mono Y17.out.size))
            have X18 := Lib.hid (X17.out.trans (hb.mono X17.out.size))
            have BO := Lib.hid ho18.bs
            clear hb ho18
            go_wp2_with fail
            refine (rbput_any m B' _ (P5'.out.below X18.out).rb).mono ?_
            rintro e w19 ⟨v19, rfl, ho19, hb⟩
            have Y19 := Lib.hid (Y18.out.trans (hb.mono Y18.out.size))
            have X19 := Lib.hid (X18.out.trans (hb.mono X18.out.size))
            have BO2 := Lib.hid (BO.out.below hb)
            have RO2 := Lib.hid ho19.bs
            have BL := Lib.hid (bookB_len (B := B') (fun i hi => P5'.out.bk.ok i hi))
            clear hb ho19
            go_wp2_with fail
            refine (sameb_any _ _ v18 v19 _ BO2.out RO2.out (by have := BL.out; omega)).mono ?_
            rintro e w20 ⟨rfl, q20, rfl⟩
            rw [decide_eq_true (rfl : bookB B' = bookB B')]
            have Y20 := Lib.hid (Y19.out.trans (below_drewN_ w16.heap.size w19 q20))
            have X20 := Lib.hid (X19.out.trans (below_drewN_ wj.heap.size w19 q20))
            have S1 := B4.out.size
            have S2 := B5.out.size
            have S3 := X20.out.size
            have S0 : wc.heap.size ≤ wf.heap.size := S0'.out
            go_wp2_with fail
            refine (apart_any [⟨0, lie1, m1, b1⟩, ⟨0, lie2, m2, b2⟩] (by
                intro p hp
                simp only [List.mem_cons, List.not_mem_nil, or_false] at hp
                rcases hp with rfl | rfl
                · exact ⟨(show (0 : Nat) < 1 by decide), em1, eb1⟩
                · exact ⟨(show (0 : Nat) < 1 by decide), em2, eb2⟩) (by
                intro i j hi hj hij g hg
                have hi' : i = 0 ∨ i = 1 := by simp at hi; omega
                have hj' : j = 0 ∨ j = 1 := by simp at hj; omega
                rcases hi' with rfl | rfl <;> rcases hj' with rfl | rfl <;>
                  first
                    | exact absurd rfl hij
                    | (intro hg2; have q1 := GE1.out g hg; have q2 := GE2.out g hg2; omega)
                    | (intro hg2; have q1 := GE2.out g hg; have q2 := GE1.out g hg2; omega)) (by simp) _ _ wc.heap.size _ (by
                intro p hp g hg
                simp only [List.mem_cons, List.not_mem_nil, or_false] at hp
                rcases hp with rfl | rfl
                · exact (GE1.out g hg).1
                · have := (GE2.out g hg).1; omega) (M2.out.bk.below Y20.out M2.out.bk.lt) ((M2.out.ow.below Y20.out).le (Nat.zero_le _)) (by
                intro p hp
                simp only [List.mem_cons, List.not_mem_nil, or_false] at hp
                rcases hp with rfl | rfl
                · exact PA2.out.keep fun _ _ _ _ _ hk => hk.below Y20.out hk.lt
                · exact PB2.out.keep fun _ _ _ _ _ hk => hk.below Y20.out hk.lt) (by omega)).mono ?_
            rintro e w21 ⟨rfl, hb⟩
            have PE := Lib.hid ((P5'.out.below X20.out).belowC hb (by have := P2.out.bel.size; omega) P2.out.bk.lt P2.out.rb.lt (fun k hk => hk))
            clear hb
            go_wp2_with fail
            go_roundg (n - (i + 1))
            case measure => have := G.out; omega
            case rel => exact ⟨i + 1, B', by omega, rfl, by go_num, PE.out.mono fun _ _ => trivial⟩
      · obtain rfl : i = n := by omega
        go_wp2_with fail
        refine (slives _).mono ?_
        rintro e w3 ⟨rfl, hb⟩
        go_wp2
        go_ret
        exact ⟨rfl, R.out.bel.trans (hb.mono R.out.bel.size)⟩
end Go.Proofs.Ytcpiockmkpdkjaa
