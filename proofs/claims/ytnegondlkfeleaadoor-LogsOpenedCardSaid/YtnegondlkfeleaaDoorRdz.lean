import Derived.RangeFuncNested
import Derived.RangeFuncBound
import Derived.RangeFuncCalls
import Derived.RangeFuncLeaves
import Derived.RangeFuncBox
import Derived.Shelf.Abstract
import Derived.Shelf.RegionOpen
import Derived.WalkKit
import Derived.OwnWalkIn
import Derived.TacticsInMore
import Derived.LoopNIn
import Derived.LoopIn
import Derived.Maps.AppendAt
import Derived.Test.YtnegondlkfeleaaDoorMem
import Derived.Test.YtnegondlkfeleaaDoorShp
import Derived.Test.YtnegondlkfeleaaDoorGet
/- A range over a function whose iterator tells of the world behind it, too. -/
namespace Go.Proofs.YtnegondlkfeleaaDoor
open Go.RowKit Go.Shelf

/-- What an iterator does: S, Sp: what has come, and what is so in the world behind. -/
def SeqW {α : Type} (n : Nat) (P : Program) (g : Nat) (lb : Array Value) (encs : α → Array Value) (Kp : World → World → Prop) (S Sp : List α → World → Prop) (N : Nat) (w : World) : Prop :=
  ∀ (l : Nat) (J Jx : List α → World → Prop) (W : World), Below w.heap.size w W → AbidesFrom W.heap.size J → AbidesFrom W.heap.size Jx →
    (∀ pre x W1, J pre W1 → pre.length < N → YieldAt Fence.wide (n - 1) P l (encs x) W1 fun e W' =>
      (e = .returned (.bool true) ∧ J (pre ++ [x]) W' ∧ Kp W1 W') ∨ (e = .returned (.bool false) ∧ Jx (pre ++ [x]) W')) →
    J [] W →
    CallsIn Fence.wide n P g (#[.func (.yield l) #[] #[]] ++ lb) W fun e W' => (∃ v, e = .returned v) ∧ ((∃ xs, S xs W' ∧ J xs W') ∨ (∃ pre, Sp pre W' ∧ Jx pre W'))

set_option maxHeartbeats 1000000 in
/-- The law of the caller: the body never leaves the loop. -/
theorem wp_rangeW {P : Program} {n : Nat} {α : Type} {g : Operand} {ps : Array Tmp} {assign body : Code} {Q : Exit → Act → World → Prop} {a : Act} {w : World}
    (h1 : 1 ≤ n) {gf : Nat} {lb : Array Value} (hg : a.eval g = .func (.func gf) #[] lb) (eg : ∀ args w, (callFunc gf args).run P w = .ok (.enter gf args) w)
    {encs : α → Array Value} {Kp : World → World → Prop} {S Sp : List α → World → Prop} {N : Nat} {w0 : World} (hseq : SeqW (n - 1) P gf lb encs Kp S Sp N w0)
    (hKt : ∀ {A B C : World}, Kp A B → Kp B C → Kp A C) (hKb : ∀ (W : World) (l : Nat) (o o' : Obj), w.heap.size ≤ l → W.heap[l]? = some o → o.isCells = false → o.isWalk = false → Kp W (W.putObj l o')) (hb0 : Below w0.heap.size w0 w) (hps : ∀ x, (encs x).size = ps.size)
    (I : List α → World → Prop) (hI : OwnFrom w.heap.size I) (hS : OwnFrom w.heap.size S) (h0 : I [] w) (a₁ : α → Act)
    (hassign : ∀ (l : Nat) (x : α) (W : World) (K : Act → World → Prop), K (a₁ x) W →
      assign.wpIn (Fence.wide.inRound l) (n - 1 - 1) P (Exit.then K (fun _ _ _ => False)) { tmps := (ps.zip (encs x)).foldl (fun t (p, v) => t.setIfInBounds p v) a.tmps, defers := [] } W)
    (hbody : ∀ (l : Nat) (pre : List α) (x : α) (W : World), I pre W → pre.length < N → body.wpIn (Fence.wide.inRound l) (n - 1 - 1) P (ownPostG w.heap.size Kp I (fun _ _ _ => False) (pre ++ [x]) W) (a₁ x) W)
    (hdone : ∀ (D : Nat) (xs : List α) (W : World), w.heap.size ≤ D → S xs W → I xs W → W.heap[D]? = some (.deferred (some [])) → Q .normal { a with defers := { target := .collected D, args := #[] } :: a.defers } W) :
    (Code.rangeFunc g ps assign body).wpIn Fence.wide n P Q a w := by
  refine wpIn_rangeFunc ?_
  intro fn hfn
  obtain ⟨rec, hrec⟩ : ∃ rec : LoopState → Option Code → Loop, rec = fun st pe => { state := st, pending := pe, fn, tmps := a.tmps, params := ps, assign, body, defers := w.heap.size } := ⟨_, rfl⟩
  obtain ⟨W1, hW1⟩ : ∃ W1, (w.alloc (.deferred (some []))).alloc (.loop (rec .ready none)) = W1 := ⟨_, rfl⟩
  have hL1 : W1.heap[w.heap.size + 1]? = some (.loop (rec .ready none)) := by
    rw [← hW1]; have := World.alloc_heap_new (w.alloc (.deferred (some []))) (.loop (rec .ready none)); rwa [World.size_alloc] at this
  have hK1 : W1.heap[w.heap.size]? = some (.deferred (some [])) := by
    rw [← hW1]; exact (Below.heap_alloc _ _ _ (by simp)).trans (World.alloc_heap_new w _)
  have hI1 : I [] W1 := by rw [← hW1]; exact hI.alloc _ (hI.alloc _ h0)
  have hb1 : Below w0.heap.size w0 W1 := by
    rw [← hW1]; exact hb0.trans ((((Below.refl _ w).alloc (Nat.le_refl _) _).alloc (by simp) _).mono hb0.size)
  refine ⟨w.heap.size + 1, [{ target := .collected w.heap.size, args := #[] }], W1, { target := .fn (.func gf) lb, args := #[.func (.yield (w.heap.size + 1)) #[] #[]] }, W1, gf,
    #[.func (.yield (w.heap.size + 1)) #[] #[]] ++ lb, W1, ?_, ?_, ?_, ?_, fun _ => h1, ?_⟩
  · rw [← hW1, hrec]; exact run_enterLoop_outer _ _ _ _ _
  · simp only [resolve, hg]
    simp [go_sem]
  · intro f' _; trivial
  · simp [invoke, go_sem, eg]
  · have hnw : ∀ {A B : World} {row : Option Nat}, (∀ r, row = some r → W1.heap.size ≤ r ∧ ∃ o : Obj, A.heap[r]? = some o ∧ o.isWalk = true) → (∀ r, row = some r → w.heap.size ≤ r ∧ ∃ o : Obj, A.heap[r]? = some o ∧ o.isCells = false) :=
      fun hr r e => by obtain ⟨hB, o, ho, hw⟩ := hr r e; exact ⟨by rw [← hW1] at hB; simp at hB; omega, o, ho, Obj.not_cells_of_walk hw⟩
    refine (hseq (w.heap.size + 1)
      (fun pre W => I pre W ∧ W.heap[w.heap.size + 1]? = some (.loop (rec .ready none)) ∧ W.heap[w.heap.size]? = some (.deferred (some [])))
      (fun _ _ => False)
      W1 hb1
      (fun s A B row hs hg' hr => ⟨hI s A B row hs.1 hg' (hnw (B := B) hr), (grownBy_keeps hg' (fun r e => (hr r e).2) hs.2.1 rfl).trans hs.2.1, (grownBy_keeps hg' (fun r e => (hr r e).2) hs.2.2 rfl).trans hs.2.2⟩)
      (fun s A B row hs hg' hr => hs)
      ?_ ⟨hI1, hL1, hK1⟩).mono ?_
    · rintro pre x W ⟨hi, hl, hk⟩ hlen
      have hlt : w.heap.size + 1 < W.heap.size := (Array.getElem?_eq_some_iff.1 hl).1
      have hy := run_yield (P := P) (args := encs x) hl (by rw [hrec]; exact hps x)
      rw [hrec] at hy
      refine ⟨fn, _, assign, body, hy, roundIn_of_wpIn hfn (hassign _ x W _ ⟨_, run_beginRound hl (by rw [hrec]), ?_⟩)⟩
      have hl2 : (W.putObj (w.heap.size + 1) (.loop { rec .ready none with state := .busy })).heap[w.heap.size + 1]? = some (.loop { rec .ready none with state := .busy }) := World.putObj_heap_same hlt
      have hk2 : (W.putObj (w.heap.size + 1) (.loop { rec .ready none with state := .busy })).heap[w.heap.size]? = some (.deferred (some [])) := (World.putObj_heap_other (by omega)).trans hk
      have hw2 : Kp W (W.putObj (w.heap.size + 1) (.loop { rec .ready none with state := .busy })) := hKb _ _ _ _ (by omega) hl rfl rfl
      refine wpIn_mono (hbody _ pre x _ (hI.putObj _ hi (by omega) hl rfl) hlen) ?_
      rintro e a3 W3 hp
      cases e with
      | normal =>
        obtain ⟨hk3, hkp3, hi3⟩ := hp
        have hl3 := hk3.same _ _ (by omega) hl2 rfl
        have hr := run_endRound (P := P) none hl3
        rw [hrec] at hr hl3
        refine ⟨_, _, hr, .inl ⟨rfl, ⟨hI.putObj _ hi3 (by omega) hl3 rfl, ?_, ?_⟩, hKt (hKt hw2 hkp3) (hKb _ _ _ _ (by omega) hl3 rfl rfl)⟩⟩
        · rw [hrec]; exact World.putObj_heap_same (Array.getElem?_eq_some_iff.1 hl3).1
        · exact (World.putObj_heap_other (by omega)).trans (hk3.same _ _ (Nat.le_refl _) hk2 rfl)
      | ret => exact hp.2.elim
      | exit id => exact hp.2.elim
      | goto t => exact hp.2.elim
      | panic ch => exact hp.elim
      | outgrown => exact hp.elim
    · rintro e W2 ⟨⟨v, rfl⟩, (⟨xs, hs, hi, hl, hk⟩ | ⟨pre, hSp, hx⟩)⟩
      · exact ⟨none, _, by have := run_endLoop (P := P) hl (by rw [hrec]; simp); rw [hrec] at this; exact this, hdone _ xs _ (Nat.le_refl _) (hS.putObj _ hs (by omega) hl rfl) (hI.putObj _ hi (by omega) hl rfl) ((World.putObj_heap_other (by omega)).trans hk)⟩
      · exact hx.elim
end Go.Proofs.YtnegondlkfeleaaDoor

/- frames.frames: all frames of bytes, as an iterator. -/
namespace Go.Proofs.YtnegondlkfeleaaDoor
open Go.RowKit Go.Shelf
attribute [local go_sem] Oper.semAt_some

/-- A body, as yield is given it: its slice; where its frame ends. -/
abbrev Bod := Option Addr × Nat × Nat
def bodV (x : Bod) : Value := .slice x.1 x.2.1 x.2.1
def bodA (x : Bod) : Array Value := #[bodV x, .int .i64 (x.2.2 : Int)]
def lastTo (ys : List Bod) : Nat := (ys.getLast?.map (fun y => y.2.2)).getD 0
theorem lastTo_app (ys : List Bod) (x : Bod) : lastTo (ys ++ [x]) = x.2.2 := by simp [lastTo]
/-- Below n₀ nothing turns, no block of bytes does, and not the block Bx. -/
structure Kb (n₀ Bx : Nat) (W W' : World) : Prop where
  bel : Below n₀ W W'
  blk : ∀ g cs, Blk W g 5 cs → Blk W' g 5 cs
  box : ∀ t cs, Blk W Bx t cs → Blk W' Bx t cs
theorem Kb.trans {n₀ Bx : Nat} {A B C : World} (h : Kb n₀ Bx A B) (k : Kb n₀ Bx B C) : Kb n₀ Bx A C := ⟨h.bel.trans k.bel, fun g cs hb => k.blk g cs (h.blk g cs hb), fun t cs hb => k.box t cs (h.box t cs hb)⟩
theorem Kb.refl (n₀ Bx : Nat) (W : World) : Kb n₀ Bx W W := ⟨Below.refl _ _, fun _ _ h => h, fun _ _ h => h⟩
theorem Kb.of_below {n₀ Bx : Nat} {W W' : World} (h : Below W.heap.size W W') (hn : n₀ ≤ W.heap.size) : Kb n₀ Bx W W' := ⟨h.mono hn, fun _ _ hb => hb.below h hb.lt, fun _ _ hb => hb.below h hb.lt⟩
theorem Kb.put {n₀ Bx : Nat} (W : World) (l : Nat) (o o' : Obj) (hl : n₀ ≤ l) (h : W.heap[l]? = some o) (hc : o.isCells = false) : Kb n₀ Bx W (W.putObj l o') := by
  have hne : ∀ {g t : Nat} {cs : Array Value}, Blk W g t cs → g ≠ l := fun hb e => by subst e; unfold Blk at hb; rw [h] at hb; cases hb; cases hc
  have hlt : l < W.heap.size := (Array.getElem?_eq_some_iff.1 h).1
  refine ⟨⟨rfl, rfl, rfl, by simp [World.putObj], fun i hi => World.putObj_heap_other (by omega)⟩, fun g cs hb => (World.putObj_heap_other (hne hb)).trans hb, fun t cs hb => (World.putObj_heap_other (hne hb)).trans hb⟩
theorem Bo.kb {B : Nat} {W W' : World} {v : Value} {xs : List Int} (h : Bo B W v xs) (k : ∀ g cs, Blk W g 5 cs → Blk W' g 5 cs) : Bo B W' v xs := by
  rcases h with h0 | ⟨g, c, cur, rfl, hB, hb, h2⟩
  · exact .inl h0
  · exact .inr ⟨g, c, cur, rfl, hB, k g cur hb, h2⟩
/-- The bodies ys read as ls. -/
structure Rds (n₀ : Nat) (W : World) (ys : List Bod) (ls : List (List Int)) : Prop where
  len : ys.length = ls.length
  at_ : ∀ (j : Nat) (h : j < ys.length) (h' : j < ls.length), Bo n₀ W (bodV ys[j]) ls[j]
theorem Rds.nil (n₀ : Nat) (W : World) : Rds n₀ W [] [] := ⟨rfl, fun j h => absurd h (by simp)⟩
theorem Rds.kb {n₀ : Nat} {W W' : World} {ys : List Bod} {ls : List (List Int)} (h : Rds n₀ W ys ls) (k : ∀ g cs, Blk W g 5 cs → Blk W' g 5 cs) : Rds n₀ W' ys ls := ⟨h.len, fun j h1 h2 => (h.at_ j h1 h2).kb k⟩
theorem Rds.snoc {n₀ : Nat} {W : World} {ys : List Bod} {ls : List (List Int)} {y : Bod} {l : List Int} (h : Rds n₀ W ys ls) (hb : Bo n₀ W (bodV y) l) : Rds n₀ W (ys ++ [y]) (ls ++ [l]) := by
  have hl := h.len
  refine ⟨by simp [hl], fun j h1 h2 => ?_⟩
  rcases Nat.lt_or_ge j ys.length with hj | hj
  · rw [List.getElem_append_left hj, List.getElem_append_left (by omega)]
    exact h.at_ j hj (by omega)
  · obtain rfl : j = ys.length := by simp at h1; omega
    rw [List.getElem_append_right (Nat.le_refl _), List.getElem_append_right (by omega)]
    simpa [hl] using hb
theorem rds_own {n₀ B : Nat} (f : List Bod → List (List Int)) (p : List Bod → Prop) : OwnFrom B (fun ys W => Rds n₀ W ys (f ys) ∧ p ys) := fun s A C row hs hg hr =>
  ⟨hs.1.kb fun g cs hb => by
    refine (hg.block g hb.lt fun e => ?_).trans hb
    obtain ⟨_, o, ho, hc⟩ := hr g e.symm
    rw [show A.heap[g]? = some (.cells cs 5 (0, 0)) from hb] at ho
    (cases ho; cases hc), hs.2⟩

/-- A slice value whose address, if it has one, is a plain cell. -/
def Pl (v : Value) : Prop := ∃ A n c, v = .slice A n c ∧ (A = none ∨ ∃ g o, A = some ⟨g, o, none⟩)
theorem Pl.of_bo {B : Nat} {w : World} {v : Value} {xs : List Int} (h : Bo B w v xs) : Pl v := by
  rcases h with ⟨rfl, -⟩ | ⟨g, c, cur, rfl, -⟩
  · exact ⟨none, 0, 0, rfl, .inl rfl⟩
  · exact ⟨_, _, _, rfl, .inr ⟨g, 0, rfl⟩⟩
theorem Pl.of_bs {w : World} {v : Value} {xs : List Int} (h : Bs w v xs) (h0 : 0 < xs.length) : Pl v := by
  obtain ⟨A, c, rfl, -⟩ := id h
  obtain ⟨g, o, rfl⟩ := h.some_ h0
  exact ⟨_, _, _, rfl, .inr ⟨g, o, rfl⟩⟩

theorem frames_any (A : Option Addr) (n c : Nat) (w : World) : Calls Tryd.prog 94 #[.slice A n c] w fun e w' => e = .returned (.func (.func 110) #[] #[.pointer (some ⟨w.heap.size, 0, none⟩)]) ∧ w.alloc (.cells #[.slice A n c] 25) = w' := by
  go_enter Tryd.func94, Tryd.ntmps94
  go_wp2
  go_ret
  exact ⟨rfl, rfl⟩
theorem abides_ {β : Type} {B : Nat} {J : β → World → Prop} (h : AbidesFrom B J) {s : β} {W W' : World} (hs : J s W) (hb : Below W.heap.size W W') : J s W' := h s W _ none hs (grown_below_ hb none) (fun r e => by cases e)

set_option maxRecDepth 100000 in
set_option maxHeartbeats 4000000 in
theorem frames1_seq (n : Nat) (hn : 1 ≤ n) (bs : List Int) (A : Option Addr) (c Bx : Nat) (w1 w : World) (hby : ∀ c ∈ bs, byt c) (hl : bs.length ≤ 70368744177664) (T : Tab w1) (hB : Bs w1 (.slice A bs.length c) bs) (h0A : bs.length = 0 → A = none ∨ ∃ g o, A = some ⟨g, o, none⟩)
    (hb : Below w1.heap.size w1 w) (hBx : Blk w Bx 25 #[.slice A bs.length c]) :
    SeqW n Tryd.prog 110 #[.pointer (some ⟨Bx, 0, none⟩)] bodA (Kb w1.heap.size Bx) (fun ys W => Rds w1.heap.size W ys (rdF bs).1 ∧ lastTo ys = (rdF bs).2) (fun _ _ => True) bs.length w := by
  intro l J Jx W hW hJ hJx hY h0
  have hmix : Tryd.prog.follows .mixedOrders = true := by kernel_rfl
  have HY := Lib.hid hY
  have HJ := Lib.hid hJ
  have BY := Lib.hid hby
  have TT := Lib.hid T
  have HB := Lib.hid hB
  have HW := Lib.hid (show Below w1.heap.size w1 W from hb.trans (hW.mono hb.size))
  have HX := Lib.hid (hBx.below hW hBx.lt)
  have hcc : bs.length ≤ c := by obtain ⟨_, _, e, h, -⟩ := hB; cases e; exact h
  have hA : A = none ∨ ∃ g o, A = some ⟨g, o, none⟩ := by
    rcases Nat.eq_zero_or_pos bs.length with h | h
    · exact h0A h
    · exact .inr (hB.some_ h)
  clear hY hJ hJx hby T hB hb hW h0A hBx
  refine callsIn_of_wp Tryd.func110 rfl trivial ?_ rfl
  simp only [Tryd.ntmps110, List.size_toArray, List.length_cons, List.length_nil, Nat.reduceAdd, Nat.reduceSub, Array.replicate_succ, Array.replicate_zero, List.push_toArray, List.append_toArray, List.nil_append, List.cons_append]
  gi_wp2
  gi_loopw [3] (fun i wr => ∃ (pre : List Bod) (ls : List (List Int)) (k : Nat), i = .int .i64 (k : Int) ∧ k ≤ bs.length ∧ pre.length ≤ k ∧ lastTo pre = k ∧ J pre wr ∧ Kb w1.heap.size Bx W wr ∧ Rds w1.heap.size wr pre ls ∧ rdF bs = (ls ++ (rdF (bs.drop k)).1, k + (rdF (bs.drop k)).2))
    (fun i _ => bs.length - (intOf i).toNat)
  case atStart => exact ⟨[], [], 0, rfl, Nat.zero_le _, Nat.le_refl _, rfl, h0, Kb.refl _ _ _, Rds.nil _ _, by simp⟩
  case round =>
    obtain ⟨pre, ls, k, rfl, hto, hpl, hlast, hJs, hnx, hR, hF⟩ := hrel
    have cs : wr.cell? ⟨Bx, 0, none⟩ = some (.slice A bs.length c) := by have := (hnx.box _ _ HX.out).cell 0; simpa using this
    have RR := Lib.hid hR
    have FF := Lib.hid hF
    have LT := Lib.hid hlast
    have BW := HW.out.trans hnx.bel
    have HBr := Lib.hid (HB.out.below BW)
    have TR := Lib.hid (TT.out.below BW)
    have SZ := Lib.hid (show w1.heap.size ≤ wr.heap.size from BW.size)
    have NX := Lib.hid hnx
    clear hR hF hlast BW hnx
    obtain ⟨L, hL⟩ : ∃ L, L = bs.length := ⟨_, rfl⟩
    rw [← hL] at cs hto hcc hl HBr
    have LL := Lib.hid hL
    obtain ⟨r, hr⟩ : ∃ r, r = getF (bs.drop k) := ⟨_, rfl⟩
    have ER := Lib.hid hr
    have GL := Lib.hid (getF_len (bs := bs.drop k))
    have GB := Lib.hid (getF_bad (xs := bs.drop k))
    have GP := Lib.hid (getF_pos (xs := bs.drop k))
    have RB := Lib.hid (rdF_bad (xs := bs.drop k))
    have RO := Lib.hid (rdF_ok (xs := bs.drop k))
    rw [← ER.out] at GL GB GP RB RO
    clear hL hr
    rcases hA with rfl | ⟨g, o, rfl⟩
    · have h0 : L = 0 := by
        rcases Nat.eq_zero_or_pos L with h | h
        · exact h
        · have hs := HBr.out
          rw [LL.out] at hs
          obtain ⟨g, o, h⟩ := hs.some_ (by rw [← LL.out]; exact h); cases h
      subst h0
      obtain rfl : bs = [] := List.eq_nil_of_length_eq_zero LL.out.symm
      obtain rfl : k = 0 := by omega
      have GE := Lib.hid (fget_any _ [] wr (show Bs wr (.slice none 0 c) [] from HBr.out) (fun c hc => by cases hc) TR.out (by simp))
      obtain ⟨e2, he2⟩ : ∃ e2, getF [] = ([], 0, e2) := ⟨(getF []).2.2, rfl⟩
      have he : (e2 != 0) = true := by
        have := getF_none
        rw [he2] at this
        simpa using this
      rw [he2] at GE
      have DN := Lib.hid (show ([] : List Int).drop 0 = [] from rfl)
      have RN := Lib.hid (show rdF [] = ([], 0) from rdF_bad getF_none)
      clear he2
      gi_wp2_with fail
      refine ⟨trivial, (callsIn_wide.2 GE.out).mono ?_⟩
      rintro e w2 ⟨P, rfl, -, b1⟩
      have B1 := Lib.hid b1
      clear b1
      gi_wp2_with (refine wpListIn_skip rfl rfl ?_)
      refine bodyPost_ret (results_none rfl _ _ _) rfl ?_
      refine ⟨⟨_, rfl⟩, .inl ⟨pre, ⟨?_, ?_⟩, abides_ HJ.out hJs B1.out⟩⟩
      · have h : (rdF []).1 = ls := by
          have h := FF.out
          rw [DN.out] at h
          refine (congrArg Prod.fst h).trans ?_
          show ls ++ (rdF []).1 = ls
          rw [RN.out]
          exact List.append_nil _
        rw [h]
        exact RR.out.kb fun g cs hb => hb.below B1.out hb.lt
      · refine LT.out.trans (Eq.symm ?_)
        have h := FF.out
        rw [DN.out] at h
        refine (congrArg Prod.snd h).trans ?_
        show _ + (rdF []).2 = _ + 0
        rw [RN.out]
    · by_cases hck : c = k
      · obtain rfl : c = L := by omega
        obtain rfl : c = k := hck
        have GE := Lib.hid (fget_any _ [] wr (show Bs wr (.slice (some ⟨g, o, none⟩) 0 0) [] from ⟨_, _, rfl, Nat.le_refl _, rfl, .inl rfl⟩) (fun c hc => by cases hc) TR.out (by simp))
        obtain ⟨e2, he2⟩ : ∃ e2, getF [] = ([], 0, e2) := ⟨(getF []).2.2, rfl⟩
        have he : (e2 != 0) = true := by
          have := getF_none
          rw [he2] at this
          simpa using this
        rw [he2] at GE
        have DN := Lib.hid (show bs.drop c = [] from List.drop_eq_nil_of_le (by have := LL.out; omega))
        have RN := Lib.hid (show rdF [] = ([], 0) from rdF_bad getF_none)
        clear he2
        gi_wp2_with fail
        refine ⟨trivial, (callsIn_wide.2 GE.out).mono ?_⟩
        rintro e w2 ⟨P, rfl, -, b1⟩
        have B1 := Lib.hid b1
        clear b1
        gi_wp2_with (refine wpListIn_skip rfl rfl ?_)
        refine bodyPost_ret (results_none rfl _ _ _) rfl ?_
        refine ⟨⟨_, rfl⟩, .inl ⟨pre, ⟨?_, ?_⟩, abides_ HJ.out hJs B1.out⟩⟩
        · have h : (rdF bs).1 = ls := by
            have h := FF.out
            rw [DN.out] at h
            refine (congrArg Prod.fst h).trans ?_
            show ls ++ (rdF []).1 = ls
            rw [RN.out]
            exact List.append_nil _
          rw [h]
          exact RR.out.kb fun g cs hb => hb.below B1.out hb.lt
        · refine LT.out.trans (Eq.symm ?_)
          have h := FF.out
          rw [DN.out] at h
          refine (congrArg Prod.snd h).trans ?_
          show _ + (rdF []).2 = _ + 0
          rw [RN.out]
      have HS := Lib.hid (show Bs wr (.slice (some ⟨g, o + k, none⟩) (L - k) (c - k)) (bs.drop k) from by
        have h := HBr.out.sub k (L - k) (c - k) (by omega) (by omega)
        rwa [List.take_of_length_le (by rw [List.length_drop, ← LL.out]; exact Nat.le_refl _)] at h)
      have hto' : (k : Int) ≤ (L : Int) := by omega
      have GE := Lib.hid (fget_any _ (bs.drop k) wr HS.out (fun c hc => BY.out c (List.mem_of_mem_drop hc)) TR.out (by rw [List.length_drop, ← LL.out]; omega))
      rw [← ER.out] at GE
      have hkl : (k : Int) ≤ 70368744177664 := by omega
      obtain ⟨xs, n2, e2⟩ := r
      simp only at GE GL GB GP RB RO
      have hn2 : n2 ≤ L := by have := GL.out.2; rw [List.length_drop, ← LL.out] at this; omega
      gi_wp2_with fail
      refine ⟨trivial, (callsIn_wide.2 GE.out).mono ?_⟩
      rintro e w2 ⟨P, rfl, hP, b1⟩
      have PP := Lib.hid hP
      have B1 := Lib.hid b1
      clear hP b1
      by_cases he : e2 = 0
      · subst he
        have hp := GP.out rfl
        have hlk : k < L := by have := hp.1; have h2 := hp.2; rw [List.length_drop, ← LL.out] at h2; omega
        have J2 : J pre w2 := abides_ HJ.out hJs B1.out
        obtain ⟨fn, tmps, assign, body, hy, hR⟩ := HY.out pre (P, xs.length, k + n2) w2 J2 (by rw [← LL.out]; omega)
        unfold bodA bodV at hy
        simp only at hy
        rw [Int.natCast_add] at hy
        have YY := Lib.hid hy
        clear hy
        clear hp
        gi_wp2
        rw [YY.out]
        gi_wp2
        refine hR.mono ?_
        rintro e W3 (⟨rfl, hJ3, hk3⟩ | ⟨rfl, hJx3⟩)
        · gi_wp2
          have h5 := GP.out trivial
          have h6 := h5.2
          rw [List.length_drop, ← LL.out] at h6
          have bw : Kb w1.heap.size Bx wr W3 := (Kb.of_below B1.out SZ.out).trans hk3
          refine ⟨⟨pre ++ [(P, xs.length, k + n2)], ls ++ [xs], k + n2, by go_num, by rw [← LL.out]; omega, by have := h5.1; simp; omega, lastTo_app _ _, hJ3, NX.out.trans bw, ?_, ?_⟩, ?_⟩
          · exact (RR.out.kb bw.blk).snoc (Bo.kb (Bo.le PP.out SZ.out) hk3.blk)
          · have h := FF.out
            rw [RO.out trivial, List.drop_drop] at h
            rw [h]
            simp [Nat.add_assoc]
          · have := h5.1
            have := LL.out
            simp [intOf]; omega
        · gi_wp2
          refine bodyPost_ret (results_none rfl _ _ _) rfl ?_
          exact ⟨⟨_, rfl⟩, .inr ⟨_, trivial, hJx3⟩⟩
      · have he' : (e2 != 0) = true := by simpa using he
        obtain rfl : n2 = 0 := GB.out he
        gi_wp2_with (refine wpListIn_skip rfl rfl ?_)
        refine bodyPost_ret (results_none rfl _ _ _) rfl ?_
        refine ⟨⟨_, rfl⟩, .inl ⟨pre, ⟨?_, ?_⟩, abides_ HJ.out hJs B1.out⟩⟩
        · have h : (rdF bs).1 = ls := by
            have h := FF.out
            rw [RB.out he] at h
            exact (congrArg Prod.fst h).trans (List.append_nil _)
          rw [h]
          exact RR.out.kb fun g cs hb => hb.below B1.out hb.lt
        · have h := FF.out
          rw [RB.out he] at h
          exact LT.out.trans (congrArg Prod.snd h).symm
end Go.Proofs.YtnegondlkfeleaaDoor

/- frames.Read: all frames of bytes, in a slice. -/
namespace Go.Proofs.YtnegondlkfeleaaDoor
open Go.RowKit Go.Shelf
attribute [local go_sem] Oper.semAt_some

theorem sl_info : (Tryd.prog.info? 25).map (fun i => (i.zero, i.size, i.bytes)) = some (some (.slice none 0 0), 1, 24) := by kernel_rfl

theorem lclip_any (A : Option Addr) (n c : Nat) (w : World) (hc : n ≤ c) (hn : n ≤ 4611686018427387904) :
    Calls Tryd.prog 95 #[.slice A n c] w fun e w' => e = .returned (.slice A n n) ∧ w = w' := by
  have h1 : (n : Int) ≤ (c : Int) := by omega
  have h2 : (n : Int) ≤ 4611686018427387904 := by omega
  have h3 : ¬ (c : Int) < (n : Int) := by omega
  go_enter Tryd.func95, Tryd.ntmps95
  go_wp2
  go_ret
  exact ⟨by cases A <;> simp, rfl⟩

/-- 'out = append(out, x)' inside a fence. -/
theorem wpListIn_ow {F : Fence} {m : Nat} {ops : Array Oper} {rest : List Oper} {o : Oper} {a : Act} {Q : Exit → Act → World → Prop} (hgd : o.guard = none) (s x : Operand) (t e : TypeId) (z : Value) (size bytes : Nat)
    (ho : o.op = .call { callee := .builtin .append, args := #[s, x], argTypes := #[t, t] }) (ht : Tryd.prog.underlying t = some (.slice e))
    (hinf : (Tryd.prog.info? e).map (fun i => (i.zero, i.size, i.bytes)) = some (some z, size, bytes)) (hzs : z.cells.size = size) (hsz : 0 < size)
    {B n : Nat} {v : Value} {xs : List Value} (hs : a.eval s = v) {w0 : World} (news : Array Value) (hown : Ow B w0 e size v n xs) (hB : B ≤ w0.heap.size) (hnl : news.size = size) (h1 : ∀ u ∈ news.toList, u.oneCell' = true)
    (hx : a.eval x = .slice (some ⟨w0.heap.size, 0, none⟩) 1 1) (hlen : (n + 1) * bytes ≤ 140737488355328) (hlen2 : n + 1 ≤ maxLen)
    (h : ∀ v' w', Ow B w' e size v' (n + 1) (xs ++ news.toList) → Grew w0 w' v v' → wpListIn F m Tryd.prog ops Q rest (a.put o.dst v') w') : wpListIn F m Tryd.prog ops Q (o :: rest) a (w0.alloc (.cells news e)) := by
  refine wpListIn_plain hgd fun K hK => ?_
  obtain ⟨i0, hi, hz0, hz1, hz2⟩ := info_parts hinf
  have hown' := hown.below (below_alloc_ w0 (.cells news e))
  have hk := Blk.new w0 e news
  obtain ⟨v', w', hr, h2, h3, h4⟩ := run_append_ow (P := Tryd.prog) _ B t o.type e i0 z size bytes ht hi hz0 hz1 hz2 hzs hsz v _ _ hown' ⟨w0.heap.size, 0, none⟩ 1 1 news.toList (by simp [hnl]) (by
    intro j u hj
    rw [Addr.add_lit, Nat.zero_add, hk.cell]
    simpa using hj) h1 hlen2 hlen (by simp; omega)
  unfold Oper.wpIn
  refine ⟨?_, ?_⟩
  · simp [Oper.about, ho, resolve, Target.leads, Sem.run_pure]
  · rw [Oper.semAt_plain F _ _ (by rw [ho]; intro c hc'; cases hc')]
    simp [execOp, ho, resolve, invoke, builtin, hs, hx, hr, Result.andThen]
    exact hK _ _ (h v' w' h2 (Grew.of_ (below_alloc_ _ _) h3 h4))

/-- The bodies behind these, in the boxes N, N + 1. -/
def RdI (w1 : World) (pre : List Bod) (W : World) : Prop :=
  ∃ A c, Blk W w1.heap.size 115 #[.slice A pre.length c] ∧ Blk W (w1.heap.size + 1) 3 #[.int .i64 (lastTo pre : Nat)] ∧ Ow (w1.heap.size + 3) W 25 1 (.slice A pre.length c) pre.length (pre.map bodV) ∧ Below w1.heap.size w1 W ∧ w1.heap.size + 3 ≤ W.heap.size
theorem Blk.ownfrom {W W' : World} {g t B : Nat} {cs : Array Value} {row : Option Nat} (h : Blk W g t cs) (hg : W.grownBy W' row) (hr : ∀ r, row = some r → B ≤ r ∧ ∃ o : Obj, W.heap[r]? = some o ∧ o.isCells = false) : Blk W' g t cs := by
  refine h.grown hg fun e => ?_
  obtain ⟨_, o, ho, hc⟩ := hr _ e.symm
  unfold Blk at h
  rw [h] at ho; cases ho; cases hc
theorem Ow.ownfrom {W W' : World} {B0 t n B : Nat} {v : Value} {xs : List Value} {row : Option Nat} (h : Ow B0 W t 1 v n xs) (hg : W.grownBy W' row) (hr : ∀ r, row = some r → B ≤ r ∧ ∃ o : Obj, W.heap[r]? = some o ∧ o.isCells = false) : Ow B0 W' t 1 v n xs := by
  rcases h with h | ⟨g, c', cur, hv, hBg, hk, hh⟩
  · exact .inl h
  · exact .inr ⟨g, c', cur, hv, hBg, hk.ownfrom hg hr, hh⟩
theorem rdI_own {w1 : World} {B : Nat} (hB : w1.heap.size ≤ B) : OwnFrom B (RdI w1) := by
  rintro s W W' row ⟨A, c, k1, k2, h, b, hs⟩ hg hr
  exact ⟨A, c, k1.ownfrom hg hr, k2.ownfrom hg hr, h.ownfrom hg hr, b.grown hg b.size (fun j e => Nat.le_trans hB (hr j e).1), Nat.le_trans hs hg.size⟩

theorem Ow.row {B e size n : Nat} {w : World} {v : Value} {xs : List Value} (h : Ow B w e size v n xs) {k : Nat} (hk : v.ownBlock = some k) : B ≤ k ∧ ∃ cur, Blk w k e cur := by
  rcases h with ⟨rfl, _⟩ | ⟨g, cap, cur, rfl, hB, hg, _⟩
  · simp [Value.ownBlock] at hk
  · simp [Value.ownBlock] at hk
    subst hk
    exact ⟨hB, cur, hg⟩
theorem Blk.of_grew {B e size n g t : Nat} {W wx : World} {v v' : Value} {xs : List Value} {cs : Array Value} (hk : Blk W g t cs) (h : Ow B W e size v n xs) (hG : Grew W wx v v') (hne : t ≠ e ∨ g < B) : Blk wx g t cs := by
  refine hk.grown hG.1 fun e => ?_
  obtain ⟨h1, cur, h2⟩ := h.row e.symm
  rcases hne with hne | hne
  · exact Blk.ne_ hk h2 hne rfl
  · omega
theorem rdI_step {w1 W wx : World} {pre : List Bod} {x : Bod} {A A' : Option Addr} {c c' : Nat} (k1 : Blk W w1.heap.size 115 #[.slice A pre.length c]) (k2 : Blk W (w1.heap.size + 1) 3 #[.int .i64 (lastTo pre : Nat)])
    (h : Ow (w1.heap.size + 3) W 25 1 (.slice A pre.length c) pre.length (pre.map bodV)) (b : Below w1.heap.size w1 W) (hs : w1.heap.size + 3 ≤ W.heap.size)
    (hO : Ow (w1.heap.size + 3) wx 25 1 (.slice A' (pre.length + 1) c') (pre.length + 1) (pre.map bodV ++ [bodV x])) (hG : Grew W wx (.slice A pre.length c) (.slice A' (pre.length + 1) c')) :
    let Z := (wx.setCell ⟨w1.heap.size, 0, none⟩ (.slice A' (pre.length + 1) c')).setCell ⟨w1.heap.size + 1, 0, none⟩ (.int .i64 (x.2.2 : Int))
    KeepsFrom (w1.heap.size + 3) W Z ∧ Kb w1.heap.size (w1.heap.size + 2) W Z ∧ RdI w1 (pre ++ [x]) Z := by
  intro Z
  have x1 : Blk wx w1.heap.size 115 _ := k1.of_grew h hG (.inl (by decide))
  have x2 : Blk wx (w1.heap.size + 1) 3 _ := k2.of_grew h hG (.inl (by decide))
  have bx : Below w1.heap.size W wx := (Below.refl _ W).grown hG.1 b.size (fun k e => by have := (h.row e).1; omega)
  have bz : Below w1.heap.size W Z := (bx.setCell (p := ⟨w1.heap.size, 0, none⟩) (Nat.le_refl _) _).setCell (p := ⟨w1.heap.size + 1, 0, none⟩) (Nat.le_succ _) _
  refine ⟨?_, ⟨bz, fun g cs hb => ?_, fun t cs hb => ?_⟩, A', c', ?_, ?_, ?_, b.trans bz, Nat.le_trans hs bz.size⟩
  · refine KeepsFrom.trans ⟨hG.1.size, fun k o _ ho hc => (hG.1.block k (Array.getElem?_eq_some_iff.1 ho).1 fun e => ?_).trans ho⟩ (((KeepsOthers.setCell _ _ _).trans (KeepsOthers.setCell _ _ _)).from _)
    obtain ⟨_, cur, hk⟩ := h.row e.symm
    unfold Blk at hk
    rw [hk] at ho; cases ho; cases hc
  · have hx : Blk wx g 5 cs := hb.of_grew h hG (.inl (by decide))
    exact (hx.far (Blk.ne_ hx x1 (by decide)) _).far (Blk.ne_ hx x2 (by decide)) _
  · have hx : Blk wx _ t cs := hb.of_grew h hG (.inr (by omega))
    exact (hx.far (by simp) _).far (by simp) _
  · rw [List.length_append]
    exact (x1.set_ 0 _).far (by simp) _
  · rw [lastTo_app]
    exact (x2.far (by simp) _).set_ 0 _
  · rw [List.length_append, List.map_append]
    exact (hO.aside x1 (by decide) 0 _).aside (x2.far (by simp) _) (by decide) 0 _

theorem results_cc {fn : Func} (h : fn.results = #[.cell 2 115, .cell 3 3]) (tmps : Array Value) (w : World) (p q : Addr) (v1 v2 : Value) (h2 : tmps.getD 2 undef = .pointer (some p)) (h3 : tmps.getD 3 undef = .pointer (some q)) (c1 : w.cell? p = some v1) (c2 : w.cell? q = some v2) :
    (results fn tmps).run Tryd.prog w = .ok (.tuple #[v1, v2]) w := by
  simp only [Array.getD_eq_getD_getElem?] at h2 h3
  simp [results, h, h2, h3, go_sem, Tryd.underlying115, Tryd.underlying3, c1, c2]

/-- The end: both boxes set, the deferred block taken. -/
theorem rdI_end {w W : World} {ys : List Bod} {A : Option Addr} {c D : Nat} {ls : List (List Int)} {good : Int} (k1 : Blk W w.heap.size 115 #[.slice A ys.length c]) (k2 : Blk W (w.heap.size + 1) 3 #[.int .i64 (lastTo ys : Nat)])
    (h : Ow (w.heap.size + 3) W 25 1 (.slice A ys.length c) ys.length (ys.map bodV)) (b : Below w.heap.size w W) (hR : Rds w.heap.size W ys ls) (hD : w.heap.size ≤ D) (hK : W.heap[D]? = some (.deferred (some []))) :
    let Z := ((W.setCell ⟨w.heap.size, 0, none⟩ (.slice A ys.length ys.length)).setCell ⟨w.heap.size + 1, 0, none⟩ (.int .i64 good)).drew
    Z.heap[D]? = some (.deferred (some [])) ∧ Z.cell? ⟨w.heap.size, 0, none⟩ = some (.slice A ys.length ys.length) ∧ Z.cell? ⟨w.heap.size + 1, 0, none⟩ = some (.int .i64 good) ∧
    ∀ o, Ow w.heap.size (Z.putObj D o) 25 1 (.slice A ys.length ys.length) ys.length (ys.map bodV) ∧ Rds w.heap.size (Z.putObj D o) ys ls ∧ Below w.heap.size w (Z.putObj D o) ∧
      (Z.putObj D o).cell? ⟨w.heap.size, 0, none⟩ = some (.slice A ys.length ys.length) ∧ (Z.putObj D o).cell? ⟨w.heap.size + 1, 0, none⟩ = some (.int .i64 good) := by
  intro Z
  have hz := (KeepsOthers.setCell W ⟨w.heap.size, 0, none⟩ (.slice A ys.length ys.length)).trans (KeepsOthers.setCell (W.setCell ⟨w.heap.size, 0, none⟩ (.slice A ys.length ys.length)) ⟨w.heap.size + 1, 0, none⟩ (.int .i64 good))
  have hKZ : Z.heap[D]? = some (.deferred (some [])) := hz.same D _ hK rfl
  have z1 : Blk Z w.heap.size 115 #[.slice A ys.length ys.length] := (k1.set_ 0 _).far (by simp) _
  have z2 : Blk Z (w.heap.size + 1) 3 #[.int .i64 good] := (k2.far (by simp) _).set_ 0 _
  obtain ⟨A', c', e, hc, h'⟩ := h.clip
  cases e
  have hO : Ow (w.heap.size + 3) Z 25 1 (.slice A ys.length ys.length) ys.length (ys.map bodV) := (h'.aside k1 (by decide) 0 _).aside (k2.far (by simp) _) (by decide) 0 _
  have bz : Below w.heap.size w Z := ((b.setCell (p := ⟨w.heap.size, 0, none⟩) (Nat.le_refl _) _).setCell (p := ⟨w.heap.size + 1, 0, none⟩) (Nat.le_succ _) _).drew
  have k5 : ∀ g cs, Blk W g 5 cs → Blk Z g 5 cs := fun g cs hb => (hb.far (Blk.ne_ hb k1 (by decide)) _).far (Blk.ne_ hb k2 (by decide)) _
  have hput : ∀ (o : Obj) {g t : Nat} {cs : Array Value}, Blk Z g t cs → Blk (Z.putObj D o) g t cs := fun o g t cs hb => by
    refine (World.putObj_heap_other fun e => ?_).trans hb
    subst e
    unfold Blk at hb
    rw [hKZ] at hb
    cases hb
  refine ⟨hKZ, by have := z1.cell 0; simpa using this, by have := z2.cell 0; simpa using this, fun o => ⟨?_, (hR.kb k5).kb fun g cs hb => hput o hb, ?_, by have := (hput o z1).cell 0; simpa using this, by have := (hput o z2).cell 0; simpa using this⟩⟩
  · refine Ow.le (B := w.heap.size + 3) ?_ (by omega)
    rcases hO with h0 | ⟨g, c', cur, hv, hBg, hk, hh⟩
    · exact .inl h0
    · exact .inr ⟨g, c', cur, hv, hBg, hput o hk, hh⟩
  · exact bz.trans ⟨rfl, rfl, rfl, by simp [World.putObj], fun i hi => World.putObj_heap_other (by omega)⟩

set_option maxRecDepth 100000 in
set_option maxHeartbeats 1000000 in
theorem fread_any (bs : List Int) (A : Option Addr) (c : Nat) (w : World) (hby : ∀ c ∈ bs, byt c) (hl : bs.length ≤ 1000000000000) (T : Tab w) (hB : Bs w (.slice A bs.length c) bs) (h0A : bs.length = 0 → A = none ∨ ∃ g o, A = some ⟨g, o, none⟩) :
    Calls Tryd.prog 69 #[.slice A bs.length c] w fun e w' => ∃ (P : Option Addr) (ys : List Bod), e = .returned (.tuple #[.slice P ys.length ys.length, .int .i64 ((rdF bs).2 : Nat)]) ∧
      Ow w.heap.size w' 25 1 (.slice P ys.length ys.length) ys.length (ys.map bodV) ∧ Rds w.heap.size w' ys (rdF bs).1 ∧ Below w.heap.size w w' := by
  have hmix : Tryd.prog.follows .mixedOrders = true := by kernel_rfl
  have BY := Lib.hid hby
  have TT := Lib.hid T
  have HB := Lib.hid hB
  have H0 := Lib.hid h0A
  have HL := Lib.hid hl
  have B3 := Lib.hid (below_alloc3_ w (.cells #[.slice none 0 0] 115) (.cells #[.int .i64 0] 3) (.cells #[.slice A bs.length c] 25))
  clear hby T hB h0A hl
  refine (callsIn_wide (n := 5)).1 (callsIn_of_wp_marks Tryd.func69 rfl trivial ?_ rfl)
  simp only [Tryd.ntmps69, List.size_toArray, List.length_cons, List.length_nil, Nat.reduceAdd, Nat.reduceSub, Array.replicate_succ, Array.replicate_zero, List.push_toArray, List.append_toArray, List.nil_append, List.cons_append]
  refine wpIn_wide.2 ?_
  go_wp2_with fail
  refine (frames_any A bs.length c _).mono ?_
  rintro e w' ⟨rfl, rfl⟩
  go_wp2_with fail
  have hBx : Blk (((w.alloc (.cells #[.slice none 0 0] 115)).alloc (.cells #[.int .i64 0] 3)).alloc (.cells #[.slice A bs.length c] 25)) (w.heap.size + 2) 25 #[.slice A bs.length c] := by
    have := Blk.new ((w.alloc (.cells #[.slice none 0 0] 115)).alloc (.cells #[.int .i64 0] 3)) 25 #[.slice A bs.length c]
    simpa using this
  refine (wpIn_wide (n := 5)).1 ?_
  refine wp_rangeW (n := 5) (by omega) (gf := 110) (lb := #[.pointer (some ⟨w.heap.size + 2, 0, none⟩)]) rfl (enters_of Tryd.func110 (by kernel_rfl) rfl)
    (frames1_seq 4 (by omega) bs A c (w.heap.size + 2) w _ BY.out (by have := HL.out; omega) TT.out HB.out H0.out B3.out hBx)
    Kb.trans (fun W l o o' hl h hc _ => Kb.put W l o o' (by simp at hl; omega) h hc) (Below.refl _ _) (fun _ => rfl)
    (RdI w) (rdI_own (by simp; omega)) (rds_own (fun _ => (rdF bs).1) (fun ys => lastTo ys = (rdF bs).2))
    ⟨none, 0, ((Blk.new w 115 _).alloc _).alloc _, ?b2, .inl ⟨rfl, rfl, rfl⟩, B3.out, by simp⟩
    (fun x => { tmps := #[.slice A bs.length c, undef, .pointer (some ⟨w.heap.size, 0, none⟩), .pointer (some ⟨w.heap.size + 1, 0, none⟩), bodV x, .int .i64 (x.2.2 : Int), .slice A bs.length c,
      .func (.func 110) #[] #[.pointer (some ⟨w.heap.size + 2, 0, none⟩)], bodV x, .int .i64 (x.2.2 : Int), undef, undef, undef, undef, undef, undef, undef, undef], defers := [] })
    ?assign ?body ?done
  case b2 =>
    have := (Blk.new (w.alloc (.cells #[.slice none 0 0] 115)) 3 #[.int .i64 0]).alloc (.cells #[.slice A bs.length c] 25)
    simpa [lastTo] using this
  case assign =>
    intro l x W K hK
    unfold bodA
    gi_wp2
    exact hK
  case body =>
    intro l pre x W hI hlt
    obtain ⟨A1, c1, k1, k2, h1, b1, hs1⟩ := hI
    have HS := Lib.hid hs1
    have d1 := k1.cell 0
    have d2 := k2.cell 0
    simp at d1 d2
    have K1 := Lib.hid k1
    have K2 := Lib.hid k2
    have H1 := Lib.hid h1
    have BB := Lib.hid b1
    have hpl : pre.length < 1000000000000 := by have := HL.out; omega
    have PL := Lib.hid hpl
    clear k1 k2 h1 b1 hlt hpl hs1
    unfold bodV
    gi_wp2_with (gi_at_builtin; refine wpListIn_ow rfl _ _ 115 25 (.slice none 0 0) 1 24 rfl Tryd.underlying115 sl_info rfl (by decide) rfl #[bodV x] H1.out ?hsz rfl (by intro u hu; simp at hu; subst hu; rfl) rfl ?hl1 ?hl2 ?hk)
    case hsz => exact HS.out
    case hl1 => have := PL.out; omega
    case hl2 => have := PL.out; unfold maxLen; omega
    case hk =>
      intro v' wx hO hG
      obtain ⟨A', c', rfl, -, -⟩ := hO.clip
      have x1 := K1.out.of_grew H1.out hG (.inl (by decide))
      have x2 := K2.out.of_grew H1.out hG (.inl (by decide))
      have e1 := x1.cell 0
      have e2 := x2.cell 0
      have f1 := x1.free 0
      have f2 := x2.free 0
      simp at e1 e2
      have FIN := Lib.hid (rdI_step K1.out K2.out H1.out BB.out HS.out hO hG)
      clear x1 x2 hO hG
      gi_wp2
      exact FIN.out
  case done =>
    intro D ys W hD hS hI hK
    obtain ⟨A1, c1, k1, k2, h1, b1, hs1⟩ := hI
    have d1 := k1.cell 0
    have d2 := k2.cell 0
    have f1 := k1.free 0
    have f2 := k2.free 0
    simp at d1 d2
    have K1 := Lib.hid k1
    have K2 := Lib.hid k2
    have H1 := Lib.hid h1
    have BB := Lib.hid b1
    have KD := Lib.hid hK
    have DD := Lib.hid hD
    have HSS := Lib.hid hS
    have hcl : ys.length ≤ c1 := by obtain ⟨_, _, e, h, -⟩ := h1.clip; cases e; exact h
    have hyl : ys.length ≤ 4611686018427387904 := by
      have := hS.1.len
      have := (rdF_le bs.length bs (Nat.le_refl _)).2.1
      have := HL.out
      omega
    rw [hS.2] at d2
    clear k1 k2 h1 b1 hs1 hS hD hK
    have CL := Lib.hid (fun w => lclip_any A1 ys.length c1 w hcl hyl)
    clear hcl hyl
    go_wp2_with fail
    have END := Lib.hid (rdI_end (ls := (rdF bs).1) (good := ((rdF bs).2 : Nat)) K1.out K2.out H1.out BB.out HSS.out.1 (by have := DD.out; simp at this; omega) KD.out)
    go_region_with (go_simp; go_at_call 95; refine (CL.out _).mono ?_; rintro e w' ⟨rfl, rfl⟩)
    go_wp2
    all_goals
      obtain ⟨z1, z2, z3, z4⟩ := END.out
      refine ⟨by simp, .inl ⟨_, _, rfl, run_takeDeferred z1, ?_⟩⟩
      obtain ⟨y1, y2, y3, y4, y5⟩ := z4 (.deferred none)
      exact ⟨_, results_cc rfl _ _ _ _ _ _ rfl rfl y4 y5, _, _, rfl, y1, y2, y3⟩
end Go.Proofs.YtnegondlkfeleaaDoor
