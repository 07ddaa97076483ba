/- PacksGet: what the code and the document take, in one form each; pages. -/
import Derived.Test.YtielnocnnffdfaaGreatTkc
import Derived.Test.YtielnocnnffdfaaGreatTky
import Derived.Test.YtielnocnnffdfaaGreatTke
import Derived.Test.YtielnocnnffdfaaGreatTkt
import Derived.Test.YtielnocnnffdfaaGreatJpw
import Derived.Test.YtielnocnnffdfaaGreatBax
import Derived.Test.YtielnocnnffdfaaGreatSms
namespace Go.Proofs.YtielnocnnffdfaaGreat
open Go.RowKit

/-- What came, and what is wrong. -/
def ev {α : Type} (x : Except Int α) (z : α) : α := match x with | .ok a => a | .error _ => z
def ek {α : Type} (x : Except Int α) : Int := match x with | .ok _ => 0 | .error k => k
theorem gpost_sum {α : Type} {x : Res α} {Q : α → Nat → World → Value → Prop} {zero : Value} {w w' : World} {e : Ending} (z : α) (hz : ∀ B W, Q z B W zero) (h : GPost x Q zero w e w') :
    ∃ v, e = .returned (.tuple #[v, .int .i64 (ek (allP x))]) ∧ Q (ev (allP x) z) w.heap.size w' v ∧ Below w.heap.size w w' := by
  unfold GPost at h
  cases hx : allP x with
  | ok a => rw [hx] at h; exact h
  | error k => rw [hx] at h; exact ⟨zero, h.1, hz _ _, h.2⟩
theorem dpost_sum {α : Type} {x : Except Int α} {Q : α → World → Value → Prop} {zero : Value} {w w' : World} {e : Ending} (z : α) (hz : ∀ W, Q z W zero) (h : DPost x Q zero w e w') :
    ∃ v, e = .returned (.tuple #[v, .int .i64 (ek x)]) ∧ Q (ev x z) w' v ∧ Below w.heap.size w w' := by
  obtain ⟨u, k, rfl, hb, h⟩ := h
  cases x with
  | ok a => obtain ⟨rfl, hq⟩ := h; exact ⟨u, rfl, hq, hb⟩
  | error q => obtain ⟨rfl, rfl⟩ := h; exact ⟨u, rfl, hz _, hb⟩
theorem ev_fit {α : Type} {x : Except Int α} {z : α} {P : α → Prop} (hz : P z) (h : ∀ a, x = .ok a → P a) : P (ev x z) := by
  cases x with
  | ok a => exact h a rfl
  | error k => exact hz
theorem row_none {w : World} {size : Nat} : Rd w size (.slice none 0 0) 0 [] := ⟨none, 0, rfl, Nat.le_refl _, by simp, .inl rfl⟩
theorem ow_none {B : Nat} {w : World} {e : TypeId} {size : Nat} : Ow B w e size (.slice none 0 0) 0 [] := .inl ⟨rfl, rfl, rfl⟩
theorem fok0 : ∀ ks : List IntKind, (∀ k ∈ ks, k = .u8 ∨ k = .i64 ∨ k = .u64) → fok ks (ks.map fun _ => 0)
  | [], _ => rfl
  | k :: ks, h => ⟨by rcases h k (by simp) with rfl | rfl | rfl <;> (first | exact ⟨by decide, by decide⟩ | (simp [fok1])), fok0 ks fun k hk => h k (by simp [hk])⟩

theorem ccmd_at (v : Value) (xs : List Int) (w : World) (L : List (List Int)) (k : Int) (hL : ev (allP (cmdP xs)) [] = L) (hk : ek (allP (cmdP xs)) = k) (h : Bs w v xs) (hby : ∀ c ∈ xs, byt c) (hl : xs.length ≤ 70368744177664) :
    Calls Tryz.prog 8 #[v] w fun e w' => ∃ A, e = .returned (.tuple #[.agg #[.slice A L.length L.length], .int .i64 k]) ∧ Ow w.heap.size w' 91 10 (.slice A L.length L.length) L.length (L.flatMap (fc stepK)) ∧ Below w.heap.size w w' := by
  refine (Get_cmd_any v xs w h hby hl).mono fun e w' hg => ?_
  obtain ⟨u, rfl, hq, hb⟩ := gpost_sum [] (fun B W => cmdQ_mk (r0 := []) ow_none) hg
  rw [hL] at hq
  rw [hk]
  obtain ⟨r0, A0, rfl, rfl, ho⟩ := cmdQ_ex hq
  exact ⟨A0, rfl, ho, hb⟩
theorem dcmd_at (v : Value) (xs : List Int) (w : World) (L : List (List Int)) (k : Int) (hL : ev (allP (cmdP xs)) [] = L) (hk : ek (allP (cmdP xs)) = k) (h : Bs w v xs) (hby : ∀ c ∈ xs, byt c) (hl : xs.length ≤ 70368744177664) :
    Calls Tryz.prog 9 #[v] w fun e w' => ∃ A c, e = .returned (.tuple #[.agg #[.slice A L.length c], .int .i64 k]) ∧ Steps w' (.slice A L.length c) L ∧ Below w.heap.size w w' := by
  refine (rget_cmd v xs w h hby (by omega)).mono fun e w' hg => ?_
  obtain ⟨u, rfl, hq, hb⟩ := dpost_sum [] (fun W => ⟨none, 0, rfl, row_none⟩) hg
  rw [hL] at hq
  rw [hk]
  obtain ⟨A0, c, rfl, ho⟩ := hq
  exact ⟨A0, c, rfl, ho, hb⟩
theorem creply_at (v : Value) (xs : List Int) (w : World) (E F : Int) (L : List (List Int)) (k : Int) (hL : ev (allP (replyP xs)) ([0, 0], []) = ([E, F], L)) (hk : ek (allP (replyP xs)) = k) (h : Bs w v xs) (hby : ∀ c ∈ xs, byt c) (hl : xs.length ≤ 70368744177664) :
    Calls Tryz.prog 11 #[v] w fun e w' => ∃ A, e = .returned (.tuple #[.agg #[.int .i64 E, .int .i64 F, .slice A L.length L.length], .int .i64 k]) ∧ Ow w.heap.size w' 103 2 (.slice A L.length L.length) L.length (L.flatMap (fc gotK)) ∧ Below w.heap.size w w' := by
  refine (Get_reply_any v xs w h hby hl).mono fun e w' hg => ?_
  obtain ⟨u, rfl, hq, hb⟩ := gpost_sum ([0, 0], []) (fun B W => replyQ_mk (r2 := []) ow_none) hg
  rw [hL] at hq
  rw [hk]
  obtain ⟨x0, x1, r, A0, he, rfl, ho⟩ := replyQ_ex hq
  simp only [Prod.mk.injEq, List.cons.injEq, and_true] at he
  obtain ⟨⟨rfl, rfl⟩, rfl⟩ := he
  exact ⟨A0, rfl, ho, hb⟩
theorem dreply_at (v : Value) (xs : List Int) (w : World) (E F : Int) (L : List (List Int)) (k : Int) (hL : ev (allP (replyP xs)) ([0, 0], []) = ([E, F], L)) (hk : ek (allP (replyP xs)) = k) (h : Bs w v xs) (hby : ∀ c ∈ xs, byt c) (hl : xs.length ≤ 70368744177664) :
    Calls Tryz.prog 12 #[v] w fun e w' => ∃ A c, e = .returned (.tuple #[.agg #[.int .i64 E, .int .i64 F, .slice A L.length c], .int .i64 k]) ∧ Gots w' (.slice A L.length c) L ∧ Below w.heap.size w w' := by
  refine (rget_reply v xs w h hby (by omega)).mono fun e w' hg => ?_
  obtain ⟨u, rfl, hq, hb⟩ := dpost_sum ([0, 0], []) (fun W => ⟨0, 0, none, 0, rfl, rfl, row_none⟩) hg
  rw [hL] at hq
  rw [hk]
  obtain ⟨x0, x1, A0, c, he, rfl, ho⟩ := hq
  simp only [List.cons.injEq, and_true] at he
  obtain ⟨rfl, rfl⟩ := he
  exact ⟨A0, c, rfl, ho, hb⟩
theorem centry_at (v : Value) (xs : List Int) (w : World) (x0 x1 x2 x3 : Int) (L : List (List Int)) (k : Int) (hL : ev (allP (entryP xs)) ([0, 0, 0, 0], []) = ([x0, x1, x2, x3], L)) (hk : ek (allP (entryP xs)) = k) (h : Bs w v xs) (hby : ∀ c ∈ xs, byt c) (hl : xs.length ≤ 70368744177664) :
    Calls Tryz.prog 13 #[v] w fun e w' => ∃ A, e = .returned (.tuple #[.agg #[.int .u64 x0, .int .u64 x1, .int .u8 x2, .int .u64 x3, .slice A L.length L.length], .int .i64 k]) ∧ Ow w.heap.size w' 91 10 (.slice A L.length L.length) L.length (L.flatMap (fc stepK)) ∧ Below w.heap.size w w' := by
  refine (Get_entry_any v xs w h hby hl).mono fun e w' hg => ?_
  obtain ⟨u, rfl, hq, hb⟩ := gpost_sum ([0, 0, 0, 0], []) (fun B W => entryQ_mk (r4 := []) ow_none) hg
  rw [hL] at hq
  rw [hk]
  obtain ⟨y0, y1, y2, y3, r, A0, he, rfl, ho⟩ := entryQ_ex hq
  simp only [Prod.mk.injEq, List.cons.injEq, and_true] at he
  obtain ⟨⟨rfl, rfl, rfl, rfl⟩, rfl⟩ := he
  exact ⟨A0, rfl, ho, hb⟩
theorem dentry_at (v : Value) (xs : List Int) (w : World) (x0 x1 x2 x3 : Int) (L : List (List Int)) (k : Int) (hL : ev (allP (entryP xs)) ([0, 0, 0, 0], []) = ([x0, x1, x2, x3], L)) (hk : ek (allP (entryP xs)) = k) (h : Bs w v xs) (hby : ∀ c ∈ xs, byt c) (hl : xs.length ≤ 70368744177664) :
    Calls Tryz.prog 14 #[v] w fun e w' => ∃ A c, e = .returned (.tuple #[.agg #[.int .u64 x0, .int .u64 x1, .int .u8 x2, .int .u64 x3, .slice A L.length c], .int .i64 k]) ∧ Steps w' (.slice A L.length c) L ∧ Below w.heap.size w w' := by
  refine (rget_entry v xs w h hby (by omega)).mono fun e w' hg => ?_
  obtain ⟨u, rfl, hq, hb⟩ := dpost_sum ([0, 0, 0, 0], []) (fun W => ⟨0, 0, 0, 0, none, 0, rfl, rfl, row_none⟩) hg
  rw [hL] at hq
  rw [hk]
  obtain ⟨y0, y1, y2, y3, A0, c, he, rfl, ho⟩ := hq
  simp only [List.cons.injEq, and_true] at he
  obtain ⟨rfl, rfl, rfl, rfl⟩ := he
  exact ⟨A0, c, rfl, ho, hb⟩
theorem cstate_at (v : Value) (xs : List Int) (w : World) (r0 r1 r2 : List (List Int)) (x3 k : Int) (hL : ev (allP (stateP xs)) ([], [], [], [0]) = (r0, r1, r2, [x3])) (hk : ek (allP (stateP xs)) = k) (h : Bs w v xs) (hby : ∀ c ∈ xs, byt c) (hl : xs.length ≤ 70368744177664) :
    Calls Tryz.prog 15 #[v] w fun e w' => ∃ A0 A1 A2, e = .returned (.tuple #[.agg #[.slice A0 r0.length r0.length, .slice A1 r1.length r1.length, .slice A2 r2.length r2.length, .int .u64 x3], .int .i64 k]) ∧ Ow w.heap.size w' 86 1 (.slice A0 r0.length r0.length) r0.length (r0.flatMap (fc partyK)) ∧ Ow w.heap.size w' 120 5 (.slice A1 r1.length r1.length) r1.length (r1.flatMap (fc lineK)) ∧ Ow w.heap.size w' 124 7 (.slice A2 r2.length r2.length) r2.length (r2.flatMap (fc offerK)) ∧ Below w.heap.size w w' := by
  refine (Get_state_any v xs w h hby hl).mono fun e w' hg => ?_
  obtain ⟨u, rfl, hq, hb⟩ := gpost_sum ([], [], [], [0]) (fun B W => stateQ_mk (r0 := []) (r1 := []) (r2 := []) ow_none ow_none ow_none) hg
  rw [hL] at hq
  rw [hk]
  obtain ⟨y3, s0, s1, s2, A0, A1, A2, he, rfl, h0, h1, h2⟩ := stateQ_ex hq
  simp only [Prod.mk.injEq, List.cons.injEq, and_true] at he
  obtain ⟨rfl, rfl, rfl, rfl⟩ := he
  exact ⟨A0, A1, A2, rfl, h0, h1, h2, hb⟩
theorem dstate_at (v : Value) (xs : List Int) (w : World) (r0 r1 r2 : List (List Int)) (x3 k : Int) (hL : ev (allP (stateP xs)) ([], [], [], [0]) = (r0, r1, r2, [x3])) (hk : ek (allP (stateP xs)) = k) (h : Bs w v xs) (hby : ∀ c ∈ xs, byt c) (hl : xs.length ≤ 70368744177664) :
    Calls Tryz.prog 16 #[v] w fun e w' => ∃ A0 c0 A1 c1 A2 c2, e = .returned (.tuple #[.agg #[.slice A0 r0.length c0, .slice A1 r1.length c1, .slice A2 r2.length c2, .int .u64 x3], .int .i64 k]) ∧ Partys w' (.slice A0 r0.length c0) r0 ∧ Lines w' (.slice A1 r1.length c1) r1 ∧ Offers w' (.slice A2 r2.length c2) r2 ∧ Below w.heap.size w w' := by
  refine (rget_state v xs w h hby (by omega)).mono fun e w' hg => ?_
  obtain ⟨u, rfl, hq, hb⟩ := dpost_sum ([], [], [], [0]) (fun W => ⟨none, 0, none, 0, none, 0, 0, rfl, rfl, row_none, row_none, row_none⟩) hg
  rw [hL] at hq
  rw [hk]
  obtain ⟨A0, c0, A1, c1, A2, c2, y3, he, rfl, h0, h1, h2⟩ := hq
  simp only [List.cons.injEq, and_true] at he
  subst he
  exact ⟨A0, c0, A1, c1, A2, c2, rfl, h0, h1, h2, hb⟩
theorem cmd_fit (xs : List Int) (hby : ∀ c ∈ xs, byt c) : cmdOk (ev (allP (cmdP xs)) []) := ev_fit ⟨by simp, by simp⟩ fun a h => (cod_cmd.back xs a [] hby (allP_ok h)).2
theorem reply_fit (xs : List Int) (hby : ∀ c ∈ xs, byt c) : replyOk (ev (allP (replyP xs)) ([0, 0], [])) := ev_fit ⟨fok0 replyK (by decide), by simp, by simp⟩ fun a h => (cod_reply.back xs a [] hby (allP_ok h)).2
theorem entry_fit (xs : List Int) (hby : ∀ c ∈ xs, byt c) : entryOk (ev (allP (entryP xs)) ([0, 0, 0, 0], [])) := ev_fit ⟨fok0 entryK (by decide), by simp, by simp⟩ fun a h => (cod_entry.back xs a [] hby (allP_ok h)).2
theorem state_fit (xs : List Int) (hby : ∀ c ∈ xs, byt c) : stateOk (ev (allP (stateP xs)) ([], [], [], [0])) := ev_fit ⟨⟨by simp, by simp⟩, ⟨by simp, by simp⟩, ⟨by simp, by simp⟩, fok0 [.u64] (by decide)⟩ fun a h => (cod_state.back xs a [] hby (allP_ok h)).2
theorem reply_parts (xs : List Int) (hby : ∀ c ∈ xs, byt c) : ∃ E F L, ev (allP (replyP xs)) ([0, 0], []) = ([E, F], L) ∧ L.length ≤ 8 ∧ ∀ q ∈ L, q.length = 2 := by
  have h := reply_fit xs hby
  generalize ev (allP (replyP xs)) ([0, 0], []) = x at h ⊢
  obtain ⟨a, L⟩ := x
  obtain ⟨h1, h2, h3⟩ := h
  have := fok_len _ _ h1
  match a, this, h1 with
  | [E, F], _, _ => exact ⟨E, F, L, rfl, h2, fun q hq => fok_len _ _ (h3 q hq)⟩
theorem entry_parts (xs : List Int) (hby : ∀ c ∈ xs, byt c) : ∃ x0 x1 x2 x3 L, ev (allP (entryP xs)) ([0, 0, 0, 0], []) = ([x0, x1, x2, x3], L) ∧ L.length ≤ 8 ∧ ∀ q ∈ L, q.length = 10 := by
  have h := entry_fit xs hby
  generalize ev (allP (entryP xs)) ([0, 0, 0, 0], []) = x at h ⊢
  obtain ⟨a, L⟩ := x
  obtain ⟨h1, h2, h3⟩ := h
  have := fok_len _ _ h1
  match a, this, h1 with
  | [x0, x1, x2, x3], _, _ => exact ⟨x0, x1, x2, x3, L, rfl, h2, fun q hq => fok_len _ _ (h3 q hq)⟩
theorem state_parts (xs : List Int) (hby : ∀ c ∈ xs, byt c) : ∃ r0 r1 r2 x3, ev (allP (stateP xs)) ([], [], [], [0]) = (r0, r1, r2, [x3]) ∧ (r0.length ≤ 16 ∧ ∀ q ∈ r0, q.length = 1) ∧ (r1.length ≤ 64 ∧ ∀ q ∈ r1, q.length = 5) ∧ (r2.length ≤ 32 ∧ ∀ q ∈ r2, q.length = 7) := by
  have h := state_fit xs hby
  generalize ev (allP (stateP xs)) ([], [], [], [0]) = x at h ⊢
  obtain ⟨r0, r1, r2, a⟩ := x
  obtain ⟨⟨h0, g0⟩, ⟨h1, g1⟩, ⟨h2, g2⟩, h3⟩ := h
  have := fok_len _ _ h3
  match a, this, h3 with
  | [x3], _, _ => exact ⟨r0, r1, r2, x3, rfl, ⟨h0, fun q hq => fok_len _ _ (g0 q hq)⟩, ⟨h1, fun q hq => fok_len _ _ (g1 q hq)⟩, ⟨h2, fun q hq => fok_len _ _ (g2 q hq)⟩⟩

theorem run_tk (xs : List Int) : run numP 0 (.ok xs) = if (tk xs).2.2 = 0 then ((tk xs).1, .ok (xs.drop (tk xs).2.1)) else (0, .error (tk xs).2.2) :=
  (nGo_num xs).symm.trans (nGo_tk 10 0 0 xs)
set_option maxHeartbeats 1000000 in
theorem rtake_any (v : Value) (xs : List Int) (w : World) (h : Bs w v xs) (hby : ∀ c ∈ xs, byt c) (hl : xs.length ≤ 70368744177664) :
    Calls Tryz.prog 7 #[v] w fun e w' => e = .returned (.tuple #[.int .u64 (tk xs).1, .int .i64 (tk xs).2.1]) ∧ Below w.heap.size w w' := by
  obtain ⟨n, s', hn⟩ : ∃ n s', run numP 0 (.ok xs) = (n, s') := ⟨_, _, rfl⟩
  have T0 := Lib.hid (Ts.new_ h hby (by omega))
  have HN := Lib.hid hn
  have b1 := below_alloc_ w (.cells #[v, .int .i64 0] 79)
  have B1 := Lib.hid b1
  have hsz := tk_size xs
  obtain ⟨A, c, rfl, -⟩ := id h
  have E : ((tk xs).2.2 = 0 ∧ n = (tk xs).1 ∧ s' = .ok (xs.drop (tk xs).2.1)) ∨ ((tk xs).1 = 0 ∧ (tk xs).2.1 = 0 ∧ n = 0 ∧ ∃ k, s' = .error k) := by
    rw [run_tk] at hn
    rcases tk_err xs with ⟨h1, h2⟩ | ⟨h1, h2, h3⟩
    · rw [if_pos h1] at hn
      simp only [Prod.mk.injEq] at hn
      exact .inl ⟨h1, hn.1.symm, hn.2.symm⟩
    · rw [if_neg h1] at hn
      simp only [Prod.mk.injEq] at hn
      exact .inr ⟨h3, h2, hn.1.symm, _, hn.2.symm⟩
  generalize tk xs = T at E hsz ⊢
  obtain ⟨t, s, q⟩ := T
  simp only at E hsz ⊢
  clear h hn b1
  rcases E with ⟨rfl, rfl, rfl⟩ | ⟨rfl, rfl, rfl, k, rfl⟩
  · go_enter Tryz.func7, Tryz.ntmps7
    go_wp2_with fail
    refine (tnum_at _ _ _ _ _ T0.out HN.out).mono ?_
    rintro e w1 ⟨rfl, ht, hg⟩
    obtain ⟨j, hj, hj1, -⟩ := ht.errno
    obtain rfl := hj1 _ rfl
    obtain ⟨⟨u, hu, hub, -⟩, -, -⟩ := ht
    have B2 := Lib.hid (B1.out.grown hg (by simp) (fun k e => by have := Option.some.inj e; omega))
    obtain ⟨A1, c1, rfl, -⟩ := hub
    have z0 := hu.cell 0
    simp only [List.getElem?_toArray, List.getElem?_cons_zero] at z0
    have hlen : (xs.drop s).length = xs.length - s := by simp
    rw [hlen] at z0
    obtain ⟨m, hm⟩ : ∃ m, m = xs.length := ⟨_, rfl⟩
    rw [← hm] at hsz hl z0 ⊢
    obtain ⟨d, hd⟩ : ∃ d, d = m - s := ⟨_, rfl⟩
    rw [← hd] at z0
    have hsub : (m : Int) - d = s := by omega
    have hl' : (m : Int) ≤ 70368744177664 := by omega
    have hs' : (s : Int) ≤ m := by omega
    have hs0 : (0 : Int) ≤ s := by omega
    have hd' : (d : Int) ≤ m := by omega
    clear hg hu hj1 hlen hm hd
    go_wp2_with fail
    go_quiet (fail)
    go_wp2
    go_ret2
    exact ⟨rfl, B2.out.trans (below_drewN_ _ _ _)⟩
  · go_enter Tryz.func7, Tryz.ntmps7
    go_wp2_with fail
    refine (tnum_at _ _ _ _ _ T0.out HN.out).mono ?_
    rintro e w1 ⟨rfl, ht, hg⟩
    obtain ⟨j, hj, -, hj2⟩ := ht.errno
    obtain ⟨rfl, hj3⟩ := hj2 k rfl
    have hj4 : (j == 0) = false := beq_eq_false_iff_ne.2 hj3
    have hj5 : (j != 0) = true := by simpa using hj3
    have B2 := Lib.hid (B1.out.grown hg (by simp) (fun k e => by have := Option.some.inj e; omega))
    clear ht hg hj2 hj3
    go_wp2
    go_ret2
    exact ⟨rfl, B2.out⟩
theorem Same_step (r s : List (List Int)) (hr : ∀ q ∈ r, q.length = 10) (hs : ∀ q ∈ s, q.length = 10) (v u : Value) (w : World) (hv : Steps w v r) (hu : Steps w u s) (hb : r.length ≤ 1000000) :
    Calls Tryz.prog 10 #[v, u] w fun e w' => e = .returned (.bool (decide (r = s))) ∧ ∃ m, w' = w.drewN m := by
  have C := Lib.hid (same_steps r s hr hs v u w hv hu (by omega))
  obtain ⟨t, ht⟩ : ∃ t, t = decide (r = s) := ⟨_, rfl⟩
  rw [← ht] at C ⊢
  have T := Lib.hid ht
  obtain ⟨A, c, rfl, -⟩ := id hv
  obtain ⟨B, d, rfl, -⟩ := id hu
  clear hv hu ht
  go_enter Tryz.func10, Tryz.ntmps10
  go_wp2_with fail
  refine C.out.mono ?_
  rintro e w1 ⟨rfl, m, rfl⟩
  go_wp2
  go_ret
  exact ⟨rfl, m, rfl⟩

theorem Ow.page {B n k : Nat} {w : World} {A : Option Addr} {xs : List Value} (h : Ow B w (kE k) (kK k).length (.slice A n n) n xs) (hn : n ≤ 4611686018427387904) :
    ∃ lie, Value.slice A n n = slOf lie ∧ (∀ m b, (⟨k, lie, m, b⟩ : Pg).In w False False) ∧ ∀ g, bkOf lie = some g → B ≤ g ∧ g < w.heap.size := by
  rcases h with ⟨hv, rfl, _⟩ | ⟨g, c, cur, hv, hB, hg, hcc, hl, hs, ht⟩
  · exact ⟨none, hv, fun _ _ => trivial, fun _ h => by cases h⟩
  · injection hv with h1 h2 h3
    subst h1; subst h3
    refine ⟨some (g, n, n), rfl, fun m b => ⟨cur, hg, hcc, hs, hn, fun h => h.elim, fun h => h.elim⟩, fun k hk => ?_⟩
    obtain rfl : g = k := by simpa [bkOf] using hk
    exact ⟨hB, hg.lt⟩
theorem Tw.page {B n g : Nat} {w : World} {xs ms : List Value} (h : Tw B w 5 1 (.slice (some ⟨g, 0, none⟩) n (n + 2)) n xs ms) (hn : n ≤ 4611686018427387) :
    (∀ m b, (⟨0, some (g, n, n + 2), m, b⟩ : Pg).In w False False) ∧ B ≤ g ∧ g < w.heap.size := by
  obtain ⟨A, c, hv, hc, hl, ho⟩ := h
  injection hv with h1 h2 h3
  subst h1; subst h3
  rcases ho with ⟨hv, h0, _⟩ | ⟨g', c', cur, hv, hB, hg, hcc, hl, hs, ht⟩
  · omega
  · injection hv with h1 h2 h3
    injection h1 with h1
    injection h1 with h1 _ _
    subst h1; subst h3
    exact ⟨fun m b => ⟨cur, hg, by omega, by simpa [kK] using hs, by omega, fun h => h.elim, fun h => h.elim⟩, hB, hg.lt⟩
theorem Pg.In.keep {p : Pg} {w w' : World} {a b : Prop} (h : p.In w a b) (hk : ∀ g t cs, t ≠ 63 → t ≠ 128 → Blk w g t cs → Blk w' g t cs) : p.In w' a b := by
  obtain ⟨kd, lie, m, b0⟩ := p
  match lie, h with
  | none, _ => trivial
  | some (g, n, c), ⟨cur, hb, h1⟩ => exact ⟨cur, hk _ _ _ (fun e => kE_book kd e.symm) (fun e => kE_page kd e.symm) hb, h1⟩
theorem bk_own {lie : Option (Nat × Nat × Nat)} {g : Nat} (h : bkOf lie = some g) : (slOf lie).ownBlock = some g := by
  match lie, h with
  | some (g', _, _), h => simpa [bkOf, slOf, Value.ownBlock] using h
theorem Pg.In.keepA {p : Pg} {w : World} {a b : Prop} (h : p.In w a b) (o : Obj) : p.In (w.alloc o) a b := h.keep fun _ _ _ _ _ hk => hk.alloc o
end Go.Proofs.YtielnocnnffdfaaGreat
