/- The document's taker: numbers with a sign, how many, what is wrong at last; what it takes by fields and rows. -/
import Derived.Test.YtnegondlkfeleaaDoorTkr
import Derived.Test.YtnegondlkfeleaaDoorAll
namespace Go.Proofs.YtnegondlkfeleaaDoor
open Go.RowKit

/-- A field, a row of fields, so many rows, a list. -/
def rd1 : IntKind → TS → Int × TS
  | .u8, s => run byteP 0 s
  | .i64, s => run signP 0 s
  | _, s => (((run numP 0 s).1 : Int), (run numP 0 s).2)
def rdF : List IntKind → TS → List Int × TS
  | [], s => ([], s)
  | k :: ks, s => ((rd1 k s).1 :: (rdF ks (rd1 k s).2).1, (rdF ks (rd1 k s).2).2)
def rdN (ks : List IntKind) : Nat → TS → List (List Int) × TS
  | 0, s => ([], s)
  | _ + 1, .error k => ([], .error k)
  | n + 1, .ok xs => ((rdF ks (.ok xs)).1 :: (rdN ks n (rdF ks (.ok xs)).2).1, (rdN ks n (rdF ks (.ok xs)).2).2)
def rdM (most : Nat) (s : TS) : Nat × TS := match run numP 0 s with
  | (_, .error k) => (0, .error k)
  | (n, .ok r) => if most < n then (0, .error 3) else (n, .ok r)
def rdL (ks : List IntKind) (most : Nat) (s : TS) : List (List Int) × TS := rdN ks (rdM most s).1 (rdM most s).2
/-- What is wrong at last. -/
def dn : TS → Int
  | .ok [] => 0
  | .ok (_ :: _) => 4
  | .error k => k

theorem rd1_ok (k : IntKind) (xs : List Int) : match fp1 k xs with | .ok (a, r) => rd1 k (.ok xs) = (a, .ok r) | .error e => (rd1 k (.ok xs)).2 = .error e := by
  cases k <;> simp only [fp1, rd1, run]
  case u8 => cases h : byteP xs with
    | ok q => simp
    | error e => simp
  case i64 => cases h : signP xs with
    | ok q => simp
    | error e => simp
  all_goals
    cases h : numP xs with
    | ok q => simp [bindP]
    | error e => simp [bindP]
theorem rd1_err (k : IntKind) (e : Int) : (rd1 k (.error e)).2 = .error e := by cases k <;> rfl
theorem rdF_err : ∀ (ks : List IntKind) (e : Int), (rdF ks (.error e)).2 = .error e
  | [], _ => rfl
  | k :: ks, e => by simp only [rdF]; rw [rd1_err]; exact rdF_err ks e
theorem rdF_ok : ∀ (ks : List IntKind) (xs : List Int), match fP ks xs with | .ok (a, r) => rdF ks (.ok xs) = (a, .ok r) | .error e => (rdF ks (.ok xs)).2 = .error e
  | [], xs => rfl
  | k :: ks, xs => by
    simp only [fP]
    have h1 := rd1_ok k xs
    cases h : fp1 k xs with
    | error e =>
      rw [h] at h1
      simp only [bindP, rdF]
      rw [h1]
      exact rdF_err ks e
    | ok q =>
      obtain ⟨a, r⟩ := q
      rw [h] at h1
      simp only at h1
      have h2 := rdF_ok ks r
      simp only [bindP, rdF]
      rw [h1]
      cases h3 : fP ks r with
      | error e => rw [h3] at h2; exact h2
      | ok q => obtain ⟨b, r'⟩ := q; rw [h3] at h2; simp only at h2 ⊢; rw [h2]
theorem rdN_err (ks : List IntKind) (n : Nat) (e : Int) : rdN ks n (.error e) = ([], .error e) := by cases n <;> rfl
theorem rdN_ok (ks : List IntKind) : ∀ (n : Nat) (xs : List Int), match repP (fP ks) n xs with | .ok (a, r) => rdN ks n (.ok xs) = (a, .ok r) | .error e => (rdN ks n (.ok xs)).2 = .error e
  | 0, xs => rfl
  | n + 1, xs => by
    simp only [repP, rdN]
    have h1 := rdF_ok ks xs
    cases h : fP ks xs with
    | error e =>
      rw [h] at h1
      simp only [bindP]
      rw [h1, rdN_err]
    | ok q =>
      obtain ⟨a, r⟩ := q
      rw [h] at h1
      simp only at h1
      have h2 := rdN_ok ks n r
      simp only [bindP]
      rw [h1]
      cases h3 : repP (fP ks) n r with
      | error e => rw [h3] at h2; exact h2
      | ok q => obtain ⟨b, r'⟩ := q; rw [h3] at h2; simp only at h2 ⊢; rw [h2]
theorem rdM_err (most : Nat) (e : Int) : rdM most (.error e) = (0, .error e) := rfl
theorem rdL_err (ks : List IntKind) (most : Nat) (e : Int) : rdL ks most (.error e) = ([], .error e) := rfl
theorem rdL_ok (ks : List IntKind) (most : Nat) (xs : List Int) : match listP (fP ks) most xs with | .ok (a, r) => rdL ks most (.ok xs) = (a, .ok r) | .error e => (rdL ks most (.ok xs)).2 = .error e := by
  rcases h : numP xs with e | ⟨n, r⟩
  · have h1 : listP (fP ks) most xs = .error e := by simp only [listP, h, bindP]
    have h2 : rdM most (.ok xs) = (0, .error e) := by simp only [rdM, run, h]
    rw [h1]
    simp only [rdL, h2, rdN_err]
  · by_cases hm : most < n
    · have h1 : listP (fP ks) most xs = .error 3 := by simp only [listP, h, bindP, if_pos hm]
      have h2 : rdM most (.ok xs) = (0, .error 3) := by simp only [rdM, run, h, if_pos hm]
      rw [h1]
      simp only [rdL, h2, rdN_err]
    · have h1 : listP (fP ks) most xs = repP (fP ks) n r := by simp only [listP, h, bindP, if_neg hm]
      have h2 : rdM most (.ok xs) = (n, .ok r) := by simp only [rdM, run, h, if_neg hm]
      rw [h1]
      simp only [rdL, h2]
      exact rdN_ok ks n r
theorem rdM_le (most : Nat) (s : TS) : (rdM most s).1 ≤ most := by
  unfold rdM
  split
  · simp
  · split
    · simp
    · rename_i h; simp; omega
theorem rdN_len (ks : List IntKind) : ∀ (n : Nat) (s : TS), (rdN ks n s).1.length ≤ n
  | 0, _ => by simp [rdN]
  | _ + 1, .error _ => by simp [rdN]
  | n + 1, .ok xs => by simp only [rdN, List.length_cons]; have := rdN_len ks n (rdF ks (.ok xs)).2; omega
theorem rdL_len (ks : List IntKind) (most : Nat) (s : TS) : (rdL ks most s).1.length ≤ most := Nat.le_trans (rdN_len _ _ _) (rdM_le _ _)
theorem rdF_len : ∀ (ks : List IntKind) (s : TS), (rdF ks s).1.length = ks.length
  | [], _ => rfl
  | k :: ks, s => by simp only [rdF, List.length_cons]; rw [rdF_len ks]

theorem run_lt {w : World} {t : Nat} {s : TS} (h : Ts w t s) : (run numP 0 s).1 < 18446744073709551616 := by
  match s, h with
  | .error k, _ => exact (by decide : (0 : Nat) < 18446744073709551616)
  | .ok xs, h =>
    rcases hn : numP xs with e | ⟨n, r⟩
    · have : run numP 0 (.ok xs) = (0, .error e) := by simp only [run, hn]
      rw [this]
      exact (by decide : (0 : Nat) < 18446744073709551616)
    · have : run numP 0 (.ok xs) = (n, .ok r) := by simp only [run, hn]
      rw [this]
      exact (cod_num.back xs n r h.2.1 hn).2
theorem run_sign (s : TS) : run signP 0 s = (unzz (run numP 0 s).1, (run numP 0 s).2) := by
  match s with
  | .error k => show ((0 : Int), (Except.error k : TS)) = (unzz 0, .error k); rw [show unzz 0 = 0 from by decide]
  | .ok xs =>
    rcases hn : numP xs with e | ⟨n, r⟩
    · have h1 : run numP 0 (.ok xs) = (0, .error e) := by simp only [run, hn]
      have h2 : run signP 0 (.ok xs) = (0, .error e) := by simp only [run, signP, hn, bindP]
      rw [h1, h2, show unzz ((0 : Nat), (Except.error e : TS)).1 = 0 from (by decide : unzz 0 = 0)]
    · have h1 : run numP 0 (.ok xs) = (n, .ok r) := by simp only [run, hn]
      have h2 : run signP 0 (.ok xs) = (unzz n, .ok r) := by simp only [run, signP, hn, bindP]
      rw [h1, h2]

theorem tnum_at (t : Nat) (s s' : TS) (n : Nat) (w : World) (h : Ts w t s) (hr : run numP 0 s = (n, s')) :
    Calls Tryd.prog 51 #[.pointer (some ⟨t, 0, none⟩)] w fun e w' => e = .returned (.int .u64 n) ∧ Ts w' t s' ∧ w.grownBy w' (some t) := by
  have := tnum_any t s w h
  rw [hr] at this
  exact this
theorem rd_u8 (t : Nat) (s s' : TS) (x : Int) (w : World) (h : Ts w t s) (hr : rd1 .u8 s = (x, s')) :
    Calls Tryd.prog 85 #[.pointer (some ⟨t, 0, none⟩)] w fun e w' => e = .returned (.int .u8 x) ∧ Ts w' t s' ∧ w.grownBy w' (some t) := by
  have := tbyte_any t s w h
  rw [show run byteP 0 s = (x, s') from hr] at this
  exact this
theorem rd_u64 (t : Nat) (s s' : TS) (x : Int) (w : World) (h : Ts w t s) (hr : rd1 .u64 s = (x, s')) :
    Calls Tryd.prog 51 #[.pointer (some ⟨t, 0, none⟩)] w fun e w' => e = .returned (.int .u64 x) ∧ Ts w' t s' ∧ w.grownBy w' (some t) := by
  have := tnum_any t s w h
  simp only [rd1] at hr
  injection hr with h1 h2
  rw [h1, h2] at this
  exact this
theorem done_any (t : Nat) (s : TS) (w : World) (h : Ts w t s) :
    Calls Tryd.prog 52 #[.pointer (some ⟨t, 0, none⟩)] w fun e w' => e = .returned (.int .i64 (dn s)) ∧ w = w' := by
  match s, h with
  | .error k, ⟨h0, v, hk⟩ =>
    have c1 := hk.cell 1
    simp only [List.getElem?_toArray, List.getElem?_cons_zero, List.getElem?_cons_succ] at c1
    have hj4 : (k == 0) = false := beq_eq_false_iff_ne.2 h0
    clear hk h0
    go_enter Tryd.func52, Tryd.ntmps52
    go_wp2
    go_ret
    exact ⟨rfl, rfl⟩
  | .ok [], ⟨⟨v, hk, hb, _⟩, _⟩ =>
    have c0 := hk.cell 0
    have c1 := hk.cell 1
    simp only [List.getElem?_toArray, List.getElem?_cons_zero, List.getElem?_cons_succ] at c0 c1
    obtain ⟨A, c, rfl, -⟩ := id hb
    clear hk hb
    go_enter Tryd.func52, Tryd.ntmps52
    go_wp2
    go_ret
    exact ⟨rfl, rfl⟩
  | .ok (x :: r), ⟨⟨v, hk, hb, _⟩, _⟩ =>
    have c0 := hk.cell 0
    have c1 := hk.cell 1
    simp only [List.getElem?_toArray, List.getElem?_cons_zero, List.getElem?_cons_succ] at c0 c1
    obtain ⟨A, c, rfl, -⟩ := id hb
    rw [show (x :: r).length = r.length + 1 from rfl] at c0
    have hp : (0 : Int) < (r.length : Int) + 1 := by omega
    clear hk hb
    go_enter Tryd.func52, Tryd.ntmps52
    go_wp2
    go_ret
    exact ⟨rfl, rfl⟩
/-- The reader R takes what the parser P does. -/
structure Sim {α : Type} (R : TS → α × TS) (P : List Int → Res α) : Prop where
  ok : ∀ xs, match P xs with | .ok (a, r) => R (.ok xs) = (a, .ok r) | .error e => (R (.ok xs)).2 = .error e
  err : ∀ e, (R (.error e)).2 = .error e
theorem sim_F (ks : List IntKind) : Sim (rdF ks) (fP ks) where
  ok xs := by
    have h := rdF_ok ks xs
    rcases hp : fP ks xs with e | ⟨a, r⟩
    · rw [hp] at h; exact h
    · rw [hp] at h; exact h
  err := rdF_err ks
theorem sim_L (ks : List IntKind) (most : Nat) : Sim (rdL ks most) (listP (fP ks) most) where
  ok xs := by
    have h := rdL_ok ks most xs
    rcases hp : listP (fP ks) most xs with e | ⟨a, r⟩
    · rw [hp] at h; exact h
    · rw [hp] at h; exact h
  err e := by rw [rdL_err]
theorem Sim.bind {α β : Type} {R : TS → α × TS} {P : List Int → Res α} {R' : TS → β × TS} {P' : List Int → Res β} (h : Sim R P) (h' : Sim R' P') :
    Sim (fun s => (((R s).1, (R' (R s).2).1), (R' (R s).2).2)) (fun xs => bindP (P xs) fun a r => bindP (P' r) fun b r' => .ok ((a, b), r')) where
  ok xs := by
    have h1 := h.ok xs
    rcases hp : P xs with e | ⟨a, r⟩
    · rw [hp] at h1
      simp only at h1
      simp only [bindP]
      rw [h1]
      exact h'.err e
    · rw [hp] at h1
      simp only at h1
      have h2 := h'.ok r
      simp only [bindP]
      rw [h1]
      rcases hp' : P' r with e | ⟨b, r'⟩
      · rw [hp'] at h2
        exact h2
      · rw [hp'] at h2
        simp only at h2 ⊢
        rw [h2]
  err e := by
    show (R' (R (.error e)).2).2 = .error e
    rw [h.err e]
    exact h'.err e
theorem sim_all {α : Type} {R : TS → α × TS} {P : List Int → Res α} (h : Sim R P) (xs : List Int) : match allP (P xs) with | .ok a => R (.ok xs) = (a, .ok []) ∧ dn (R (.ok xs)).2 = 0 | .error q => dn (R (.ok xs)).2 = q := by
  have h1 := h.ok xs
  rcases hp : P xs with e | ⟨a, r⟩
  · rw [hp] at h1
    simp only at h1
    simp only [allP]
    rw [h1]; rfl
  · rw [hp] at h1
    simp only at h1
    cases r with
    | nil => simp only [allP]; rw [h1]; exact ⟨rfl, rfl⟩
    | cons y ys => simp only [allP]; rw [h1]; rfl
/-- What the document's Get answers: the thing, or what is wrong. -/
def DPost {α : Type} (x : Except Int α) (Q : α → World → Value → Prop) (z : Value) (w : World) (e : Ending) (w' : World) : Prop :=
  ∃ (u : Value) (k : Int), e = .returned (.tuple #[u, .int .i64 k]) ∧ Below w.heap.size w w' ∧ (match x with | .ok a => k = 0 ∧ Q a w' u | .error q => k = q ∧ u = z)
theorem dpost_ok {α : Type} {x : Except Int α} {a : α} {Q : α → World → Value → Prop} {z u : Value} {w w' : World} (h : x = .ok a) (hb : Below w.heap.size w w') (hq : Q a w' u) : DPost x Q z w (.returned (.tuple #[u, .int .i64 0])) w' := by
  subst h; exact ⟨u, 0, rfl, hb, rfl, hq⟩
theorem dpost_bad {α : Type} {x : Except Int α} {q k : Int} {Q : α → World → Value → Prop} {z : Value} {w w' : World} (h : x = .error q) (hb : Below w.heap.size w w') (hk : k = q) : DPost x Q z w (.returned (.tuple #[z, .int .i64 k])) w' := by
  subst h; exact ⟨z, k, rfl, hb, hk, rfl⟩
/-- A taker over given bytes. -/
theorem Ts.new_ {w : World} {v : Value} {xs : List Int} (h : Bs w v xs) (hby : ∀ c ∈ xs, byt c) (hl : xs.length ≤ 4611686018427387904) : Ts (w.alloc (.cells #[v, .int .i64 0] 120)) w.heap.size (.ok xs) :=
  ⟨⟨v, Blk.new _ _ _, h.below (below_alloc_ _ _), rd_block_ h⟩, hby, hl⟩
end Go.Proofs.YtnegondlkfeleaaDoor
