/- Letters: the plain law: what is put, what is got. -/
import Derived.Test.YthjdkjinkmdclaaGreatEnt
import Derived.Test.YthjdkjinkmdclaaGreatPqc
import Derived.Test.YthjdkjinkmdclaaGreatPqe
import Derived.Test.YthjdkjinkmdclaaGreatPqr
import Derived.Test.YthjdkjinkmdclaaGreatAll
namespace Go.Proofs.YthjdkjinkmdclaaGreat
open Go.RowKit

/-- A letter. -/
structure Lt where
  kind : Int
  src : Int
  dst : Int
  term : Int
  index : Int
  mark : Int
  commit : Int
  yes : Bool
  es : List Ent
  data : List Int
  cl : Int
  num : Int
  steps : List (List Int)
  e : Int
  re : Int
  ra : Int
  gots : List (List Int)
def Lt.zero : Lt := ⟨0, 0, 0, 0, 0, 0, 0, false, [], [], 0, 0, [], 0, 0, 0, []⟩
structure LtOk (L : Lt) : Prop where
  kind : byt L.kind
  src : byt L.src
  dst : byt L.dst
  term : fok1 .u64 L.term
  index : fok1 .u64 L.index
  mark : fok1 .u64 L.mark
  commit : fok1 .u64 L.commit
  es : ∀ e ∈ L.es, fok entryK e.1 ∧ ∀ q ∈ e.2, fok stepK q
  data : ∀ c ∈ L.data, byt c
  cl : byt L.cl
  num : fok1 .u64 L.num
  steps : ∀ q ∈ L.steps, fok stepK q
  e : in64 L.e
  re : fok1 .i64 L.re
  ra : fok1 .i64 L.ra
  gots : ∀ q ∈ L.gots, fok gotK q

/-- The parts of a letter. -/
inductive Pc
  | kind | src | dst | term | index | mark | commit | yes | entries | data | client | num | command | wrong | reply
  deriving DecidableEq
def heads : List Pc := [.kind, .src, .dst, .term]
def pcs (k : Int) : Option (List Pc) :=
  if k = 1 then some [.index, .mark] else if k = 2 then some [.yes, .index] else if k = 3 then some [.index, .mark, .commit, .entries] else if k = 4 then some [.yes, .index]
  else if k = 5 then some [.index, .mark, .data] else if k = 6 then some [.client, .num, .command] else if k = 7 then some [.client, .num, .wrong, .index, .reply] else none
def textB (xs : List Int) : List Int := nb xs.length ++ xs
/-- A number with a sign, as one without. -/
def uns (x : Int) : Nat := (x % 18446744073709551616).toNat
/-- A part's bytes; whether it may not be. -/
def putPc (L : Lt) : Pc → List Int × Bool
  | .kind => ([L.kind], false)
  | .src => ([L.src], false)
  | .dst => ([L.dst], false)
  | .term => (nb L.term.toNat, false)
  | .index => (nb L.index.toNat, false)
  | .mark => (nb L.mark.toNat, false)
  | .commit => (nb L.commit.toNat, false)
  | .yes => ([if L.yes then 1 else 0], false)
  | .entries => (nb L.es.length ++ L.es.flatMap (fun e => textB (entryR e).1), decide (8 < L.es.length) || L.es.any (fun e => decide ((entryR e).2 ≠ 0) || decide (65536 < (entryR e).1.length)))
  | .data => (textB L.data, decide (65536 < L.data.length))
  | .client => ([L.cl], false)
  | .num => (nb L.num.toNat, false)
  | .command => ((cmdR L.steps).1, decide ((cmdR L.steps).2 ≠ 0))
  | .wrong => (nb (uns L.e), false)
  | .reply => ((replyR ([L.re, L.ra], L.gots)).1, decide ((replyR ([L.re, L.ra], L.gots)).2 ≠ 0))
def putPcs (L : Lt) : List Pc → List Int × Bool → List Int × Bool
  | [], s => s
  | p :: ps, s => putPcs L ps (s.1 ++ (putPc L p).1, s.2 || (putPc L p).2)
/-- What Put answers. -/
def putL (L : Lt) : List Int × Int := match pcs L.kind with
  | none => ([], 1)
  | some ps => if (putPcs L (heads ++ ps) ([], decide (L.e < 0 ∧ L.kind = 7))).2 = true then ([], 1) else ((putPcs L (heads ++ ps) ([], decide (L.e < 0 ∧ L.kind = 7))).1, 0)

/-- Bytes that are being got; whether they are none. -/
abbrev Gs := List Int × Bool
def gNum (s : Gs) : Nat × Gs := if (tk s.1).2.2 = 0 then ((tk s.1).1, (s.1.drop (tk s.1).2.1, s.2)) else (0, (s.1, true))
def gOne (d : Int) (s : Gs) : Int × Gs := match s.1 with
  | [] => (d, ([], true))
  | c :: r => (c, (r, s.2))
def gText (d : List Int) (s : Gs) : List Int × Gs :=
  if (gNum s).2.2 = true ∨ 65536 < (gNum s).1 ∨ (gNum s).2.1.length < (gNum s).1 then (d, ((gNum s).2.1, true)) else ((gNum s).2.1.take (gNum s).1, ((gNum s).2.1.drop (gNum s).1, (gNum s).2.2))
def zeroE : Ent := ([0, 0, 0, 0], [])
def getE (xs : List Int) : Ent × Bool := match allP (entryP xs) with
  | .ok a => (a, false)
  | .error _ => (zeroE, true)
def gEnts : Nat → List Ent → Gs → List Ent × Gs
  | 0, es, s => (es, s)
  | n + 1, es, s => gEnts n (es ++ [(getE (gText [] s).1).1]) ((gText [] s).2.1, (gText [] s).2.2 || (getE (gText [] s).1).2)
def gPc (L : Lt) (s : Gs) : Pc → Lt × Gs
  | .kind => ({ L with kind := (gOne L.kind s).1 }, (gOne L.kind s).2)
  | .src => ({ L with src := (gOne L.src s).1 }, (gOne L.src s).2)
  | .dst => ({ L with dst := (gOne L.dst s).1 }, (gOne L.dst s).2)
  | .term => ({ L with term := (gNum s).1 }, (gNum s).2)
  | .index => ({ L with index := (gNum s).1 }, (gNum s).2)
  | .mark => ({ L with mark := (gNum s).1 }, (gNum s).2)
  | .commit => ({ L with commit := (gNum s).1 }, (gNum s).2)
  | .yes => ({ L with yes := decide ((gOne 0 s).1 = 1) }, ((gOne 0 s).2.1, (gOne 0 s).2.2 || decide (1 < (gOne 0 s).1)))
  | .entries => if 8 < (gNum s).1 then (L, ((gNum s).2.1, true)) else ({ L with es := (gEnts (gNum s).1 L.es (gNum s).2).1 }, (gEnts (gNum s).1 L.es (gNum s).2).2)
  | .data => ({ L with data := (gText L.data s).1 }, (gText L.data s).2)
  | .client => ({ L with cl := (gOne L.cl s).1 }, (gOne L.cl s).2)
  | .num => ({ L with num := (gNum s).1 }, (gNum s).2)
  | .command => match allP (cmdP s.1) with
    | .ok a => ({ L with steps := a }, ([], s.2))
    | .error _ => ({ L with steps := [] }, ([], true))
  | .wrong => ({ L with e := IntKind.i64.wrap ((gNum s).1 : Int) }, (gNum s).2)
  | .reply => match allP (replyP s.1) with
    | .ok a => ({ L with re := a.1.headD 0, ra := a.1.tail.headD 0, gots := a.2 }, ([], s.2))
    | .error _ => ({ L with re := 0, ra := 0, gots := [] }, ([], true))
def gRun : List Pc → Lt × Gs → Lt × Gs
  | [], x => x
  | p :: ps, x => gRun ps (gPc x.1 x.2 p)
def headG (xs : List Int) : Lt × Gs := gRun heads (Lt.zero, (xs, false))
/-- What Get answers. -/
def getL (xs : List Int) : Option Lt := match pcs (headG xs).1.kind with
  | none => none
  | some ps => if (gRun ps (headG xs)).2.2 = false ∧ (gRun ps (headG xs)).2.1 = [] ∧ 0 ≤ (gRun ps (headG xs)).1.e then some (gRun ps (headG xs)).1 else none
theorem gRun_append : ∀ (ps qs : List Pc) (x : Lt × Gs), gRun (ps ++ qs) x = gRun qs (gRun ps x)
  | [], _, _ => rfl
  | _ :: ps, qs, _ => gRun_append ps qs _

/- What is bad stays bad. -/
theorem gNum_bad {s : Gs} (h : s.2 = true) : (gNum s).2.2 = true := by unfold gNum; split; exact h; rfl
theorem gOne_bad {s : Gs} (d : Int) (h : s.2 = true) : (gOne d s).2.2 = true := by unfold gOne; split; rfl; exact h
theorem gText_bad {s : Gs} (d : List Int) (h : s.2 = true) : (gText d s).2.2 = true := by unfold gText; rw [if_pos (.inl (gNum_bad h))]
theorem gEnts_bad : ∀ (n : Nat) (es : List Ent) {s : Gs}, s.2 = true → (gEnts n es s).2.2 = true
  | 0, _, _, h => h
  | n + 1, es, s, h => gEnts_bad n _ (by simp only [gText_bad [] h, Bool.true_or])
theorem gPc_bad (L : Lt) {s : Gs} (h : s.2 = true) (p : Pc) : (gPc L s p).2.2 = true := by
  cases p
  case entries =>
    simp only [gPc]; split
    · rfl
    · exact gEnts_bad _ _ (gNum_bad h)
  case command =>
    simp only [gPc]; split
    · exact h
    · rfl
  case reply =>
    simp only [gPc]; split
    · exact h
    · rfl
  case yes => simp only [gPc, gOne_bad 0 h, Bool.true_or]
  case data => exact gText_bad _ h
  case kind => exact gOne_bad _ h
  case src => exact gOne_bad _ h
  case dst => exact gOne_bad _ h
  case client => exact gOne_bad _ h
  all_goals exact gNum_bad h
theorem gRun_bad : ∀ (ps : List Pc) {x : Lt × Gs}, x.2.2 = true → (gRun ps x).2.2 = true
  | [], _, h => h
  | p :: ps, x, h => gRun_bad ps (gPc_bad x.1 h p)

/- What is got has these bytes. -/
theorem gNum_back {s : Gs} (hb : ∀ c ∈ s.1, byt c) (h : (gNum s).2.2 = false) : s.2 = false ∧ s.1 = nb (gNum s).1 ++ (gNum s).2.1 ∧ (gNum s).1 < 18446744073709551616 := by
  unfold gNum at h ⊢
  split at h
  · rename_i h0
    rw [if_pos h0]
    obtain ⟨e1, e2, e3, e4⟩ := tk_back hb (show tk s.1 = ((tk s.1).1, (tk s.1).2.1, 0) by rw [← h0])
    exact ⟨h, by rw [e1, List.take_append_drop], e4⟩
  · cases h
theorem gOne_back {s : Gs} {d : Int} (hb : ∀ c ∈ s.1, byt c) (h : (gOne d s).2.2 = false) : s.2 = false ∧ s.1 = [(gOne d s).1] ++ (gOne d s).2.1 ∧ byt (gOne d s).1 := by
  obtain ⟨xs, b⟩ := s
  cases xs with
  | nil => cases h
  | cons c r => exact ⟨h, rfl, hb c (by simp)⟩
theorem gText_back {s : Gs} {d : List Int} (hb : ∀ c ∈ s.1, byt c) (h : (gText d s).2.2 = false) : s.2 = false ∧ s.1 = textB (gText d s).1 ++ (gText d s).2.1 ∧ (gText d s).1.length ≤ 65536 ∧ ∀ c ∈ (gText d s).1, byt c := by
  unfold gText at h ⊢
  split at h
  · cases h
  · rename_i hc
    rw [if_neg hc]
    obtain ⟨e1, e2, e3⟩ := gNum_back hb h
    have hl : (gNum s).1 ≤ (gNum s).2.1.length := by omega
    refine ⟨e1, ?_, by rw [List.length_take]; omega, fun c hc => hb c (by rw [e2]; exact List.mem_append_right _ (List.mem_of_mem_take hc))⟩
    unfold textB
    simp only
    rw [List.length_take, Nat.min_eq_left hl, List.append_assoc, List.take_append_drop]
    exact e2
theorem getE_back {xs : List Int} (hb : ∀ c ∈ xs, byt c) (h : (getE xs).2 = false) : xs = (entryR (getE xs).1).1 ∧ (entryR (getE xs).1).2 = 0 ∧ entryOk (getE xs).1 := by
  unfold getE at h ⊢
  split at h
  · rename_i a ha
    obtain ⟨e1, e2⟩ := cod_all cod_entry hb ha
    simp only
    unfold entryR
    rw [if_pos e2.2.1]
    exact ⟨e1, rfl, e2⟩
  · cases h
def entsB (es : List Ent) : List Int := es.flatMap (fun e => textB (entryR e).1)
theorem gEnts_back : ∀ (n : Nat) (es : List Ent) (s : Gs), (∀ c ∈ s.1, byt c) → (gEnts n es s).2.2 = false →
    ∃ ts, (gEnts n es s).1 = es ++ ts ∧ ts.length = n ∧ s.2 = false ∧ s.1 = entsB ts ++ (gEnts n es s).2.1 ∧ ∀ t ∈ ts, entryOk t ∧ (entryR t).2 = 0 ∧ (entryR t).1.length ≤ 65536
  | 0, es, s, _, h => ⟨[], by simp [gEnts], rfl, h, by simp [gEnts, entsB], by simp⟩
  | n + 1, es, s, hb, h => by
    have h1 : ((gText [] s).2.2 || (getE (gText [] s).1).2) = false := by
      rcases hh : ((gText [] s).2.2 || (getE (gText [] s).1).2) with _ | _
      · rfl
      · have := gEnts_bad n (es ++ [(getE (gText [] s).1).1]) (s := ((gText [] s).2.1, (gText [] s).2.2 || (getE (gText [] s).1).2)) hh
        rw [show gEnts (n + 1) es s = gEnts n _ _ from rfl, this] at h; cases h
    have h2 : (gText [] s).2.2 = false ∧ (getE (gText [] s).1).2 = false := by simpa using h1
    obtain ⟨a1, a2, a3, a4⟩ := gText_back hb h2.1
    obtain ⟨b1, b2, b3⟩ := getE_back a4 h2.2
    obtain ⟨ts, c1, c2, c3, c4, c5⟩ := gEnts_back n (es ++ [(getE (gText [] s).1).1]) ((gText [] s).2.1, (gText [] s).2.2 || (getE (gText [] s).1).2) (fun c hc => hb c (by rw [a2]; exact List.mem_append_right _ hc)) h
    refine ⟨(getE (gText [] s).1).1 :: ts, ?_, by simp [c2], a1, ?_, ?_⟩
    · rw [show gEnts (n + 1) es s = gEnts n _ _ from rfl, c1]; simp
    · rw [show gEnts (n + 1) es s = gEnts n _ _ from rfl]
      simp only at c4
      simp only [entsB, List.flatMap_cons, List.append_assoc]
      rw [← b1]
      exact a2.trans (congrArg (fun z => textB (gText [] s).1 ++ z) c4)
    · intro t ht
      rcases List.mem_cons.1 ht with rfl | ht
      · exact ⟨b3, b2, by rw [← b1]; exact a3⟩
      · exact c5 t ht
/-- What a part may be. -/
def okPc (L : Lt) : Pc → Prop
  | .kind => byt L.kind
  | .src => byt L.src
  | .dst => byt L.dst
  | .term => fok1 .u64 L.term
  | .index => fok1 .u64 L.index
  | .mark => fok1 .u64 L.mark
  | .commit => fok1 .u64 L.commit
  | .yes => True
  | .entries => L.es.length ≤ 8 ∧ ∀ t ∈ L.es, entryOk t ∧ (entryR t).1.length ≤ 65536
  | .data => (∀ c ∈ L.data, byt c) ∧ L.data.length ≤ 65536
  | .client => byt L.cl
  | .num => fok1 .u64 L.num
  | .command => cmdOk L.steps
  | .wrong => in64 L.e
  | .reply => replyOk ([L.re, L.ra], L.gots)
theorem nat_u64 {n : Nat} (h : n < 18446744073709551616) : fok1 .u64 (n : Int) := ⟨by omega, by omega⟩
theorem uns_wrap {n : Nat} (h : n < 18446744073709551616) : uns (IntKind.i64.wrap (n : Int)) = n := by
  unfold uns; rw [IntKind.wrap_i64]; omega
theorem wrap_in (n : Int) : in64 (IntKind.i64.wrap n) := by unfold in64; rw [IntKind.wrap_i64]; omega
theorem wrap_uns {x : Int} (h : in64 x) : IntKind.i64.wrap (uns x : Int) = x := by
  unfold uns in64 at *; rw [IntKind.wrap_i64]; omega
theorem uns_lt (x : Int) : uns x < 18446744073709551616 := by unfold uns; omega
/-- One part, got well. -/
theorem gPc_back (L : Lt) {s : Gs} (hb : ∀ c ∈ s.1, byt c) (p : Pc) (hL : p = .entries → L.es = []) (h : (gPc L s p).2.2 = false) :
    s.2 = false ∧ s.1 = (putPc (gPc L s p).1 p).1 ++ (gPc L s p).2.1 ∧ (putPc (gPc L s p).1 p).2 = false ∧ okPc (gPc L s p).1 p := by
  have num : ∀ q, q = p → (gPc L s p).2 = (gNum s).2 → (putPc (gPc L s p).1 p).1 = nb (gNum s).1 → (putPc (gPc L s p).1 p).2 = false → ((gNum s).1 < 18446744073709551616 → okPc (gPc L s p).1 p) →
      s.2 = false ∧ s.1 = (putPc (gPc L s p).1 p).1 ++ (gPc L s p).2.1 ∧ (putPc (gPc L s p).1 p).2 = false ∧ okPc (gPc L s p).1 p := by
    intro _ _ e1 e2 e3 e4
    rw [e1] at h
    obtain ⟨a1, a2, a3⟩ := gNum_back hb h
    exact ⟨a1, by rw [e2, e1]; exact a2, e3, e4 a3⟩
  cases p
  case kind => obtain ⟨a1, a2, a3⟩ := gOne_back hb h; exact ⟨a1, a2, rfl, a3⟩
  case src => obtain ⟨a1, a2, a3⟩ := gOne_back hb h; exact ⟨a1, a2, rfl, a3⟩
  case dst => obtain ⟨a1, a2, a3⟩ := gOne_back hb h; exact ⟨a1, a2, rfl, a3⟩
  case client => obtain ⟨a1, a2, a3⟩ := gOne_back hb h; exact ⟨a1, a2, rfl, a3⟩
  case term => exact num _ rfl rfl rfl rfl fun h => nat_u64 h
  case index => exact num _ rfl rfl rfl rfl fun h => nat_u64 h
  case mark => exact num _ rfl rfl rfl rfl fun h => nat_u64 h
  case commit => exact num _ rfl rfl rfl rfl fun h => nat_u64 h
  case num => exact num _ rfl rfl rfl rfl fun h => nat_u64 h
  case wrong =>
    have hh : (gNum s).2.2 = false := h
    have h3 := (gNum_back hb hh).2.2
    exact num _ rfl rfl (by simp only [putPc, gPc, uns_wrap h3]) rfl fun _ => wrap_in _
  case data =>
    obtain ⟨a1, a2, a3, a4⟩ := gText_back hb h
    exact ⟨a1, a2, decide_eq_false (Nat.not_lt.2 a3), a4, a3⟩
  case yes =>
    have h2 : (gOne 0 s).2.2 = false ∧ ¬ 1 < (gOne 0 s).1 := by simpa [gPc] using h
    obtain ⟨a1, a2, a3⟩ := gOne_back hb h2.1
    refine ⟨a1, ?_, rfl, trivial⟩
    rw [a2]
    simp only [putPc, gPc]
    have h3 := a3.1
    by_cases h1 : (gOne 0 s).1 = 1
    · simp [h1]
    · have h0 : (gOne 0 s).1 = 0 := by omega
      simp [h0]
  case entries =>
    have hL := hL rfl
    simp only [gPc] at h ⊢
    split at h
    · cases h
    · rename_i h8
      rw [if_neg h8]
      obtain ⟨ts, c1, c2, c3, c4, c5⟩ := gEnts_back _ _ _ (fun c hc => by
        rcases hn : (gNum s).2.2 with _ | _
        · exact hb c (by rw [(gNum_back hb hn).2.1]; exact List.mem_append_right _ hc)
        · unfold gNum at hc
          split at hc
          · exact hb c (List.mem_of_mem_drop hc)
          · exact hb c hc) h
      obtain ⟨a1, a2, a3⟩ := gNum_back hb c3
      rw [hL, List.nil_append] at c1
      rw [hL] at c4
      simp only [putPc, okPc]
      rw [hL, c1]
      refine ⟨a1, ?_, ?_, by omega, fun t ht => ⟨(c5 t ht).1, (c5 t ht).2.2⟩⟩
      · rw [c2, List.append_assoc]
        exact a2.trans (by rw [c4]; rfl)
      · rw [Bool.or_eq_false_iff]
        refine ⟨by rw [c2]; exact decide_eq_false h8, ?_⟩
        rw [List.any_eq_false]
        intro t ht
        have := c5 t ht
        simp [this.2.1, this.2.2]
  case command =>
    simp only [gPc] at h ⊢
    split at h
    · rename_i a ha
      obtain ⟨e1, e2⟩ := cod_all cod_cmd hb ha
      simp only [putPc, okPc]
      unfold cmdR
      rw [if_pos e2.1]
      exact ⟨h, by rw [List.append_nil]; exact e1, by simp, e2⟩
    · cases h
  case reply =>
    simp only [gPc] at h ⊢
    split at h
    · rename_i a ha
      obtain ⟨e1, e2⟩ := cod_all cod_reply hb ha
      obtain ⟨a0, gs⟩ := a
      obtain ⟨x0, x1, rfl⟩ : ∃ x0 x1, a0 = [x0, x1] := by
        match a0, e2.1 with
        | [x0, x1], _ => exact ⟨x0, x1, rfl⟩
        | [], h => simp [replyK, fok] at h
        | [_], h => simp [replyK, fok] at h
        | _ :: _ :: _ :: _, h => simp [replyK, fok] at h
      have hR : replyR ([x0, x1], gs) = (replyB ([x0, x1], gs), 0) := if_pos e2.2.1
      refine ⟨h, ?_, ?_, e2⟩
      · show s.1 = (replyR ([x0, x1], gs)).1 ++ []
        rw [hR, List.append_nil]; exact e1
      · show decide ((replyR ([x0, x1], gs)).2 ≠ 0) = false
        rw [hR]; rfl
    · cases h

theorem gPc_other (L : Lt) (s : Gs) (p q : Pc) (h : q ≠ p) : putPc (gPc L s q).1 p = putPc L p ∧ (okPc (gPc L s q).1 p ↔ okPc L p) := by
  cases q <;> cases p <;> first
    | exact absurd rfl h
    | exact ⟨rfl, Iff.rfl⟩
    | (simp only [gPc]; split <;> exact ⟨rfl, Iff.rfl⟩)
theorem gPc_es (L : Lt) (s : Gs) (q : Pc) (h : q ≠ .entries) : (gPc L s q).1.es = L.es := by
  cases q <;> first
    | exact absurd rfl h
    | rfl
    | (simp only [gPc]; split <;> rfl)
theorem gRun_other : ∀ (ps : List Pc) (x : Lt × Gs) (p : Pc), p ∉ ps → putPc (gRun ps x).1 p = putPc x.1 p ∧ (okPc (gRun ps x).1 p ↔ okPc x.1 p)
  | [], _, _, _ => ⟨rfl, Iff.rfl⟩
  | q :: ps, x, p, h => by
    have h1 := gRun_other ps (gPc x.1 x.2 q) p (fun hp => h (List.mem_cons_of_mem _ hp))
    have h2 := gPc_other x.1 x.2 p q (fun e => h (by rw [e]; exact List.mem_cons_self ..))
    exact ⟨h1.1.trans h2.1, h1.2.trans h2.2⟩
theorem gRun_back : ∀ (ps : List Pc) (x : Lt × Gs), ps.Nodup → (.entries ∈ ps → x.1.es = []) → (∀ c ∈ x.2.1, byt c) → (gRun ps x).2.2 = false →
    x.2.2 = false ∧ x.2.1 = (ps.flatMap fun p => (putPc (gRun ps x).1 p).1) ++ (gRun ps x).2.1 ∧ ∀ p ∈ ps, (putPc (gRun ps x).1 p).2 = false ∧ okPc (gRun ps x).1 p
  | [], x, _, _, _, h => ⟨h, rfl, by simp⟩
  | q :: ps, x, hn, he, hb, h => by
    obtain ⟨hq, hn'⟩ := List.nodup_cons.1 hn
    have hg : (gPc x.1 x.2 q).2.2 = false := by
      rcases hh : (gPc x.1 x.2 q).2.2 with _ | _
      · rfl
      · have := gRun_bad ps hh
        rw [show gRun (q :: ps) x = gRun ps (gPc x.1 x.2 q) from rfl, this] at h; cases h
    obtain ⟨a1, a2, a3, a4⟩ := gPc_back x.1 hb q (fun e => he (by rw [e]; exact List.mem_cons_self ..)) hg
    obtain ⟨b1, b2, b3⟩ := gRun_back ps (gPc x.1 x.2 q) hn' (fun hp => by
      rw [gPc_es _ _ _ (fun e => hq (by rw [e]; exact hp))]
      exact he (List.mem_cons_of_mem _ hp)) (fun c hc => hb c (by rw [a2]; exact List.mem_append_right _ hc)) h
    have ho := gRun_other ps (gPc x.1 x.2 q) q hq
    rw [show gRun (q :: ps) x = gRun ps (gPc x.1 x.2 q) from rfl]
    refine ⟨a1, ?_, fun p hp => ?_⟩
    · rw [List.flatMap_cons, ho.1, List.append_assoc, ← b2]; exact a2
    · rcases List.mem_cons.1 hp with rfl | hp
      · rw [ho.1]; exact ⟨a3, ho.2.2 a4⟩
      · exact b3 p hp
theorem putPcs_eq (L : Lt) : ∀ (ps : List Pc) (s : List Int × Bool), putPcs L ps s = (s.1 ++ ps.flatMap (fun p => (putPc L p).1), s.2 || ps.any (fun p => (putPc L p).2))
  | [], s => by simp [putPcs]
  | p :: ps, s => by
    rw [putPcs, putPcs_eq L ps]
    simp [List.append_assoc, Bool.or_assoc]
theorem pcs_some {k : Int} {ps : List Pc} (h : pcs k = some ps) : (heads ++ ps).Nodup ∧ (.wrong ∈ ps → k = 7) ∧ (ps.Nodup ∧ ∀ p ∈ ps, p ∉ heads) := by
  unfold pcs at h
  repeat' split at h
  all_goals first
    | (injection h with h; subst h; refine ⟨by decide, ?_, by decide, by decide⟩; intro hw; first | assumption | exact absurd hw (by decide))
    | cases h
theorem okPc_zero (p : Pc) : okPc Lt.zero p := by
  cases p
  case yes => trivial
  case entries => exact ⟨Nat.zero_le _, fun t ht => by cases ht⟩
  case data => exact ⟨(fun c hc => by cases hc), Nat.zero_le _⟩
  case command => exact ⟨Nat.zero_le _, fun c hc => by cases hc⟩
  case reply => exact ⟨⟨⟨by decide, by decide⟩, ⟨by decide, by decide⟩, rfl⟩, Nat.zero_le _, fun c hc => by cases hc⟩
  all_goals exact ⟨by decide, by decide⟩
theorem LtOk.of_ {L : Lt} (h : ∀ p, okPc L p) : LtOk L :=
  ⟨h .kind, h .src, h .dst, h .term, h .index, h .mark, h .commit, fun e he => ⟨((h .entries).2 e he).1.1, ((h .entries).2 e he).1.2.2⟩, (h .data).1, h .client, h .num, (h .command).2, h .wrong, (h .reply).1.1, (h .reply).1.2.1, (h .reply).2.2⟩
theorem gRun_kind (ps : List Pc) (x : Lt × Gs) (h : .kind ∉ ps) : (gRun ps x).1.kind = x.1.kind := by
  have := congrArg Prod.fst (gRun_other ps x .kind h).1
  simpa [putPc] using this
/-- What is got is put as these bytes. -/
theorem getL_back {xs : List Int} {L : Lt} (hb : ∀ c ∈ xs, byt c) (h : getL xs = some L) : putL L = (xs, 0) ∧ (∀ p, okPc L p) ∧ 0 ≤ L.e := by
  unfold getL at h
  split at h
  · cases h
  · rename_i ps hps
    split at h
    · rename_i hc
      injection h with h
      obtain ⟨c1, c2, c3⟩ := hc
      have hr : gRun (heads ++ ps) (Lt.zero, (xs, false)) = gRun ps (headG xs) := gRun_append _ _ _
      obtain ⟨n1, n2, n3, n4⟩ := pcs_some hps
      obtain ⟨a1, a2, a3⟩ := gRun_back (heads ++ ps) (Lt.zero, (xs, false)) n1 (fun _ => rfl) hb (by rw [hr]; exact c1)
      rw [hr, h, c2, List.append_nil] at a2
      rw [hr, h] at a3
      rw [h] at c3
      have hk : L.kind = (headG xs).1.kind := by rw [← h]; exact gRun_kind ps _ (fun hp => n4 _ hp (by decide))
      refine ⟨?_, fun p => ?_, c3⟩
      · unfold putL
        rw [hk, hps]
        simp only
        rw [putPcs_eq]
        have f1 : decide (L.e < 0 ∧ (headG xs).1.kind = 7) = false := decide_eq_false (by omega)
        have f2 : ((heads ++ ps).any fun p => (putPc L p).2) = false := by
          rw [List.any_eq_false]
          intro p hp
          rw [(a3 p hp).1]; decide
        rw [f1, f2, List.nil_append, ← a2]
        rfl
      · by_cases hp : p ∈ heads ++ ps
        · exact (a3 p hp).2
        · have := (gRun_other (heads ++ ps) (Lt.zero, (xs, false)) p hp).2
          rw [hr, h] at this
          exact this.2 (okPc_zero p)
    · cases h

/- What is put is got. -/
def setPc (L M : Lt) : Pc → Lt
  | .kind => { M with kind := L.kind }
  | .src => { M with src := L.src }
  | .dst => { M with dst := L.dst }
  | .term => { M with term := L.term }
  | .index => { M with index := L.index }
  | .mark => { M with mark := L.mark }
  | .commit => { M with commit := L.commit }
  | .yes => { M with yes := L.yes }
  | .entries => { M with es := L.es }
  | .data => { M with data := L.data }
  | .client => { M with cl := L.cl }
  | .num => { M with num := L.num }
  | .command => { M with steps := L.steps }
  | .wrong => { M with e := L.e }
  | .reply => { M with re := L.re, ra := L.ra, gots := L.gots }
theorem gNum_get {n : Nat} (h : n < 18446744073709551616) (r : List Int) : gNum (nb n ++ r, false) = (n, (r, false)) := by
  unfold gNum
  simp only
  rw [tk_nb h r, if_pos rfl]
  simp
theorem gText_get {xs : List Int} (h : xs.length ≤ 65536) (d r : List Int) : gText d (textB xs ++ r, false) = (xs, (r, false)) := by
  unfold gText textB
  rw [List.append_assoc, gNum_get (by omega), if_neg (by simp; omega)]
  simp
theorem getE_get {t : Ent} (h : entryOk t) : getE (entryR t).1 = (t, false) := by
  unfold getE entryR
  rw [if_pos h.2.1, all_get cod_entry h]
theorem gEnts_get : ∀ (ts es : List Ent) (r : List Int), (∀ t ∈ ts, entryOk t ∧ (entryR t).1.length ≤ 65536) → gEnts ts.length es (entsB ts ++ r, false) = (es ++ ts, (r, false))
  | [], es, r, _ => by simp [gEnts, entsB]
  | t :: ts, es, r, h => by
    have h1 := h t (List.mem_cons_self ..)
    rw [List.length_cons, gEnts]
    simp only [entsB, List.flatMap_cons, List.append_assoc]
    rw [gText_get h1.2, getE_get h1.1]
    have := gEnts_get ts (es ++ [t]) r (fun x hx => h x (List.mem_cons_of_mem _ hx))
    simp only [entsB] at this
    simp only [Bool.or_false]
    rw [this]
    simp
theorem toNat_u64 {x : Int} (h : fok1 .u64 x) : x.toNat < 18446744073709551616 ∧ ((x.toNat : Nat) : Int) = x := by
  have h1 : 0 ≤ x := h.1
  have h2 : x ≤ 18446744073709551615 := h.2
  omega
def ends (p : Pc) : Bool := match p with | .command => true | .reply => true | _ => false
theorem gPc_get {L M : Lt} {p : Pc} (ho : okPc L p) (r : List Int) (hr : ends p = true → r = []) (he : p = .entries → M.es = []) : gPc M ((putPc L p).1 ++ r, false) p = (setPc L M p, (r, false)) := by
  have num : ∀ x : Int, fok1 .u64 x → gNum (nb x.toNat ++ r, false) = (x.toNat, (r, false)) := fun x hx => gNum_get (toNat_u64 hx).1 r
  cases p
  case kind => rfl
  case src => rfl
  case dst => rfl
  case client => rfl
  case term => simp only [gPc, putPc, setPc]; rw [num _ ho]; simp only; rw [(toNat_u64 ho).2]
  case index => simp only [gPc, putPc, setPc]; rw [num _ ho]; simp only; rw [(toNat_u64 ho).2]
  case mark => simp only [gPc, putPc, setPc]; rw [num _ ho]; simp only; rw [(toNat_u64 ho).2]
  case commit => simp only [gPc, putPc, setPc]; rw [num _ ho]; simp only; rw [(toNat_u64 ho).2]
  case num => simp only [gPc, putPc, setPc]; rw [num _ ho]; simp only; rw [(toNat_u64 ho).2]
  case wrong => simp only [gPc, putPc, setPc]; rw [gNum_get (uns_lt _)]; simp only; rw [wrap_uns ho]
  case yes =>
    show (({ M with yes := decide ((if L.yes = true then (1 : Int) else 0) = 1) } : Lt), (r, false || decide (1 < (if L.yes = true then (1 : Int) else 0)))) = (({ M with yes := L.yes } : Lt), (r, false))
    by_cases h : L.yes = true <;> simp [h]
  case data => simp only [gPc, putPc, setPc]; rw [gText_get ho.2]
  case entries =>
    have hl := ho.1
    have e1 : (putPc L .entries).1 ++ r = nb L.es.length ++ (entsB L.es ++ r) := List.append_assoc _ _ _
    have e2 : gNum ((putPc L .entries).1 ++ r, false) = (L.es.length, (entsB L.es ++ r, false)) := by rw [e1]; exact gNum_get (by omega) _
    simp only [gPc, setPc]
    rw [e2, if_neg (by simp only; omega), he rfl, gEnts_get L.es [] r ho.2]
    rfl
  case command =>
    obtain rfl := hr rfl
    simp only [gPc, putPc, setPc]
    unfold cmdR
    rw [if_pos ho.1, List.append_nil, all_get cod_cmd ho]
  case reply =>
    obtain rfl := hr rfl
    simp only [gPc, putPc, setPc]
    unfold replyR
    rw [if_pos ho.2.1, List.append_nil, all_get cod_reply ho]
    rfl
theorem gPc_more {L M : Lt} {p : Pc} (ho : okPc L p) {r : List Int} (hr : r ≠ []) (h : ends p = true) : (gPc M ((putPc L p).1 ++ r, false) p).2.2 = true := by
  obtain ⟨c, r, rfl⟩ := List.exists_cons_of_ne_nil hr
  cases p <;> first
    | cases h
    | skip
  case command =>
    simp only [gPc, putPc]
    unfold cmdR
    rw [if_pos ho.1, all_more cod_cmd ho]
  case reply =>
    simp only [gPc, putPc]
    unfold replyR
    rw [if_pos ho.2.1, all_more cod_reply ho]
/-- Only the last part takes all that is left. -/
def lo : List Pc → Bool
  | [] => true
  | [_] => true
  | p :: q :: ps => !ends p && lo (q :: ps)
theorem setPc_es (L M : Lt) (q : Pc) (h : q ≠ .entries) : (setPc L M q).es = M.es := by
  cases q <;> first | exact absurd rfl h | rfl
theorem gRun_get (L : Lt) : ∀ (ps : List Pc) (M : Lt) (r : List Int), ps.Nodup → lo ps = true → (.entries ∈ ps → M.es = []) → (∀ p ∈ ps, okPc L p) → ((∃ p ∈ ps, ends p = true) → r = []) →
    gRun ps (M, ((ps.flatMap fun p => (putPc L p).1) ++ r, false)) = (ps.foldl (setPc L) M, (r, false))
  | [], M, r, _, _, _, _, _ => rfl
  | p :: ps, M, r, hn, hl, he, ho, hr => by
    obtain ⟨hq, hn'⟩ := List.nodup_cons.1 hn
    have h1 := ho p (List.mem_cons_self ..)
    have hends : ends p = true → (ps.flatMap fun p => (putPc L p).1) ++ r = [] := fun h => by
      cases ps with
      | nil => simpa using hr ⟨p, List.mem_cons_self .., h⟩
      | cons q qs => simp [lo, h] at hl
    have hlo : lo ps = true := by
      cases ps with
      | nil => rfl
      | cons q qs => simp [lo] at hl; exact hl.2
    rw [List.flatMap_cons, List.append_assoc, gRun, gPc_get h1 _ hends (fun e => he (by rw [e]; exact List.mem_cons_self ..))]
    exact gRun_get L ps (setPc L M p) r hn' hlo (fun hp => by rw [setPc_es _ _ _ (fun e => hq (by rw [e]; exact hp))]; exact he (List.mem_cons_of_mem _ hp)) (fun x hx => ho x (List.mem_cons_of_mem _ hx)) (fun ⟨x, hx, h⟩ => hr ⟨x, List.mem_cons_of_mem _ hx, h⟩)
theorem gRun_more (L : Lt) : ∀ (ps : List Pc) (M : Lt) (r : List Int), ps.Nodup → lo ps = true → (.entries ∈ ps → M.es = []) → (∀ p ∈ ps, okPc L p) → r ≠ [] →
    (gRun ps (M, ((ps.flatMap fun p => (putPc L p).1) ++ r, false))).2.2 = true ∨ (gRun ps (M, ((ps.flatMap fun p => (putPc L p).1) ++ r, false))).2.1 ≠ []
  | [], M, r, _, _, _, _, hr => .inr hr
  | p :: ps, M, r, hn, hl, he, ho, hr => by
    obtain ⟨hq, hn'⟩ := List.nodup_cons.1 hn
    have h1 := ho p (List.mem_cons_self ..)
    have hlo : lo ps = true := by
      cases ps with
      | nil => rfl
      | cons q qs => simp [lo] at hl; exact hl.2
    have hne : (ps.flatMap fun p => (putPc L p).1) ++ r ≠ [] := fun h => hr (List.append_eq_nil_iff.1 h).2
    rw [List.flatMap_cons, List.append_assoc, gRun]
    cases hp : ends p with
    | true => exact .inl (gRun_bad ps (gPc_more h1 hne hp))
    | false =>
      rw [gPc_get h1 _ (fun h => by rw [hp] at h; cases h) (fun e => he (by rw [e]; exact List.mem_cons_self ..))]
      exact gRun_more L ps (setPc L M p) r hn' hlo (fun hp => by rw [setPc_es _ _ _ (fun e => hq (by rw [e]; exact hp))]; exact he (List.mem_cons_of_mem _ hp)) (fun x hx => ho x (List.mem_cons_of_mem _ hx)) hr
theorem ent_small {t : Ent} (h : entryOk t) : (entryR t).1.length ≤ 65536 := by
  unfold entryR
  rw [if_pos h.2.1]
  unfold entryB
  have h1 := fB_len entryK t.1 h.1
  have h2 := flat_len stepK t.2 h.2.2
  have h3 : (nb t.2.length).length ≤ 10 := nb_ten (by have := h.2.1; omega)
  have h4 : 10 * stepK.length * t.2.length ≤ 10 * stepK.length * 8 := Nat.mul_le_mul_left _ h.2.1
  have h5 : entryK.length = 4 := rfl
  have h6 : stepK.length = 10 := rfl
  rw [h6] at h2 h4
  rw [h5] at h1
  unfold stepsB listB
  rw [List.length_append, List.length_append]
  omega
theorem okPc_of {L : Lt} (h : LtOk L) {p : Pc} (hp : (putPc L p).2 = false) : okPc L p := by
  cases p
  case kind => exact h.kind
  case src => exact h.src
  case dst => exact h.dst
  case term => exact h.term
  case index => exact h.index
  case mark => exact h.mark
  case commit => exact h.commit
  case yes => trivial
  case client => exact h.cl
  case num => exact h.num
  case wrong => exact h.e
  case data => exact ⟨h.data, by simpa [putPc] using hp⟩
  case entries =>
    simp only [putPc, Bool.or_eq_false_iff, decide_eq_false_iff_not, List.any_eq_false] at hp
    refine ⟨by omega, fun t ht => ?_⟩
    have h2 := hp.2 t ht
    simp at h2
    have h3 : t.2.length ≤ 8 := by
      rcases Nat.lt_or_ge 8 t.2.length with h4 | h4
      · have := h2.1
        unfold entryR at this
        rw [if_neg (by omega)] at this
        cases this
      · exact h4
    exact ⟨⟨(h.es t ht).1, h3, (h.es t ht).2⟩, h2.2⟩
  case command =>
    have h2 : (cmdR L.steps).2 = 0 := by simpa [putPc] using hp
    unfold cmdR at h2
    split at h2
    · rename_i h8; exact ⟨h8, h.steps⟩
    · cases h2
  case reply =>
    have h2 : (replyR ([L.re, L.ra], L.gots)).2 = 0 := by simpa [putPc] using hp
    unfold replyR at h2
    split at h2
    · rename_i h8; exact ⟨⟨h.re, h.ra, rfl⟩, h8, h.gots⟩
    · cases h2
theorem putPc_byt {L : Lt} {p : Pc} (h : okPc L p) : ∀ c ∈ (putPc L p).1, byt c := by
  have one : ∀ x : Int, byt x → ∀ c ∈ [x], byt c := fun x hx c hc => by obtain rfl := List.mem_singleton.1 hc; exact hx
  have text : ∀ xs : List Int, (∀ c ∈ xs, byt c) → ∀ c ∈ textB xs, byt c := fun xs hx c hc => by
    rcases List.mem_append.1 hc with hc | hc
    · exact nb_byt _ c hc
    · exact hx c hc
  cases p
  case kind => exact one _ h
  case src => exact one _ h
  case dst => exact one _ h
  case client => exact one _ h
  case yes => simp only [putPc]; cases L.yes <;> exact one _ (by unfold byt; decide)
  case data => exact text _ h.1
  case entries =>
    intro c hc
    simp only [putPc] at hc
    rcases List.mem_append.1 hc with hc | hc
    · exact nb_byt _ c hc
    · obtain ⟨t, ht, hc⟩ := List.mem_flatMap.1 hc
      refine text _ ?_ c hc
      have h2 := (h.2 t ht).1
      unfold entryR
      rw [if_pos h2.2.1]
      exact cod_entry.byt _ h2
  case command => simp only [putPc]; unfold cmdR; rw [if_pos h.1]; exact cod_cmd.byt _ h
  case reply => simp only [putPc]; unfold replyR; rw [if_pos h.2.1]; exact cod_reply.byt _ h
  all_goals exact nb_byt _
theorem pcs_lo {k : Int} {ps : List Pc} (h : pcs k = some ps) : lo (heads ++ ps) = true ∧ lo ps = true := by
  unfold pcs at h
  repeat' split at h
  all_goals first
    | (injection h with h; subst h; exact ⟨rfl, rfl⟩)
    | cases h
theorem setPc_heads (L M : Lt) (p : Pc) (h : p ∉ heads) : (setPc L M p).kind = M.kind ∧ (setPc L M p).src = M.src ∧ (setPc L M p).dst = M.dst ∧ (setPc L M p).term = M.term := by
  cases p <;> first
    | exact absurd (by decide) h
    | exact ⟨rfl, rfl, rfl, rfl⟩
theorem fold_heads (L : Lt) : ∀ (ps : List Pc) (M : Lt), (∀ p ∈ ps, p ∉ heads) → (ps.foldl (setPc L) M).kind = M.kind ∧ (ps.foldl (setPc L) M).src = M.src ∧ (ps.foldl (setPc L) M).dst = M.dst ∧ (ps.foldl (setPc L) M).term = M.term
  | [], _, _ => ⟨rfl, rfl, rfl, rfl⟩
  | p :: ps, M, h => by
    obtain ⟨a1, a2, a3, a4⟩ := fold_heads L ps (setPc L M p) (fun q hq => h q (List.mem_cons_of_mem _ hq))
    obtain ⟨b1, b2, b3, b4⟩ := setPc_heads L M p (h p (List.mem_cons_self ..))
    exact ⟨a1.trans b1, a2.trans b2, a3.trans b3, a4.trans b4⟩
theorem setPc_e (L M : Lt) (p : Pc) (h : p ≠ .wrong) : (setPc L M p).e = M.e := by
  cases p <;> first | exact absurd rfl h | rfl
theorem fold_e (L : Lt) : ∀ (ps : List Pc) (M : Lt), 0 ≤ M.e → (.wrong ∈ ps → 0 ≤ L.e) → 0 ≤ (ps.foldl (setPc L) M).e
  | [], _, h, _ => h
  | p :: ps, M, h, hw => by
    refine fold_e L ps (setPc L M p) ?_ (fun hp => hw (List.mem_cons_of_mem _ hp))
    by_cases hp : p = .wrong
    · subst hp; exact hw (List.mem_cons_self ..)
    · rw [setPc_e _ _ _ hp]; exact h
theorem putL_ok {L : Lt} {bs : List Int} (hL : LtOk L) (h : putL L = (bs, 0)) : ∃ ps, pcs L.kind = some ps ∧ bs = ((heads ++ ps).flatMap fun p => (putPc L p).1) ∧ (∀ p ∈ heads ++ ps, okPc L p) ∧ ¬ (L.e < 0 ∧ L.kind = 7) := by
  unfold putL at h
  split at h
  · cases h
  · rename_i ps hps
    rw [putPcs_eq] at h
    simp only [List.nil_append] at h
    split at h
    · cases h
    · rename_i hc
      injection h with h _
      have hc' : decide (L.e < 0 ∧ L.kind = 7) = false ∧ ((heads ++ ps).any fun p => (putPc L p).2) = false := by
        rw [Bool.not_eq_true, Bool.or_eq_false_iff] at hc; exact hc
      refine ⟨ps, hps, h.symm, fun p hp => okPc_of hL ?_, of_decide_eq_false hc'.1⟩
      have := List.any_eq_false.1 hc'.2 p hp
      simpa using this
theorem putL_byt {L : Lt} {bs : List Int} (hL : LtOk L) (h : putL L = (bs, 0)) : ∀ c ∈ bs, byt c := by
  obtain ⟨ps, _, rfl, ho, _⟩ := putL_ok hL h
  intro c hc
  obtain ⟨p, hp, hc⟩ := List.mem_flatMap.1 hc
  exact putPc_byt (ho p hp) c hc
theorem headG_put {L : Lt} {ps : List Pc} (_hk : pcs L.kind = some ps) (ho : ∀ p ∈ heads ++ ps, okPc L p) (r : List Int) :
    headG (((heads ++ ps).flatMap fun p => (putPc L p).1) ++ r) = (heads.foldl (setPc L) Lt.zero, ((ps.flatMap fun p => (putPc L p).1) ++ r, false)) := by
  unfold headG
  rw [List.flatMap_append, List.append_assoc]
  exact gRun_get L heads Lt.zero _ (by decide) (by decide) (fun _ => rfl) (fun p hp => ho p (List.mem_append_left _ hp)) (fun ⟨p, hp, h⟩ => by
    exfalso
    revert h
    simp only [heads, List.mem_cons, List.not_mem_nil, or_false] at hp
    rcases hp with rfl | rfl | rfl | rfl <;> decide)
/-- What is put is got. -/
theorem getL_put {L : Lt} {bs : List Int} (hL : LtOk L) (h : putL L = (bs, 0)) : ∃ M, getL bs = some M ∧ M.kind = L.kind ∧ M.src = L.src ∧ M.dst = L.dst ∧ M.term = L.term ∧ putL M = (bs, 0) ∧ ∀ p, okPc M p := by
  have hby := putL_byt hL h
  obtain ⟨ps, hk, hbs, ho, he⟩ := putL_ok hL h
  obtain ⟨n1, n2, n3, n4⟩ := pcs_some hk
  have hh := headG_put hk ho []
  rw [List.append_nil, ← hbs, List.append_nil] at hh
  have hg := gRun_get L ps (heads.foldl (setPc L) Lt.zero) [] n3 (pcs_lo hk).2 (fun _ => rfl) (fun p hp => ho p (List.mem_append_right _ hp)) (fun _ => rfl)
  rw [List.append_nil] at hg
  obtain ⟨f1, f2, f3, f4⟩ := fold_heads L ps (heads.foldl (setPc L) Lt.zero) n4
  have hM : getL bs = some (ps.foldl (setPc L) (heads.foldl (setPc L) Lt.zero)) := by
    unfold getL
    rw [hh]
    simp only
    rw [show (heads.foldl (setPc L) Lt.zero).kind = L.kind from rfl, hk]
    simp only
    rw [hg, if_pos ⟨rfl, rfl, fold_e L ps _ (show (0 : Int) ≤ 0 from Int.le_refl 0) (fun hw => by have := n2 hw; omega)⟩]
  obtain ⟨b1, b2, -⟩ := getL_back hby hM
  exact ⟨_, hM, f1, f2, f3, f4, b1, b2⟩
/-- With anything behind they are none. -/
theorem getL_more {L : Lt} {bs : List Int} (hL : LtOk L) (h : putL L = (bs, 0)) {r : List Int} (hr : r ≠ []) : getL (bs ++ r) = none := by
  obtain ⟨ps, hk, hbs, ho, he⟩ := putL_ok hL h
  obtain ⟨n1, n2, n3, n4⟩ := pcs_some hk
  have hh := headG_put hk ho r
  rw [← hbs] at hh
  have hm := gRun_more L ps (heads.foldl (setPc L) Lt.zero) r n3 (pcs_lo hk).2 (fun _ => rfl) (fun p hp => ho p (List.mem_append_right _ hp)) hr
  unfold getL
  rw [hh]
  simp only
  rw [show (heads.foldl (setPc L) Lt.zero).kind = L.kind from rfl, hk]
  simp only
  rw [if_neg]
  rintro ⟨h1, h2, -⟩
  rcases hm with hm | hm
  · rw [h1] at hm; cases hm
  · exact hm h2
/-- Cut they are none. -/
theorem getL_cut {L : Lt} {bs : List Int} (hL : LtOk L) (h : putL L = (bs, 0)) {k : Nat} (hk : k < bs.length) : getL (bs.take k) = none := by
  rcases hg : getL (bs.take k) with _ | M
  · rfl
  · exfalso
    obtain ⟨M', hM', -⟩ := getL_put hL h
    obtain ⟨b1, b2, -⟩ := getL_back (fun c hc => putL_byt hL h c (List.mem_of_mem_take hc)) hg
    have := getL_more (LtOk.of_ b2) b1 (r := bs.drop k) (fun e => by have := congrArg List.length e; simp at this; omega)
    rw [List.take_append_drop, hM'] at this
    cases this
end Go.Proofs.YthjdkjinkmdclaaGreat
