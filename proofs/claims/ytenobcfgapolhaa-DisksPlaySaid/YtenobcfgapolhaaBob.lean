/- law01: a book of pages: Apart. -/
import Derived.Test.YtenobcfgapolhaaBkx
import Derived.Test.YtenobcfgapolhaaRow
import Derived.Test.YtenobcfgapolhaaAll
namespace Go.Proofs.Ytenobcfgapolhaa
open Go.RowKit

/-- A page: its kind, where it lies, its mark, and the mark of what stands behind it. -/
structure Pg where
  kd : Nat
  lie : Option (Nat × Nat × Nat)
  m : List Int
  b : List Int
def slOf : Option (Nat × Nat × Nat) → Value
  | none => .slice none 0 0
  | some (g, n, c) => .slice (some ⟨g, 0, none⟩) n c
def bkOf : Option (Nat × Nat × Nat) → Option Nat
  | none => none
  | some (g, _, _) => some g
def kT : Nat → TypeId | _ => 70
def kE : Nat → TypeId | _ => 5
def kK : Nat → List IntKind | _ => [.u8]
def Pg.ifc (p : Pg) : Value := .iface (kT p.kd) (.agg (slOf p.lie :: (fc (kK p.kd) p.m ++ fc (kK p.kd) p.b)).toArray)
/-- Page p lies in the world w; where a holds its rows bear its mark, where b holds what is behind them the other one. -/
def Pg.In (p : Pg) (w : World) (a b : Prop) : Prop := match p.lie with
  | none => True
  | some (g, n, c) => ∃ cur, Blk w g (kE p.kd) cur ∧ n ≤ c ∧ c * (kK p.kd).length ≤ cur.size ∧ c ≤ 4611686018427387904 ∧
      (a → ∀ i, i < n → ∀ j u, (fc (kK p.kd) p.m)[j]? = some u → cur[i * (kK p.kd).length + j]? = some u) ∧ (b → ∀ i, n ≤ i → i < c → ∀ j u, (fc (kK p.kd) p.b)[j]? = some u → cur[i * (kK p.kd).length + j]? = some u)
def Pg.ok (p : Pg) : Prop := p.kd < 1 ∧ p.m.length = (kK p.kd).length ∧ p.b.length = (kK p.kd).length
theorem kE_page (k : Nat) : 72 ≠ kE k := by unfold kE; split <;> decide
theorem kE_book (k : Nat) : 50 ≠ kE k := by unfold kE; split <;> decide
theorem Pg.In.mono {p : Pg} {w : World} {a b a' b' : Prop} (h : p.In w a b) (ha : a' → a) (hb : b' → b) : p.In w a' b' := by
  obtain ⟨kd, lie, m, b0⟩ := p
  match lie, h with
  | none, _ => trivial
  | some (g, n, c), ⟨cur, hk, h1, h2, h3, h4, h5⟩ => exact ⟨cur, hk, h1, h2, h3, fun x => h4 (ha x), fun x => h5 (hb x)⟩
theorem Pg.In.grown {p : Pg} {w w' : World} {a b : Prop} {r : Option Nat} (h : p.In w a b) (hg : w.grownBy w' r) (hne : ∀ g, bkOf p.lie = some g → some g ≠ r) : p.In w' a b := by
  obtain ⟨kd, lie, m, b0⟩ := p
  match lie, h with
  | none, _ => trivial
  | some (g, n, c), ⟨cur, hk, h1⟩ => exact ⟨cur, hk.grown hg (hne g rfl), h1⟩
theorem Pg.In.keepBlk {p : Pg} {w w' : World} {a b : Prop} (h : p.In w a b) (hg : w.grownBy w' (bkOf p.lie)) {g' t : Nat} {cs : Array Value} (hk : Blk w g' t cs) (hne : t ≠ kE p.kd) : Blk w' g' t cs := by
  obtain ⟨kd, lie, m, b0⟩ := p
  match lie, h with
  | none, _ => exact hk.grown hg (by simp [bkOf])
  | some (g, n, c), ⟨cur, hb, _⟩ => exact hk.grown hg (fun e => hk.ne_ hb hne (Option.some.inj e))
theorem Pg.In.keepOw {p : Pg} {w w' : World} {a b : Prop} (h : p.In w a b) (hg : w.grownBy w' (bkOf p.lie)) {B e size n : Nat} {v : Value} {xs : List Value} (ho : Ow B w e size v n xs) (hne : e ≠ kE p.kd) : Ow B w' e size v n xs := by
  rcases ho with ho | ⟨g', c, cur, rfl, hB, hk, hr⟩
  · exact .inl ho
  · exact .inr ⟨g', c, cur, rfl, hB, h.keepBlk hg hk hne, hr⟩
theorem Ow.cell1 {B : Nat} {w : World} {e : TypeId} {v : Value} {xs : List Value} {n : Nat} (h : Ow B w e 1 v n xs) (k : Nat) (hk : k < xs.length) : ∃ g c, v = .slice (some ⟨g, 0, none⟩) n c ∧ n ≤ c ∧ w.cell? ⟨g, k, none⟩ = some xs[k] := by
  rcases h with ⟨_, _, rfl⟩ | ⟨g, c, cur, rfl, _, hg, hc, hl, _, ht⟩
  · simp at hk
  · refine ⟨g, c, rfl, hc, ?_⟩
    rw [hg.cell]
    have h1 : (cur.toList.take (n * 1))[k]? = some xs[k] := by rw [ht]; simp [hk]
    rw [List.getElem?_take, if_pos (by omega)] at h1
    simpa using h1
/-- The book's pages, some of them written. -/
structure St (ps : List Pg) (kb : Nat) (pv : Value) (B : Nat) (W w : World) (s t : Nat) : Prop where
  bk : Blk w kb 50 #[pv]
  ow : Ow 0 w 72 1 pv ps.length (ps.map Pg.ifc)
  bel : Below B W w
  le : B ≤ w.heap.size
  pgs : ∀ i (h : i < ps.length), (ps[i]).In w (i < s) (i < t)
theorem St.step {ps : List Pg} {kb : Nat} {pv : Value} {B : Nat} {W w w' : World} {s t s' t' : Nat} (h : St ps kb pv B W w s t) (hd : ∀ i j (hi : i < ps.length) (hj : j < ps.length), i ≠ j → ∀ g, bkOf (ps[i]).lie = some g → bkOf (ps[j]).lie ≠ some g) (hge : ∀ p ∈ ps, ∀ g, bkOf p.lie = some g → B ≤ g)
    (k : Nat) (hk : k < ps.length) (hg : w.grownBy w' (bkOf (ps[k]).lie)) (hin : (ps[k]).In w' (k < s') (k < t')) (m1 : ∀ i, i ≠ k → i < s' → i < s) (m2 : ∀ i, i ≠ k → i < t' → i < t) : St ps kb pv B W w' s' t' where
  bk := (h.pgs k hk).keepBlk hg h.bk (kE_book _)
  ow := (h.pgs k hk).keepOw hg h.ow (kE_page _)
  bel := h.bel.grown hg h.le (fun g hgg => hge _ (List.getElem_mem hk) g hgg)
  le := Nat.le_trans h.le hg.size
  pgs := fun i hi => by
    by_cases e : i = k
    · subst e; exact hin
    · exact ((h.pgs i hi).grown hg (fun g hgg he => hd i k hi hk e g hgg he.symm)).mono (m1 i e) (m2 i e)
theorem pgwr_byte (a : Option (Nat × Nat × Nat)) (m0 b0 : Int) (w : World) (h : (⟨0, a, [m0], [b0]⟩ : Pg).In w False False) :
    Calls Try.prog 88 #[.agg #[slOf a, .int .u8 m0, .int .u8 b0]] w fun e w' => e = .returned (.tuple #[]) ∧ (⟨0, a, [m0], [b0]⟩ : Pg).In w' True False ∧ w.grownBy w' (bkOf a) := by
  match a, h with
  | none, _ => exact (write_byte_none m0 b0 w).mono fun _ _ hh => ⟨hh.1, trivial, grown_below_ hh.2 _⟩
  | some (g, n, c), ⟨cur, hk, h1, h2, h3, h4, h5⟩ =>
    refine (write_byte g n c m0 b0 cur w hk h1 (by simpa [kK] using h2) h3).mono ?_
    rintro e w' ⟨he, cur', q0, qs, q1, q2, hg⟩
    exact ⟨he, ⟨cur', q0, h1, by rw [qs]; exact h2, h3, fun _ i hi => fun j u hj => by match j, hj with | 0, hj => (simp [kK, fc] at hj; subst hj; simpa [kK] using (q1 i (Nat.zero_le _) hi)) | (_ + 1), hj => (simp [kK, fc] at hj), fun x => x.elim⟩, hg⟩
theorem pgbe_byte (a : Option (Nat × Nat × Nat)) (m0 b0 : Int) (w : World) (h : (⟨0, a, [m0], [b0]⟩ : Pg).In w True False) :
    Calls Try.prog 89 #[.agg #[slOf a, .int .u8 m0, .int .u8 b0]] w fun e w' => e = .returned (.tuple #[]) ∧ (⟨0, a, [m0], [b0]⟩ : Pg).In w' True True ∧ w.grownBy w' (bkOf a) := by
  match a, h with
  | none, _ => exact (behind_byte_none m0 b0 w).mono fun _ _ hh => ⟨hh.1, trivial, grown_below_ hh.2 _⟩
  | some (g, n, c), ⟨cur, hk, h1, h2, h3, h4, h5⟩ =>
    refine (behind_byte g n c m0 b0 cur w hk h1 (by simpa [kK] using h2) h3).mono ?_
    rintro e w' ⟨he, cur', q0, qs, q1, q2, hg⟩
    exact ⟨he, ⟨cur', q0, h1, by rw [qs]; exact h2, h3, (by
      intro _ i hi j u hj
      have h := h4 trivial i hi j u hj
      have hj2 : j < 1 := by
        rcases Nat.lt_or_ge j 1 with h | h
        · exact h
        · exfalso
          rw [List.getElem?_eq_none (by simpa [kK, fc] using h)] at hj
          cases hj
      have hs : (kK 0).length = 1 := rfl
      simp only [hs] at h ⊢
      rw [q2 _ (.inl (by omega))]
      exact h), fun _ i hi1 hi2 => fun j u hj => by match j, hj with | 0, hj => (simp [kK, fc] at hj; subst hj; simpa [kK] using (q1 i hi1 hi2)) | (_ + 1), hj => (simp [kK, fc] at hj)⟩, hg⟩
theorem pgst_byte (a : Option (Nat × Nat × Nat)) (m0 b0 : Int) (w : World) (h : (⟨0, a, [m0], [b0]⟩ : Pg).In w True True) :
    Calls Try.prog 87 #[.agg #[slOf a, .int .u8 m0, .int .u8 b0]] w fun e w' => e = .returned (.bool true) ∧ Below w.heap.size w w' := by
  match a, h with
  | none, _ => exact stands_byte_none m0 b0 w
  | some (g, n, c), ⟨cur, hk, h1, h2, h3, h4, h5⟩ =>
    exact stands_byte g n c m0 b0 cur w hk h1 (by simpa [kK] using h2) h3 (fun i _ hi => by have := h4 trivial i hi 0 _ rfl; simpa [kK] using this) (fun i hi1 hi2 => by have := h5 trivial i hi1 hi2 0 _ rfl; simpa [kK] using this)
set_option maxHeartbeats 8000000 in
set_option maxRecDepth 100000 in
theorem apart_any (ps : List Pg) (hok : ∀ p ∈ ps, p.ok) (hd : ∀ i j (hi : i < ps.length) (hj : j < ps.length), i ≠ j → ∀ g, bkOf (ps[i]).lie = some g → bkOf (ps[j]).lie ≠ some g) (hl : ps.length ≤ 120) (kb : Nat) (pv : Value) (B : Nat) (w : World) (hge : ∀ p ∈ ps, ∀ g, bkOf p.lie = some g → B ≤ g)
    (hk : Blk w kb 50 #[pv]) (hp : Ow 0 w 72 1 pv ps.length (ps.map Pg.ifc)) (hin : ∀ p ∈ ps, p.In w False False) (hB : B ≤ w.heap.size) :
    Calls Try.prog 27 #[.pointer (some ⟨kb, 0, none⟩)] w fun e w' => e = .returned (.bool true) ∧ Below B w w' := by
  have HOK := Lib.hid hok
  have HD := Lib.hid hd
  have HGE := Lib.hid hge
  have S0 := Lib.hid (show St ps kb pv B w w 0 0 from ⟨hk, hp, Below.refl _ _, hB, fun i hi => (hin _ (List.getElem_mem hi)).mono (fun h => by omega) (fun h => by omega)⟩)
  have hl' : (ps.length : Int) ≤ 120 := by omega
  have hl2 : ¬ (120 : Int) < (ps.length : Int) := by omega
  have c0 := hk.cell 0
  simp only [List.getElem?_toArray, List.getElem?_cons_zero] at c0
  obtain ⟨A0, cc, rfl⟩ := hp.sl_
  obtain ⟨pv, hpv0⟩ : ∃ v, v = (Value.slice A0 ps.length cc) := ⟨_, rfl⟩
  rw [← hpv0] at S0
  have HPV := Lib.hid hpv0
  clear hok hd hge hk hp hin hpv0
  go_enter Try.func27, Try.ntmps27
  go_wp2_with fail
  go_loopg [3] ps.length (fun q x wr => ∃ k : Nat, k ≤ ps.length ∧ q = ps.length - k ∧ x = .int .i64 k ∧ St ps kb pv B w wr k 0)
  case atStart => exact ⟨0, Nat.zero_le _, by omega, rfl, S0.out⟩
  case round =>
    obtain ⟨k, hk, rfl, rfl, hS⟩ := hrel
    have HS := Lib.hid hS
    have c0 := hS.bk.cell 0
    simp only [List.getElem?_toArray, List.getElem?_cons_zero] at c0
    obtain ⟨A1, c1, hpv⟩ := hS.ow.sl_
    by_cases hkn : k < ps.length
    · have hkn' : (k : Int) < ps.length := by omega
      have hk0 : (0 : Int) ≤ k := by omega
      obtain ⟨gp, cp, hpv2, hcp, hcell⟩ := hS.ow.cell1 k (by simpa using hkn)
      rw [List.getElem_map] at hcell
      have hy := hS.pgs k hkn
      have hokk := HOK.out _ (List.getElem_mem hkn)
      obtain ⟨p, hp⟩ : ∃ p, p = ps[k] := ⟨_, rfl⟩
      rw [← hp] at hcell hy hokk
      have HP := Lib.hid hp
      obtain ⟨kd, lie, mm, bb⟩ := p
      obtain ⟨hkd, hok1, hok2⟩ := hokk
      simp only at hkd hok1 hok2
      rw [hpv2] at c0
      clear hS hp hpv hpv2
      obtain rfl : kd = 0 := by omega
      · obtain ⟨m0, rfl⟩ := one_of hok1
        obtain ⟨b0, rfl⟩ := one_of hok2
        have hm : ∀ W, (method 219 70 (.agg #[slOf lie, .int .u8 m0, .int .u8 b0]) "countinghouse/countinghouselaw01.write").run Try.prog W = .ok (88, .agg #[slOf lie, .int .u8 m0, .int .u8 b0]) W := fun _ => by kernel_rfl
        have HY := Lib.hid hy
        have x0 : wr.cell? ⟨gp, k, none⟩ = some (.iface 70 (.agg #[slOf lie, .int .u8 m0, .int .u8 b0])) := hcell
        clear hcell hy hok1 hok2
        go_wp2_with fail
        refine (pgwr_byte lie m0 b0 wr (HY.out.mono False.elim False.elim)).mono ?_
        rintro e w2 ⟨rfl, hi2, hg2⟩
        have S2 := Lib.hid (HS.out.step (s' := k + 1) (t' := 0) HD.out HGE.out k hkn (by rw [← HP.out]; exact hg2) (by rw [← HP.out]; exact hi2.mono (fun _ => trivial) (fun h => absurd h (by omega))) (fun i h1 h2 => by omega) (fun i h1 h2 => by omega))
        clear hi2 hg2
        go_wp2
        go_roundg (ps.length - (k + 1))
        case measure => omega
        case rel => exact ⟨k + 1, by omega, rfl, by go_num, S2.out⟩
    · obtain rfl : k = ps.length := by omega
      have S1 := Lib.hid hS
      rw [hpv] at c0
      clear hS hpv HS
      go_wp2_with fail
      go_loopg [4] ps.length (fun q x wr => ∃ k : Nat, k ≤ ps.length ∧ q = ps.length - k ∧ x = .int .i64 k ∧ St ps kb pv B w wr ps.length k)
      case atStart => exact ⟨0, Nat.zero_le _, by omega, rfl, S1.out⟩
      case round =>
        obtain ⟨k, hk, rfl, rfl, hS⟩ := hrel
        have HS := Lib.hid hS
        have c0 := hS.bk.cell 0
        simp only [List.getElem?_toArray, List.getElem?_cons_zero] at c0
        obtain ⟨A1, c1, hpv⟩ := hS.ow.sl_
        by_cases hkn : k < ps.length
        · have hkn' : (k : Int) < ps.length := by omega
          have hk0 : (0 : Int) ≤ k := by omega
          obtain ⟨gp, cp, hpv2, hcp, hcell⟩ := hS.ow.cell1 k (by simpa using hkn)
          rw [List.getElem_map] at hcell
          have hy := hS.pgs k hkn
          have hokk := HOK.out _ (List.getElem_mem hkn)
          obtain ⟨p, hp⟩ : ∃ p, p = ps[k] := ⟨_, rfl⟩
          rw [← hp] at hcell hy hokk
          have HP := Lib.hid hp
          obtain ⟨kd, lie, mm, bb⟩ := p
          obtain ⟨hkd, hok1, hok2⟩ := hokk
          simp only at hkd hok1 hok2
          rw [hpv2] at c0
          clear hS hp hpv hpv2
          obtain rfl : kd = 0 := by omega
          · obtain ⟨m0, rfl⟩ := one_of hok1
            obtain ⟨b0, rfl⟩ := one_of hok2
            have hm : ∀ W, (method 219 70 (.agg #[slOf lie, .int .u8 m0, .int .u8 b0]) "countinghouse/countinghouselaw01.writeBehind").run Try.prog W = .ok (89, .agg #[slOf lie, .int .u8 m0, .int .u8 b0]) W := fun _ => by kernel_rfl
            have HY := Lib.hid hy
            have x0 : wr.cell? ⟨gp, k, none⟩ = some (.iface 70 (.agg #[slOf lie, .int .u8 m0, .int .u8 b0])) := hcell
            clear hcell hy hok1 hok2
            go_wp2_with fail
            refine (pgbe_byte lie m0 b0 wr (HY.out.mono (fun _ => hkn) False.elim)).mono ?_
            rintro e w2 ⟨rfl, hi2, hg2⟩
            have S2 := Lib.hid (HS.out.step (s' := ps.length) (t' := k + 1) HD.out HGE.out k hkn (by rw [← HP.out]; exact hg2) (by rw [← HP.out]; exact hi2.mono (fun _ => trivial) (fun _ => trivial)) (fun i h1 h2 => by omega) (fun i h1 h2 => by omega))
            clear hi2 hg2
            go_wp2
            go_roundg (ps.length - (k + 1))
            case measure => omega
            case rel => exact ⟨k + 1, by omega, rfl, by go_num, S2.out⟩
        · obtain rfl : k = ps.length := by omega
          have S2 := Lib.hid hS
          rw [hpv] at c0
          clear hS hpv HS
          go_wp2_with fail
          go_loopg [5] ps.length (fun q x wr => ∃ k : Nat, k ≤ ps.length ∧ q = ps.length - k ∧ x = .int .i64 k ∧ St ps kb pv B w wr ps.length ps.length)
          case atStart => exact ⟨0, Nat.zero_le _, by omega, rfl, S2.out⟩
          case round =>
            obtain ⟨k, hk, rfl, rfl, hS⟩ := hrel
            have HS := Lib.hid hS
            have c0 := hS.bk.cell 0
            simp only [List.getElem?_toArray, List.getElem?_cons_zero] at c0
            obtain ⟨A1, c1, hpv⟩ := hS.ow.sl_
            by_cases hkn : k < ps.length
            · have hkn' : (k : Int) < ps.length := by omega
              have hk0 : (0 : Int) ≤ k := by omega
              obtain ⟨gp, cp, hpv2, hcp, hcell⟩ := hS.ow.cell1 k (by simpa using hkn)
              rw [List.getElem_map] at hcell
              have hy := hS.pgs k hkn
              have hokk := HOK.out _ (List.getElem_mem hkn)
              obtain ⟨p, hp⟩ : ∃ p, p = ps[k] := ⟨_, rfl⟩
              rw [← hp] at hcell hy hokk
              have HP := Lib.hid hp
              obtain ⟨kd, lie, mm, bb⟩ := p
              obtain ⟨hkd, hok1, hok2⟩ := hokk
              simp only at hkd hok1 hok2
              rw [hpv2] at c0
              clear hS hp hpv hpv2
              obtain rfl : kd = 0 := by omega
              · obtain ⟨m0, rfl⟩ := one_of hok1
                obtain ⟨b0, rfl⟩ := one_of hok2
                have hm : ∀ W, (method 219 70 (.agg #[slOf lie, .int .u8 m0, .int .u8 b0]) "countinghouse/countinghouselaw01.stands").run Try.prog W = .ok (87, .agg #[slOf lie, .int .u8 m0, .int .u8 b0]) W := fun _ => by kernel_rfl
                have HY := Lib.hid hy
                have x0 : wr.cell? ⟨gp, k, none⟩ = some (.iface 70 (.agg #[slOf lie, .int .u8 m0, .int .u8 b0])) := hcell
                clear hcell hy hok1 hok2
                go_wp2_with fail
                refine (pgst_byte lie m0 b0 wr (HY.out.mono (fun _ => hkn) (fun _ => hkn))).mono ?_
                rintro e w2 ⟨rfl, hb2⟩
                have S2 := Lib.hid (HS.out.step (s' := ps.length) (t' := ps.length) HD.out HGE.out k hkn (grown_below_ hb2 _) ((HS.out.pgs k hkn).grown (grown_below_ hb2 none) (fun g _ => by simp)) (fun i h1 h2 => by omega) (fun i h1 h2 => by omega))
                clear hb2
                go_wp2
                go_roundg (ps.length - (k + 1))
                case measure => omega
                case rel => exact ⟨k + 1, by omega, rfl, by go_num, S2.out⟩
            · obtain rfl : k = ps.length := by omega
              have S3 := Lib.hid hS
              rw [hpv] at c0
              clear hS hpv HS
              go_wp2
              go_ret
              exact ⟨rfl, S3.out.bel⟩
end Go.Proofs.Ytenobcfgapolhaa
