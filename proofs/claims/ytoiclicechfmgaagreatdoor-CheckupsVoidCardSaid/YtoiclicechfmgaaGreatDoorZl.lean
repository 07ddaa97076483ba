/- The library's sort at string: pdqsort: the row is permuted within the range, and sorted there. -/
import Derived.Test.YtoiclicechfmgaaGreatDoorZaz
import Derived.Test.YtoiclicechfmgaaGreatDoorZez
import Derived.Test.YtoiclicechfmgaaGreatDoorZi
import Derived.Test.YtoiclicechfmgaaGreatDoorZj
import Derived.Sort.LotD3
namespace Go.Proofs.YtoiclicechfmgaaGreatDoor
open Go.RowKit

/-- The range a' to b' of the row is still to be sorted; then a to b of it is what is wanted. -/
structure Pq (W w : World) (g : Nat) (d : Array ByteArray) (rest : List Value) (a b a' b' : Nat) (dk : Array ByteArray) : Prop where
  sz : dk.size = d.size
  bel : Go.Sort.Below ltB a' b' dk
  fin : ∀ R, Go.Sort.PermIn a' b' dk R → Go.Sort.SortedIn ltB a' b' R → Go.Sort.PermIn a b d R ∧ Go.Sort.SortedIn ltB a b R
  sd : Sd W w g dk rest
def PqX (W : World) (g : Nat) (d : Array ByteArray) (rest : List Value) (a b a' b' : Nat) (w : World) : Prop := ∃ dk, Pq W w g d rest a b a' b' dk
theorem Pq.perm {W w w1 : World} {g : Nat} {d : Array ByteArray} {rest : List Value} {a b a' b' : Nat} {dk d1 : Array ByteArray} (h : Pq W w g d rest a b a' b' dk) (hb : b' ≤ d.size) (hp : Go.Sort.PermIn a' b' dk d1) (hs : Sd W w1 g d1 rest) : Pq W w1 g d rest a b a' b' d1 :=
  ⟨hp.1.trans h.sz, h.bel.perm (by rw [h.sz]; exact hb) hp, fun R h1 h2 => h.fin R (Go.Sort.permIn_trans _ _ _ _ _ hp h1) h2, hs⟩
/-- The row, permuted within the range and sorted there. -/
def Srt (W : World) (g : Nat) (d : Array ByteArray) (rest : List Value) (a b : Nat) (e : Ending) (w' : World) : Prop :=
  ∃ d' : Array ByteArray, e = .returned (.tuple #[]) ∧ Go.Sort.PermIn a b d d' ∧ Go.Sort.SortedIn ltB a b d' ∧ Sd W w' g d' rest
theorem Pq.done {W w w1 : World} {g : Nat} {d : Array ByteArray} {rest : List Value} {a b a' b' : Nat} {dk d1 : Array ByteArray} (h : Pq W w g d rest a b a' b' dk) (hp : Go.Sort.PermIn a' b' dk d1) (ho : Go.Sort.SortedIn ltB a' b' d1) (hs : Sd W w1 g d1 rest) :
    Srt W g d rest a b (.returned (.tuple #[])) w1 := ⟨d1, rfl, (h.fin _ hp ho).1, (h.fin _ hp ho).2, hs⟩
def LimX (W : World) (g : Nat) (d : Array ByteArray) (rest : List Value) (a b a' b' : Nat) (c3 : Value) (w : World) : Prop :=
  ∃ l : Nat, c3 = .int .i64 l ∧ l ≤ 100 ∧ PqX W g d rest a b a' b' w
def PivX (W : World) (g : Nat) (d : Array ByteArray) (rest : List Value) (a b a' b' : Nat) (c11 c12 : Value) (w : World) : Prop :=
  ∃ p : Nat, ∃ t : Int, c11 = .int .i64 p ∧ c12 = .int .i64 t ∧ a' ≤ p ∧ p < b' ∧ PqX W g d rest a b a' b' w
def TstX (W : World) (g : Nat) (rest : List Value) (a' p : Nat) (dk : Array ByteArray) (c : Value) (w : World) : Prop :=
  ∃ t : Bool, c = .bool t ∧ (t = true → 0 < a' ∧ ltB dk[a' - 1]! dk[p]! = false) ∧ Sd W w g dk rest

set_option maxHeartbeats 8000000 in
set_option maxRecDepth 100000 in
theorem pdq_any (c : Nat) (rest : List Value) (W : World) (g : Nat) : ∀ (N a b lim : Nat) (d : Array ByteArray) (w : World), b - a ≤ N → Sd W w g d rest → a ≤ b → b ≤ d.size → d.size ≤ 1000000 → d.size ≤ c → lim ≤ 100 → Go.Sort.Below ltB a b d →
    Calls Tryz.prog 74 #[.slice (some ⟨g, 0, none⟩) d.size c, .int .i64 a, .int .i64 b, .int .i64 lim] w (Srt W g d rest a b) := by
  intro N
  induction N with
  | zero =>
    intro a b lim d w hN hS hab hb hs hc hl hB
    have H := Lib.hid hS
    have e1 : (b : Int) - a = 0 := by omega
    have hi := Go.Sort.insertionSort_holds swo_ltB d a b hab hb
    have HI := Lib.hid hi
    clear hS hi hB
    go_enter Tryz.func74, Tryz.ntmps74
    go_wp2_with fail
    refine wp_loop_rounds 1 ?_
    rw [rounds_succ]
    go_wp2_with fail
    refine (ins_any H.out hab hb hs hc).mono ?_
    rintro e w1 ⟨rfl, h1⟩
    have H1 := Lib.hid h1
    clear h1
    go_wp2_with fail
    refine bodyPost_ret (results_none rfl _ _ _) rfl ?_
    exact ⟨_, rfl, HI.out.1, HI.out.2, H1.out⟩
  | succ N ih =>
    intro a b lim d w hN hS hab hb hs hc hl hB
    have H := Lib.hid hS
    have BL := Lib.hid hB
    have IH := Lib.hid ih
    have HN := Lib.hid hN
    obtain ⟨n, hn⟩ : ∃ n, n = d.size := ⟨_, rfl⟩
    have DN := Lib.hid hn.symm
    rw [← hn] at hb hs hc ⊢
    clear hS hB ih hN hn
    go_enter Tryz.func74, Tryz.ntmps74
    go_wp2_with fail
    go_loopg [1, 2, 3, 8, 9] (b - a) (fun q s1 s2 s3 s8 s9 wr => ∃ (a' b' l : Nat) (wb wp : Bool) (dk : Array ByteArray), q = b' - a' ∧ s1 = .int .i64 a' ∧ s2 = .int .i64 b' ∧ s3 = .int .i64 l ∧ s8 = .bool wb ∧ s9 = .bool wp ∧
      l ≤ 100 ∧ a' ≤ b' ∧ b' ≤ n ∧ b' - a' ≤ N + 1 ∧ Pq W wr g d rest a b a' b' dk)
    case atStart => exact ⟨a, b, lim, true, true, d, rfl, rfl, rfl, rfl, rfl, rfl, hl, hab, hb, HN.out, rfl, BL.out, fun R h1 h2 => ⟨h1, h2⟩, H.out⟩
    case round =>
      clear hl
      obtain ⟨a', b', l, wb, wp, dk, hq, rfl, rfl, rfl, rfl, rfl, hl, hab', hb', hN', hP⟩ := hrel
      have Q := Lib.hid hq
      have P := Lib.hid hP
      have DK := Lib.hid (show dk.size = n from by rw [hP.sz]; exact DN.out)
      have NN := Lib.hid hN'
      obtain ⟨L, hL⟩ : ∃ L, L = b' - a' := ⟨_, rfl⟩
      have e1 : (b' : Int) - a' = L := by omega
      have LL := Lib.hid (show a' + L = b' by omega)
      clear hq hP hL hN'
      by_cases h12 : L ≤ 12
      · have h12' : (L : Int) ≤ 12 := by omega
        have HI := Lib.hid (Go.Sort.insertionSort_holds swo_ltB dk a' b' hab' (by have := DK.out; omega))
        have IC := Lib.hid (fun u (hu : Sd W u g dk rest) => ins_any (c := c) hu hab' (by have := DK.out; omega) (by have := DK.out; omega) (by have := DK.out; omega))
        rw [DK.out] at IC
        go_wp2_with fail
        refine (IC.out _ P.out.sd).mono ?_
        rintro e w1 ⟨rfl, h1⟩
        have H1 := Lib.hid h1
        clear h1
        go_wp2_with fail
        refine bodyPost_ret (results_none rfl _ _ _) rfl ?_
        exact P.out.done HI.out.1 HI.out.2 H1.out
      · have h12' : ¬ (L : Int) ≤ 12 := by omega
        have hlt : a' + 12 < b' := by have := LL.out; omega
        have hlt1 : a' < b' := by omega
        have hlt8 : a' + 8 ≤ b' := by omega
        by_cases hl0 : l = 0
        · have hl0' : (l : Int) = 0 := by omega
          have HI := Lib.hid (Go.Sort.heapSort_holds swo_ltB dk a' b' hab' (by have := DK.out; omega))
          have IC := Lib.hid (fun u (hu : Sd W u g dk rest) => heap_any (c := c) hu hlt1 (by have := DK.out; omega) (by have := DK.out; omega) (by have := DK.out; omega))
          rw [DK.out] at IC
          clear hl0
          go_wp2_with fail
          refine (IC.out _ P.out.sd).mono ?_
          rintro e w1 ⟨rfl, h1⟩
          have H1 := Lib.hid h1
          clear h1
          go_wp2_with fail
          refine bodyPost_ret (results_none rfl _ _ _) rfl ?_
          exact P.out.done HI.out.1 HI.out.2 H1.out
        · have hl0' : ¬ (l : Int) = 0 := by omega
          have hl0b : ((l : Int) == 0) = false := beq_eq_false_iff_ne.2 hl0'
          go_upto_if 35 with fail
          go_cut [3] (fun s3 wx => LimX W g d rest a b a' b' s3 wx)
          case first =>
            rcases Bool.eq_false_or_eq_true wb with hwb | hwb <;> subst hwb
            · go_wp2
              go_meet
              exact ⟨l, rfl, hl, dk, P.out⟩
            · have IC := Lib.hid (fun u (hu : Sd W u g dk rest) => brk_any (c := c) hu hlt8 (by have := DK.out; omega) (by have := DK.out; omega))
              rw [DK.out] at IC
              obtain ⟨l1, hl1⟩ : ∃ l1, l1 = l - 1 := ⟨_, rfl⟩
              have e2 : (l : Int) - 1 = l1 := by omega
              have hl2 : l1 ≤ 100 := by omega
              clear hl1
              go_wp2_with fail
              refine (IC.out _ P.out.sd).mono ?_
              rintro e w1 ⟨d1, rfl, hp1, h1⟩
              have P1 := Lib.hid (P.out.perm (by have := DN.out; omega) hp1 h1)
              clear hp1 h1
              go_wp2
              go_meet
              exact ⟨l1, rfl, hl2, d1, P1.out⟩
          case rest =>
            clear hl hl0 hl0' hl0b P DK
            obtain ⟨l, rfl, hl, dk, hP⟩ := hcut
            have P := Lib.hid hP
            have DK := Lib.hid (show dk.size = n from by rw [hP.sz]; exact DN.out)
            have IC := Lib.hid (fun u (hu : Sd W u g dk rest) => piv_any (c := c) hu hlt1 (by have := DK.out; omega) (by have := DK.out; omega))
            rw [DK.out] at IC
            clear hP
            go_wp2_with fail
            refine (IC.out _ P.out.sd).mono ?_
            rintro e w1 ⟨p, t, rfl, hp1, hp2, h1⟩
            have P1 := Lib.hid (P.out.perm (by have := DN.out; omega) (Go.Sort.permIn_refl _ _ _) h1)
            clear h1 P IC
            go_upto_if 50 with fail
            go_cut [11, 12] (fun s11 s12 wx => PivX W g d rest a b a' b' s11 s12 wx)
            case first =>
              by_cases ht : t = 2
              · subst ht
                have IC := Lib.hid (fun u (hu : Sd W u g dk rest) => rev_any (c := c) hu hlt1 (by have := DK.out; omega) (by have := DK.out; omega) (by have := DK.out; omega))
                rw [DK.out] at IC
                obtain ⟨b1, hb1⟩ : ∃ b1, b1 = b' - 1 := ⟨_, rfl⟩
                obtain ⟨p1, hp3⟩ : ∃ p1, p1 = p - a' := ⟨_, rfl⟩
                obtain ⟨p2, hp4⟩ : ∃ p2, p2 = b1 - p1 := ⟨_, rfl⟩
                have e2 : (b' : Int) - 1 = b1 := by omega
                have e3 : (p : Int) - a' = p1 := by omega
                have e4 : (b1 : Int) - p1 = p2 := by omega
                have q1 : a' ≤ p2 := by omega
                have q2 : p2 < b' := by omega
                clear hb1 hp3 hp4
                go_wp2_with fail
                refine (IC.out _ P1.out.sd).mono ?_
                rintro e w2 ⟨rfl, h2⟩
                have P2 := Lib.hid (P1.out.perm (by have := DN.out; omega) (Go.Sort.reverseRange_holds dk a' b' hab' (by have := DK.out; omega)) h2)
                clear h2
                go_wp2
                go_meet
                exact ⟨p2, _, rfl, rfl, q1, q2, _, P2.out⟩
              · have htb : (t == 2) = false := beq_eq_false_iff_ne.2 ht
                go_wp2
                go_meet
                exact ⟨p, t, rfl, rfl, hp1, hp2, _, P1.out⟩
            case rest =>
              clear hp1 hp2 P1 DK
              obtain ⟨p, t, rfl, rfl, hp1, hp2, dk, hP⟩ := hcut
              have P := Lib.hid hP
              have DK := Lib.hid (show dk.size = n from by rw [hP.sz]; exact DN.out)
              clear hP
              go_upto_region 15 with fail
              go_cut [68] (fun s68 wx => ∃ t' : Bool, s68 = .bool t' ∧ PqX W g d rest a b a' b' wx)
              case first =>
                rcases Bool.eq_false_or_eq_true wb with hwb | hwb <;> subst hwb
                · rcases Bool.eq_false_or_eq_true wp with hwp | hwp <;> subst hwp
                  · by_cases ht : t = 1
                    · subst ht
                      go_wp2
                      go_meet
                      exact ⟨true, rfl, dk, P.out⟩
                    · have htb : (t == 1) = false := beq_eq_false_iff_ne.2 ht
                      go_wp2
                      go_meet
                      exact ⟨false, rfl, dk, P.out⟩
                  · go_wp2
                    go_meet
                    exact ⟨false, rfl, dk, P.out⟩
                · go_wp2
                  go_meet
                  exact ⟨false, rfl, dk, P.out⟩
              case rest =>
                clear P DK
                obtain ⟨t', rfl, dk, hP⟩ := hcut
                have P := Lib.hid hP
                have DK := Lib.hid (show dk.size = n from by rw [hP.sz]; exact DN.out)
                clear hP
                go_upto_if 68 with fail
                go_cut [72] (fun s72 wx => PqX W g d rest a b a' b' wx)
                case first =>
                  rcases Bool.eq_false_or_eq_true t' with ht' | ht' <;> subst ht'
                  · obtain ⟨dR, r, hR⟩ : ∃ dR r, Go.Sort.partialInsertionSort ltB dk a' b' = (dR, r) := ⟨_, _, rfl⟩
                    have HI := Lib.hid (show Go.Sort.PermIn a' b' dk dR ∧ (r = true → Go.Sort.SortedIn ltB a' b' dR) from by
                      have := Go.Sort.partialInsertionSort_holds swo_ltB dk a' b' hlt1 (by have := DK.out; omega) P.out.bel
                      rw [hR] at this
                      exact this)
                    have IC := Lib.hid (fun u (hu : Sd W u g dk rest) => pis_any (c := c) hu hR hlt1 (by have := DK.out; omega) (by have := DK.out; omega) (by have := DK.out; omega))
                    rw [DK.out] at IC
                    clear hR
                    go_wp2_with fail
                    refine (IC.out _ P.out.sd).mono ?_
                    rintro e w2 ⟨rfl, h2⟩
                    have H2 := Lib.hid h2
                    clear h2
                    rcases Bool.eq_false_or_eq_true r with hr | hr <;> subst hr
                    · go_wp2_with fail
                      refine bodyPost_ret (results_none rfl _ _ _) rfl ?_
                      exact P.out.done HI.out.1 (HI.out.2 trivial) H2.out
                    · go_wp2
                      go_meet
                      exact ⟨_, P.out.perm (by have := DN.out; omega) HI.out.1 H2.out⟩
                  · go_wp2
                    go_meet
                    exact ⟨_, P.out⟩
                case rest =>
                  clear P DK
                  obtain ⟨dk, hP⟩ := hcut
                  have P := Lib.hid hP
                  have DK := Lib.hid (show dk.size = n from by rw [hP.sz]; exact DN.out)
                  clear hP
                  go_upto_region 17 with fail
                  go_cut [87] (fun s87 wx => TstX W g rest a' p dk s87 wx)
                  case first =>
                    by_cases ha0 : 0 < a'
                    · have ha0' : (0 : Int) < a' := by omega
                      obtain ⟨a1, ha1⟩ : ∃ a1, a1 = a' - 1 := ⟨_, rfl⟩
                      have e2 : (a' : Int) - 1 = a1 := by omega
                      obtain ⟨x, hx⟩ : ∃ x, x = dk[a1]! := ⟨_, rfl⟩
                      obtain ⟨y, hy⟩ : ∃ y, y = dk[p]! := ⟨_, rfl⟩
                      have c0 : wc.cell? ⟨g, a1, none⟩ = some (.string x) := by rw [hx]; exact P.out.sd.cell a1 (by have := DK.out; omega)
                      have c1 : wc.cell? ⟨g, p, none⟩ = some (.string y) := by rw [hy]; exact P.out.sd.cell p (by have := DK.out; omega)
                      have b0 : (0 : Int) ≤ a1 := by omega
                      have b1 : (a1 : Int) < n := by omega
                      have b2 : (0 : Int) ≤ p := by omega
                      have b3 : (p : Int) < n := by omega
                      have b4 : IntKind.i64.wrap (a1 : Int) = (a1 : Int) := IntWalk.i64_in _ (by omega)
                      have HX := Lib.hid hx
                      have HY := Lib.hid hy
                      have HA := Lib.hid ha1
                      clear hx hy ha1
                      by_cases hxy : ltB x y = true
                      · go_quiet ((go_at_call 104; exact Calls.quiet_of_same (less_yes _ hxy)))
                        go_wp2
                        go_meet
                        exact ⟨false, rfl, fun h => (Bool.false_ne_true h).elim, P.out.sd.drewN nq⟩
                      · go_quiet ((go_at_call 104; exact Calls.quiet_of_same (less_no _ (by simpa using hxy))))
                        go_wp2
                        go_meet
                        exact ⟨true, rfl, fun _ => ⟨ha0, by rw [← HA.out, ← HX.out, ← HY.out, (show ltB x y = false by simpa using hxy)]⟩, P.out.sd.drewN nq⟩
                    · have ha0' : ¬ (0 : Int) < a' := by omega
                      have hd1 : decide ((0 : Int) < a') = false := decide_eq_false ha0'
                      have hd2 : decide (0 < a') = false := decide_eq_false ha0
                      go_quiet (fail)
                      go_wp2
                      go_meet
                      exact ⟨false, rfl, fun h => (Bool.false_ne_true h).elim, P.out.sd.drewN nq⟩
                  case rest =>
                    obtain ⟨t2, rfl, ht2, hS2⟩ := hcut
                    have S2 := Lib.hid hS2
                    have T2 := Lib.hid ht2
                    clear hS2 ht2
                    rcases Bool.eq_false_or_eq_true t2 with ht' | ht' <;> subst ht'
                    · obtain ⟨mid, dR, hR⟩ : ∃ mid dR, Go.Sort.partitionEqual ltB dk a' b' p = (mid, dR) := ⟨_, _, rfl⟩
                      have F := Go.Sort.round_eq swo_ltB (Go.Sort.partitionEqual_holds _) (T2.out rfl).1 hp1 hp2 (by have := DK.out; omega) P.out.bel (T2.out rfl).2 hR
                      have IC := Lib.hid (fun u (hu : Sd W u g dk rest) => peq_any (c := c) hu hR hp1 hp2 (by have := DK.out; omega) (by have := DK.out; omega) (by have := DK.out; omega))
                      rw [DK.out] at IC
                      have f1 := F.1
                      have f2 := F.2.1
                      have FF := Lib.hid F
                      clear hR F
                      go_wp2_with fail
                      refine (IC.out _ S2.out).mono ?_
                      rintro e w2 ⟨rfl, h2⟩
                      have H2 := Lib.hid h2
                      clear h2
                      go_wp2
                      go_roundg (b' - mid)
                      case measure => have := Q.out; omega
                      case rel =>
                        exact ⟨mid, b', l, wb, wp, dR, rfl, rfl, rfl, rfl, rfl, rfl, hl, f2, hb', by have := NN.out; omega, FF.out.2.2.1.trans P.out.sz, FF.out.2.2.2.1, fun R h1 h3 => P.out.fin R (FF.out.2.2.2.2 R h1 h3).1 (FF.out.2.2.2.2 R h1 h3).2, H2.out⟩
                    · obtain ⟨mid, al, dR, hR⟩ : ∃ mid al dR, Go.Sort.partition ltB dk a' b' p = (mid, al, dR) := ⟨_, _, _, rfl⟩
                      have F := Go.Sort.round_part swo_ltB (Go.Sort.partition_holds _) hp1 hp2 (by have := DK.out; omega) P.out.bel hR
                      have IC := Lib.hid (fun u (hu : Sd W u g dk rest) => part_any (c := c) hu hR hp1 hp2 (by have := DK.out; omega) (by have := DK.out; omega) (by have := DK.out; omega))
                      rw [DK.out] at IC
                      have f1 := F.1
                      have f2 := F.2.1
                      have FF := Lib.hid F
                      have DR := Lib.hid (show dR.size = n from by rw [F.2.2.1]; exact DK.out)
                      obtain ⟨l1, hl1⟩ : ∃ l1, l1 = mid - a' := ⟨_, rfl⟩
                      obtain ⟨l2, hl2⟩ : ∃ l2, l2 = b' - mid := ⟨_, rfl⟩
                      obtain ⟨th, hth⟩ : ∃ th, th = L / 8 := ⟨_, rfl⟩
                      obtain ⟨m1, hm1⟩ : ∃ m1, m1 = mid + 1 := ⟨_, rfl⟩
                      have e2 : (mid : Int) - a' = l1 := by omega
                      have e3 : (b' : Int) - mid = l2 := by omega
                      have e4 : (L : Int) / 8 = th := by omega
                      have e5 : (mid : Int) + 1 = m1 := by omega
                      have M1 := Lib.hid hm1
                      have hm2 : m1 ≤ b' := by omega
                      have IL := Lib.hid (fun u (hu : Sd W u g dR rest) => IH.out a' mid l dR u (by have := NN.out; omega) hu f1 (by have := DR.out; omega) (by have := DR.out; omega) (by have := DR.out; omega) hl F.2.2.2.1)
                      have IR := Lib.hid (fun u (hu : Sd W u g dR rest) => IH.out m1 b' l dR u (by have := NN.out; omega) hu hm2 (by have := DR.out; omega) (by have := DR.out; omega) (by have := DR.out; omega) hl (by rw [hm1]; exact F.2.2.2.2.1))
                      rw [DR.out] at IL IR
                      clear hR F hl1 hl2 hth hm1
                      go_wp2_with fail
                      refine (IC.out _ S2.out).mono ?_
                      rintro e w2 ⟨rfl, h2⟩
                      have H2 := Lib.hid h2
                      clear h2
                      by_cases hll : l1 < l2
                      · have hll' : (l1 : Int) < l2 := by omega
                        go_wp2_with fail
                        refine (IL.out _ H2.out).mono ?_
                        rintro e w3 ⟨d', rfl, hp3, ho3, h3⟩
                        have H3 := Lib.hid h3
                        have G := Lib.hid (FF.out.2.2.2.2.2.1 d' hp3 ho3)
                        have PP := Lib.hid hp3
                        clear hp3 ho3 h3
                        go_wp2
                        go_roundg (b' - m1)
                        case measure => have := Q.out; have := M1.out; omega
                        case rel =>
                          exact ⟨m1, b', l, _, al, d', rfl, rfl, rfl, rfl, rfl, rfl, hl, hm2, hb', by have := NN.out; have := M1.out; omega, PP.out.1.trans (FF.out.2.2.1.trans P.out.sz), by rw [M1.out]; exact G.out.1,
                            fun R h1 h3 => P.out.fin R (G.out.2 R (by rw [← M1.out]; exact h1) (by rw [← M1.out]; exact h3)).1 (G.out.2 R (by rw [← M1.out]; exact h1) (by rw [← M1.out]; exact h3)).2, H3.out⟩
                      · have hll' : ¬ (l1 : Int) < l2 := by omega
                        go_wp2_with fail
                        refine (IR.out _ H2.out).mono ?_
                        rintro e w3 ⟨d', rfl, hp3, ho3, h3⟩
                        have H3 := Lib.hid h3
                        have G := Lib.hid (FF.out.2.2.2.2.2.2 d' (by rw [← M1.out]; exact hp3) (by rw [← M1.out]; exact ho3))
                        have PP := Lib.hid hp3
                        clear hp3 ho3 h3
                        go_wp2
                        go_roundg (mid - a')
                        case measure => have := Q.out; omega
                        case rel =>
                          exact ⟨a', mid, l, _, al, d', rfl, rfl, rfl, rfl, rfl, rfl, hl, f1, by omega, by have := NN.out; omega, PP.out.1.trans (FF.out.2.2.1.trans P.out.sz), G.out.1,
                            fun R h1 h3 => P.out.fin R (G.out.2 R h1 h3).1 (G.out.2 R h1 h3).2, H3.out⟩
end Go.Proofs.YtoiclicechfmgaaGreatDoor
